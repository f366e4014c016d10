/- Walks and plain facts. Texts merged: Bld, Bld2, BldT, RgO, VerN, VerO, VerC, VerP, VerQ, VerT, SpnM, SortM, SpsM, Row, RefV, RefW, CmpI, CmpS, RefX, RefC, RefM, RefLs, VerR, ItOwn, Split, ResTwo. Condition: none beyond what each says. -/
import Derived.Test.YthgibhhbmmkjmaaGreatDoorRows
import Derived.Lib.Builder
import Derived.Lib.AppendStr
import Derived.Lib.UnsafeStr
import Derived.Laws.Externs
import Derived.Deep.RegionHeld
import Derived.Lib.AtoiAll
import Derived.Lib.AtoiAllCases
import Derived.Lib.ItoaNum
import Derived.Lib.SplitLaws
import Derived.Lib.IndexBytes
import Derived.Lib.Split
import Derived.Sort.Walk0
import Derived.Laws.Rows
import Derived.Laws.ResultCell
import Derived.RangeFuncNested
import Derived.RangeFuncBox
import Derived.RangeFuncCalls
import Derived.RangeFuncLeaves
import Derived.Shelf.Abstract
import Derived.OwnWalkIn
import Derived.TacticsInMore
import Derived.LoopNIn
import Derived.LoopIn
import Derived.Test.YthgibhhbmmkjmaaGreatDoorPrintApartAll2
set_option linter.unusedVariables false
set_option linter.unusedSimpArgs false
set_option maxRecDepth 10000
set_option maxHeartbeats 4000000
namespace Go.Proofs.YthgibhhbmmkjmaaGreatDoor
section
open Go.RowKit
def Bld (B b:Nat) (bs:List UInt8) (w:World):Prop:=Lib.IsBuilder 59 5 B b (Lib.byteCells bs) w
theorem bld_size:(Tryz.prog.info? 59).map (·.size)=some 2:=by kernel_rfl
theorem bld_lies:liesAt Tryz.prog Tryz.prog.depth 59 (2 / Tryz.prog.cellsOf 59) 0 59 1=true:=by kernel_rfl
theorem bld_byte:(Tryz.prog.info? 5).map (fun i=>(i.zero,i.size,i.bytes))=some (some (.int .u8 0),1,1):=by kernel_rfl
theorem bld_cells:Tryz.prog.cellsOf 5=1:=by kernel_rfl
theorem bld_new (w:World):Bld w.heap.size w.heap.size [] (w.alloc (.cells #[.pointer none,.slice none 0 0] 59)):=Lib.fresh_isBuilder _ _ w
def Keep (w w':World):Prop:=∀ (k:Nat) (cs:Array Value) (t:TypeId) (fr:Nat × Nat),w.heap[k]? = some (.cells cs t fr)→t≠59→t≠5→w'.heap[k]? = some (.cells cs t fr)
theorem keep_refl (w:World):Keep w w:=fun _ _ _ _ h _ _=>h
theorem Keep.trans {a b c:World} (h:Keep a b) (k:Keep b c):Keep a c:=fun i cs t fr h1 h2 h3=>k i cs t fr (h i cs t fr h1 h2 h3) h2 h3
theorem keep_below {w w':World} (h:Below w.heap.size w w'):Keep w w':=fun k _ _ _ h1 _ _=>(h.block k (Array.getElem?_eq_some_iff.1 h1).1).trans h1
theorem keep_set {w:World} {b:Nat} {cs:Array Value} {fr:Nat × Nat} (hb:w.heap[b]? = some (.cells cs 59 fr)) (i:Nat) (u:Value):Keep w (w.setCell ⟨b,i,none⟩ u):=by
 intro k cs' t fr' h h1 _
 have hne:k≠b:=by
  intro e
  subst e
  rw[hb] at h
  simp at h
  exact h1 h.2.1.symm
 rw[Below.heap_setCell _ _ _ _ hne]
 exact h
theorem keep_grown {w w':World} {B:Nat} {v:Value} {n:Nat} {xs:List Value} (hg:w.grownBy w' v.ownBlock) (hown:w.ownsRow B 5 1 v n xs):Keep w w':=by
 intro k cs t fr h _ h2
 refine (hg.block k (Array.getElem?_eq_some_iff.1 h).1 (fun e=>?_)).trans h
 rcases hown.2 with⟨hv,_⟩ | ⟨g,cap,cur,hv,_,hgg,_⟩
 ·rw[hv] at e;simp[Value.ownBlock] at e
 rw[hv] at e
 simp[Value.ownBlock] at e
 subst e
 rw[hgg] at h
 simp at h
 exact h2 h.2.1.symm
theorem bld_check {B b:Nat} {bs:List Value} {w:World} (h:Lib.IsBuilder 59 5 B b bs w) :
  Calls Tryz.prog 69 #[.pointer (some ⟨b,0,none⟩)] w fun e w'=>e = .returned (.tuple #[])∧Lib.BuilderAt 59 5 B b (.pointer (some ⟨b,0,none⟩)) bs w'∧Below B w w'∧Keep w w':=by
 obtain⟨j,hj,hjs⟩:=Option.map_eq_some_iff.1 bld_size
 rcases h with h | h
 ·have h0:=h.cell0
  have hsh:=h.shape
  have hfz:=h.frozen0
  have H:=Lib.hid h;have HJ:=Lib.hid hj;have HS:=Lib.hid hjs;have HSH:=Lib.hid hsh
  clear h hj hjs hsh
  go_enter Tryz.func69,Tryz.ntmps69
  go_wp2_with fail
  rw[Lib.run_to_unsafe w ⟨b,0,none⟩ Tryz.underlying56 Tryz.underlying166 HJ.out (by rw[HS.out];decide) HSH.out (Nat.zero_lt_succ 1)]
  simp only[Result.andThen]
  rw[Oper.upon_value]
  go_wp2_with fail
  rw[run_callFunc_extern Tryz.func101 (by kernel_rfl) (by kernel_rfl) (by kernel_rfl) (e:=Extern.AbiNoEscape.same) (by kernel_rfl)]
  rw[Lib.run_noEscape]
  simp only[Result.andThen]
  rw[Oper.upon_value]
  go_wp2_with fail
  rw[Lib.run_from_unsafe w ⟨b,0,none⟩ Tryz.underlying166 Tryz.underlying56 HJ.out HSH.out bld_lies]
  simp only[Result.andThen]
  rw[Oper.upon_value]
  go_wp2_with fail
  go_end0
  exact⟨rfl,H.out.used _,(Below.refl B w).setCell (p:=⟨b,0,none⟩) H.out.1 _,by obtain⟨_,v,hbk,_⟩:=H.out;exact keep_set hbk 0 _⟩
 have h0:=h.cell0
 have H:=Lib.hid h;have HJ:=Lib.hid hj
 clear h hj hjs
 go_enter Tryz.func69,Tryz.ntmps69
 go_wp2_with fail
 rw[Lib.run_neq_ptr_same w _ Tryz.underlying56 HJ.out]
 go_wp2_with fail
 go_end0
 exact⟨rfl,H.out,Below.refl B _,keep_refl _⟩
theorem bld_string {B b:Nat} {bs:List UInt8} {w:World} (h:Bld B b bs w) (s:ByteArray) (hlen:bs.length+s.size≤1000000000) (hBw:B≤w.heap.size) :
  Calls Tryz.prog 37 #[.pointer (some ⟨b,0,none⟩),.string s] w fun e w'=>e = .returned (.tuple #[.int .i64 s.size,.nilIface])∧Bld B b (bs ++ s.data.toList) w'∧Below B w w'∧Keep w w':=by
 obtain⟨i0,hi,hz0,hz1,hz2⟩:=info_parts bld_byte
 have hl:(Lib.byteCells bs).length=bs.length:=Lib.byteCells_length bs
 have HC:=Lib.hid (fun w=>bld_check (w:=w) (B:=B) (b:=b) (bs:=Lib.byteCells bs))
 have hcat:Lib.byteCells bs ++ Lib.strCells s=Lib.byteCells (bs ++ s.data.toList):=by simp[Lib.byteCells,Lib.strCells]
 obtain⟨L,hL⟩ : ∃ L,L=Lib.byteCells bs:=⟨_,rfl⟩
 unfold Bld at h
 rw[← hL] at h hl HC hcat
 have hLl:L.length+s.size≤1000000000:=by omega
 obtain⟨Hi,Hz0,Hz1,Hz2,Hh,HL,Hl,Hcat⟩:=hd8 hi hz0 hz1 hz2 h hL hl hcat;clear hi hz0 hz1 hz2 h hL hl hcat
 go_enter Tryz.func37,Tryz.ntmps37
 go_wp2_with fail
 refine (HC.out _ Hh.out).mono ?_
 rintro e w1 ⟨rfl,⟨hB,v,hbk,hown,hne⟩,hb1,hkp⟩
 have c0:w1.cell? ⟨b,0,none⟩=some (.pointer (some ⟨b,0,none⟩)):=by rw[Lib.cell_of_heap hbk];rfl
 have c1:w1.cell? ⟨b,1,none⟩=some v:=by rw[Lib.cell_of_heap hbk];rfl
 have hB1:B≤w1.heap.size:=by have:=hb1.size;omega
 obtain⟨Hbk,Hown,Hne,Hb1,Hkp⟩:=hd5 hbk hown hne hb1 hkp;clear hbk hown hne hb1 hkp
 go_wp2_with (at_builtin;refine Lib.wpList_append_own_string _ rfl _ _ 57 9 rfl B 5 i0 Tryz.underlying57 Tryz.underlying9 Hi.out Hz0.out Hz1.out Hz2.out _ _ _ rfl Hown.out s rfl ?c3 ?c4 ?c5 ?_)
 case c3=>unfold maxLen;omega
 case c4=>omega
 case c5=>omega
 intro v' w2 hown' hgrow _
 have hlt:b < w1.heap.size:=(Array.getElem?_eq_some_iff.1 Hbk.out).1
 have hb2:w2.heap[b]? = some (.cells #[.pointer (some ⟨b,0,none⟩),v] 59 (0,0)):=by
  rw[hgrow.block b hlt (fun e=>Hne.out e.symm)]
  exact Hbk.out
 have d1:w2.cell? ⟨b,1,none⟩=some v:=by rw[Lib.cell_of_heap hb2];rfl
 have f1:w2.frozen? ⟨b,1,none⟩=false:=Lib.frozen_of_heap hb2 1
 obtain⟨ao,n',cap,rfl⟩ : ∃ ao n' cap,v' = .slice ao n' cap:=by
  rcases hown'.2 with⟨hv,_⟩ | ⟨g,cap,cur,hv,_⟩
  ·exact⟨_,_,_,hv⟩
  exact⟨_,_,_,hv⟩
 obtain⟨Hb2,Hown',Hgrow⟩:=hd3 hb2 hown' hgrow;clear hb2 hown' hgrow
 go_wp2_with fail
 go_ret2
 refine⟨rfl,?_,?_,?_⟩
 ·unfold Bld
  rw[← Hcat.out]
  exact .inr (Lib.BuilderAt.put (T:=59) (e:=5) hB Hb2.out (bs':=L ++ Lib.strCells s) (by simpa [Lib.strCells_length] using Hown'.out) (by decide))
 ·exact (Hb1.out.grown Hgrow.out hB1 (fun k hk=>(Hown.out.lt k hk).1)).setCell (p:=⟨b,1,none⟩) hB _
 exact (Hkp.out.trans (keep_grown Hgrow.out Hown.out)).trans (keep_set Hb2.out 1 _)
theorem bld_done {B b:Nat} {l:List UInt8} {w:World} (h:Bld B b l w) (h0:l≠[]) :
  Calls Tryz.prog 18 #[.pointer (some ⟨b,0,none⟩)] w fun e w'=>e = .returned (.string ⟨l.toArray⟩)∧Below B w w':=by
 obtain⟨p,hB,v,hbk,hown,hne⟩ : ∃ p,Lib.BuilderAt 59 5 B b p (Lib.byteCells l) w:=by
  rcases h with h | h
  ·exact⟨_,h⟩
  exact⟨_,h⟩
 have hl0:l.length≠0:=by simpa using h0
 rw[Lib.byteCells_length] at hown
 obtain⟨g,cap,cur,rfl,hbg,hg,hnc,hcm,hcs,htake⟩ : ∃ g cap cur,v = .slice (some ⟨g,0,none⟩) l.length cap∧B≤g∧w.heap[g]? = some (.cells cur 5 (0,0))∧l.length≤cap∧cap≤maxLen∧cur.size=cap * 1∧cur.toList.take (l.length * 1)=Lib.byteCells l:=by
  rcases hown.2 with⟨_,hz⟩ | ⟨g,cap,cur,hv,r⟩
  ·exact absurd hz hl0
  exact⟨g,cap,cur,hv,r⟩
 have c1:w.drew.cell? ⟨b,1,none⟩=some (.slice (some ⟨g,0,none⟩) l.length cap):=by
  have:w.drew.heap[b]? = some (.cells #[p,.slice (some ⟨g,0,none⟩) l.length cap] 59 (0,0)):=hbk
  rw[Lib.cell_of_heap this];rfl
 have hSD:(Builtin.unsafeSliceData_ #[57] 108 #[.slice (some ⟨g,0,none⟩) l.length cap]).run Tryz.prog w.drew = .ok (.pointer (some ⟨g,0,none⟩)) w.drew :=
  Lib.run_unsafeSliceData_row _ _ _ _ _ _ (by omega)
 have hUS:(Builtin.unsafeString_ #[108,3] 9 #[.pointer (some ⟨g,0,none⟩),.int .i64 l.length]).run Tryz.prog w.drew = .ok (.string ⟨l.toArray⟩) (w.drew.freeze ⟨g,0,none⟩ l.length):=by
  refine Lib.run_unsafeString_row w.drew 108 3 9 5 Tryz.underlying108 bld_cells g cur.size (by have hg':w.drew.heap[g]? = some (.cells cur 5 (0,0)):=hg;simp[World.shape?,hg']) l h0 (by omega) (by unfold maxLen at hcm;omega) ?_
  intro j x hx
  have:=hown.cells (g:=g) rfl j (.int .u8 x.toNat) (by simp[Lib.byteCells,hx])
  exact this
 have hlm:l.length≤9223372036854775807:=by unfold maxLen at hcm;omega
 obtain⟨Hbk,Hown,Hne,Hg,Hcs,Htake,Hh⟩:=hd7 hbk hown hne hg hcs htake h;clear hbk hown hne hg hcs htake h
 go_enter Tryz.func18,Tryz.ntmps18
 go_wp2_with fail
 go_region
 all_goals
  go_wp2_with fail
  go_ret
  exact⟨rfl,Lib.below_freeze (Below.drew (Below.refl B w)) (p:=⟨g,0,none⟩) hbg _⟩
theorem bld_at_below {T e:TypeId} {B b:Nat} {p:Value} {bs:List Value} {w w':World} (h:Lib.BuilderAt T e B b p bs w) (hb:Below w.heap.size w w'):Lib.BuilderAt T e B b p bs w':=by
 obtain⟨hB,v,hbk,hown,hne⟩:=h
 exact⟨hB,v,(hb.block b (Array.getElem?_eq_some_iff.1 hbk).1).trans hbk,zab hown hb,hne⟩
theorem bld_below {B b:Nat} {bs:List UInt8} {w w':World} (h:Bld B b bs w) (hb:Below w.heap.size w w'):Bld B b bs w':=by
 rcases h with h | h
 ·exact .inl (bld_at_below h hb)
 exact .inr (bld_at_below h hb)
theorem bld_empty (w:World) {b:Nat} (hbk:w.heap[b]? = some (.cells #[.pointer none,.slice none 0 0] 59 (0,0))) :
  Calls Tryz.prog 18 #[.pointer (some ⟨b,0,none⟩)] w fun e w'=>e = .returned (.string ⟨#[]⟩)∧Below w.heap.size w w':=by
 have c1:w.drew.cell? ⟨b,1,none⟩=some (.slice none 0 0):=by
  have:w.drew.heap[b]? = some (.cells #[.pointer none,.slice none 0 0] 59 (0,0)):=hbk
  rw[Lib.cell_of_heap this];rfl
 have hUS:(Builtin.unsafeString_ #[108,3] 9 #[.pointer none,.int .i64 0]).run Tryz.prog w.drew = .ok (.string .empty) w.drew:=Lib.run_unsafeString_none w.drew _ _ _ none
 have hSD:(Builtin.unsafeSliceData_ #[57] 108 #[.slice none 0 0]).run Tryz.prog w.drew = .ok (.pointer none) w.drew:=rfl
 have Hbk:=hd hbk;clear hbk
 go_enter Tryz.func18,Tryz.ntmps18
 go_wp2_with fail
 go_region
 all_goals
  go_wp2_with fail
  go_ret
  exact⟨rfl,Below.drew (Below.refl _ w)⟩
end

section
open Go.RowKit
end

section
namespace BT
open Go.RowKit
def Bld (B b:Nat) (bs:List UInt8) (w:World):Prop:=Lib.IsBuilder 61 5 B b (Lib.byteCells bs) w
theorem bld_size:(Tryz.prog.info? 59).map (·.size)=some 2:=by kernel_rfl
theorem bld_lies:liesAt Tryz.prog Tryz.prog.depth 61 (2 / Tryz.prog.cellsOf 61) 0 59 1=true:=by kernel_rfl
theorem bld_byte:(Tryz.prog.info? 5).map (fun i=>(i.zero,i.size,i.bytes))=some (some (.int .u8 0),1,1):=by kernel_rfl
theorem bld_cells:Tryz.prog.cellsOf 5=1:=by kernel_rfl
theorem bld_new (w:World):Bld w.heap.size w.heap.size [] (w.alloc (.cells #[.pointer none,.slice none 0 0] 61)):=Lib.fresh_isBuilder _ _ w
def Keep (w w':World):Prop:=∀ (k:Nat) (cs:Array Value) (t:TypeId) (fr:Nat × Nat),w.heap[k]? = some (.cells cs t fr)→t≠61→t≠5→w'.heap[k]? = some (.cells cs t fr)
theorem keep_refl (w:World):Keep w w:=fun _ _ _ _ h _ _=>h
theorem Keep.trans {a b c:World} (h:Keep a b) (k:Keep b c):Keep a c:=fun i cs t fr h1 h2 h3=>k i cs t fr (h i cs t fr h1 h2 h3) h2 h3
theorem keep_below {w w':World} (h:Below w.heap.size w w'):Keep w w':=fun k _ _ _ h1 _ _=>(h.block k (Array.getElem?_eq_some_iff.1 h1).1).trans h1
theorem keep_set {w:World} {b:Nat} {cs:Array Value} {fr:Nat × Nat} (hb:w.heap[b]? = some (.cells cs 61 fr)) (i:Nat) (u:Value):Keep w (w.setCell ⟨b,i,none⟩ u):=by
 intro k cs' t fr' h h1 _
 have hne:k≠b:=by
  intro e
  subst e
  rw[hb] at h
  simp at h
  exact h1 h.2.1.symm
 rw[Below.heap_setCell _ _ _ _ hne]
 exact h
theorem keep_grown {w w':World} {B:Nat} {v:Value} {n:Nat} {xs:List Value} (hg:w.grownBy w' v.ownBlock) (hown:w.ownsRow B 5 1 v n xs):Keep w w':=by
 intro k cs t fr h _ h2
 refine (hg.block k (Array.getElem?_eq_some_iff.1 h).1 (fun e=>?_)).trans h
 rcases hown.2 with⟨hv,_⟩ | ⟨g,cap,cur,hv,_,hgg,_⟩
 ·rw[hv] at e;simp[Value.ownBlock] at e
 rw[hv] at e
 simp[Value.ownBlock] at e
 subst e
 rw[hgg] at h
 simp at h
 exact h2 h.2.1.symm
theorem bld_check {B b:Nat} {bs:List Value} {w:World} (h:Lib.IsBuilder 61 5 B b bs w) :
  Calls Tryz.prog 69 #[.pointer (some ⟨b,0,none⟩)] w fun e w'=>e = .returned (.tuple #[])∧Lib.BuilderAt 61 5 B b (.pointer (some ⟨b,0,none⟩)) bs w'∧Below B w w'∧Keep w w':=by
 obtain⟨j,hj,hjs⟩:=Option.map_eq_some_iff.1 bld_size
 rcases h with h | h
 ·have h0:=h.cell0
  have hsh:=h.shape
  have hfz:=h.frozen0
  have H:=Lib.hid h;have HJ:=Lib.hid hj;have HS:=Lib.hid hjs;have HSH:=Lib.hid hsh
  clear h hj hjs hsh
  go_enter Tryz.func69,Tryz.ntmps69
  go_wp2_with fail
  rw[Lib.run_to_unsafe w ⟨b,0,none⟩ Tryz.underlying56 Tryz.underlying166 HJ.out (by rw[HS.out];decide) HSH.out (Nat.zero_lt_succ 1)]
  simp only[Result.andThen]
  rw[Oper.upon_value]
  go_wp2_with fail
  rw[run_callFunc_extern Tryz.func101 (by kernel_rfl) (by kernel_rfl) (by kernel_rfl) (e:=Extern.AbiNoEscape.same) (by kernel_rfl)]
  rw[Lib.run_noEscape]
  simp only[Result.andThen]
  rw[Oper.upon_value]
  go_wp2_with fail
  rw[Lib.run_from_unsafe w ⟨b,0,none⟩ Tryz.underlying166 Tryz.underlying56 HJ.out HSH.out bld_lies]
  simp only[Result.andThen]
  rw[Oper.upon_value]
  go_wp2_with fail
  go_end0
  exact⟨rfl,H.out.used _,(Below.refl B w).setCell (p:=⟨b,0,none⟩) H.out.1 _,by obtain⟨_,v,hbk,_⟩:=H.out;exact keep_set hbk 0 _⟩
 have h0:=h.cell0
 have H:=Lib.hid h;have HJ:=Lib.hid hj
 clear h hj hjs
 go_enter Tryz.func69,Tryz.ntmps69
 go_wp2_with fail
 rw[Lib.run_neq_ptr_same w _ Tryz.underlying56 HJ.out]
 go_wp2_with fail
 go_end0
 exact⟨rfl,H.out,Below.refl B _,keep_refl _⟩
theorem bld_string {B b:Nat} {bs:List UInt8} {w:World} (h:Bld B b bs w) (s:ByteArray) (hlen:bs.length+s.size≤70368744177664) (hBw:B≤w.heap.size) :
  Calls Tryz.prog 37 #[.pointer (some ⟨b,0,none⟩),.string s] w fun e w'=>e = .returned (.tuple #[.int .i64 s.size,.nilIface])∧Bld B b (bs ++ s.data.toList) w'∧Below B w w'∧Keep w w':=by
 obtain⟨i0,hi,hz0,hz1,hz2⟩:=info_parts bld_byte
 have hl:(Lib.byteCells bs).length=bs.length:=Lib.byteCells_length bs
 have HC:=Lib.hid (fun w=>bld_check (w:=w) (B:=B) (b:=b) (bs:=Lib.byteCells bs))
 have hcat:Lib.byteCells bs ++ Lib.strCells s=Lib.byteCells (bs ++ s.data.toList):=by simp[Lib.byteCells,Lib.strCells]
 obtain⟨L,hL⟩ : ∃ L,L=Lib.byteCells bs:=⟨_,rfl⟩
 unfold Bld at h
 rw[← hL] at h hl HC hcat
 have hLl:L.length+s.size≤70368744177664:=by omega
 obtain⟨Hi,Hz0,Hz1,Hz2,Hh,HL,Hl,Hcat⟩:=hd8 hi hz0 hz1 hz2 h hL hl hcat;clear hi hz0 hz1 hz2 h hL hl hcat
 go_enter Tryz.func37,Tryz.ntmps37
 go_wp2_with fail
 refine (HC.out _ Hh.out).mono ?_
 rintro e w1 ⟨rfl,⟨hB,v,hbk,hown,hne⟩,hb1,hkp⟩
 have c0:w1.cell? ⟨b,0,none⟩=some (.pointer (some ⟨b,0,none⟩)):=by rw[Lib.cell_of_heap hbk];rfl
 have c1:w1.cell? ⟨b,1,none⟩=some v:=by rw[Lib.cell_of_heap hbk];rfl
 have hB1:B≤w1.heap.size:=by have:=hb1.size;omega
 obtain⟨Hbk,Hown,Hne,Hb1,Hkp⟩:=hd5 hbk hown hne hb1 hkp;clear hbk hown hne hb1 hkp
 go_wp2_with (at_builtin;refine Lib.wpList_append_own_string _ rfl _ _ 57 9 rfl B 5 i0 Tryz.underlying57 Tryz.underlying9 Hi.out Hz0.out Hz1.out Hz2.out _ _ _ rfl Hown.out s rfl ?c3 ?c4 ?c5 ?_)
 case c3=>unfold maxLen;omega
 case c4=>omega
 case c5=>omega
 intro v' w2 hown' hgrow _
 have hlt:b < w1.heap.size:=(Array.getElem?_eq_some_iff.1 Hbk.out).1
 have hb2:w2.heap[b]? = some (.cells #[.pointer (some ⟨b,0,none⟩),v] 61 (0,0)):=by
  rw[hgrow.block b hlt (fun e=>Hne.out e.symm)]
  exact Hbk.out
 have d1:w2.cell? ⟨b,1,none⟩=some v:=by rw[Lib.cell_of_heap hb2];rfl
 have f1:w2.frozen? ⟨b,1,none⟩=false:=Lib.frozen_of_heap hb2 1
 obtain⟨ao,n',cap,rfl⟩ : ∃ ao n' cap,v' = .slice ao n' cap:=by
  rcases hown'.2 with⟨hv,_⟩ | ⟨g,cap,cur,hv,_⟩
  ·exact⟨_,_,_,hv⟩
  exact⟨_,_,_,hv⟩
 obtain⟨Hb2,Hown',Hgrow⟩:=hd3 hb2 hown' hgrow;clear hb2 hown' hgrow
 go_wp2_with fail
 go_ret2
 refine⟨rfl,?_,?_,?_⟩
 ·unfold Bld
  rw[← Hcat.out]
  exact .inr (Lib.BuilderAt.put (T:=61) (e:=5) hB Hb2.out (bs':=L ++ Lib.strCells s) (by simpa [Lib.strCells_length] using Hown'.out) (by decide))
 ·exact (Hb1.out.grown Hgrow.out hB1 (fun k hk=>(Hown.out.lt k hk).1)).setCell (p:=⟨b,1,none⟩) hB _
 exact (Hkp.out.trans (keep_grown Hgrow.out Hown.out)).trans (keep_set Hb2.out 1 _)
theorem bld_done {B b:Nat} {l:List UInt8} {w:World} (h:Bld B b l w) (h0:l≠[]) :
  Calls Tryz.prog 18 #[.pointer (some ⟨b,0,none⟩)] w fun e w'=>e = .returned (.string ⟨l.toArray⟩)∧Below B w w':=by
 obtain⟨p,hB,v,hbk,hown,hne⟩ : ∃ p,Lib.BuilderAt 61 5 B b p (Lib.byteCells l) w:=by
  rcases h with h | h
  ·exact⟨_,h⟩
  exact⟨_,h⟩
 have hl0:l.length≠0:=by simpa using h0
 rw[Lib.byteCells_length] at hown
 obtain⟨g,cap,cur,rfl,hbg,hg,hnc,hcm,hcs,htake⟩ : ∃ g cap cur,v = .slice (some ⟨g,0,none⟩) l.length cap∧B≤g∧w.heap[g]? = some (.cells cur 5 (0,0))∧l.length≤cap∧cap≤maxLen∧cur.size=cap * 1∧cur.toList.take (l.length * 1)=Lib.byteCells l:=by
  rcases hown.2 with⟨_,hz⟩ | ⟨g,cap,cur,hv,r⟩
  ·exact absurd hz hl0
  exact⟨g,cap,cur,hv,r⟩
 have c1:w.drew.cell? ⟨b,1,none⟩=some (.slice (some ⟨g,0,none⟩) l.length cap):=by
  have:w.drew.heap[b]? = some (.cells #[p,.slice (some ⟨g,0,none⟩) l.length cap] 61 (0,0)):=hbk
  rw[Lib.cell_of_heap this];rfl
 have hSD:(Builtin.unsafeSliceData_ #[57] 108 #[.slice (some ⟨g,0,none⟩) l.length cap]).run Tryz.prog w.drew = .ok (.pointer (some ⟨g,0,none⟩)) w.drew :=
  Lib.run_unsafeSliceData_row _ _ _ _ _ _ (by omega)
 have hUS:(Builtin.unsafeString_ #[108,3] 9 #[.pointer (some ⟨g,0,none⟩),.int .i64 l.length]).run Tryz.prog w.drew = .ok (.string ⟨l.toArray⟩) (w.drew.freeze ⟨g,0,none⟩ l.length):=by
  refine Lib.run_unsafeString_row w.drew 108 3 9 5 Tryz.underlying108 bld_cells g cur.size (by have hg':w.drew.heap[g]? = some (.cells cur 5 (0,0)):=hg;simp[World.shape?,hg']) l h0 (by omega) (by unfold maxLen at hcm;omega) ?_
  intro j x hx
  have:=hown.cells (g:=g) rfl j (.int .u8 x.toNat) (by simp[Lib.byteCells,hx])
  exact this
 have hlm:l.length≤9223372036854775807:=by unfold maxLen at hcm;omega
 obtain⟨Hbk,Hown,Hne,Hg,Hcs,Htake,Hh⟩:=hd7 hbk hown hne hg hcs htake h;clear hbk hown hne hg hcs htake h
 go_enter Tryz.func18,Tryz.ntmps18
 go_wp2_with fail
 go_region
 all_goals
  go_wp2_with fail
  go_ret
  exact⟨rfl,Lib.below_freeze (Below.drew (Below.refl B w)) (p:=⟨g,0,none⟩) hbg _⟩
theorem bld_at_below {T e:TypeId} {B b:Nat} {p:Value} {bs:List Value} {w w':World} (h:Lib.BuilderAt T e B b p bs w) (hb:Below w.heap.size w w'):Lib.BuilderAt T e B b p bs w':=by
 obtain⟨hB,v,hbk,hown,hne⟩:=h
 exact⟨hB,v,(hb.block b (Array.getElem?_eq_some_iff.1 hbk).1).trans hbk,zab hown hb,hne⟩
theorem bld_below {B b:Nat} {bs:List UInt8} {w w':World} (h:Bld B b bs w) (hb:Below w.heap.size w w'):Bld B b bs w':=by
 rcases h with h | h
 ·exact .inl (bld_at_below h hb)
 exact .inr (bld_at_below h hb)
theorem bld_empty (w:World) {b:Nat} (hbk:w.heap[b]? = some (.cells #[.pointer none,.slice none 0 0] 61 (0,0))) :
  Calls Tryz.prog 18 #[.pointer (some ⟨b,0,none⟩)] w fun e w'=>e = .returned (.string ⟨#[]⟩)∧Below w.heap.size w w':=by
 have c1:w.drew.cell? ⟨b,1,none⟩=some (.slice none 0 0):=by
  have:w.drew.heap[b]? = some (.cells #[.pointer none,.slice none 0 0] 61 (0,0)):=hbk
  rw[Lib.cell_of_heap this];rfl
 have hUS:(Builtin.unsafeString_ #[108,3] 9 #[.pointer none,.int .i64 0]).run Tryz.prog w.drew = .ok (.string .empty) w.drew:=Lib.run_unsafeString_none w.drew _ _ _ none
 have hSD:(Builtin.unsafeSliceData_ #[57] 108 #[.slice none 0 0]).run Tryz.prog w.drew = .ok (.pointer none) w.drew:=rfl
 have Hbk:=hd hbk;clear hbk
 go_enter Tryz.func18,Tryz.ntmps18
 go_wp2_with fail
 go_region
 all_goals
  go_wp2_with fail
  go_ret
  exact⟨rfl,Below.drew (Below.refl _ w)⟩
end BT
end

section
open Go
section
variable {P : Program} {ops o : Array Oper} {Q : Exit → Act → World → Prop} {md : Region.Mode} {S : World → Prop} {fuel : Nat} {listed : Array Bool} {a : Act} {w : World}
theorem zsa {id n:Nat} (hm:P.follows .mixedOrders=true) (hn:ops.size=n) (hS:S w.drew) (h:∀ o,o=ops→wpAnyH P .any o Q S n (Array.replicate n false) a w.drew):(Code.region id ops true).wp P Q a w:=by
 subst hn
 exact wp_region_held_drew hm hS fun _=>h ops rfl
theorem zgk (ho:o=ops) (i:Nat) {oi:Oper} {v:Value} (hi:ops[i]? = some oi) (hs:Region.noSelect ops=true) (hf:Region.free md ops listed i=true) (hr:(Region.ready md ops listed).contains i=true)
  (hQ:∀ c a w,Q (.panic c) (a.put oi.dst v) w→Q (.panic c) a w) (hy:YieldsIf P ops S oi v a) (hS:S w) (h:wpAnyH P md o Q S fuel (listed.setIfInBounds i true) (a.put oi.dst v) w):wpAnyH P md o Q S (fuel+1) listed a w:=by
 subst ho
 exact wpAnyH_take hi hs hf hr hQ hy hS h
theorem zft (ho:o=ops) {rs:List Nat} (hr:Region.ready md ops listed=rs) (hne:rs≠[]) (h:AllReadyH P md o Q S fuel listed a w rs):wpAnyH P md o Q S (fuel+1) listed a w:=by
 subst ho
 exact wpAnyH_ready hr hne h
theorem zhw (ho:o=ops) {i:Nat} {oi:Oper} {rs:List Nat} (hi:ops[i]? = some oi) (hg:Region.wanted oi (yielded ops a.tmps)=true)
  (h:∀ K':Act→World→Prop,Shut (∀ a w,S w→(S w→wpAnyH P md o Q S fuel (listed.setIfInBounds i true) a w)→K' a w)→Oper.wp P oi a w K' Q) (hs:AllReadyH P md o Q S fuel listed a w rs):AllReadyH P md o Q S fuel listed a w (i :: rs):=by
 subst ho
 exact AllReadyH.cons hi (fun K' hK=>by rw[if_pos hg];exact h K' hK) hs
theorem rg_done (ho:o=ops) (hr:Region.ready md ops listed = []) (h:Q .normal a w):wpAnyH P md o Q S fuel listed a w:=by
 subst ho
 exact wpAnyH_done hr h fuel
end
end

namespace VerN
open Go.Lib
def zkn (c:UInt8):Bool:=decide (48≤c.toNat) && decide (c.toNat≤57)
def zp3 (c:UInt8):Bool:=decide (97≤c.toNat) && decide (c.toNat≤122)
theorem zey (c:UInt8):zkn c=true↔48≤c.toNat∧c.toNat≤57:=by unfold zkn;simp
theorem zib (c:UInt8):zp3 c=true↔97≤c.toNat∧c.toNat≤122:=by unfold zp3;simp
def zbu (acc:Nat) (l:List UInt8):Nat:=l.foldl (fun a c=>a * 10+(c.toNat - 48)) acc
theorem zlv:∀ (l:List UInt8) (acc:Nat),acc≤zbu acc l
 | [],_=>Nat.le_refl _
 | c :: r,acc=>by have:=zlv r (acc * 10+(c.toNat - 48));unfold zbu at *;simp only[List.foldl_cons];omega
theorem zsi:∀ (l:List UInt8) (acc:Nat),l.all zkn=true→zbu acc l < 9223372036854775808→parseUint10 acc l = .ok (zbu acc l)
 | [],_,_,_=>rfl
 | c :: r,acc,h,hv=>by
  simp only[List.all_cons,Bool.and_eq_true] at h
  have hc:=(zey c).1 h.1
  have hv':zbu (acc * 10+(c.toNat - 48)) r < 9223372036854775808:=hv
  have hge:=zlv r (acc * 10+(c.toNat - 48))
  unfold parseUint10
  rw[if_pos hc,if_neg (by omega),if_neg (by omega),zsi r _ h.2 hv']
  rfl
theorem zga (l:List UInt8) (c:UInt8) (acc:Nat):zbu acc (l ++ [c])=zbu acc l * 10+(c.toNat - 48):=by unfold zbu;rw[List.foldl_append];rfl
def lead (l:List UInt8):Bool:=decide (l = [48]) || decide (l.head?≠some 48)
theorem zot {c:UInt8} (h:zkn c=true):UInt8.ofNat (48+(c.toNat - 48))=c:=by
 have:=(zey c).1 h
 rw[show 48+(c.toNat - 48)=c.toNat by omega]
 exact UInt8.ofNat_toNat
theorem snocInd {α:Type} {P:List α→Prop} (h0:P []) (h1:∀ l c,P l→P (l ++ [c])) (l:List α):P l:=by
 have key:∀ r:List α,P r.reverse:=by
  intro r
  induction r with
  | nil=>exact h0
  | cons c r ih=>rw[List.reverse_cons];exact h1 _ _ ih
 have:=key l.reverse
 rwa [List.reverse_reverse] at this
theorem zil:∀ (l:List UInt8),l≠[]→l.all zkn=true→l.head?≠some 48→10 ^ (l.length - 1)≤zbu 0 l∧zbu 0 l < 10 ^ l.length:=by
 intro l
 induction l using snocInd with
 | h0=>intro h;exact absurd rfl h
 | h1 l c ih =>
  intro _ hd hh
  simp only[List.all_append,List.all_cons,List.all_nil,Bool.and_true,Bool.and_eq_true] at hd
  have hc:=(zey c).1 hd.2
  rw[zga]
  by_cases hl:l = []
  ·subst hl
   have:c.toNat≠48:=fun e=>hh (by
    have:c=48:=UInt8.toNat_inj.1 e
    simp[this])
   simp[zbu];omega
  have hh':l.head?≠some 48:=by
   match l,hl with
   | a :: r,_=>simpa using hh
  have:=ih hl hd.1 hh'
  have hp:0 < l.length:=List.length_pos_iff.2 hl
  obtain⟨k,hk⟩ : ∃ k,l.length=k+1:=⟨l.length - 1,by omega⟩
  rw[List.length_append,List.length_singleton]
  rw[hk] at this ⊢
  simp only[Nat.add_sub_cancel] at this ⊢
  rw[Nat.pow_succ,Nat.pow_succ]
  rw[Nat.pow_succ] at this
  omega
theorem dec_val:∀ (l:List UInt8),l≠[]→l.all zkn=true→lead l=true→decDigits (zbu 0 l)=l:=by
 intro l
 induction l using snocInd with
 | h0=>intro h;exact absurd rfl h
 | h1 l c ih =>
  intro _ hd hh
  simp only[List.all_append,List.all_cons,List.all_nil,Bool.and_true,Bool.and_eq_true] at hd
  have hc:=(zey c).1 hd.2
  rw[zga]
  by_cases hl:l = []
  ·subst hl
   rw[show zbu 0 []=0 from rfl,Nat.zero_mul,Nat.zero_add,decDigits,dif_pos (by omega),zot hd.2]
   rfl
  have hh':l.head?≠some 48:=by
   match l,hl with
   | a :: r,_ =>
    unfold lead at hh
    simp only[Bool.or_eq_true,decide_eq_true_eq] at hh
    rcases hh with hh | hh
    ·simp at hh
    simpa using hh
  have hb:=zil l hl hd.1 hh'
  have h1:1≤zbu 0 l:=Nat.le_trans (Nat.pos_of_ne_zero (by simp)) hb.1
  rw[decDigits,dif_neg (by omega),show (zbu 0 l * 10+(c.toNat - 48)) / 10=zbu 0 l by omega,show (zbu 0 l * 10+(c.toNat - 48)) % 10=c.toNat - 48 by omega,zot hd.2,ih hl hd.1 (by unfold lead;simp only[Bool.or_eq_true,decide_eq_true_eq];exact .inr hh')]
theorem dec_dig:∀ u:Nat,(decDigits u).all zkn=true∧decDigits u≠[]∧lead (decDigits u)=true∧zbu 0 (decDigits u)=u:=by
 intro u
 induction u using Nat.strongRecOn with
 | _ u ih =>
  rw[decDigits]
  have dg:∀ d,d < 10→(UInt8.ofNat (48+d)).toNat=48+d:=fun d hd=>by rw[UInt8.toNat_ofNat'];omega
  split
  ·rename_i h
   have e:=dg u h
   refine⟨?_,by simp,?_,?_⟩
   ·simp only[List.all_cons,List.all_nil,Bool.and_true]
    rw[zey,e];omega
   ·unfold lead
    simp only[List.head?_cons,Bool.or_eq_true,decide_eq_true_eq]
    by_cases h0:u=0
    ·left;subst h0;rfl
    right
    refine decide_eq_true fun e2=>?_
    injection e2 with e2
    rw[e2] at e
    have:(48:UInt8).toNat=48:=rfl
    omega
   show 0 * 10+((UInt8.ofNat (48+u)).toNat - 48)=u
   rw[e];omega
  rename_i h
  have hi:=ih (u / 10) (by omega)
  have e:=dg (u % 10) (by omega)
  refine⟨?_,by simp,?_,?_⟩
  ·rw[List.all_append,hi.1,Bool.true_and]
   simp only[List.all_cons,List.all_nil,Bool.and_true]
   rw[zey,e];omega
  ·have hl:=hi.2.2.1
   unfold lead at hl ⊢
   simp only[Bool.or_eq_true,decide_eq_true_eq] at hl ⊢
   right
   rcases hl with hl | hl
   ·exfalso
    have:=hi.2.2.2
    rw[hl] at this
    have h0:zbu 0 [48]=0:=rfl
    omega
   match hm:decDigits (u / 10),hi.2.1,hl with
   | a :: r,_,hl=>simpa using hl
  rw[zga,hi.2.2.2,e];omega
def zol (l:List UInt8):Bool:=match atoiAll l with
 | .ok v=>decide (0≤v) && decide (v≤999999999) && decide (itoa v=l)
 | _=>l.all zp3 && !l.isEmpty
def zhz (l:List UInt8):Bool:=!l.isEmpty && l.all zkn && decide (l.length≤9) && lead l
def zdw (l:List UInt8):Bool:=!l.isEmpty && l.all zp3
theorem val_le {l:List UInt8} (h:zhz l=true):zbu 0 l≤999999999:=by
 unfold zhz at h
 simp only[Bool.and_eq_true,Bool.not_eq_true',decide_eq_true_eq] at h
 obtain⟨⟨⟨h1,h2⟩,h3⟩,h4⟩:=h
 have hne:l≠[]:=fun e=>by subst e;simp at h1
 unfold lead at h4
 simp only[Bool.or_eq_true,decide_eq_true_eq] at h4
 rcases h4 with h4 | h4
 ·subst h4;decide
 have hb:=(zil l hne h2 h4).2
 have:10 ^ l.length≤10 ^ 9:=Nat.pow_le_pow_right (by decide) h3
 omega
theorem zt1 {l:List UInt8} (h:zhz l=true):atoiAll l = .ok (zbu 0 l:Nat):=by
 have hv:=val_le h
 unfold zhz at h
 simp only[Bool.and_eq_true,Bool.not_eq_true',decide_eq_true_eq] at h
 obtain⟨⟨⟨h1,h2⟩,h3⟩,h4⟩:=h
 match l,h1,h2,hv with
 | c :: r,_,h2,hv =>
  have hc:=(zey c).1 (by simp only[List.all_cons,Bool.and_eq_true] at h2;exact h2.1)
  rw[atoiAll_plain c r (by omega) (by omega)]
  have hp:parseMag (c :: r) = .ok (zbu 0 (c :: r)):=by unfold parseMag;rw[if_neg (by simp)];exact zsi _ _ h2 (by omega)
  rw[hp]
  unfold signless
  simp only
  rw[if_neg (by omega)]
theorem zna (u:Nat):itoa (u:Int)=decDigits u:=by unfold itoa;rw[if_neg (by omega)];simp
theorem read_is (l:List UInt8):zol l=(zdw l || zhz l):=by
 by_cases hd:zhz l=true
 ·rw[hd,Bool.or_true]
  unfold zol
  rw[zt1 hd]
  have hv:=val_le hd
  have hd':=hd
  unfold zhz at hd'
  simp only[Bool.and_eq_true,Bool.not_eq_true',decide_eq_true_eq] at hd'
  have hne:l≠[]:=fun e=>by subst e;simp at hd'
  have e:=dec_val l hne hd'.1.1.2 hd'.2
  simp only
  rw[zna,e,decide_eq_true (by omega),decide_eq_true (by omega),decide_eq_true rfl]
  rfl
 rw[Bool.eq_false_iff.2 hd,Bool.or_false]
 unfold zol
 cases ha:atoiAll l with
 | ok v =>
  simp only
  have hnl:zdw l=false:=by
   match l,ha with
   | [],ha=>rfl
   | c :: r,ha =>
    unfold zdw
    by_cases hc:zp3 c=true
    ·have:=(zib c).1 hc
     rw[atoiAll_plain c r (by omega) (by omega)] at ha
     have hp:parseMag (c :: r)=parseMag []:=by rw[parseMag,if_neg (by simp),parseUint10,if_neg (by omega)] <;> rfl
     rw[hp] at ha
     cases ha
    simp[hc]
  rw[hnl]
  by_cases hv:0≤v∧v≤999999999∧itoa v=l
  ·exfalso
   apply hd
   obtain⟨u,rfl⟩ : ∃ u:Nat,v=u:=⟨v.toNat,by omega⟩
   have h2:=hv.2.2
   rw[zna] at h2
   have hk:=dec_dig u
   rw[h2] at hk
   unfold zhz
   have hne:l.isEmpty=false:=by cases l with | nil=>exact absurd rfl hk.2.1 | cons _ _=>rfl
   rw[hne,hk.1,hk.2.2.1]
   have hlen:l.length≤9:=by
    have hl:=hk.2.2.1
    unfold lead at hl
    simp only[Bool.or_eq_true,decide_eq_true_eq] at hl
    rcases hl with hl | hl
    ·rw[hl];decide
    have hb:=(zil l hk.2.1 hk.1 hl).1
    rw[hk.2.2.2] at hb
    by_cases h9:l.length≤9
    ·exact h9
    exfalso
    have:10 ^ 9≤10 ^ (l.length - 1):=Nat.pow_le_pow_right (by decide) (by omega)
    omega
   rw[decide_eq_true hlen]
   rfl
  by_cases h0:0≤v
  ·by_cases h1:v≤999999999
   ·have h2:¬ itoa v=l:=fun e=>hv ⟨h0,h1,e⟩
    simp[h2]
   simp[h1]
  simp[h0]
 | range=>unfold zdw;simp only;rw[Bool.and_comm]
 | _=>unfold zdw;simp only;rw[Bool.and_comm]
end VerN

namespace VerN
open Go.Lib
end VerN

namespace VerN
open Go.Lib
def zdx (l:List UInt8):Int:=if l = [] then 1 else if zdw l=true then 0 else 2
def zhb (l:List UInt8):Int:=if zdw l=true then 0 else (zbu 0 l:Nat)
def zf3 (l:List UInt8):List UInt8:=if zdw l=true then l else []
def cmpI (x y:Int):Int:=if x < y then -1 else if x > y then 1 else 0
def cmpW (x y:List UInt8):Int:=if x < y then -1 else if y < x then 1 else 0
def pcmp (a b:List UInt8):Int:=if cmpI (zdx a) (zdx b)≠0 then cmpI (zdx a) (zdx b) else if cmpI (zhb a) (zhb b)≠0 then cmpI (zhb a) (zhb b) else cmpW (zf3 a) (zf3 b)
def digs (l:List UInt8):Bool:=l.all zkn && !l.isEmpty
def before (a b:List UInt8):Bool :=
 if a=b then false else if a = [] then digs b else if b = [] then zdw a else if zdw a≠zdw b then zdw a else if digs a && decide (a.length≠b.length) then decide (a.length < b.length) else decide (a < b)
theorem zsj {l:List UInt8} (h:zdw l=true):digs l=false∧zhz l=false:=by
 match l with
 | [] => exact⟨rfl,rfl⟩
 | c :: r =>
  unfold zdw at h
  simp only[List.all_cons,Bool.and_eq_true] at h
  have hc:=(zib c).1 h.2.1
  have hd:zkn c=false:=by unfold zkn;rw[decide_eq_true (by omega),decide_eq_false (by omega)];rfl
  unfold digs zhz
  simp[hd]
theorem znj {l:List UInt8} (h:zhz l=true):digs l=true∧zdw l=false∧l≠[]:=by
 have hl:zdw l=false:=by
  cases e:zdw l
  ·rfl
  rw[(zsj e).2] at h;cases h
 unfold zhz at h
 simp only[Bool.and_eq_true] at h
 refine⟨by unfold digs;rw[h.1.1.2,h.1.1.1];rfl,hl,fun e=>by subst e;simp at h⟩
theorem let_ne {l:List UInt8} (h:zdw l=true):l≠[]:=fun e=>by subst e;simp[zdw] at h
theorem dec_ne {a b:List UInt8} (h:a≠b) (h1:¬ a < b):b < a:=by
 rcases List.le_total a b with h2 | h2
 ·by_cases h3:b < a
  ·exact h3
  exact absurd (List.le_antisymm h2 (List.not_lt.1 h1)) h
 by_cases h3:b < a
 ·exact h3
 exact absurd (List.le_antisymm (List.not_lt.1 h3) (List.not_lt.1 h1)) h
theorem rk_let {l:List UInt8} (h:zdw l=true):zdx l=0:=by unfold zdx;rw[if_neg (let_ne h),if_pos h]
theorem rk_dig {l:List UInt8} (h:zhz l=true):zdx l=2:=by unfold zdx;rw[if_neg (znj h).2.2,if_neg (by rw[(znj h).2.1];simp)]
end VerN

namespace VerN
open Go.Lib
def cutF (c:UInt8):List UInt8→List UInt8→List (List UInt8)
 | acc,[] => [acc]
 | acc,x :: r=>if x=c then acc :: cutF c [] r else cutF c (acc ++ [x]) r
def cutL (c:UInt8) (l:List UInt8):List (List UInt8):=cutF c [] l
theorem zea {c x:UInt8} (acc r:List UInt8) (h:x≠c):cutF c acc (x :: r)=cutF c (acc ++ [x]) r:=by rw[cutF,if_neg h]
theorem zgt (c:UInt8) (acc r:List UInt8):cutF c acc (c :: r)=acc :: cutF c [] r:=by rw[cutF,if_pos rfl]
theorem zph (c:UInt8):∀ (r acc:List UInt8),indexByte r c = -1→cutF c acc r = [acc ++ r]
 | [],acc,_=>by rw[List.append_nil];rfl
 | x :: r,acc,h=>by
  unfold indexByte at h
  split at h
  ·cases h
  rename_i hx
  have hx':x≠c:=fun e=>hx (by rw[e];simp)
  have hr:indexByte r c = -1:=by
   split at h
   ·rename_i e;exact beq_iff_eq.1 e
   have:=indexByte_ge r c;omega
  rw[zea _ _ hx',zph c r _ hr,List.append_assoc]
  rfl
theorem zsu (c:UInt8):∀ (r acc:List UInt8) (i:Nat),indexByte r c=i→cutF c acc r=(acc ++ r.take i) :: cutL c (r.drop (i+1))
 | [],acc,i,h=>by unfold indexByte at h;omega
 | x :: r,acc,i,h=>by
  unfold indexByte at h
  split at h
  ·rename_i hx
   have hx':x=c:=by simpa using hx
   have hi:i=0:=by omega
   subst hi;subst hx'
   rw[zgt]
   simp[cutL]
  rename_i hx
  have hx':x≠c:=fun e=>hx (by rw[e];simp)
  split at h
  ·omega
  rename_i hm
  obtain⟨j,rfl⟩ : ∃ j,i=j+1:=⟨i - 1,by
   have:=indexByte_ge r c
   have h0:indexByte r c≠-1:=fun e=>hm (by rw[e];rfl)
   omega⟩
  have hr:indexByte r c=j:=by omega
  rw[zea _ _ hx',zsu c r _ j hr,List.append_assoc]
  rfl
theorem znl (c:UInt8):∀ (r acc:List UInt8),1≤(cutF c acc r).length∧(cutF c acc r).length≤r.length+1
 | [],acc=>⟨Nat.le_refl _,Nat.le_refl _⟩
 | x :: r,acc=>by
  by_cases h:x=c
  ·subst h
   have:=znl x r []
   rw[zgt]
   simp only[List.length_cons]
   omega
  have:=znl c r (acc ++ [x])
  rw[zea _ _ h]
  simp only[List.length_cons]
  omega
theorem znk (c:UInt8) (l:List UInt8):1≤(cutL c l).length∧(cutL c l).length≤l.length+1:=znl c l []
theorem zit (c:UInt8):∀ (r acc p:List UInt8),p∈cutF c acc r→p.length≤acc.length+r.length
 | [],acc,p,h=>by
  rw[show cutF c acc [] = [acc] from rfl,List.mem_singleton] at h
  subst h;omega
 | x :: r,acc,p,h=>by
  by_cases hx:x=c
  ·subst hx
   rw[zgt] at h
   rcases List.mem_cons.1 h with rfl | h
   ·simp
   have:=zit x r [] p h
   simp only[List.length_cons,List.length_nil] at this ⊢
   omega
  rw[zea _ _ hx] at h
  have:=zit c r _ p h
  simp only[List.length_append,List.length_cons,List.length_nil] at this ⊢
  omega
def zem (l:List UInt8):Bool:=zdw l || zhz l
def mayL (l:List UInt8):Bool:=decide (l≠[]) && decide (l.length≤40) && (cutL 46 l).all zem && decide ((cutL 46 l).length≤8)
theorem zfw (l:List UInt8):mayL l=true↔l≠[]∧l.length≤40∧(∀ p∈cutL 46 l,zem p=true)∧(cutL 46 l).length≤8:=by
 unfold mayL
 simp[and_assoc]
def zct (x y:List (List UInt8)):Nat→Nat→Int
 | _,0=>0
 | i,n+1=>if pcmp (x.getD i []) (y.getD i [])≠0 then pcmp (x.getD i []) (y.getD i []) else zct x y (i+1) n
def zc6 (a b:List UInt8):Int :=
 if mayL a=false∧mayL b=false then 0 else if mayL a=false then -1 else if mayL b=false then 1 else zct (cutL 46 a) (cutL 46 b) 0 (max (cutL 46 a).length (cutL 46 b).length)
structure Row {α:Type} (c:α→α→Int):Prop where
 tri:∀ x y,c x y = -1∨c x y=0∨c x y=1
 neg:∀ x y,c y x = -c x y
 trans:∀ x y z,c x y≤0→c y z≤0→c x z≤0
theorem Row.lt1 {α:Type} {c:α→α→Int} (h:Row c) {x y z:α} (h1:c x y < 0) (h2:c y z≤0):c x z < 0:=by
 by_cases h3:c x z < 0
 ·exact h3
 have a:=h.neg x z
 have b:=h.neg x y
 have:=h.trans y z x h2 (by omega)
 omega
theorem Row.lt2 {α:Type} {c:α→α→Int} (h:Row c) {x y z:α} (h1:c x y≤0) (h2:c y z < 0):c x z < 0:=by
 by_cases h3:c x z < 0
 ·exact h3
 have a:=h.neg x z
 have b:=h.neg y z
 have:=h.trans z x y (by omega) h1
 omega
theorem Row.eq {α:Type} {c:α→α→Int} (h:Row c) {x y z:α} (h1:c x y=0) (h2:c y z=0):c x z=0:=by
 have a:=h.trans x y z (by omega) (by omega)
 have b:=h.trans z y x (by rw[h.neg];omega) (by rw[h.neg];omega)
 have d:=h.neg x z
 omega
def thenBy {α:Type} (c d:α→α→Int) (x y:α):Int:=if c x y≠0 then c x y else d x y
theorem Row.thenBy {α:Type} {c d:α→α→Int} (hc:Row c) (hd:Row d):Row (thenBy c d):=by
 refine⟨fun x y=>?_,fun x y=>?_,fun x y z h1 h2=>?_⟩
 ·unfold VerN.thenBy;split
  ·exact hc.tri x y
  exact hd.tri x y
 ·unfold VerN.thenBy
  have:=hc.neg x y
  by_cases h:c x y=0
  ·rw[if_neg (by omega),if_neg (by omega)];exact hd.neg x y
  rw[if_pos (by omega),if_pos (by omega)];exact this
 unfold VerN.thenBy at h1 h2 ⊢
 by_cases a:c x y=0
 ·rw[if_neg (by omega)] at h1
  by_cases b:c y z=0
  ·rw[if_neg (by omega)] at h2
   rw[if_neg (by rw[hc.eq a b];omega)]
   exact hd.trans x y z h1 h2
  rw[if_pos b] at h2
  have:=hc.lt2 (x:=x) (by omega:c x y≤0) (by omega:c y z < 0)
  rw[if_pos (by omega)];omega
 rw[if_pos a] at h1
 have h3:c y z≤0:=by
  by_cases b:c y z=0
  ·omega
  rw[if_pos b] at h2;exact h2
 have:=hc.lt1 (z:=z) (by omega:c x y < 0) h3
 rw[if_pos (by omega)];omega
theorem Row.map {α β:Type} {c:α→α→Int} (h:Row c) (f:β→α):Row fun x y=>c (f x) (f y) :=
 ⟨fun x y=>h.tri _ _,fun x y=>h.neg _ _,fun x y z=>h.trans _ _ _⟩
theorem row_int:Row cmpI:=by
 refine⟨fun x y=>?_,fun x y=>?_,fun x y z=>?_⟩ <;> unfold cmpI
 ·split
  ·exact .inl rfl
  split
  ·exact .inr (.inr rfl)
  exact .inr (.inl rfl)
 ·by_cases h1:x < y
  ·have h3:¬ y < x:=by omega
   simp[h1,h3]
  by_cases h2:y < x
  ·simp[h1,h2]
  simp[h1,h2]
 have le:∀ x y:Int,(if x < y then (-1:Int) else if x > y then 1 else 0)≤0↔x≤y:=fun x y=>by
  by_cases h1:x < y
  ·rw[if_pos h1];exact⟨fun _=>by omega,fun _=>by omega⟩
  rw[if_neg h1]
  by_cases h2:x > y
  ·rw[if_pos h2];exact⟨fun h=>by omega,fun h=>by omega⟩
  rw[if_neg h2];exact⟨fun _=>by omega,fun _=>by omega⟩
 rw[le,le,le]
 omega
theorem getD_lt {x:List (List UInt8)} {i:Nat} (h:i < x.length):x.getD i []=x[i]:=by rw[List.getD,List.getElem?_eq_getElem h];rfl
theorem zr5 {x:List (List UInt8)} {i:Nat} (h:x.length≤i):x.getD i [] = []:=by rw[List.getD,List.getElem?_eq_none h];rfl
theorem row_words:Row cmpW:=by
 have asy:∀ x y:List UInt8,x < y→¬ y < x:=fun x y h1 h2=>List.lt_irrefl x (List.lt_trans h1 h2)
 have le:∀ x y,cmpW x y≤0↔x≤y:=fun x y=>by
  unfold cmpW
  by_cases h1:x < y
  ·rw[if_pos h1];exact⟨fun _=>List.not_lt.1 (asy _ _ h1),fun _=>by omega⟩
  rw[if_neg h1]
  by_cases h2:y < x
  ·rw[if_pos h2];exact⟨fun h=>by omega,fun h=>absurd h2 (List.not_lt.2 h)⟩
  rw[if_neg h2];exact⟨fun _=>List.not_lt.1 h2,fun _=>by omega⟩
 refine⟨fun x y=>?_,fun x y=>?_,fun x y z h1 h2=>?_⟩
 ·unfold cmpW;split
  ·exact .inl rfl
  split
  ·exact .inr (.inr rfl)
  exact .inr (.inl rfl)
 ·unfold cmpW
  by_cases h1:x < y
  ·rw[if_neg (asy _ _ h1),if_pos h1,if_pos h1];rfl
  by_cases h2:y < x
  ·rw[if_pos h2,if_neg h1,if_pos h2]
  rw[if_neg h2,if_neg h1,if_neg h1,if_neg h2];rfl
 rw[le] at h1 h2 ⊢
 exact List.le_trans h1 h2
theorem zqj:pcmp=thenBy (fun a b=>cmpI (zdx a) (zdx b)) (thenBy (fun a b=>cmpI (zhb a) (zhb b)) (fun a b=>cmpW (zf3 a) (zf3 b))):=by
 funext a b
 rfl
theorem row_parts:Row pcmp:=by
 rw[zqj]
 exact (row_int.map zdx).thenBy ((row_int.map zhb).thenBy (row_words.map zf3))
theorem zs6:∀ (n i:Nat),Row fun x y=>zct x y i n
 | 0,i=>⟨fun _ _=>.inr (.inl rfl),fun _ _=>rfl,fun _ _ _ _ _=>Int.le_refl _⟩
 | n+1,i=>(row_parts.map fun x:List (List UInt8)=>x.getD i []).thenBy (zs6 n (i+1))
theorem zkq (x y:List (List UInt8)):∀ (n k i:Nat),x.length≤i+n→y.length≤i+n→zct x y i (n+k)=zct x y i n
 | 0,0,_,_,_=>rfl
 | 0,k+1,i,hx,hy=>by
  have e:zct x y i (k+1)=if pcmp (x.getD i []) (y.getD i [])≠0 then pcmp (x.getD i []) (y.getD i []) else zct x y (i+1) k:=rfl
  rw[Nat.zero_add,e,zr5 (by omega),zr5 (by omega),if_neg (by decide)]
  have:=zkq x y 0 k (i+1) (by omega) (by omega)
  rw[Nat.zero_add] at this
  exact this
 | n+1,k,i,hx,hy=>by
  rw[show n+1+k=(n+k)+1 by omega,zct,zct,zkq x y n k (i+1) (by omega) (by omega)]
theorem from_any {x y:List (List UInt8)} {N:Nat} (hx:x.length≤N) (hy:y.length≤N):zct x y 0 (max x.length y.length)=zct x y 0 N:=by
 have:=zkq x y (max x.length y.length) (N - max x.length y.length) 0 (by omega) (by omega)
 rw[show max x.length y.length+(N - max x.length y.length)=N by omega] at this
 exact this.symm
theorem zcy (a b:List UInt8):zc6 a b=if mayL a=false∧mayL b=false then 0 else if mayL a=false then -1 else if mayL b=false then 1 else zct (cutL 46 a) (cutL 46 b) 0 8:=by
 unfold zc6
 cases ha:mayL a
 ·simp
 cases hb:mayL b
 ·simp
 have h1:=((zfw a).1 ha).2.2.2
 have h2:=((zfw b).1 hb).2.2.2
 simp only[Bool.true_eq_false,and_self,if_false]
 exact from_any h1 h2
theorem zdf:Row zc6:=by
 have R:=zs6 8 0
 refine⟨fun x y=>?_,fun x y=>?_,fun x y z=>?_⟩
 ·rw[zcy]
  split
  ·exact .inr (.inl rfl)
  split
  ·exact .inl rfl
  split
  ·exact .inr (.inr rfl)
  exact R.tri _ _
 ·rw[zcy,zcy]
  cases mayL x <;> cases mayL y <;> simp
  exact R.neg _ _
 rw[zcy,zcy,zcy]
 cases mayL x <;> cases mayL y <;> cases mayL z <;> simp
 exact R.trans _ _ _
end VerN

namespace VerN
open Go.Lib
theorem ba_ext {x y:ByteArray} (h:x.data.toList=y.data.toList):x=y:=by
 obtain⟨⟨a⟩⟩:=x
 obtain⟨⟨b⟩⟩:=y
 simp at h
 rw[h]
def cutS (c:UInt8) (s:ByteArray):List ByteArray:=(cutL c s.data.toList).map fun l=>⟨l.toArray⟩
theorem zku (c:UInt8) (s:ByteArray):(cutS c s).map (·.data.toList)=cutL c s.data.toList:=by
 unfold cutS
 rw[List.map_map]
 have:((fun x:ByteArray=>x.data.toList) ∘ fun l:List UInt8=>(⟨l.toArray⟩ : ByteArray))=id:=by funext l;simp
 rw[this,List.map_id]
theorem zif (c:UInt8) (s:ByteArray):(cutS c s).length=(cutL c s.data.toList).length:=by unfold cutS;rw[List.length_map]
theorem cutS_miss {c:UInt8} {s:ByteArray} (h:indexByte s.data.toList c = -1):cutS c s = [s]:=by
 unfold cutS cutL
 rw[zph c _ _ h,List.nil_append]
 simp
theorem cutS_hit {c:UInt8} {s:ByteArray} {i:Nat} (h:indexByte s.data.toList c=i):cutS c s=s.extract 0 i :: cutS c (s.extract (i+1) s.size):=by
 have e1:(⟨(s.data.toList.take i).toArray⟩ : ByteArray)=s.extract 0 i:=ba_ext (by rw[extract_from_zero])
 have e2:s.data.toList.drop (i+1)=(s.extract (i+1) s.size).data.toList:=(extract_to_end s (i+1)).symm
 unfold cutS
 rw[show cutL c s.data.toList=cutF c [] s.data.toList from rfl,zsu c _ _ i h,List.nil_append,List.map_cons,e1,e2]
theorem index_lt {l:List UInt8} {c:UInt8} {i:Nat} (h:indexByte l c=i):i < l.length:=by
 induction l generalizing i with
 | nil=>unfold indexByte at h;omega
 | cons x r ih =>
  unfold indexByte at h
  split at h
  ·simp;omega
  split at h
  ·omega
  rename_i hm
  have:=indexByte_ge r c
  have h0:indexByte r c≠-1:=fun e=>hm (by rw[e];rfl)
  have:=ih (i:=i - 1) (by omega)
  simp;omega
theorem dlen (s:ByteArray):s.data.toList.length=s.size:=by rw[Array.length_toList];rfl
theorem zus {c:UInt8} {s p:ByteArray} (h:p∈cutS c s):p.size≤s.size:=by
 unfold cutS at h
 obtain⟨l,h1,rfl⟩:=List.mem_map.1 h
 have:=zit c _ _ _ h1
 rw[dlen] at this
 have e:(⟨l.toArray⟩ : ByteArray).size=l.length:=rfl
 rw[e]
 simp only[List.length_nil] at this
 omega
end VerN

namespace VerN
open Go.Lib
def first (l:List UInt8):List UInt8:=(cutL 46 l).getD 0 []
end VerN

namespace VerN
open Go.Lib
abbrev Sp:=List UInt8 × List UInt8
def zcu (l:List UInt8):Bool:=decide (l = []) || mayL l
def zck (a b:List UInt8):Bool:=decide (a≠[]) && decide (b≠[]) && decide (zc6 a b < 0)
def mayS (s:Sp):Bool:=zcu s.1 && zcu s.2 && !zck s.2 s.1
def zd6 (a b:List UInt8):List UInt8:=if a = []∨zck a b=true then b else a
def zc9 (a b:List UInt8):List UInt8:=if a = []∨zck b a=true then b else a
def meetO (a b:Sp):Sp:=(zd6 a.1 b.1,zc9 a.2 b.2)
def ze9 (a b:Sp):Bool:=mayS a && mayS b && mayS (meetO a b)
def zf1 (a b:Sp):Sp:=if mayS a=true∧mayS b=true then (if a.1≠[]∧b.1≠[] then zc9 a.1 b.1 else [],if a.2≠[]∧b.2≠[] then zd6 a.2 b.2 else []) else ([],[])
def textR (s:Sp):List UInt8:=if s.1=s.2∧s.1≠[] then s.1 else s.1 ++ 58 :: s.2
def textS (s:Sp):List UInt8:=if mayS s=true then textR s else []
def le (a b:List UInt8):Prop:=zc6 a b≤0
theorem le_refl (a:List UInt8):le a a:=by
 have:=zdf.neg a a
 unfold le;omega
theorem le_trans {a b c:List UInt8} (h1:le a b) (h2:le b c):le a c:=zdf.trans a b c h1 h2
theorem not_le {a b:List UInt8}:¬ le a b↔zc6 b a < 0:=by
 have:=zdf.neg a b
 unfold le;omega
theorem le_total (a b:List UInt8):le a b∨le b a:=by
 have:=zdf.neg a b
 unfold le;omega
theorem zij {a b:List UInt8}:zck a b=false↔a = []∨b = []∨le b a:=by
 have h:¬ zc6 a b < 0↔le b a:=by
  have:=zdf.neg a b
  unfold le
  omega
 unfold zck
 simp only[Bool.and_eq_false_iff,decide_eq_false_iff_not,ne_eq,Decidable.not_not,h]
 exact or_assoc
theorem zii {a b:List UInt8}:zck a b=true↔a≠[]∧b≠[]∧¬ le b a:=by
 unfold zck
 simp only[Bool.and_eq_true,decide_eq_true_eq,not_le,and_assoc]
theorem bound_iff {l:List UInt8}:zcu l=true↔l = []∨mayL l=true:=by unfold zcu;simp
theorem zcw {s:Sp}:mayS s=true↔zcu s.1=true∧zcu s.2=true∧(s.1 = []∨s.2 = []∨le s.1 s.2):=by
 unfold mayS
 simp only[Bool.and_eq_true,Bool.not_eq_true',and_assoc,zij]
 constructor
 ·rintro⟨h1,h2,h3⟩
  refine⟨h1,h2,?_⟩
  rcases h3 with h | h | h
  ·exact .inr (.inl h)
  ·exact .inl h
  exact .inr (.inr h)
 rintro⟨h1,h2,h3⟩
 refine⟨h1,h2,?_⟩
 rcases h3 with h | h | h
 ·exact .inr (.inl h)
 ·exact .inl h
 exact .inr (.inr h)
def zf0 (lo v:List UInt8):Prop:=lo = []∨le lo v
def zho (hi v:List UInt8):Prop:=hi = []∨le v hi
theorem zfy (a b:List UInt8):zd6 a b=a∨zd6 a b=b:=by unfold zd6;split;exact .inr rfl;exact .inl rfl
theorem zgd (a b:List UInt8):zc9 a b=a∨zc9 a b=b:=by unfold zc9;split;exact .inr rfl;exact .inl rfl
theorem zjp {x a b:List UInt8} (h:x=a∨x=b) (ha:zcu a=true) (hb:zcu b=true):zcu x=true:=by rcases h with rfl | rfl <;> assumption
theorem zqx {a b v:List UInt8}:zf0 (zd6 a b) v↔zf0 a v∧zf0 b v:=by
 unfold zd6
 by_cases h:a = []∨zck a b=true
 ·rw[if_pos h]
  refine⟨fun hb=>⟨?_,hb⟩,fun h=>h.2⟩
  rcases h with h | h
  ·exact .inl h
  obtain⟨h1,h2,h3⟩:=zii.1 h
  rcases hb with hb | hb
  ·exact absurd hb h2
  exact .inr (le_trans ((le_total a b).resolve_right h3) hb)
 rw[if_neg h]
 refine⟨fun ha=>⟨ha,?_⟩,fun h=>h.1⟩
 have h1:a≠[]:=fun e=>h (.inl e)
 have h2:zck a b=false:=Bool.eq_false_iff.2 fun e=>h (.inr e)
 rcases zij.1 h2 with h2 | h2 | h2
 ·exact absurd h2 h1
 ·exact .inl h2
 rcases ha with ha | ha
 ·exact absurd ha h1
 exact .inr (le_trans h2 ha)
theorem znx {a b v:List UInt8}:zho (zc9 a b) v↔zho a v∧zho b v:=by
 unfold zc9
 by_cases h:a = []∨zck b a=true
 ·rw[if_pos h]
  refine⟨fun hb=>⟨?_,hb⟩,fun h=>h.2⟩
  rcases h with h | h
  ·exact .inl h
  obtain⟨h1,h2,h3⟩:=zii.1 h
  rcases hb with hb | hb
  ·exact absurd hb h1
  exact .inr (le_trans hb ((le_total b a).resolve_right h3))
 rw[if_neg h]
 refine⟨fun ha=>⟨ha,?_⟩,fun h=>h.1⟩
 have h1:a≠[]:=fun e=>h (.inl e)
 have h2:zck b a=false:=Bool.eq_false_iff.2 fun e=>h (.inr e)
 rcases zij.1 h2 with h2 | h2 | h2
 ·exact .inl h2
 ·exact absurd h2 h1
 rcases ha with ha | ha
 ·exact absurd ha h1
 exact .inr (le_trans ha h2)
theorem zqw {a b:Sp} (ha:mayS a=true) (hb:mayS b=true):zcu (meetO a b).1=true∧zcu (meetO a b).2=true :=
 ⟨zjp (zfy _ _) (zcw.1 ha).1 (zcw.1 hb).1,zjp (zgd _ _) (zcw.1 ha).2.1 (zcw.1 hb).2.1⟩
theorem zr1 {a b:Sp} (ha:mayS a=true) (hb:mayS b=true):zcu (zf1 a b).1=true∧zcu (zf1 a b).2=true:=by
 unfold zf1
 rw[if_pos ⟨ha,hb⟩]
 refine⟨?_,?_⟩
 ·show zcu (if a.1≠[]∧b.1≠[] then zc9 a.1 b.1 else [])=true
  split
  ·exact zjp (zgd _ _) (zcw.1 ha).1 (zcw.1 hb).1
  rfl
 show zcu (if a.2≠[]∧b.2≠[] then zd6 a.2 b.2 else [])=true
 split
 ·exact zjp (zfy _ _) (zcw.1 ha).2.1 (zcw.1 hb).2.1
 rfl
theorem zi6 {a b:List UInt8} (ha:a≠[]) (hb:b≠[]):le (zc9 a b) a∧le (zc9 a b) b∧zc9 a b≠[]:=by
 unfold zc9
 by_cases h:zck b a=true
 ·rw[if_pos (.inr h)]
  obtain⟨_,_,h3⟩:=zii.1 h
  exact⟨(le_total b a).resolve_right h3,le_refl b,hb⟩
 rw[if_neg (by rintro (e | e);exact ha e;exact h e)]
 rcases zij.1 (Bool.eq_false_iff.2 h) with h2 | h2 | h2
 ·exact absurd h2 hb
 ·exact absurd h2 ha
 exact⟨le_refl a,h2,ha⟩
theorem zia {a b:List UInt8} (ha:a≠[]) (hb:b≠[]):le a (zd6 a b)∧le b (zd6 a b)∧zd6 a b≠[]:=by
 unfold zd6
 by_cases h:zck a b=true
 ·rw[if_pos (.inr h)]
  obtain⟨_,_,h3⟩:=zii.1 h
  exact⟨(le_total a b).resolve_right h3,le_refl b,hb⟩
 rw[if_neg (by rintro (e | e);exact ha e;exact h e)]
 rcases zij.1 (Bool.eq_false_iff.2 h) with h2 | h2 | h2
 ·exact absurd h2 ha
 ·exact absurd h2 hb
 exact⟨le_refl a,h2,ha⟩
theorem join_lo {a b:Sp} (ha:mayS a=true) (hb:mayS b=true):(zf1 a b).1 = []∨(a.1≠[]∧b.1≠[]∧(zf1 a b).1=zc9 a.1 b.1):=by
 unfold zf1
 rw[if_pos ⟨ha,hb⟩]
 by_cases h:a.1≠[]∧b.1≠[]
 ·exact .inr ⟨h.1,h.2,if_pos h⟩
 exact .inl (if_neg h)
theorem join_hi {a b:Sp} (ha:mayS a=true) (hb:mayS b=true):(zf1 a b).2 = []∨(a.2≠[]∧b.2≠[]∧(zf1 a b).2=zd6 a.2 b.2):=by
 unfold zf1
 rw[if_pos ⟨ha,hb⟩]
 by_cases h:a.2≠[]∧b.2≠[]
 ·exact .inr ⟨h.1,h.2,if_pos h⟩
 exact .inl (if_neg h)
theorem join_may {a b:Sp} (ha:mayS a=true) (hb:mayS b=true):mayS (zf1 a b)=true:=by
 have hB:=zr1 ha hb
 refine zcw.2 ⟨hB.1,hB.2,?_⟩
 rcases join_lo ha hb with h | ⟨h1,h2,h3⟩
 ·exact .inl h
 rcases join_hi ha hb with h | ⟨g1,g2,g3⟩
 ·exact .inr (.inl h)
 refine .inr (.inr ?_)
 rw[h3,g3]
 have hm:=(zcw.1 ha).2.2.resolve_left h1 |>.resolve_left g1
 exact le_trans (zi6 h1 h2).1 (le_trans hm (zia g1 g2).1)
end VerN

namespace SortM
variable {α : Type}
structure Swo (lt:α→α→Bool):Prop where
 asymm:∀ a b,lt a b=true→lt b a=false
 ntrans:∀ a b c,lt b a=false→lt c b=false→lt c a=false
inductive Sw (lt:α→α→Bool) (l:List α):List α→Prop
 | refl:Sw lt l l
 | step (p:List α) (x y:α) (q:List α):Sw lt l (p ++ x :: y :: q)→lt y x=true→Sw lt l (p ++ y :: x :: q)
def zbt (lt:α→α→Bool) (l:List α):Prop:=l.Pairwise fun a b=>lt b a=false
variable {lt : α → α → Bool}
theorem Sw.trans {a b c:List α} (h:Sw lt a b) (k:Sw lt b c):Sw lt a c:=by
 induction k with
 | refl=>exact h
 | step p x y q _ hlt ih=>exact .step p x y q ih hlt
theorem Sw.perm {a b:List α} (h:Sw lt a b):a.Perm b:=by
 induction h with
 | refl=>exact List.Perm.refl _
 | step p x y q _ _ ih=>exact ih.trans (List.Perm.append_left _ (List.Perm.swap _ _ _))
theorem Sw.ctx {a b:List α} (h:Sw lt a b) (u v:List α):Sw lt (u ++ a ++ v) (u ++ b ++ v):=by
 induction h with
 | refl=>exact .refl
 | step p x y q _ hlt ih =>
  have h1:u ++ (p ++ x :: y :: q) ++ v=(u ++ p) ++ x :: y :: (q ++ v):=by simp
  have h2:u ++ (p ++ y :: x :: q) ++ v=(u ++ p) ++ y :: x :: (q ++ v):=by simp
  rw[h1] at ih
  rw[h2]
  exact .step _ x y _ ih hlt
theorem Sw.app {a b c d:List α} (h:Sw lt a b) (k:Sw lt c d):Sw lt (a ++ c) (b ++ d):=by
 have h1:=h.ctx [] c
 have h2:=k.ctx b []
 simp only[List.nil_append,List.append_nil] at h1 h2
 exact h1.trans h2
theorem Sw.over (x:α):∀ (b:List α),(∀ y∈b,lt y x=true)→Sw lt (x :: b) (b ++ [x]):=by
 intro b
 induction b with
 | nil=>intro _;exact .refl
 | cons y b ih =>
  intro h
  have h1:Sw lt (x :: y :: b) (y :: x :: b):=.step [] x y b .refl (h y (by simp))
  have h2:=(ih (fun z hz=>h z (by simp[hz]))).ctx [y] []
  simp only[List.append_nil] at h2
  exact h1.trans h2
theorem Sw.blocks:∀ (a b:List α),(∀ x∈a,∀ y∈b,lt y x=true)→Sw lt (a ++ b) (b ++ a):=by
 intro a
 induction a with
 | nil=>intro b _;rw[List.append_nil];exact .refl
 | cons x a ih =>
  intro b h
  have h1:=(ih b (fun z hz=>h z (by simp[hz]))).ctx [x] []
  have h2:=(Sw.over x b (h x (by simp))).ctx [] a
  simp only[List.append_nil,List.nil_append] at h1 h2
  have e:x :: b ++ a = [x] ++ (b ++ a):=rfl
  rw[e] at h2
  refine h1.trans (h2.trans ?_)
  rw[List.append_assoc]
  exact .refl
def eqv (lt:α→α→Bool) (a x:α):Bool:=!lt a x && !lt x a
theorem eqv_of (h:Swo lt) {a x y:α} (hx:eqv lt a x=true) (hy:eqv lt a y=true):lt y x=false:=by
 unfold eqv at hx hy
 simp only[Bool.and_eq_true,Bool.not_eq_true'] at hx hy
 exact h.ntrans x a y hx.1 hy.2
theorem Sw.filter (h:Swo lt) {l m:List α} (k:Sw lt l m) (a:α):l.filter (eqv lt a)=m.filter (eqv lt a):=by
 induction k with
 | refl=>rfl
 | step p x y q _ hlt ih =>
  rw[ih]
  simp only[List.filter_append,List.filter_cons]
  cases hx:eqv lt a x <;> cases hy:eqv lt a y <;> simp
  rw[eqv_of h hx hy] at hlt
  cases hlt
theorem zko (h:Swo lt) (a:α):lt a a=false:=by
 cases e:lt a a
 ·rfl
 have:=h.asymm a a e;rw[e] at this;exact this
theorem eqv_self (h:Swo lt) (a:α):eqv lt a a=true:=by unfold eqv;rw[zko h a];rfl
theorem uniq (h:Swo lt):∀ (a b:List α),a.Perm b→(∀ x,a.filter (eqv lt x)=b.filter (eqv lt x))→zbt lt a→zbt lt b→a=b:=by
 intro a
 induction a with
 | nil=>intro b hp _ _ _;exact hp.nil_eq
 | cons x a ih =>
  intro b hp hf ha hb
  match b with
  | [] => exact absurd hp.symm.nil_eq (by simp)
  | y :: b =>
   have h1:lt y x=false:=by
    have hy:y∈x :: a:=hp.symm.subset (by simp)
    rcases List.mem_cons.1 hy with e | hy
    ·rw[e];exact zko h x
    exact (List.pairwise_cons.1 ha).1 y hy
   have h2:lt x y=false:=by
    have hx:x∈y :: b:=hp.subset (by simp)
    rcases List.mem_cons.1 hx with e | hx
    ·rw[e];exact zko h y
    exact (List.pairwise_cons.1 hb).1 x hx
   have h3:eqv lt x y=true:=by unfold eqv;rw[h1,h2];rfl
   have hx:=hf x
   rw[List.filter_cons,List.filter_cons,if_pos (eqv_self h x),if_pos h3] at hx
   injection hx with hxy _
   subst hxy
   congr 1
   refine ih b (List.Perm.cons_inv hp) (fun z=>?_) (List.pairwise_cons.1 ha).2 (List.pairwise_cons.1 hb).2
   have:=hf z
   rw[List.filter_cons,List.filter_cons] at this
   split at this
   ·injection this
   exact this
def ins (lt:α→α→Bool) (x:α):List α→List α
 | [] => [x]
 | y :: l=>if lt x y=true then x :: y :: l else y :: ins lt x l
def zb7 (lt:α→α→Bool) (l:List α):List α:=l.foldl (fun r x=>ins lt x r) []
theorem mem_ins (x z:α) (l:List α):z∈ins lt x l↔z=x∨z∈l:=by
 induction l with
 | nil=>simp[ins]
 | cons y l ih =>
  unfold ins
  split
  ·simp
  simp only[List.mem_cons,ih]
  constructor
  ·rintro (h | h | h)
   ·exact .inr (.inl h)
   ·exact .inl h
   exact .inr (.inr h)
  rintro (h | h | h)
  ·exact .inr (.inl h)
  ·exact .inl h
  exact .inr (.inr h)
theorem zui (h:Swo lt) (x:α) (l:List α) (hl:zbt lt l):zbt lt (ins lt x l):=by
 induction l with
 | nil=>simp[ins,zbt]
 | cons y l ih =>
  have hl':=List.pairwise_cons.1 hl
  unfold ins
  split
  ·rename_i hxy
   refine List.pairwise_cons.2 ⟨fun z hz=>?_,hl⟩
   rcases List.mem_cons.1 hz with e | hz
   ·rw[e];exact h.asymm _ _ hxy
   exact h.ntrans x y z (h.asymm _ _ hxy) (hl'.1 z hz)
  rename_i hxy
  refine List.pairwise_cons.2 ⟨fun z hz=>?_,ih hl'.2⟩
  rcases (mem_ins x z l).1 hz with e | hz
  ·rw[e];simpa using hxy
  exact hl'.1 z hz
theorem ins_sw (h:Swo lt) (x:α) (l:List α) (hl:zbt lt l):Sw lt (l ++ [x]) (ins lt x l):=by
 induction l with
 | nil=>exact .refl
 | cons y l ih =>
  have hl':=List.pairwise_cons.1 hl
  unfold ins
  split
  ·rename_i hxy
   have:∀ z∈y :: l,lt x z=true:=by
    intro z hz
    cases e:lt x z
    ·have h1:lt x y=false:=by
      rcases List.mem_cons.1 hz with e2 | hz
      ·rw[← e2];exact e
      exact h.ntrans y z x (hl'.1 z hz) e
     rw[hxy] at h1;cases h1
    rfl
   have h2:=Sw.blocks (lt:=lt) (y :: l) [x] (fun a ha b hb=>by simp at hb;subst hb;exact this a ha)
   exact h2
  have h2:=(ih hl'.2).ctx [y] []
  simp only[List.append_nil] at h2
  exact h2
theorem zkr (h:Swo lt):∀ (l r:List α),zbt lt r→zbt lt (l.foldl (fun r x=>ins lt x r) r)∧Sw lt (r ++ l) (l.foldl (fun r x=>ins lt x r) r):=by
 intro l
 induction l with
 | nil=>intro r hr;exact⟨hr,by rw[List.append_nil];exact .refl⟩
 | cons x l ih =>
  intro r hr
  obtain⟨h1,h2⟩:=ih (ins lt x r) (zui h x r hr)
  refine⟨h1,?_⟩
  have h3:=(ins_sw h x r hr).ctx [] l
  simp only[List.nil_append] at h3
  have e:r ++ [x] ++ l=r ++ x :: l:=by simp
  rw[e] at h3
  exact h3.trans h2
theorem zcd (h:Swo lt) (l:List α):zbt lt (zb7 lt l):=(zkr h l [] List.Pairwise.nil).1
theorem zei (h:Swo lt) (l:List α):Sw lt l (zb7 lt l):=by
 have:=(zkr h l [] List.Pairwise.nil).2
 rw[List.nil_append] at this
 exact this
theorem zh3 (h:Swo lt) {l a:List α} (hs:Sw lt l a) (ha:zbt lt a):a=zb7 lt l:=by
 have h1:=zei h l
 exact uniq h a (zb7 lt l) (hs.perm.symm.trans h1.perm) (fun x=>(hs.filter h x).symm.trans (h1.filter h x)) ha (zcd h l)
theorem zq2 (h:Swo lt) {l a:List α} (hs:Sw lt l a):zb7 lt a=zb7 lt l:=zh3 h (hs.trans (zei h a)) (zcd h a)
theorem zjh (h:Swo lt) {l:List α} (hl:zbt lt l):zb7 lt l=l:=(zh3 h .refl hl).symm
theorem zd4 (h:Swo lt) (l:List α):(zb7 lt l).length=l.length:=(zei h l).perm.length_eq.symm
theorem mem_ssort (h:Swo lt) (l:List α) (x:α):x∈zb7 lt l↔x∈l:=(zei h l).perm.symm.mem_iff
theorem zo2 (h:Swo lt) (a b:List α):zb7 lt (zb7 lt a ++ zb7 lt b)=zb7 lt (a ++ b):=zq2 h ((zei h a).app (zei h b))
theorem ssort_cut (h:Swo lt) (l1 l2 r1 r2:List α) (hx:∀ x∈l2,∀ y∈r1,lt y x=true) (h12:∀ a∈l1,∀ b∈l2,lt b a=false) (hr:∀ a∈r1,∀ b∈r2,lt b a=false) (hlr:∀ a∈l1,∀ b∈r2,lt b a=false) :
  zb7 lt (l1 ++ l2 ++ (r1 ++ r2))=zb7 lt (l1 ++ r1) ++ zb7 lt (l2 ++ r2):=by
 symm
 apply zh3 h
 ·have h1:=(Sw.blocks l2 r1 hx).ctx l1 r2
  have e1:l1 ++ (l2 ++ r1) ++ r2=l1 ++ l2 ++ (r1 ++ r2):=by simp
  have e2:l1 ++ (r1 ++ l2) ++ r2=(l1 ++ r1) ++ (l2 ++ r2):=by simp
  rw[e1,e2] at h1
  exact h1.trans ((zei h _).app (zei h _))
 refine List.pairwise_append.2 ⟨zcd h _,zcd h _,fun a ha b hb=>?_⟩
 rw[mem_ssort h] at ha hb
 rcases List.mem_append.1 ha with ha | ha <;> rcases List.mem_append.1 hb with hb | hb
 ·exact h12 a ha b hb
 ·exact hlr a ha b hb
 ·exact h.asymm _ _ (hx b hb a ha)
 exact hr a ha b hb
end SortM

namespace VerN
open Go.Lib SortM
abbrev Pt:=Option (Bool × List UInt8)
def covS (s:Sp):Pt→Prop
 | none=>s.1 = []
 | some (false,p)=>zf0 s.1 p∧zho s.2 p
 | some (true,p)=>zf0 s.1 p∧(s.2 = []∨¬ le s.2 p)
def cov (l:List Sp) (x:Pt):Prop:=∃ s∈l,covS s x
def bef (a b:Sp):Prop:=a.2≠[]∧b.1≠[]∧¬ le b.1 a.2
def Sep (l:List Sp):Prop:=(∀ s∈l,mayS s=true)∧l.Pairwise bef
theorem not_le_le {a b:List UInt8} (h:¬ le a b):le b a:=(le_total a b).resolve_left h
theorem Sep.tail {f:Sp} {F:List Sp} (h:Sep (f :: F)):Sep F:=⟨fun s hs=>h.1 s (by simp[hs]),(List.pairwise_cons.1 h.2).2⟩
def okb (lo hi:List UInt8):Prop:=lo = []∨hi = []∨le lo hi
theorem okb_bef {a b:Sp}:okb b.1 a.2↔¬ bef a b:=by
 unfold okb bef
 constructor
 ·rintro (h | h | h) ⟨h1,h2,h3⟩
  ·exact h2 h
  ·exact h1 h
  exact h3 h
 intro h
 by_cases h2:b.1 = []
 ·exact .inl h2
 by_cases h1:a.2 = []
 ·exact .inr (.inl h1)
 exact .inr (.inr (Classical.not_not.1 fun k=>h ⟨h1,h2,k⟩))
theorem zh6 {lo h k:List UInt8}:okb lo (zc9 h k)↔okb lo h∧okb lo k:=by
 by_cases e:lo = []
 ·unfold okb;simp[e]
 have hh:∀ x,okb lo x↔zho x lo:=fun x=>⟨fun h=>h.resolve_left e,fun h=>.inr h⟩
 rw[hh,hh,hh]
 exact znx
theorem zoq {x y hi:List UInt8}:okb (zd6 x y) hi↔okb x hi∧okb y hi:=by
 by_cases e:hi = []
 ·unfold okb;simp[e]
 have hh:∀ x,okb x hi↔zf0 x hi:=fun x=>⟨fun h=>h.elim .inl fun h=>.inr (h.resolve_left e),fun h=>h.elim .inl fun h=>.inr (.inr h)⟩
 rw[hh,hh,hh]
 exact zqx
theorem may_okb {s:Sp} (h:mayS s=true):okb s.1 s.2:=(zcw.1 h).2.2
theorem meet_iff {a b:Sp} (ha:mayS a=true) (hb:mayS b=true):ze9 a b=true↔¬ bef a b∧¬ bef b a:=by
 unfold ze9
 rw[ha,hb,Bool.true_and,Bool.true_and,zcw]
 obtain⟨h1,h2⟩:=zqw ha hb
 rw[← okb_bef,← okb_bef]
 constructor
 ·rintro⟨_,_,h⟩
  have h:okb (zd6 a.1 b.1) (zc9 a.2 b.2):=h
  rw[zoq,zh6,zh6] at h
  exact⟨h.2.1,h.1.2⟩
 rintro⟨k1,k2⟩
 refine⟨h1,h2,?_⟩
 show okb (zd6 a.1 b.1) (zc9 a.2 b.2)
 rw[zoq,zh6,zh6]
 exact⟨⟨may_okb ha,k2⟩,k1,may_okb hb⟩
theorem sooner_or {a b:List UInt8} (ha:a≠[]) (hb:b≠[]) (p:List UInt8):le (zc9 a b) p↔le a p∨le b p:=by
 obtain⟨h1,h2,_⟩:=zi6 ha hb
 constructor
 ·intro h
  rcases zgd a b with e | e
  ·rw[e] at h;exact .inl h
  rw[e] at h;exact .inr h
 rintro (h | h)
 ·exact le_trans h1 h
 exact le_trans h2 h
theorem later_or {a b:List UInt8} (ha:a≠[]) (hb:b≠[]) (p:List UInt8):le p (zd6 a b)↔le p a∨le p b:=by
 obtain⟨h1,h2,_⟩:=zia ha hb
 constructor
 ·intro h
  rcases zfy a b with e | e
  ·rw[e] at h;exact .inl h
  rw[e] at h;exact .inr h
 rintro (h | h)
 ·exact le_trans h h1
 exact le_trans h h2
theorem later_nle {a b:List UInt8} (ha:a≠[]) (hb:b≠[]) (p:List UInt8):¬ le (zd6 a b) p↔¬ le a p∨¬ le b p:=by
 obtain⟨h1,h2,_⟩:=zia ha hb
 constructor
 ·intro h
  rcases zfy a b with e | e
  ·rw[e] at h;exact .inl h
  rw[e] at h;exact .inr h
 rintro (h | h) k
 ·exact h (le_trans h1 k)
 exact h (le_trans h2 k)
theorem zh8 {a b:Sp} (ha:mayS a=true) (hb:mayS b=true):zf1 a b=(if a.1≠[]∧b.1≠[] then zc9 a.1 b.1 else [],if a.2≠[]∧b.2≠[] then zd6 a.2 b.2 else []):=by
 unfold zf1;rw[if_pos ⟨ha,hb⟩]
theorem zm7 {a b:Sp} (ha:mayS a=true) (hb:mayS b=true) (p:List UInt8):zf0 (zf1 a b).1 p↔zf0 a.1 p∨zf0 b.1 p:=by
 rw[zh8 ha hb]
 by_cases h:a.1≠[]∧b.1≠[]
 ·have e:=sooner_or h.1 h.2 p
  have n:=(zi6 h.1 h.2).2.2
  simp only[if_pos h]
  unfold zf0
  simp only[h.1,h.2,n,false_or,e]
 simp only[if_neg h]
 refine⟨fun _=>?_,fun _=>.inl rfl⟩
 by_cases h1:a.1 = []
 ·exact .inl (.inl h1)
 by_cases h2:b.1 = []
 ·exact .inr (.inl h2)
 exact absurd ⟨h1,h2⟩ h
theorem join_nil {a b:Sp} (ha:mayS a=true) (hb:mayS b=true):(zf1 a b).1 = []↔a.1 = []∨b.1 = []:=by
 rw[zh8 ha hb]
 by_cases h:a.1≠[]∧b.1≠[]
 ·have n:=(zi6 h.1 h.2).2.2
  simp only[if_pos h,n,h.1,h.2,or_self]
 simp only[if_neg h,true_iff]
 by_cases h1:a.1 = []
 ·exact .inl h1
 by_cases h2:b.1 = []
 ·exact .inr h2
 exact absurd ⟨h1,h2⟩ h
theorem zuf {a b:Sp} (ha:mayS a=true) (hb:mayS b=true) (p:List UInt8):zho (zf1 a b).2 p↔zho a.2 p∨zho b.2 p:=by
 rw[zh8 ha hb]
 by_cases h:a.2≠[]∧b.2≠[]
 ·have e:=later_or h.1 h.2 p
  have n:=(zia h.1 h.2).2.2
  simp only[if_pos h]
  unfold zho
  simp only[h.1,h.2,n,false_or,e]
 simp only[if_neg h]
 refine⟨fun _=>?_,fun _=>.inl rfl⟩
 by_cases h1:a.2 = []
 ·exact .inl (.inl h1)
 by_cases h2:b.2 = []
 ·exact .inr (.inl h2)
 exact absurd ⟨h1,h2⟩ h
theorem join_gap {a b:Sp} (ha:mayS a=true) (hb:mayS b=true) (p:List UInt8):((zf1 a b).2 = []∨¬ le (zf1 a b).2 p)↔(a.2 = []∨¬ le a.2 p)∨(b.2 = []∨¬ le b.2 p):=by
 rw[zh8 ha hb]
 by_cases h:a.2≠[]∧b.2≠[]
 ·have e:=later_nle h.1 h.2 p
  have n:=(zia h.1 h.2).2.2
  simp only[if_pos h,h.1,h.2,n,false_or,e]
 simp only[if_neg h,true_or,true_iff]
 by_cases h1:a.2 = []
 ·exact .inl (.inl h1)
 by_cases h2:b.2 = []
 ·exact .inr (.inl h2)
 exact absurd ⟨h1,h2⟩ h
theorem cross {a b:Sp} (h:¬ bef a b) {p:List UInt8} (hlo:zf0 a.1 p) (hhi:zho b.2 p):zho a.2 p∨zf0 b.1 p:=by
 by_cases h1:zho a.2 p
 ·exact .inl h1
 by_cases h2:zf0 b.1 p
 ·exact .inr h2
 exfalso
 have a1:a.2≠[]:=fun e=>h1 (.inl e)
 have b1:b.1≠[]:=fun e=>h2 (.inl e)
 have a2:¬ le p a.2:=fun e=>h1 (.inr e)
 have b2:¬ le b.1 p:=fun e=>h2 (.inr e)
 exact h ⟨a1,b1,fun k=>b2 (le_trans k (not_le_le a2))⟩
theorem zpj {a b:Sp} (h:¬ bef a b) {p:List UInt8} (hlo:zf0 a.1 p) (hhi:b.2 = []∨¬ le b.2 p):(a.2 = []∨¬ le a.2 p)∨zf0 b.1 p:=by
 by_cases h1:a.2 = []∨¬ le a.2 p
 ·exact .inl h1
 by_cases h2:zf0 b.1 p
 ·exact .inr h2
 exfalso
 have a1:a.2≠[]:=fun e=>h1 (.inl e)
 have b1:b.1≠[]:=fun e=>h2 (.inl e)
 have a2:le a.2 p:=Classical.not_not.1 fun e=>h1 (.inr e)
 have b2:¬ le b.1 p:=fun e=>h2 (.inr e)
 exact h ⟨a1,b1,fun k=>b2 (le_trans k a2)⟩
theorem join_cov {a b:Sp} (ha:mayS a=true) (hb:mayS b=true) (hm:ze9 a b=true) (x:Pt):covS (zf1 a b) x↔covS a x∨covS b x:=by
 obtain⟨h1,h2⟩:=(meet_iff ha hb).1 hm
 match x with
 | none=>exact join_nil ha hb
 | some (false,p) =>
  show zf0 _ p∧zho _ p↔(zf0 _ p∧zho _ p)∨(zf0 _ p∧zho _ p)
  rw[zm7 ha hb,zuf ha hb]
  constructor
  ·rintro⟨l | l,u | u⟩
   ·exact .inl ⟨l,u⟩
   ·rcases cross h1 l u with k | k
    ·exact .inl ⟨l,k⟩
    exact .inr ⟨k,u⟩
   ·rcases cross h2 l u with k | k
    ·exact .inr ⟨l,k⟩
    exact .inl ⟨k,u⟩
   exact .inr ⟨l,u⟩
  rintro (⟨l,u⟩ | ⟨l,u⟩)
  ·exact⟨.inl l,.inl u⟩
  exact⟨.inr l,.inr u⟩
 | some (true,p) =>
  show zf0 _ p∧(_∨_)↔(zf0 _ p∧(_∨_))∨(zf0 _ p∧(_∨_))
  rw[zm7 ha hb,join_gap ha hb]
  constructor
  ·rintro⟨l | l,u | u⟩
   ·exact .inl ⟨l,u⟩
   ·rcases zpj h1 l u with k | k
    ·exact .inl ⟨l,k⟩
    exact .inr ⟨k,u⟩
   ·rcases zpj h2 l u with k | k
    ·exact .inr ⟨l,k⟩
    exact .inl ⟨k,u⟩
   exact .inr ⟨l,u⟩
  rintro (⟨l,u⟩ | ⟨l,u⟩)
  ·exact⟨.inl l,.inl u⟩
  exact⟨.inr l,.inr u⟩
def ltLo (a b:List UInt8):Bool:=decide (b≠[]) && (decide (a = []) || decide (zc6 a b < 0))
def loLe (a b:List UInt8):Prop:=a = []∨(b≠[]∧le a b)
theorem ltLo_no {a b:List UInt8}:ltLo b a=false↔loLe a b:=by
 have h:¬ zc6 b a < 0↔le a b:=by
  have:=zdf.neg a b
  unfold le;omega
 unfold ltLo loLe
 simp only[Bool.and_eq_false_iff,Bool.or_eq_false_iff,decide_eq_false_iff_not,ne_eq,Decidable.not_not,h]
theorem cov_perm {a b:List Sp} (h:a.Perm b) (p:Pt):cov a p↔cov b p:=by
 unfold cov
 simp only[h.mem_iff]
end VerN

section
open Go.RowKit
theorem zmv {α:Type} {R:Rd α} {w:World} {B:Nat} {e:TypeId} {v:Value} {vs:List Value} {l:List α} (hlen:vs.length=l.length) (h:w.ownsRow B e 1 v l.length vs) (hr:∀ (i:Nat) u x,vs[i]? = some u→l[i]? = some x→R w [u] x):zal 1 R w [v] l:=by
 obtain⟨a,cap,rfl,h1,h2,h3⟩:=Sl.of_owns h
 refine⟨a,cap,rfl,h1,h2,fun i f hi=>?_⟩
 have hil:=(List.getElem?_eq_some_iff.1 hi).1
 have hiv:i < vs.length:=by omega
 obtain⟨b,off,ha,hc⟩:=h3 i vs[i] (List.getElem?_eq_getElem hiv)
 refine⟨b,off,[vs[i]],ha,rfl,fun j u hu=>?_,hr i _ f (List.getElem?_eq_getElem hiv) hi⟩
 have hj:j=0:=by have:=(List.getElem?_eq_some_iff.1 hu).1;simp at this;omega
 subst hj
 simp at hu
 subst hu
 simpa using hc
end

section
open Go.RowKit Go.Lib VerN
end

section
open Go.RowKit Go.Lib VerN
end

section
open Go.RowKit Go.Lib Go.Sort
def zcz (x y:Int):Int:=if x < y then -1 else if y < x then 1 else 0
theorem zl1 (x y:Int) (w:World):Calls Tryz.prog 169 #[.int .i64 x,.int .i64 y] w fun e w'=>e = .returned (.int .i64 (zcz x y))∧w=w':=by
 by_cases h1:x < y
 ·have e:zcz x y = -1:=by unfold zcz;rw[if_pos h1]
  rw[e]
  clear e
  go_enter Tryz.func169,Tryz.ntmps169
  go_wp2
  go_ret
  exact⟨rfl,rfl⟩
 have h1':y≤x:=by omega
 by_cases h2:y < x
 ·have e:zcz x y=1:=by unfold zcz;rw[if_neg h1,if_pos h2]
  rw[e]
  clear e h1
  go_enter Tryz.func169,Tryz.ntmps169
  go_wp2
  go_ret
  exact⟨rfl,rfl⟩
 have e:zcz x y=0:=by unfold zcz;rw[if_neg h1,if_neg h2]
 obtain rfl:x=y:=by omega
 rw[e]
 clear e h1 h2 h1'
 go_enter Tryz.func169,Tryz.ntmps169
 go_wp2
 go_ret
 exact⟨rfl,rfl⟩
def orOf (l:List Int):Int:=match l with
 | [] => 0
 | x :: r=>if x≠0 then x else orOf r
theorem orOf_snoc (l:List Int) (k:Nat) (h:k < l.length) (h0:orOf (l.take k)=0):orOf (l.take (k+1))=l[k]:=by
 induction l generalizing k with
 | nil=>simp at h
 | cons x r ih =>
  match k with
  | 0=>simp[orOf];intro h;simp[h]
  | k+1 =>
   have h1:x=0:=by
    rw[List.take_succ_cons,orOf] at h0
    split at h0
    ·rename_i hx;exact absurd h0 hx
    rename_i hx;simpa using hx
   subst h1
   have:=ih k (by simpa using h) (by simpa [orOf] using h0)
   simpa [orOf] using this
theorem orOf_all (l:List Int) (k:Nat) (h:orOf (l.take k)≠0):orOf l=orOf (l.take k):=by
 induction l generalizing k with
 | nil=>simp
 | cons x r ih =>
  match k with
  | 0=>simp[orOf] at h
  | k+1 =>
   rw[List.take_succ_cons,orOf] at h ⊢
   rw[orOf]
   split
   ·rfl
   rename_i hx
   rw[if_neg hx] at h
   exact ih k h
theorem or_any (b off cap:Nat) (l:List Int) (w:World) (hl:l.length≤1000) (hc:∀ i x,l[i]? = some x→w.cell? ⟨b,off+i,none⟩=some (.int .i64 x)) :
  Calls Tryz.prog 168 #[.slice (some ⟨b,off,none⟩) l.length cap] w fun e w'=>e = .returned (.int .i64 (orOf l))∧w=w':=by
 obtain⟨n,hn⟩ : ∃ n,n=l.length:=⟨_,rfl⟩
 rw[← hn] at hl ⊢
 obtain⟨Hn,Hc⟩:=hd2 hn hc;clear hn hc
 go_enter Tryz.func168,Tryz.ntmps168
 go_wp2_with fail
 go_loop [8] (fun i=>∃ k:Nat,k≤n∧i = .int .i64 k∧orOf (l.take k)=0) (fun i=>n - (RowKit.intOf i).toNat)
 case atStart=>exact⟨0,Nat.zero_le _,rfl,by simp[orOf]⟩
 case round =>
  obtain⟨k,hk,rfl,h0⟩:=hrel
  by_cases hlt:k < n
  ·have hkl:k < l.length:=by have:=Hn.out;omega
   obtain⟨x,hx⟩ : ∃ x,x=l[k]'hkl:=⟨_,rfl⟩
   have c:=Hc.out k x (by rw[hx];exact List.getElem?_eq_getElem hkl)
   have hs:=orOf_snoc l k hkl h0
   rw[← hx] at hs
   by_cases hz:x=0
   ·have e1:(x != 0)=false:=by rw[hz];rfl
    have h1:orOf (l.take (k+1))=0:=by rw[hs,hz]
    obtain⟨Hx,Hs,H0,Hz,H1⟩:=hd5 hx hs h0 hz h1;clear hx hs h0 hz h1
    go_wp2_with fail
    go_round
    case rel=>exact⟨k+1,by omega,by go_num,H1.out⟩
    case measure=>simp[RowKit.intOf];omega
   have e1:(x != 0)=true:=by simpa using hz
   have h1:orOf l=x:=by rw[orOf_all l (k+1) (by rw[hs];exact hz),hs]
   obtain⟨Hx,Hs,H0,Hz,H1⟩:=hd5 hx hs h0 hz h1;clear hx hs h0 hz h1
   go_wp2_with fail
   go_ret
   exact⟨zfu (by rw[H1.out]),rfl⟩
  have h1:orOf l=0:=by
   rw[← h0,List.take_of_length_le (by have:=Hn.out;omega)]
  obtain⟨H0,H1⟩:=hd2 h0 h1;clear h0 h1
  go_wp2_with fail
  go_ret
  exact⟨zfu (by rw[H1.out]),rfl⟩
end

section
open Go.RowKit Go.Lib VerN
theorem less_dec (x y:ByteArray):Op.bytesLess x.toList y.toList=decide (x.data.toList < y.data.toList):=by
 rw[Go.Proofs.bytesLess_eq,toList_data,toList_data]
theorem zpk (x y:ByteArray) (w:World):Calls Tryz.prog 170 #[.string x,.string y] w fun e w'=>e = .returned (.int .i64 (cmpW x.data.toList y.data.toList))∧w=w':=by
 obtain⟨p,hp⟩ : ∃ p,p=Op.bytesLess x.toList y.toList:=⟨_,rfl⟩
 obtain⟨q,hq⟩ : ∃ q,q=(x.toList == y.toList):=⟨_,rfl⟩
 have e:cmpW x.data.toList y.data.toList=if p=true then -1 else if q=true then 0 else 1:=by
  unfold cmpW
  rw[hp,hq,less_dec,Txt.eq_dec]
  by_cases h1:x.data.toList < y.data.toList
  ·rw[if_pos h1,decide_eq_true h1];rfl
  rw[if_neg h1,decide_eq_false h1]
  by_cases h2:x=y
  ·rw[decide_eq_true h2,if_neg (by rw[h2];exact List.lt_irrefl _)];rfl
  rw[decide_eq_false h2,if_pos (dec_ne (fun e=>h2 (Txt.ext e)) h1)];rfl
 rw[e]
 have hpe:=hp.symm
 have hqe:=hq.symm
 clear e
 cases p with
 | true =>
  obtain⟨Hp,Hq⟩:=hd2 hp hq;clear hp hq
  go_enter Tryz.func170,Tryz.ntmps170
  go_wp2
  go_ret
  exact⟨rfl,rfl⟩
 | false =>
  cases q with
  | true =>
   obtain⟨Hp,Hq⟩:=hd2 hp hq;clear hp hq
   go_enter Tryz.func170,Tryz.ntmps170
   go_wp2
   go_ret
   exact⟨rfl,rfl⟩
  | false =>
   obtain⟨Hp,Hq⟩:=hd2 hp hq;clear hp hq
   go_enter Tryz.func170,Tryz.ntmps170
   go_wp2
   go_ret
   exact⟨rfl,rfl⟩
end

section
open Go.RowKit Go.Lib VerN
theorem zdo (s:ByteArray):s.data.toList = []↔s.size=0:=by rw[← Txt.len];exact List.length_eq_zero_iff.symm
end

section
open Go.RowKit Go.Lib VerN
def zlr (c:UInt8) (l:List UInt8) (k f:Nat) (done:List (List UInt8)):Prop:=f≤k∧((k≤l.length∧cutL c l=done ++ cutF c ((l.take k).drop f) (l.drop k))∨(k=l.length+1∧cutL c l=done))
theorem zlr.start (c:UInt8) (l:List UInt8):zlr c l 0 0 []:=⟨Nat.le_refl _,.inl ⟨Nat.zero_le _,rfl⟩⟩
theorem zlr.skip {c:UInt8} {l:List UInt8} {k f:Nat} {done:List (List UInt8)} (h:zlr c l k f done) (hk:k < l.length) (hne:l[k]≠c):zlr c l (k+1) f done:=by
 obtain⟨hf,⟨_,h⟩ | ⟨h,_⟩⟩:=h
 ·refine⟨by omega,.inl ⟨by omega,?_⟩⟩
  rw[h,List.drop_eq_getElem_cons hk,zea _ _ hne,List.take_succ_eq_append_getElem hk,List.drop_append_of_le_length (by rw[List.length_take];omega)]
 omega
theorem zlr.last {c:UInt8} {l:List UInt8} {k f:Nat} {done:List (List UInt8)} (h:zlr c l k f done) (hk:k=l.length):zlr c l (k+1) (k+1) (done ++ [(l.take k).drop f]):=by
 obtain⟨hf,⟨_,h⟩ | ⟨h,_⟩⟩:=h
 ·refine⟨Nat.le_refl _,.inr ⟨by omega,?_⟩⟩
  rw[h,hk,List.drop_eq_nil_of_le (Nat.le_refl _)]
  rfl
 omega
theorem zlr.len {c:UInt8} {l:List UInt8} {k f:Nat} {done:List (List UInt8)} (h:zlr c l k f done):done.length≤l.length+1:=by
 have h1:=(znk c l).2
 obtain⟨hf,⟨_,h⟩ | ⟨_,h⟩⟩:=h
 ·rw[h,List.length_append] at h1;omega
 rw[h] at h1;exact h1
end

section
open Go.RowKit Go.Lib VerN
end

section
open Go.RowKit Go.Lib VerN
end

section
open Go.RowKit Go.Lib VerN
def zpv (l:List UInt8) (r m:Int) (x:ByteArray):Prop:=r=zdx l∧m=zhb l∧x.data.toList=zf3 l
theorem zd0 {fn:Func} {p u:Tmp} (hres:fn.results=#[.cell p 199,.tmp u]) {R:Ending→World→Prop} {a:Act} {w:World} {g:Nat} {x y z b:Value} (hp:a.tmps.getD p undef = .pointer (some ⟨g,0,none⟩)) (hu:a.tmps.getD u undef=b)
  (hg:w.heap[g]? = some (.cells #[x,y,z] 199 (0,0))) (hd:a.defers = []) (hR:R (.returned (.tuple #[.agg #[x,y,z],b])) w):bodyPost Tryz.prog fn R .ret a w:=by
 refine bodyPost_ret (v:=.tuple #[.agg #[x,y,z],b]) ?_ hd hR
 rw[results_cell_tmp hres,hp,hu]
 simp only[asAddr,Sem.run_pure,Result.andThen,run_loadVar_row w g 199 199 _ _ _ hg Tryz.underlying199 rfl (by kernel_rfl)]
theorem zio {v:Value} {a b:Bool} (h:a=b):Ending.returned (.tuple #[v,.bool a]) = .returned (.tuple #[v,.bool b]):=by rw[h]
theorem zc8 {w:World} {g:Nat} {t:TypeId} {x y z:Value} (h:w.heap[g]? = some (.cells #[x,y,z] t (0,0))):w.cell? ⟨g,0,none⟩=some x∧w.cell? ⟨g,1,none⟩=some y∧w.cell? ⟨g,2,none⟩=some z∧w.frozen? ⟨g,0,none⟩=false∧w.frozen? ⟨g,1,none⟩=false∧w.frozen? ⟨g,2,none⟩=false:=by
 have b0:=za0 h 0
 have b1:=za0 h 1
 have b2:=za0 h 2
 simp only[List.getElem?_toArray,List.getElem?_cons_zero,List.getElem?_cons_succ] at b0 b1 b2
 exact⟨b0,b1,b2,za8 h 0,za8 h 1,za8 h 2⟩
theorem zh0 {w:World} {g:Nat} {t:TypeId} {x y z:Value} (u v q:Value) (h:w.heap[g]? = some (.cells #[x,y,z] t (0,0))):(((w.setCell ⟨g,0,none⟩ u).setCell ⟨g,1,none⟩ v).setCell ⟨g,2,none⟩ q).heap[g]? = some (.cells #[u,v,q] t (0,0)):=by
 have k0:=heap_setCell_same _ g 0 _ _ u h
 have k1:=heap_setCell_same _ g 1 _ _ v k0
 have k2:=heap_setCell_same _ g 2 _ _ q k1
 exact k2
theorem zh1 {B:Nat} {a w:World} {g:Nat} (u v q:Value) (h:Below B a w) (hg:B≤g):Below B a (((w.setCell ⟨g,0,none⟩ u).setCell ⟨g,1,none⟩ v).setCell ⟨g,2,none⟩ q) :=
 ((h.setCell (p:=⟨g,0,none⟩) hg _).setCell (p:=⟨g,1,none⟩) hg _).setCell (p:=⟨g,2,none⟩) hg _
def zsc (l:List UInt8) (w:World) (e:Ending) (w':World):Prop :=
 (∃ r m x,e = .returned (.tuple #[.agg #[.int .i64 r,.int .i64 m,.string x],.bool (zem l)])∧(zem l=true→zpv l r m x))∧Below w.heap.size w w'
theorem read_part {l:List UInt8} (h:∀ v,atoiAll l≠.ok v):zem l=zdw l:=by
 have h1:=read_is l
 unfold zol at h1
 unfold zem
 rw[← h1]
 cases ha:atoiAll l with
 | ok v=>exact absurd ha (h v)
 | range=>unfold zdw;rw[Bool.and_comm]
 | _=>unfold zdw;rw[Bool.and_comm]
theorem zsb {l:List UInt8} {v:Int} (h:atoiAll l = .ok v):zem l=(decide (0≤v) && decide (v≤999999999) && decide (itoa v=l)):=by
 have h1:=read_is l
 unfold zol at h1
 rw[h] at h1
 unfold zem
 rw[← h1]
theorem num_part {l:List UInt8} {v:Int} (h:atoiAll l = .ok v) (hp:zem l=true):zpv l 2 v ⟨#[]⟩:=by
 have hd:zhz l=true:=by
  unfold zem at hp
  cases hl:zdw l
  ·rw[hl] at hp;simpa using hp
  exfalso
  have h0:=zsb h
  rw[show zem l=true from hp] at h0
  have h1:=h0.symm
  simp only[Bool.and_eq_true,decide_eq_true_eq] at h1
  obtain⟨u,rfl⟩ : ∃ u:Nat,v=u:=⟨v.toNat,by omega⟩
  have h2:=h1.2
  rw[zna] at h2
  have hk:=dec_dig u
  rw[h2] at hk
  have:=(zsj hl).1
  unfold digs at this
  rw[hk.1] at this
  have hne:=hk.2.1
  cases l with
  | nil=>exact hne rfl
  | cons _ _=>simp at this
 have e:=zt1 hd
 rw[h] at e
 injection e with e
 refine⟨(rk_dig hd).symm,?_,?_⟩
 ·rw[e];unfold zhb;rw[if_neg (by rw[(znj hd).2.1];simp)]
 unfold zf3;rw[if_neg (by rw[(znj hd).2.1];simp)]
theorem let_part {l:List UInt8} (hp:zdw l=true) {x:ByteArray} (hx:x.data.toList=l):zpv l 0 0 x :=
 ⟨(rk_let hp).symm,by unfold zhb;rw[if_pos hp],by unfold zf3;rw[if_pos hp,hx]⟩
theorem read_any (s:ByteArray) (hs:s.size≤1000000) {w:World} (hD:zbl w):Calls Tryz.prog 143 #[.string s] w (zsc s.data.toList w):=by
 obtain⟨l,hl⟩ : ∃ l,l=s.data.toList:=⟨_,rfl⟩
 have hb1:Below w.heap.size w (w.alloc (.cells #[.int .i64 0,.int .i64 0,.string ⟨#[]⟩] 199)):=za2 _ _
 have hr1:(w.alloc (.cells #[.int .i64 0,.int .i64 0,.string ⟨#[]⟩] 199)).heap[w.heap.size]? = some (.cells #[.int .i64 0,.int .i64 0,.string ⟨#[]⟩] 199 (0,0)):=za9 rfl
 have hA:=atoi_any s (by omega) (hD.below hb1)
 have hln:l.length=s.size:=by rw[hl];exact Txt.len s
 rw[← hl] at hA ⊢
 obtain⟨Hl,Hb1,Hr1,HA,Hln⟩:=hd5 hl hb1 hr1 hA hln;clear hl hb1 hr1 hA hln
 go_enter Tryz.func143,Tryz.ntmps143
 go_wp2_with fail
 refine HA.out.mono ?_
 rintro e w2 ⟨⟨v,hv,rfl⟩ | ⟨hv,v,N,rfl⟩,hb2⟩
 ·have hp:=zsb hv
  have hrow:=za1 hb2 Hr1.out
  have hb:=Hb1.out.trans (hb2.mono Hb1.out.size)
  have hbd:=atoiAll_bounds hv
  obtain⟨c0,c1,c2,f0,f1,f2⟩:=zc8 hrow
  have hnum:=num_part hv
  by_cases h0:0≤v
  ·by_cases h9:v≤999999999
   ·have k1:decide (0≤v)=true:=decide_eq_true h0
    have k2:decide (v≤999999999)=true:=decide_eq_true h9
    have hI:=itoa_any v (by omega) (by omega) (hD.below hb)
    have hpb:(itoa v == s.toList)=zem l:=by
     rw[hp,decide_eq_true h0,decide_eq_true h9,toList_data,← Hl.out]
     simp only[Bool.and_self,Bool.true_and]
     by_cases h:itoa v=l
     ·rw[h];simp
     rw[decide_eq_false h];exact beq_eq_false_iff_ne.2 h
    obtain⟨Hp,Hv,Hrow,Hb,Hbd,Hnum,HI,Hpb,H0,H9,HD,Hs⟩:=hd12 hp hv hrow hb hbd hnum hI hpb h0 h9 hD hs;clear hp hv hrow hb hbd hnum hI hpb h0 h9 hD hs
    clear c0 c1 c2 f0 f1 f2 hb2
    go_wp2_with fail
    refine HI.out.mono ?_
    rintro e w3 ⟨rfl,hb3⟩
    have hrow3:=za1 hb3 Hrow.out
    obtain⟨c0,c1,c2,f0,f1,f2⟩:=zc8 hrow3
    have hbw:=Hb.out.trans (hb3.mono Hb.out.size)
    obtain⟨Hrow3,Hbw,Hb3⟩:=hd3 hrow3 hbw hb3;clear hrow3 hbw hb3
    go_wp2_with fail
    refine zd0 rfl rfl rfl (zh0 _ _ _ Hrow3.out) rfl ?_
    exact⟨⟨_,_,_,zio Hpb.out,Hnum.out⟩,zh1 _ _ _ Hbw.out (Nat.le_refl _)⟩
   have k1:decide (0≤v)=true:=decide_eq_true h0
   have k2:decide (v≤999999999)=false:=decide_eq_false h9
   have hpb:zem l=false:=by rw[hp,decide_eq_false h9];simp
   obtain⟨Hp,Hv,Hrow,Hb,Hbd,Hnum,Hpb,H0,H9,HD,Hs⟩:=hd11 hp hv hrow hb hbd hnum hpb h0 h9 hD hs;clear hp hv hrow hb hbd hnum hpb h0 h9 hD hs
   go_wp2_with fail
   refine zd0 rfl rfl rfl (zh0 _ _ _ Hrow.out) rfl ?_
   exact⟨⟨_,_,_,zio Hpb.out.symm,Hnum.out⟩,zh1 _ _ _ Hb.out (Nat.le_refl _)⟩
  have k1:decide (0≤v)=false:=decide_eq_false h0
  have hpb:zem l=false:=by rw[hp,decide_eq_false h0];simp
  obtain⟨Hp,Hv,Hrow,Hb,Hbd,Hnum,Hpb,H0,HD,Hs⟩:=hd10 hp hv hrow hb hbd hnum hpb h0 hD hs;clear hp hv hrow hb hbd hnum hpb h0 hD hs
  go_wp2_with fail
  refine zd0 rfl rfl rfl (zh0 _ _ _ Hrow.out) rfl ?_
  exact⟨⟨_,_,_,zio Hpb.out.symm,Hnum.out⟩,zh1 _ _ _ Hb.out (Nat.le_refl _)⟩
 have hp:=read_part hv
 have hrow:=za1 hb2 Hr1.out
 have hb:=Hb1.out.trans (hb2.mono Hb1.out.size)
 obtain⟨c0,c1,c2,f0,f1,f2⟩:=zc8 hrow
 obtain⟨sz,hsz⟩ : ∃ sz,sz=s.size:=⟨_,rfl⟩
 obtain⟨Hp,Hv,Hrow,Hb,HD⟩:=hd5 hp hv hrow hb hD;clear hp hv hrow hb hD
 clear hb2
 go_wp2_with fail
 go_loop [6,30] (fun _ i=>∃ k:Nat,k≤s.size∧i = .int .i64 k∧(l.take k).all zp3=true) (fun _ i=>s.size - (RowKit.intOf i).toNat)
 case atStart=>exact⟨0,Nat.zero_le _,rfl,by simp⟩
 case round =>
  obtain⟨k,hk,rfl,hall⟩:=hrel
  by_cases hlt:k < s.size
  ·have hkl:k < l.length:=by have:=Hln.out;omega
   obtain⟨n,hn⟩ : ∃ n,n=s[k].toNat:=⟨_,rfl⟩
   have hn256:n < 256:=by rw[hn];exact s[k].toNat_lt
   have hsk:s[k].toNat=n:=hn.symm
   have e:l[k]=s[k]:=by simp only[Hl.out];rfl
   have hyes:97≤n→n≤122→(l.take (k+1)).all zp3=true:=fun h1 h2=>by
    rw[List.take_succ_eq_append_getElem hkl,List.all_append,hall]
    simp only[List.all_cons,List.all_nil,Bool.and_true,Bool.true_and]
    rw[zib,e,hsk];exact⟨h1,h2⟩
   have hno:¬ (97≤n∧n≤122)→zem l=false:=fun h=>by
    rw[Hp.out,Bool.eq_false_iff]
    intro h2
    unfold zdw at h2
    rw[Bool.and_eq_true] at h2
    have:=List.all_eq_true.1 h2.2 l[k] (List.getElem_mem hkl)
    rw[zib,e,hsk] at this
    exact h this
   clear hn e hkl
   rcases Nat.lt_or_ge n 97 with h1 | h1
   ·have hf:=hno (by omega)
    have k1:decide ((n:Int) < 97)=true:=decide_eq_true (by omega)
    obtain⟨Hall,Hyes,Hno,Hf⟩:=hd4 hall hyes hno hf;clear hall hyes hno hf
    go_wp2_with fail
    refine zd0 rfl rfl rfl (zh0 _ _ _ Hrow.out) rfl ?_
    exact⟨⟨_,_,_,zio Hf.out.symm,fun h=>by rw[Hf.out] at h;cases h⟩,zh1 _ _ _ Hb.out (Nat.le_refl _)⟩
   have k1:decide ((n:Int) < 97)=false:=decide_eq_false (by omega)
   rcases Nat.lt_or_ge 122 n with h2 | h2
   ·have hf:=hno (by omega)
    have k2:decide (122 < (n:Int))=true:=decide_eq_true (by omega)
    obtain⟨Hall,Hyes,Hno,Hf⟩:=hd4 hall hyes hno hf;clear hall hyes hno hf
    go_wp2_with fail
    refine zd0 rfl rfl rfl (zh0 _ _ _ Hrow.out) rfl ?_
    exact⟨⟨_,_,_,zio Hf.out.symm,fun h=>by rw[Hf.out] at h;cases h⟩,zh1 _ _ _ Hb.out (Nat.le_refl _)⟩
   have k2:decide (122 < (n:Int))=false:=decide_eq_false (by omega)
   have hnext:=hyes h1 h2
   obtain⟨Hall,Hyes,Hno,Hnext⟩:=hd4 hall hyes hno hnext;clear hall hyes hno hnext
   go_wp2_with fail
   go_round
   case rel=>exact⟨k+1,by omega,by go_num,Hnext.out⟩
   case measure=>simp[RowKit.intOf];omega
  obtain rfl:k=s.size:=by omega
  have hall2:l.all zp3=true:=by rw[List.take_of_length_le (by have:=Hln.out;omega)] at hall;exact hall
  have hf:zem l = !s.toList.isEmpty:=by
   rw[Hp.out]
   unfold zdw
   rw[hall2,Bool.and_true,Txt.no_dec]
   have:=Hln.out
   cases l with
   | nil=>simp at this;rw[decide_eq_true (by omega)];rfl
   | cons x r=>simp at this;rw[decide_eq_false (by omega)];rfl
  have hlp:zem l=true→zpv l 0 0 s:=fun h=>let_part (by rw[← Hp.out];exact h) Hl.out.symm
  obtain⟨Hall,Hall2,Hf,Hlp⟩:=hd4 hall hall2 hf hlp;clear hall hall2 hf hlp
  go_wp2_with fail
  refine zd0 rfl rfl rfl (zh0 _ _ _ Hrow.out) rfl ?_
  exact⟨⟨_,_,_,zio Hf.out.symm,Hlp.out⟩,zh1 _ _ _ Hb.out (Nat.le_refl _)⟩
end

section
open Go.RowKit Go.Shelf
def Lets {β:Type} (b:Nat) (J:β→World→Prop):Prop:=∀ s W (i:Nat) u,J s W→J s (W.setCell ⟨b,i,none⟩ u)
def zfp (S:Nat→Prop) (W W':World):Prop:=∀ k,S k→W'.heap[k]? = W.heap[k]?
theorem zfp.refl (S:Nat→Prop) (W:World):zfp S W W:=fun _ _=>rfl
theorem zfp.trans {S:Nat→Prop} {A B C:World} (h:zfp S A B) (k:zfp S B C):zfp S A C:=fun i hi=>(k i hi).trans (h i hi)
theorem zfp.below {S:Nat→Prop} {W W':World} (hS:∀ k,S k→k < W.heap.size) (h:Below W.heap.size W W'):zfp S W W':=fun k hk=>h.block k (hS k hk)
theorem zfp.put {S:Nat→Prop} {W:World} {l:Nat} (h:¬ S l) (o:Obj):zfp S W (W.putObj l o):=fun k hk=>World.putObj_heap_other (fun e=>h (by rw[← e];exact hk))
theorem zfp.set {S:Nat→Prop} {W:World} {p:Addr} (h:¬ S p.block) (u:Value):zfp S W (W.setCell p u):=fun k hk=>Below.heap_setCell _ _ _ _ (fun e=>h (by rw[← e];exact hk))
def SeqOwn {α:Type} (F:Fence) (n:Nat) (P:Program) (g:Nat) (lb:Array Value) (enc:α→Value) (K:Nat→Prop) (b:Nat) (Px:List α→α→Prop) (S Sp:List α→Prop) (w:World):Prop :=
 ∀ (l:Nat) (J Jx:List α→World→Prop) (W:World),Below w.heap.size w W→AbidesFrom W.heap.size J→AbidesFrom W.heap.size Jx→Lets b J→Lets b Jx →
  (∀ pre x W1,J pre W1→Px pre x→YieldAt F (n - 1) P l #[enc x] W1 fun e W' =>
   (e = .returned (.bool true)∧J (pre ++ [x]) W'∧zfp K W1 W')∨(e = .returned (.bool false)∧Jx (pre ++ [x]) W')) →
  J [] W →
  CallsIn F n P g (#[.func (.yield l) #[] #[]] ++ lb) W fun e W'=>(∃ v,e = .returned v)∧((∃ xs,S xs∧J xs W')∨(∃ pre,Sp pre∧Jx pre W'))
def ownEnd {α:Type} (B:Nat) (K:Nat→Prop) (I Ix:List α→World→Prop) (xs:List α) (W:World):Exit→Act→World→Prop
 | .normal,_,W'=>KeepsFrom B W W'∧zfp K W W'∧I xs W'
 | .ret,_,W'=>KeepsFrom B W W'∧Ix xs W'
 | _,_,_=>False
theorem za5 {W:World} {k b i:Nat} {u:Value} {o:Obj} (h:W.heap[k]? = some o) (hne:k≠b):(W.setCell ⟨b,i,none⟩ u).heap[k]? = some o :=
 (Below.heap_setCell _ _ _ _ hne).trans h
variable {F : Fence} {n : Nat} {P : Program}
theorem zhe {α:Type} {g:Operand} {ps:Array Tmp} {assign body:Code} {Q:Exit→Act→World→Prop} {a:Act} {w:World}
  (hro:F.round=none) (h1:1≤n) {gf:Nat} {lb:Array Value} (hg:a.eval g = .func (.func gf) #[] lb) (hFg:F.fn gf) (eg:∀ args w,(callFunc gf args).run P w = .ok (.enter gf args) w)
  {enc:α→Value} {Kb:Nat→Prop} {b:Nat} {Px:List α→α→Prop} {S Sp:List α→Prop} {w0:World} (hseq:SeqOwn F (n - 1) P gf lb enc Kb b Px S Sp w0)
  (hKb:∀ k,Kb k→k < w.heap.size) (hb:b < w.heap.size) (hb0:Below w0.heap.size w0 w) (hps:ps.size=1)
  (I Ix:List α→World→Prop) (hI:OwnFrom w.heap.size I) (hIx:OwnFrom w.heap.size Ix) (hIb:Lets b I) (hIxb:Lets b Ix) (h0:I [] w) (a₁:α→Act)
  (hassign:∀ (l:Nat) (x:α) (W:World) (K:Act→World→Prop),K (a₁ x) W →
   assign.wpIn (F.inRound l) (n - 1 - 1) P (Exit.then K (fun _ _ _=>False)) { tmps:=(ps.zip #[enc x]).foldl (fun t (p,v)=>t.setIfInBounds p v) a.tmps,defers:=[] } W)
  (hbody:∀ (l:Nat) (pre:List α) (x:α) (W:World),I pre W→Px pre x→body.wpIn (F.inRound l) (n - 1 - 1) P (ownEnd w.heap.size Kb I Ix (pre ++ [x]) W) (a₁ x) W)
  (hdone:∀ (D:Nat) (xs:List α) (W:World),w.heap.size≤D→S xs→I xs W→W.heap[D]? = some (.deferred (some []))→Q .normal { a with defers:={ target:=.collected D,args:=#[] } :: a.defers } W)
  (hstop:∀ (D:Nat) (pre:List α) (W:World),w.heap.size≤D→Sp pre→Ix pre W→W.heap[D]? = some (.deferred (some []))→Code.ret.wpIn F n P Q { a with defers:={ target:=.collected D,args:=#[] } :: a.defers } W) :
  (Code.rangeFunc g ps assign body).wpIn F n P Q a w:=by
 refine wpIn_rangeFunc fun fn hfn=>?_
 rw[hro]
 obtain⟨rec,hrec⟩ : ∃ rec:LoopState→Option Code→Loop,rec=fun st pe=>{ state:=st,pending:=pe,fn,tmps:=a.tmps,params:=ps,assign,body,defers:=w.heap.size }:=⟨_,rfl⟩
 obtain⟨W1,hW1⟩ : ∃ W1,(w.alloc (.deferred (some []))).alloc (.loop (rec .ready none))=W1:=⟨_,rfl⟩
 have hL1:W1.heap[w.heap.size+1]? = some (.loop (rec .ready none)):=by
  rw[← hW1]
  have:=World.alloc_heap_new (w.alloc (.deferred (some []))) (.loop (rec .ready none))
  rwa [World.size_alloc] at this
 have hK1:W1.heap[w.heap.size]? = some (.deferred (some [])):=by
  rw[← hW1]
  exact (Below.heap_alloc _ _ _ (by simp)).trans (World.alloc_heap_new w _)
 have hI1:I [] W1:=by rw[← hW1];exact hI.alloc _ (hI.alloc _ h0)
 have hs1:W1.heap.size=w.heap.size+2:=by rw[← hW1];simp
 have hb1:Below w0.heap.size w0 W1:=by
  rw[← hW1]
  exact hb0.trans ((((Below.refl _ w).alloc (Nat.le_refl _) _).alloc (by simp) _).mono hb0.size)
 refine⟨w.heap.size+1,[{ target:=.collected w.heap.size,args:=#[] }],W1,{ target:=.fn (.func gf) lb,args:=#[.func (.yield (w.heap.size+1)) #[] #[]] },W1,gf,
  #[.func (.yield (w.heap.size+1)) #[] #[]] ++ lb,W1,?_,?_,?_,?_,fun _=>h1,?_⟩
 ·rw[← hW1,hrec];exact run_enterLoop_outer _ _ _ _ _
 ·simp only[resolve,hg]
  simp[go_sem]
 ·intro f' hf'
  simp[Target.leads] at hf'
  subst hf'
  exact hFg
 ·simp[invoke,go_sem,eg]
 -- the record and the block of what is put off lie as they lay,whatever the iterator does
 have kp:∀ {A B:World} {row:Option Nat} {k:Nat} {o:Obj},A.grownBy B row→(∀ r,row=some r→W1.heap.size≤r∧∃ o:Obj,A.heap[r]? = some o∧o.isWalk=true)→k < W1.heap.size→A.heap[k]? = some o→B.heap[k]? = some o:=fun hg' hr hk ho =>
  (hg'.block _ (Array.getElem?_eq_some_iff.1 ho).1 (fun e=>by have:=(hr _ e.symm).1;omega)).trans ho
 have nw:∀ {A:World} {row:Option Nat},(∀ r,row=some r→W1.heap.size≤r∧∃ o:Obj,A.heap[r]? = some o∧o.isWalk=true)→(∀ r,row=some r→w.heap.size≤r∧∃ o:Obj,A.heap[r]? = some o∧o.isCells=false):=fun hr r e=>by
  obtain⟨h2,o,h3,h4⟩:=hr r e
  exact⟨by omega,o,h3,Obj.not_cells_of_walk h4⟩
 refine (hseq (w.heap.size+1)
  (fun pre W=>I pre W∧W.heap[w.heap.size+1]? = some (.loop (rec .ready none))∧W.heap[w.heap.size]? = some (.deferred (some [])))
  (fun pre W=>Ix pre W∧W.heap[w.heap.size+1]? = some (.loop (rec .done (some .ret)))∧W.heap[w.heap.size]? = some (.deferred (some [])))
  W1 hb1
  (fun s A B row hs hg' hr=>⟨hI s A B row hs.1 hg' (nw hr),kp hg' hr (by omega) hs.2.1,kp hg' hr (by omega) hs.2.2⟩)
  (fun s A B row hs hg' hr=>⟨hIx s A B row hs.1 hg' (nw hr),kp hg' hr (by omega) hs.2.1,kp hg' hr (by omega) hs.2.2⟩)
  (fun s W i u hs=>⟨hIb s W i u hs.1,za5 hs.2.1 (by omega),za5 hs.2.2 (by omega)⟩)
  (fun s W i u hs=>⟨hIxb s W i u hs.1,za5 hs.2.1 (by omega),za5 hs.2.2 (by omega)⟩)
  ?_ ⟨hI1,hL1,hK1⟩).mono ?_
 · -- one round
  rintro pre x W ⟨hi,hl,hk⟩ hpx
  have hlt:w.heap.size+1 < W.heap.size:=(Array.getElem?_eq_some_iff.1 hl).1
  have hy:=run_yield (P:=P) (args:=#[enc x]) hl (by rw[hrec];exact hps.symm)
  rw[hrec] at hy
  refine⟨fn,_,assign,body,hy,roundIn_of_wpIn hfn (hassign _ x W _ ?_)⟩
  clear hy
  refine⟨_,run_beginRound hl (by rw[hrec]),?_⟩
  obtain⟨W2,hW2⟩ : ∃ W2,W2=W.putObj (w.heap.size+1) (.loop { rec .ready none with state:=.busy }):=⟨_,rfl⟩
  rw[← hW2]
  have hl2:W2.heap[w.heap.size+1]? = some (.loop { rec .ready none with state:=.busy }):=by rw[hW2];exact World.putObj_heap_same hlt
  have hk2:W2.heap[w.heap.size]? = some (.deferred (some [])):=by rw[hW2];exact (World.putObj_heap_other (by omega)).trans hk
  have hne:¬ Kb (w.heap.size+1):=fun h=>by have:=hKb _ h;omega
  have hw2:zfp Kb W W2:=by rw[hW2];exact zfp.put hne _
  have hi2:I pre W2:=by rw[hW2];exact hI.putObj _ hi (by omega) hl rfl
  refine wpIn_mono (hbody _ pre x W2 hi2 hpx) ?_
  have fin:∀ (jump:Option Code) (W3:World),KeepsFrom w.heap.size W2 W3 →
    ∃ W4,W4=W3.putObj (w.heap.size+1) (.loop (rec (if jump.isNone then .ready else .done) jump))∧(Instr.endRound (w.heap.size+1) jump).run P W3 = .ok (.bool jump.isNone) W4 ∧
    W3.heap[w.heap.size+1]? = some (.loop { rec .ready none with state:=.busy }) ∧
    W4.heap[w.heap.size+1]? = some (.loop (rec (if jump.isNone then .ready else .done) jump))∧W4.heap[w.heap.size]? = some (.deferred (some [])):=fun jump W3 hk3=>by
   have hl3:=hk3.same _ _ (by omega) hl2 rfl
   have hr:=run_endRound (P:=P) jump hl3
   refine⟨_,rfl,?_,hl3,World.putObj_heap_same (Array.getElem?_eq_some_iff.1 hl3).1,(World.putObj_heap_other (by omega)).trans (hk3.same _ _ (Nat.le_refl _) hk2 rfl)⟩
   rw[hrec] at hr ⊢
   exact hr
  rintro e a3 W3 hp
  cases e with
  | normal =>
   obtain⟨hk3,hkp3,hi3⟩:=hp
   obtain⟨W4,e4,hr,hl3,hl4,hk4⟩:=fin none W3 hk3
   refine⟨_,_,hr,.inl ⟨rfl,⟨?_,hl4,hk4⟩,?_⟩⟩
   ·rw[e4];exact hI.putObj _ hi3 (by omega) hl3 rfl
   rw[e4];exact (hw2.trans hkp3).trans (zfp.put hne _)
  | ret =>
   obtain⟨hk3,hi3⟩:=hp
   obtain⟨W4,e4,hr,hl3,hl4,hk4⟩:=fin (some .ret) W3 hk3
   refine⟨_,_,hr,.inr ⟨rfl,?_,hl4,hk4⟩⟩
   rw[e4];exact hIx.putObj _ hi3 (by omega) hl3 rfl
  | exit id=>exact hp.elim
  | goto t=>exact hp.elim
  | panic ch=>exact hp.elim
  | outgrown=>exact hp.elim
 -- behind the iterator
 rintro e W2 ⟨⟨v,rfl⟩,(⟨xs,hS,hi,hl,hk⟩ | ⟨pre,hSp,hi,hl,hk⟩)⟩
 ·have hr:=run_endLoop (P:=P) hl (by rw[hrec];simp)
  rw[hrec] at hr
  exact⟨none,_,hr,hdone _ xs _ (Nat.le_refl _) hS (hI.putObj _ hi (by omega) hl rfl) ((World.putObj_heap_other (by omega)).trans hk)⟩
 have hr:=run_endLoop (P:=P) hl (by rw[hrec];simp)
 rw[hrec] at hr
 exact⟨some .ret,_,hr,hstop _ pre _ (Nat.le_refl _) hSp (hIx.putObj _ hi (by omega) hl rfl) ((World.putObj_heap_other (by omega)).trans hk)⟩
end

section
open Go.RowKit Go.Shelf Go.Lib VerN
attribute [local go_sem] Oper.semAt_some
structure SBox (Bs Bp Bv:Nat) (c:UInt8) (r:ByteArray) (W:World):Prop where
 s:W.heap[Bs]? = some (.cells #[.string r] 9 (0,0))
 p:W.heap[Bp]? = some (.cells #[.string ⟨#[c]⟩] 9 (0,0))
 v:W.heap[Bv]? = some (.cells #[.int .i64 0] 3 (0,0))
theorem SBox.below {Bs Bp Bv n₀:Nat} {c:UInt8} {r:ByteArray} {W W':World} (h:SBox Bs Bp Bv c r W) (hb:Below n₀ W W') (h1:Bs < n₀) (h2:Bp < n₀) (h3:Bv < n₀):SBox Bs Bp Bv c r W' :=
 ⟨(hb.block _ h1).trans h.s,(hb.block _ h2).trans h.p,(hb.block _ h3).trans h.v⟩
abbrev Three (Bs Bp Bv:Nat) (k:Nat):Prop:=k=Bs∨k=Bp∨k=Bv
theorem SBox.keeps {Bs Bp Bv:Nat} {c:UInt8} {r:ByteArray} {W W':World} (h:SBox Bs Bp Bv c r W) (hk:zfp (Three Bs Bp Bv) W W'):SBox Bs Bp Bv c r W' :=
 ⟨(hk _ (.inl rfl)).trans h.s,(hk _ (.inr (.inl rfl))).trans h.p,(hk _ (.inr (.inr rfl))).trans h.v⟩
theorem SBox.set {Bs Bp Bv:Nat} {c:UInt8} {r:ByteArray} {W:World} (h:SBox Bs Bp Bv c r W) (hp:Bp≠Bs) (hv:Bv≠Bs) (r':ByteArray):SBox Bs Bp Bv c r' (W.setCell ⟨Bs,0,none⟩ (.string r')) :=
 ⟨heap_setCell_same _ Bs 0 _ _ _ h.s,za5 h.p hp,za5 h.v hv⟩
theorem SBox.cells {Bs Bp Bv:Nat} {c:UInt8} {r:ByteArray} {W:World} (h:SBox Bs Bp Bv c r W) :
  W.cell? ⟨Bs,0,none⟩=some (.string r)∧W.cell? ⟨Bp,0,none⟩=some (.string ⟨#[c]⟩)∧W.cell? ⟨Bv,0,none⟩=some (.int .i64 0)∧W.frozen? ⟨Bs,0,none⟩=false :=
 ⟨za0 h.s 0,za0 h.p 0,za0 h.v 0,za8 h.s 0⟩
def left (Bs:Nat) (W:World):Nat:=match W.cell? ⟨Bs,0,none⟩ with
 | some (.string r)=>r.size
 | _=>0
theorem left_is {Bs Bp Bv:Nat} {c:UInt8} {r:ByteArray} {W:World} (h:SBox Bs Bp Bv c r W):left Bs W=r.size:=by unfold left;rw[h.cells.1]
theorem zsf {pre zs rest:List ByteArray} {x:ByteArray} (h:zs=pre ++ x :: rest):pre ++ [x] <+: zs:=⟨rest,by rw[h];simp⟩
theorem zjz (n:Nat) (hn:1≤n) (Bs Bp Bv:Nat) (c:UInt8) (s:ByteArray) (hs:s.size≤1000000) (w:World) (h1:Bs < w.heap.size) (h2:Bp < w.heap.size) (h3:Bv < w.heap.size) (hp:Bp≠Bs) (hv:Bv≠Bs) (hb:SBox Bs Bp Bv c s w) :
  SeqOwn Fence.wide n Tryz.prog 172 #[.pointer (some ⟨Bp,0,none⟩),.pointer (some ⟨Bs,0,none⟩),.pointer (some ⟨Bv,0,none⟩)] (fun x:ByteArray=>Value.string x) (Three Bs Bp Bv) Bs (fun pre x=>x.size≤s.size∧pre ++ [x] <+: cutS c s) (fun ys=>ys=cutS c s) (fun pre=>pre <+: cutS c s) w:=by
 intro l J Jx W hW hJ hJx hL hLx hY h0
 obtain⟨zs,hzs⟩ : ∃ zs,zs=cutS c s:=⟨_,rfl⟩
 rw[← hzs]
 have hb0:SBox Bs Bp Bv c s W:=hb.below hW h1 h2 h3
 obtain⟨d1,d2,d3,d4⟩:=hb0.cells
 have hc1:((1:Int) == 0)=false:=rfl
 obtain⟨Hzs,Hb,Hb0,HW,HJ,HJx,HL,HLx⟩:=hd8 hzs hb hb0 hW hJ hJx hL hLx;clear hzs hb hb0 hW hJ hJx hL hLx
 refine callsIn_of_wp Tryz.func172 rfl trivial ?_ rfl
 simp only[Tryz.ntmps172,List.size_toArray,List.length_cons,List.length_nil,Nat.reduceAdd,Nat.reduceSub,Array.replicate_succ,Array.replicate_zero,List.push_toArray,List.append_toArray,List.nil_append,List.cons_append]
 gi_wp2
 gi_loopw [7,8] (fun _ _ wr=>∃ (pre:List ByteArray) (r:ByteArray),zs=pre ++ cutS c r∧SBox Bs Bp Bv c r wr∧J pre wr∧r.size≤s.size) (fun _ _ wr=>left Bs wr)
 case atStart=>exact⟨[],s,Hzs.out,Hb0.out,h0,Nat.le_refl _⟩
 case round =>
  obtain⟨pre,r,hz,hbx,hJs,hr⟩:=hrel
  obtain⟨d1,d2,d3,d4⟩:=hbx.cells
  have hl:=left_is hbx
  have hI:=Tryz.strings_Index_one r c wr
  obtain⟨v,hvd⟩ : ∃ v,v=indexByte r.data.toList c:=⟨_,rfl⟩
  rw[← hvd] at hI
  by_cases hm:v = -1
  ·have hzz:zs=pre ++ [r]:=by rw[hz,cutS_miss (by rw[← hvd,hm])]
   obtain⟨fn,tmps,assign,body,hy,hR⟩:=hY pre r wr hJs ⟨hr,by rw[← Hzs.out,hzz];exact List.prefix_refl _⟩
   have k1:decide (v < 0)=true:=decide_eq_true (by omega)
   obtain⟨Hz,Hzz,Hbx,HJs,Hr,Hl,Hvd,HI,Hm⟩:=hd9 hz hzz hbx hJs hr hl hvd hI hm;clear hz hzz hbx hJs hr hl hvd hI hm
   gi_wp2
   refine⟨trivial,(callsIn_wide.2 HI.out).mono ?_⟩
   rintro e w2 ⟨rfl,rfl⟩
   gi_wp2
   refine hR.mono ?_
   rintro e W3 (⟨rfl,hJ3,hk3⟩ | ⟨rfl,hJx3⟩)
   ·gi_wp2
    go_end0
    exact⟨⟨_,rfl⟩,.inl ⟨_,Hzz.out.symm,hJ3⟩⟩
   gi_wp2
   go_end0
   exact⟨⟨_,rfl⟩,.inr ⟨_,by rw[Hzz.out];exact List.prefix_refl _,hJx3⟩⟩
  obtain⟨i,hi⟩ : ∃ i:Nat,v=i:=⟨v.toNat,by have:=indexByte_ge r.data.toList c;omega⟩
  subst hi
  have hlt:=index_lt hvd.symm
  rw[Txt.len] at hlt
  have hz2:zs=pre ++ r.extract 0 i :: cutS c (r.extract (i+1) r.size):=by rw[hz,cutS_hit hvd.symm]
  obtain⟨fn,tmps,assign,body,hy,hR⟩:=hY pre (r.extract 0 i) wr hJs ⟨by simp;omega,by rw[← Hzs.out];exact zsf hz2⟩
  have k1:decide ((i:Int) < 0)=false:=decide_eq_false (by omega)
  have k2:(i:Int)≤(r.size:Int):=by omega
  have hsz:(r.extract (i+1) r.size).size=r.size - (i+1):=by simp
  obtain⟨Hz,Hz2,Hbx,HJs,Hl,Hvd,HI,Hm,Hsz⟩:=hd9 hz hz2 hbx hJs hl hvd hI hm hsz;clear hz hz2 hbx hJs hl hvd hI hm hsz
  gi_wp2
  refine⟨trivial,(callsIn_wide.2 HI.out).mono ?_⟩
  rintro e w2 ⟨rfl,rfl⟩
  gi_wp2
  refine hR.mono ?_
  rintro e W3 (⟨rfl,hJ3,hk3⟩ | ⟨rfl,hJx3⟩)
  ·have hb3:=Hbx.out.keeps hk3
   obtain⟨d1,d2,d3,d4⟩:=hb3.cells
   obtain⟨Hb3,HJ3,Hk3⟩:=hd3 hb3 hJ3 hk3;clear hb3 hJ3 hk3
   gi_wp2
   go_roundw
   case rel=>exact⟨pre ++ [r.extract 0 i],r.extract (i+1) r.size,by rw[Hz2.out];simp,Hb3.out.set hp hv _,HL.out _ _ 0 _ HJ3.out,by rw[Hsz.out];omega⟩
   case measure=>rw[left_is (Hb3.out.set hp hv _),Hl.out,Hsz.out];omega
  gi_wp2
  refine bodyPost_ret (results_none rfl _ _ _) rfl ?_
  exact⟨⟨_,rfl⟩,.inr ⟨_,zsf Hz2.out,hJx3⟩⟩
end

section
open Go.RowKit
theorem zc2 {P:Program} {fn:Func} {p q:Tmp} {ty tz:TypeId} (h:fn.results=#[.cell p ty,.cell q tz]) {tmps:Array Value} {w:World} {a b:Nat} {x y:Value} {ex ey:TypeId}
  (hp:tmps.getD p undef = .pointer (some ⟨a,0,none⟩)) (hq:tmps.getD q undef = .pointer (some ⟨b,0,none⟩))
  (hx:w.heap[a]? = some (.cells #[x] ex (0,0))) (hy:w.heap[b]? = some (.cells #[y] ey (0,0)))
  (ax:(isAgg ty).run P w = .ok false w) (ay:(isAgg tz).run P w = .ok false w) :
  (results fn tmps).run P w = .ok (.tuple #[x,y]) w:=by
 have cx:w.cell? ⟨a,0,none⟩=some x:=za0 hx 0
 have cy:w.cell? ⟨b,0,none⟩=some y:=za0 hy 0
 have hp':tmps[p]?.getD undef = .pointer (some ⟨a,0,none⟩):=by simpa using hp
 have hq':tmps[q]?.getD undef = .pointer (some ⟨b,0,none⟩):=by simpa using hq
 simp only[results,h]
 simp[Sem.run_bind,Result.andThen,go_sem,hp',hq',ax,ay,cx,cy]
end
end Go.Proofs.YthgibhhbmmkjmaaGreatDoor
