/- Walks and plain facts. Texts merged: LexT, LexL, Cells, RqI, RtO, RpM, RpT, TxL, TxW, RqJ, RqK, Bld, Build, LexA, LexT4, SetSame, SmS. Condition: none beyond what each says. -/
import Derived.Lib.Builder
import Derived.Lib.AppendStr
import Derived.Lib.UnsafeStr
import Derived.Laws.Externs
import Derived.Test.YteailgjiifdgcaaGreatDoorRequestTextsAll9
set_option linter.unusedVariables false
set_option linter.unusedSimpArgs false
set_option maxRecDepth 10000
set_option maxHeartbeats 4000000
namespace Go.Proofs.YteailgjiifdgcaaGreatDoor
section
open Go.RowKit
open LexM (Bs Wd Ln St)
def znz (w0:World) (x:Nat) (s:St) (v:Value) (e:Ending) (w':World):Prop:=e = .returned v∧∃ wv sv ov rv,zby w0 x s wv sv ov rv w'
theorem zdj {w0 w:World} {x:Nat} {s s':St} {wv sv ov v v':Value} {rv:List Value} (h:zby w0 x s' wv sv ov rv w) (e:s'=s) (hv:v'=v):znz w0 x s v (.returned v') w:=⟨by rw[hv],wv,sv,ov,rv,e ▸ h⟩
theorem zby.scal {w0 w:World} {x:Nat} {s:St} {wv sv ov:Value} {rv:List Value} (h:zby w0 x s wv sv ov rv w) (i:Nat) (u:Value) (s':St) (hc:((zaz s wv sv ov).setIfInBounds i u)=zaz s' wv sv ov) (h1:s'.word=s.word) (h2:s'.words=s.words) (h3:s'.out=s.out) :
  zby w0 x s' wv sv ov rv (w.setCell ⟨x,i,none⟩ u):=by
 refine h.to (Frm.setCell (S:=fun k=>k=x) (Frm.refl _ _) (p:=⟨x,i,none⟩) (.inr rfl) _) ?_ (.inl ⟨rfl,h1⟩) (.inl ⟨rfl,h2⟩) h3
 rw[heap_setCell_same w x i _ _ u h.cells,hc]
theorem zvq {w0 w:World} {x:Nat} {s:St} {wv sv ov:Value} {rv:List Value} (h:zby w0 x s wv sv ov rv w) (hf:¬ 0 < s.frm) :
  Calls Tryz.prog 177 #[lexp x] w (znz w0 x { s with frm:=s.col } (.bool (LexM.mayBegin s))):=by
 obtain⟨sa,sc,rfl⟩:=zah h.words
 obtain⟨oa,oc,rfl⟩:=zah h.out
 have d1:=za4 h.cells 1
 have d2:=za4 h.cells 2
 have d5:=za4 h.cells 5
 have d6:=za4 h.cells 6
 have e2:=za9 h.cells 2
 simp only[zaz,List.getElem?_toArray,List.getElem?_cons_succ,List.getElem?_cons_zero] at d1 d2 d5 d6
 have hL:=h.scal 2 (.int .i64 s.col) { s with frm:=s.col } rfl rfl rfl rfl
 obtain⟨Hh,HL⟩:=hd2 h hL;clear h hL
 by_cases h1:s.words.length < 40
 ·by_cases h2:0 < s.words.length
  ·have hb:LexM.mayBegin s=true:=by unfold LexM.mayBegin;simp[h1,h2]
   have Hb:=hd hb;clear hb
   go_enter Tryz.func177,Tryz.ntmps177
   go_wp2_with fail
   go_ret
   exact zdj HL.out rfl (by rw[Hb.out];rfl)
  by_cases h3:s.out.length < 2000
  ·have hb:LexM.mayBegin s=true:=by unfold LexM.mayBegin;simp[h1,h3]
   have Hb:=hd hb;clear hb
   go_enter Tryz.func177,Tryz.ntmps177
   go_wp2_with fail
   go_ret
   exact zdj HL.out rfl (by rw[Hb.out];exact congrArg Value.bool (decide_eq_true (by omega)))
  have hb:LexM.mayBegin s=false:=by unfold LexM.mayBegin;simp[h2,h3]
  have Hb:=hd hb;clear hb
  go_enter Tryz.func177,Tryz.ntmps177
  go_wp2_with fail
  go_ret
  exact zdj HL.out rfl (by rw[Hb.out];exact congrArg Value.bool (decide_eq_false (by omega)))
 have hb:LexM.mayBegin s=false:=by unfold LexM.mayBegin;simp[h1]
 have Hb:=hd hb;clear hb
 go_enter Tryz.func177,Tryz.ntmps177
 go_wp2_with fail
 go_ret
 exact zdj HL.out rfl (by rw[Hb.out];rfl)
theorem begins_on {w0 w:World} {x:Nat} {s:St} {wv sv ov:Value} {rv:List Value} (h:zby w0 x s wv sv ov rv w) (hf:0 < s.frm) :
  Calls Tryz.prog 177 #[lexp x] w (znz w0 x s (.bool true)):=by
 have d2:=za4 h.cells 2
 simp only[zaz,List.getElem?_toArray,List.getElem?_cons_succ,List.getElem?_cons_zero] at d2
 have Hh:=hd h;clear h
 go_enter Tryz.func177,Tryz.ntmps177
 go_wp2_with fail
 go_ret
 exact zdj Hh.out rfl rfl
theorem zmt {s:St} {m:Nat} (h:Small s m):Small (LexM.onward s) (m+1):=by
 obtain⟨a,b,c,d,e,f,g⟩:=h
 refine⟨?_,?_,?_,?_,?_,?_,g⟩ <;> simp only[LexM.onward] <;> omega
theorem zby.on {w0 w:World} {x:Nat} {s:St} {wv sv ov:Value} {rv:List Value} (h:zby w0 x s wv sv ov rv w):zby w0 x (LexM.onward s) wv sv ov rv (w.setCell ⟨x,1,none⟩ (.int .i64 (s.col+1))) :=
 h.scal 1 (.int .i64 (s.col+1)) (LexM.onward s) rfl rfl rfl rfl
def zgm (w0:World) (x:Nat) (s:St) (c:UInt8):Ending→World→Prop:=znz w0 x (LexM.takes s c).1 (.int .i64 (LexM.takes s c).2)
theorem takes_any {w0 w:World} {x:Nat} {s:St} {wv sv ov:Value} {rv:List Value} (h:zby w0 x s wv sv ov rv w) {m:Nat} (hm:m < 1000000) (hs:Small s m) (c:UInt8) :
  Calls Tryz.prog 126 #[lexp x,.int .u8 c.toNat] w (zgm w0 x s c):=by
 have hcol:=hs.col
 have hcl:c.toNat < 256:=c.toNat_lt
 have d1:=za4 h.cells 1
 have e1:=za9 h.cells 1
 have h2:=h.on
 have hs2:=zmt hs
 obtain⟨n,hn⟩ : ∃ n,n=c.toNat:=⟨_,rfl⟩
 rw[← hn] at hcl ⊢
 simp only[zaz,List.getElem?_toArray,List.getElem?_cons_succ,List.getElem?_cons_zero] at d1
 obtain⟨Hh,H2,Hs,Hs2,Hn⟩:=hd5 h h2 hs hs2 hn;clear h h2 hs hs2 hn
 by_cases h10:n=10
 ·have ht:LexM.takes s c=(LexM.breaks (LexM.onward s),0):=by unfold LexM.takes;rw[if_pos (by rw[← Hn.out];exact h10)]
  have b10:((n:Int) == 10)=true:=by rw[beq_iff_eq];omega
  have HB:=Lib.hid (zmb H2.out (by omega) Hs2.out)
  unfold zgm
  rw[ht]
  obtain⟨Ht,H10⟩:=hd2 ht h10;clear ht h10
  go_enter Tryz.func126,Tryz.ntmps126
  go_wp2_with fail
  refine HB.out.mono ?_
  rintro e w1 ⟨rfl,wv1,sv1,ov1,rv1,h1⟩
  have H1:=hd h1;clear h1
  go_wp2_with fail
  go_ret
  exact zdj H1.out rfl rfl
 have c10:¬ c.toNat=10:=by rw[← Hn.out];exact h10
 have b10:((n:Int) == 10)=false:=by rw[beq_eq_false_iff_ne];omega
 by_cases hA:n < 32∨126 < n
 ·have ht:LexM.takes s c=(LexM.onward s,3):=by unfold LexM.takes;rw[if_neg c10,if_pos (by rw[← Hn.out];exact hA)]
  unfold zgm
  rw[ht]
  clear ht h10 c10
  by_cases h32:n < 32
  ·clear hA
   go_enter Tryz.func126,Tryz.ntmps126
   go_wp2_with fail
   go_ret
   exact zdj H2.out rfl rfl
  have h126:126 < n:=by omega
  clear hA
  go_enter Tryz.func126,Tryz.ntmps126
  go_wp2_with fail
  go_ret
  exact zdj H2.out rfl rfl
 have hlo:32≤n:=by omega
 have hhi:n≤126:=by omega
 have cA:¬ (c.toNat < 32∨126 < c.toNat):=by rw[← Hn.out];exact hA
 have d3:=za4 Hh.out.cells 3
 simp only[zaz,List.getElem?_toArray,List.getElem?_cons_succ,List.getElem?_cons_zero] at d3
 obtain⟨off,hoff⟩ : ∃ off,off=s.off:=⟨_,rfl⟩
 rw[← hoff] at d3
 clear hA h10
 cases off
 ·have coff:¬ s.off=true:=by rw[← hoff];simp
  clear hoff
  by_cases h35:n=35
  ·have ht:LexM.takes s c=({ LexM.ends (LexM.onward s) with off:=true },0):=by unfold LexM.takes;rw[if_neg c10,if_neg cA,if_neg coff,if_pos (by rw[← Hn.out];exact h35)]
   have b35:((n:Int) == 35)=true:=by rw[beq_iff_eq];omega
   have HE:=Lib.hid (zjl H2.out (by omega) Hs2.out)
   unfold zgm
   rw[ht]
   clear ht c10 cA coff h35
   go_enter Tryz.func126,Tryz.ntmps126
   go_wp2_with fail
   refine HE.out.mono ?_
   rintro e w1 ⟨rfl,wv1,sv1,ov1,rv1,h1⟩
   have e3:=za4 h1.cells 3
   have f3:=za9 h1.cells 3
   simp only[zaz,List.getElem?_toArray,List.getElem?_cons_succ,List.getElem?_cons_zero] at e3
   have hX:=h1.scal 3 (.bool true) { LexM.ends (LexM.onward s) with off:=true } rfl rfl rfl rfl
   obtain⟨H1,HX⟩:=hd2 h1 hX;clear h1 hX
   go_wp2_with fail
   go_ret
   exact zdj HX.out rfl rfl
  have c35:¬ c.toNat=35:=by rw[← Hn.out];exact h35
  have b35:((n:Int) == 35)=false:=by rw[beq_eq_false_iff_ne];omega
  by_cases h32:n=32
  ·have ht:LexM.takes s c=(LexM.ends (LexM.onward s),0):=by unfold LexM.takes;rw[if_neg c10,if_neg cA,if_neg coff,if_neg c35,if_pos (by rw[← Hn.out];exact h32)]
   have b32:((n:Int) == 32)=true:=by rw[beq_iff_eq];omega
   have HE:=Lib.hid (zjl H2.out (by omega) Hs2.out)
   unfold zgm
   rw[ht]
   clear ht c10 cA coff h35 c35 h32
   go_enter Tryz.func126,Tryz.ntmps126
   go_wp2_with fail
   refine HE.out.mono ?_
   rintro e w1 ⟨rfl,wv1,sv1,ov1,rv1,h1⟩
   have H1:=hd h1;clear h1
   go_wp2_with fail
   go_ret
   exact zdj H1.out rfl rfl
  have c32:¬ c.toNat=32:=by rw[← Hn.out];exact h32
  have b32:((n:Int) == 32)=false:=by rw[beq_eq_false_iff_ne];omega
  by_cases hfr:0 < s.frm
  ·have ht:LexM.takes s c=({ LexM.onward s with word:=s.word ++ [c] },0):=by unfold LexM.takes;rw[if_neg c10,if_neg cA,if_neg coff,if_neg c35,if_neg c32,if_pos hfr]
   have HE:=Lib.hid (begins_on H2.out (show 0 < (LexM.onward s).frm from hfr))
   have Ht:=hd ht;clear ht
   clear c10 cA coff h35 c35 h32 c32 hfr
   go_enter Tryz.func126,Tryz.ntmps126
   go_wp2_with fail
   refine HE.out.mono ?_
   rintro e w1 ⟨rfl,wv1,sv1,ov1,rv1,h1⟩
   have e4:=za4 h1.cells 4
   simp only[zaz,List.getElem?_toArray,List.getElem?_cons_succ,List.getElem?_cons_zero] at e4
   have hB1:=h1.bel.size
   have hx1:=zai h1.word h1.cells (by decide)
   have how:=h1.word
   have hwl:s.word.length≤m:=Hs.out.word
   obtain⟨H1,Hx1,How⟩:=hd3 h1 hx1 how;clear h1 hx1 how
   go_wp2_with (at_builtin;refine zau zpq (w:=w1) rfl (.tmp 16) (.tmp 18) rfl w0.heap.size wv1 s.word.length (ziv s.word) rfl How.out 1 (by decide) #[.int .u8 n] rfl rfl (by simp[Value.oneCell']) (by omega) (by unfold maxLen;omega) hB1 ?_)
   intro g8 c8 w8 hown8 hg8 hm8
   have hc8:=zbp H1.out.cells ((Frm.refl _ w1).grown hg8 (S:=fun k=>wv1.ownBlock=some k) (fun k hk=>.inr hk)) Hx1.out
   have k4:=za4 hc8 4
   have f4:=za9 hc8 4
   simp only[zaz,List.getElem?_toArray,List.getElem?_cons_succ,List.getElem?_cons_zero] at k4
   have hP:=H1.out.pushByte c (by rw[← Hn.out];exact hown8) hg8
   have HP:=hd hP;clear hP
   clear hown8 hg8 hm8 hc8
   go_wp2_with fail
   go_ret
   exact zdj HP.out (by rw[Ht.out];rfl) (by rw[Ht.out];rfl)
  have HE:=Lib.hid (zvq H2.out (show ¬ 0 < (LexM.onward s).frm from hfr))
  by_cases hmb:LexM.mayBegin s=true
  ·have ht:LexM.takes s c=({ LexM.onward s with frm:=s.col+1,word:=s.word ++ [c] },0):=by unfold LexM.takes;rw[if_neg c10,if_neg cA,if_neg coff,if_neg c35,if_neg c32,if_neg hfr,if_pos hmb]
   have hmb2:LexM.mayBegin (LexM.onward s)=true:=hmb
   rw[hmb2] at HE
   have Ht:=hd ht;clear ht
   clear c10 cA coff h35 c35 h32 c32 hfr hmb hmb2
   go_enter Tryz.func126,Tryz.ntmps126
   go_wp2_with fail
   refine HE.out.mono ?_
   rintro e w1 ⟨rfl,wv1,sv1,ov1,rv1,h1⟩
   have e4:=za4 h1.cells 4
   simp only[zaz,List.getElem?_toArray,List.getElem?_cons_succ,List.getElem?_cons_zero] at e4
   have hB1:=h1.bel.size
   have hx1:=zai h1.word h1.cells (by decide)
   have how:=h1.word
   have hwl:s.word.length≤m:=Hs.out.word
   obtain⟨H1,Hx1,How⟩:=hd3 h1 hx1 how;clear h1 hx1 how
   go_wp2_with (at_builtin;refine zau zpq (w:=w1) rfl (.tmp 16) (.tmp 18) rfl w0.heap.size wv1 s.word.length (ziv s.word) rfl How.out 1 (by decide) #[.int .u8 n] rfl rfl (by simp[Value.oneCell']) (by omega) (by unfold maxLen;omega) hB1 ?_)
   intro g8 c8 w8 hown8 hg8 hm8
   have hc8:=zbp H1.out.cells ((Frm.refl _ w1).grown hg8 (S:=fun k=>wv1.ownBlock=some k) (fun k hk=>.inr hk)) Hx1.out
   have k4:=za4 hc8 4
   have f4:=za9 hc8 4
   simp only[zaz,List.getElem?_toArray,List.getElem?_cons_succ,List.getElem?_cons_zero] at k4
   have hP:=H1.out.pushByte c (by rw[← Hn.out];exact hown8) hg8
   have HP:=hd hP;clear hP
   clear hown8 hg8 hm8 hc8
   go_wp2_with fail
   go_ret
   exact zdj HP.out (by rw[Ht.out];rfl) (by rw[Ht.out];rfl)
  have ht:LexM.takes s c=({ LexM.onward s with frm:=s.col+1 },4):=by unfold LexM.takes;rw[if_neg c10,if_neg cA,if_neg coff,if_neg c35,if_neg c32,if_neg hfr,if_neg hmb]
  have hmb2:LexM.mayBegin (LexM.onward s)=false:=(by simpa using hmb:LexM.mayBegin s=false)
  rw[hmb2] at HE
  have Ht:=hd ht;clear ht
  clear c10 cA coff h35 c35 h32 c32 hfr hmb hmb2
  go_enter Tryz.func126,Tryz.ntmps126
  go_wp2_with fail
  refine HE.out.mono ?_
  rintro e w1 ⟨rfl,wv1,sv1,ov1,rv1,h1⟩
  have H1:=hd h1;clear h1
  go_wp2_with fail
  go_ret
  exact zdj H1.out (by rw[Ht.out];rfl) (by rw[Ht.out];rfl)
 have coff:s.off=true:=hoff.symm
 have ht:LexM.takes s c=(LexM.onward s,0):=by unfold LexM.takes;rw[if_neg c10,if_neg cA,if_pos coff]
 unfold zgm
 rw[ht]
 clear ht c10 cA coff hoff
 go_enter Tryz.func126,Tryz.ntmps126
 go_wp2_with fail
 go_ret
 exact zdj H2.out rfl rfl
end

section
open Go.RowKit
open LexM (Bs Wd Ln St)
theorem zsd:Small LexM.st0 0:=⟨by decide,by decide,by decide,by decide,by decide,by decide,by decide⟩
theorem zm8 {s:St} {m:Nat} (h:Small s m):Small (LexM.ends s) (m+1):=by
 obtain⟨a,b,c,d,e,f,g⟩:=h
 refine⟨?_,?_,?_,?_,?_,?_,?_⟩ <;> unfold LexM.ends <;> dsimp only
 ·omega
 ·omega
 ·omega
 ·simp
 ·split <;> (try simp) <;> omega
 ·omega
 intro h;exact absurd h (by decide)
theorem zq1 {s:St} {m:Nat} (h:Small s m):Small (LexM.breaks s) (m+1):=by
 obtain⟨a,b,c,d,e,f,g⟩:=h
 refine⟨?_,?_,?_,?_,?_,?_,?_⟩ <;> unfold LexM.breaks LexM.ends <;> dsimp only
 ·omega
 ·omega
 ·omega
 ·simp
 ·simp
 ·(repeat' split) <;> (try simp) <;> omega
 intro h;exact absurd h (by decide)
theorem Small.mono {s:St} {m k:Nat} (h:Small s m) (hk:m≤k):Small s k:=by
 obtain⟨a,b,c,d,e,f,g⟩:=h
 exact⟨by omega,by omega,by omega,by omega,by omega,by omega,g⟩
theorem zjs {s:St} {m:Nat} (h:Small s m) (c:UInt8) (h0:(LexM.takes s c).2=0):Small (LexM.takes s c).1 (m+2):=by
 have h1:=zmt h
 unfold LexM.takes at h0 ⊢
 split
 ·exact zq1 h1
 rename_i c10
 rw[if_neg c10] at h0
 split
 ·rename_i cA;rw[if_pos cA] at h0;cases h0
 rename_i cA
 rw[if_neg cA] at h0
 split
 ·exact h1.mono (by omega)
 rename_i co
 rw[if_neg co] at h0
 split
 ·obtain⟨a,b,c,d,e,f,g⟩:=zm8 h1
  exact⟨a,b,c,d,e,f,g⟩
 rename_i c35
 rw[if_neg c35] at h0
 split
 ·exact zm8 h1
 rename_i c32
 rw[if_neg c32] at h0
 have hw:=h.word
 have hc:=h.col
 obtain⟨a,b,c,d,e,f,g⟩:=h1
 split
 ·exact⟨by dsimp only;omega,by dsimp only;omega,by dsimp only;omega,by simp;omega,by dsimp only;omega,by dsimp only;omega,fun _=>by simp⟩
 rename_i cf
 rw[if_neg cf] at h0
 split
 ·refine⟨by dsimp only;omega,by dsimp only;omega,by dsimp only;omega,by simp;omega,by dsimp only;omega,by dsimp only;omega,fun _=>by simp⟩
 rename_i cm
 rw[if_neg cm] at h0
 cases h0
theorem zoo (t:Bs):∀ (s:St) (m:Nat),Small s m→(LexM.run s t).2=0→Small (LexM.run s t).1 (m+2 * t.length):=by
 induction t with
 | nil=>intro s m h _;exact h
 | cons c r ih =>
  intro s m h h0
  by_cases hz:(LexM.takes s c).2=0
  ·rw[LexM.run_ok hz] at h0 ⊢
   have:=ih _ _ (zjs h c hz) h0
   rw[List.length_cons]
   exact this.mono (by omega)
  rw[LexM.run_bad hz] at h0;exact absurd h0 hz
theorem zqq (t:Bs) (c:UInt8) (s:St) (h:(LexM.run s t).2=0):LexM.run s (t ++ [c])=if (LexM.takes (LexM.run s t).1 c).2=0 then ((LexM.takes (LexM.run s t).1 c).1,0) else LexM.takes (LexM.run s t).1 c:=by
 rw[LexM.run_append,if_pos h]
 by_cases hz:(LexM.takes (LexM.run s t).1 c).2=0
 ·rw[LexM.run_ok hz,if_pos hz];rfl
 rw[LexM.run_bad hz,if_neg hz]
theorem run_stop (t r:Bs) (s:St) (h:(LexM.run s t).2≠0):LexM.run s (t ++ r)=LexM.run s t:=by rw[LexM.run_append,if_neg h]
def WdOk (m:Nat) (x:Wd):Prop:=0≤x.1∧x.1≤m∧x.2.length≤m
def LnOk (m:Nat) (x:Ln):Prop:=0≤x.1∧x.1≤m+1∧∀ wd∈x.2,WdOk m wd
structure Fine (s:St) (m:Nat):Prop where
 words:∀ wd∈s.words,WdOk m wd
 out:∀ ln∈s.out,LnOk m ln
theorem WdOk.mono {m k:Nat} {x:Wd} (h:WdOk m x) (hk:m≤k):WdOk k x:=by obtain⟨a,b,c⟩:=h;exact⟨a,by omega,by omega⟩
theorem LnOk.mono {m k:Nat} {x:Ln} (h:LnOk m x) (hk:m≤k):LnOk k x:=by obtain⟨a,b,c⟩:=h;exact⟨a,by omega,fun wd hw=>(c wd hw).mono hk⟩
theorem Fine.mono {s:St} {m k:Nat} (h:Fine s m) (hk:m≤k):Fine s k:=⟨fun wd hw=>(h.words wd hw).mono hk,fun ln hl=>(h.out ln hl).mono hk⟩
theorem zpn {s:St} {m:Nat} (hs:Small s m) (h:Fine s m):Fine (LexM.ends s) m:=by
 refine⟨?_,h.out⟩
 unfold LexM.ends
 dsimp only
 split
 ·intro wd hw
  rcases List.mem_append.1 hw with hw | hw
  ·exact h.words wd hw
  simp at hw
  subst hw
  exact⟨hs.frm.1,hs.frm.2,hs.word⟩
 exact h.words
theorem zh8 {s:St} {m:Nat} (hs:Small s m) (h:Fine s m):Fine (LexM.breaks s) m:=by
 have h1:=zpn hs h
 unfold LexM.breaks
 refine⟨by simp,?_⟩
 dsimp only
 split
 ·exact h.out
 intro ln hl
 rcases List.mem_append.1 hl with hl | hl
 ·exact h.out ln hl
 simp at hl
 subst hl
 exact⟨hs.line.1,hs.line.2,h1.words⟩
theorem zu2 {s:St} {m:Nat} (hs:Small s m) (h:Fine s m) (c:UInt8):Fine (LexM.takes s c).1 (m+2):=by
 have h1:=zmt hs
 have h2:Fine (LexM.onward s) (m+1):=⟨(h.mono (Nat.le_succ m)).words,(h.mono (Nat.le_succ m)).out⟩
 have h3:=(zpn h1 h2).mono (Nat.le_succ _)
 have h4:=h2.mono (Nat.le_succ (m+1))
 unfold LexM.takes
 split
 ·exact (zh8 h1 h2).mono (Nat.le_succ _)
 split
 ·exact h4
 split
 ·exact h4
 split
 ·exact⟨h3.words,h3.out⟩
 split
 ·exact h3
 split
 ·exact⟨h4.words,h4.out⟩
 split
 ·exact⟨h4.words,h4.out⟩
 exact⟨h4.words,h4.out⟩
theorem zsn (t:Bs):∀ (s:St) (m:Nat),Small s m→Fine s m→(LexM.run s t).2=0→Fine (LexM.run s t).1 (m+2 * t.length):=by
 induction t with
 | nil=>intro s m _ h _;exact h
 | cons c r ih =>
  intro s m hs h h0
  by_cases hz:(LexM.takes s c).2=0
  ·rw[LexM.run_ok hz] at h0 ⊢
   have:=ih _ _ (zjs hs c hz) (zu2 hs h c) h0
   rw[List.length_cons]
   exact this.mono (by omega)
  rw[LexM.run_bad hz] at h0;exact absurd h0 hz
theorem zmj {n:Int} (h0:0≤n) (h1:n≤9223372036854775807):(Lit.int .i64 n).wf=true:=by
 simp[Lit.wf,IntKind.min,IntKind.max,IntKind.signed,IntKind.bits]
 omega
theorem rword {w:World} {m:Nat} (hm:m≤10000000) {x:Wd} (h:WdOk m x):RWd w (zb7 x) x:=by
 obtain⟨a,b,c⟩:=h
 exact⟨rfl,zmj a (by omega),by unfold maxLen;omega⟩
theorem zby.reads {w0 w w':World} {x:Nat} {s:St} {wv sv ov:Value} {rv:List Value} (h:zby w0 x s wv sv ov rv w) (hfr:Frm (fun k=>k < w0.heap.size) w w') {m:Nat} (hm:m≤10000000) (hf:Fine s m):RLns w' [ov] s.out:=by
 have hz:(zdq s.out rv)=(s.out.zip rv).flatMap fun x=>[.int .i64 x.1.1,x.2]:=rfl
 have hlen:(s.out.zip rv).length=s.out.length:=by simp[h.rlen]
 have h1:=hfr.owns h.out (fun k hk e=>by have:=(h.out.lt k hk).1;omega)
 rw[hz] at h1
 have h2:zcs 2 (fun w cs (y:Ln × Value)=>RLn w cs y.1) w' [ov] (s.out.zip rv):=by
  refine zdu (B:=w0.heap.size) (e:=62) (fun x:Ln × Value=>[.int .i64 x.1.1,x.2]) _ (fun _ _=>rfl) ?_ (by rw[hlen];exact h1)
  intro y hy
  obtain⟨i,hi,rfl⟩:=List.mem_iff_getElem.1 hy
  have hi1:i < s.out.length:=by omega
  have hi2:i < rv.length:=by rw[h.rlen];exact hi1
  rw[List.getElem_zip]
  obtain⟨r0,_⟩:=h.rows i s.out[i] rv[i] (List.getElem?_eq_getElem hi1) (List.getElem?_eq_getElem hi2)
  have r1:=hfr.owns r0 (fun k hk e=>by have:=(r0.lt k hk).1;omega)
  obtain⟨a,b,c⟩:=hf.out _ (List.getElem_mem hi1)
  refine⟨rv[i],rfl,zdu zb7 RWd (fun _ _=>rfl) (fun wd hw=>rword hm (c wd hw)) r1,zmj (n:=s.out[i].1) a (by omega)⟩
 obtain⟨a,cap,hv,g1,g2,g3⟩:=h2
 rw[hlen] at hv g1
 refine⟨a,cap,hv,g1,g2,fun i ln hi=>?_⟩
 have hi1:=(List.getElem?_eq_some_iff.1 hi).1
 have hi2:i < rv.length:=by rw[h.rlen];exact hi1
 have hzi:(s.out.zip rv)[i]? = some (ln,rv[i]):=by
  rw[List.getElem?_zip_eq_some]
  exact⟨hi,List.getElem?_eq_getElem hi2⟩
 exact g3 i _ hzi
def zfc (w:World) (r:LexM.Res) (e:Ending) (w':World):Prop:=∃ v,e = .returned (.tuple #[v,.agg #[.int .i64 r.at1,.int .i64 r.at2],.int .i64 r.e])∧RLns w' [v] r.lines∧Below w.heap.size w w'
theorem znh (s:ByteArray) (hs:s.size≤140737488351232) (w:World) (h:65536 < s.size):Calls Tryz.prog 70 #[.string s] w (zfc w (LexM.lines s.data.toList)):=by
 have hr:LexM.lines s.data.toList=⟨[],0,0,4⟩:=by unfold LexM.lines;rw[if_pos];rw[Array.length_toList];exact h
 rw[hr]
 clear hr
 go_enter Tryz.func70,Tryz.ntmps70
 go_wp2_with fail
 refine bodyPost_ret (v:=.tuple #[.slice none 0 0,.agg #[.int .i64 0,.int .i64 0],.int .i64 4]) (by simp[results,Tryz.results70,go_sem]) rfl ⟨_,rfl,⟨none,0,rfl,Nat.le_refl _,Nat.zero_le _,fun i x hi=>by simp at hi⟩,?_⟩
 exact (Below.refl _ _).alloc (Nat.le_refl _) _
theorem zby.start (w1:World):zby w1 w1.heap.size LexM.st0 (.slice none 0 0) (.slice none 0 0) (.slice none 0 0) [] (w1.alloc (.cells (zaz LexM.st0 (.slice none 0 0) (.slice none 0 0) (.slice none 0 0)) 182)) :=
 ⟨heap_alloc_new w1 _,World.ownsRow_nil _ _ _ _,World.ownsRow_nil _ _ _ _,World.ownsRow_nil _ _ _ _,rfl,fun i ln v hi=>by simp[LexM.st0] at hi,(Below.refl _ _).alloc (Nat.le_refl _) _,Nat.le_refl _⟩
def zs1 (w1:World) (x:Nat) (t:Bs) (k:Nat) (w:World):Prop:=(LexM.run LexM.st0 (t.take k)).2=0∧∃ wv sv ov rv,zby w1 x (LexM.run LexM.st0 (t.take k)).1 wv sv ov rv w
theorem byte_at (s:ByteArray) (k:Nat) (h:k < s.size):s.data.toList.take (k+1)=s.data.toList.take k ++ [s[k]]:=by
 rw[List.take_add_one,List.getElem?_eq_getElem (by rw[Array.length_toList];exact h)]
 rfl
theorem zlf (s:ByteArray) (w:World) (h:s.size≤65536):Calls Tryz.prog 70 #[.string s] w (zfc w (LexM.lines s.data.toList)):=by
 have hlen:s.data.toList.length=s.size:=by rw[Array.length_toList];rfl
 have hr:LexM.lines s.data.toList=LexM.close (LexM.run LexM.st0 s.data.toList):=by unfold LexM.lines;rw[if_neg];omega
 rw[hr]
 clear hr
 obtain⟨t,ht⟩ : ∃ t,t=s.data.toList:=⟨_,rfl⟩
 rw[← ht] at hlen ⊢
 have h0:=zby.start (w.alloc (.cells #[.int .i64 0,.int .i64 0] 40))
 simp only[World.size_alloc] at h0
 have hg0:zs1 (w.alloc (.cells #[.int .i64 0,.int .i64 0] 40)) (w.heap.size+1) t 0 ((w.alloc (.cells #[.int .i64 0,.int .i64 0] 40)).alloc (.cells (zaz LexM.st0 (.slice none 0 0) (.slice none 0 0) (.slice none 0 0)) 182)):=⟨rfl,_,_,_,_,h0⟩
 obtain⟨Ht,Hlen,Hg0⟩:=hd3 ht hlen hg0;clear ht hlen hg0
 clear h0
 go_enter Tryz.func70,Tryz.ntmps70
 go_wp2_with fail
 obtain⟨w2,hw2⟩ : ∃ w2,w2=((w.alloc (.cells #[.int .i64 0,.int .i64 0] 40)).alloc (.cells (zaz LexM.st0 (.slice none 0 0) (.slice none 0 0) (.slice none 0 0)) 182)):=⟨_,rfl⟩
 rw[← hw2] at Hg0
 have hw3:=hw2
 simp only[zaz,LexM.st0] at hw3
 rw[← hw3]
 clear hw2 hw3
 go_loopw [16] (fun i wr=>∃ k:Nat,k≤s.size∧i = .int .i64 k∧zs1 (w.alloc (.cells #[.int .i64 0,.int .i64 0] 40)) (w.heap.size+1) t k wr) (fun i _=>s.size - (intOf i).toNat)
 case atStart=>exact⟨0,Nat.zero_le _,rfl,Hg0.out⟩
 case round =>
  obtain⟨k,hk,rfl,hg⟩:=hrel
  obtain⟨hz,wv,sv,ov,rv,hL⟩:=hg
  have hS:=zoo (t.take k) LexM.st0 0 zsd hz
  have htl:(t.take k).length≤k:=List.length_take_le _ _
  obtain⟨st,hst⟩ : ∃ st,st=(LexM.run LexM.st0 (t.take k)).1:=⟨_,rfl⟩
  rw[← hst] at hL hS
  by_cases hlt:k < s.size
  ·have hsn:=byte_at s k hlt
   obtain⟨Hz,HL,HS,Hst,Hsn⟩:=hd5 hz hL hS hst hsn;clear hz hL hS hst hsn
   go_wp2_with fail
   refine (takes_any HL.out (by omega) HS.out s[k]).mono ?_
   rintro e w3 ⟨rfl,wv3,sv3,ov3,rv3,h3⟩
   obtain⟨er,her⟩ : ∃ er,er=(LexM.takes st s[k]).2:=⟨_,rfl⟩
   have htk:LexM.run LexM.st0 (t.take (k+1))=if (LexM.takes st s[k]).2=0 then ((LexM.takes st s[k]).1,0) else LexM.takes st s[k]:=by
    rw[Ht.out,Hsn.out,← Ht.out,zqq _ _ _ Hz.out,← Hst.out]
   rw[← her] at htk ⊢
   by_cases he:er=0
   ·have hb:(er != 0)=false:=by rw[he];rfl
    rw[if_pos he] at htk
    have hg:zs1 (w.alloc (.cells #[.int .i64 0,.int .i64 0] 40)) (w.heap.size+1) t (k+1) w3:=⟨by rw[htk],wv3,sv3,ov3,rv3,by rw[htk];exact h3⟩
    obtain⟨Hg,Htk,Her,He⟩:=hd4 hg htk her he;clear hg htk her he
    clear h3
    go_wp2_with fail
    go_roundw
    case rel=>exact⟨k+1,by omega,by go_num,Hg.out⟩
    case measure=>simp[intOf];omega
   have hb:(er != 0)=true:=by rw[bne_iff_ne];exact he
   rw[if_neg he] at htk
   have hsplit:t=t.take (k+1) ++ t.drop (k+1):=(List.take_append_drop _ _).symm
   have hrun:LexM.run LexM.st0 t=LexM.takes st s[k]:=by
    rw[hsplit,run_stop _ _ _ (by rw[htk];rw[← her];exact he),htk]
   have hcl:LexM.close (LexM.run LexM.st0 t)=⟨[],(LexM.takes st s[k]).1.line,(LexM.takes st s[k]).1.col,er⟩:=by
    rw[hrun];unfold LexM.close;rw[← her,if_neg he]
   have x0:=za4 h3.cells 0
   have x1:=za4 h3.cells 1
   simp only[zaz,List.getElem?_toArray,List.getElem?_cons_succ,List.getElem?_cons_zero] at x0 x1
   obtain⟨l3,hl3⟩ : ∃ l3,l3=(LexM.takes st s[k]).1.line:=⟨_,rfl⟩
   obtain⟨c3,hc3⟩ : ∃ c3,c3=(LexM.takes st s[k]).1.col:=⟨_,rfl⟩
   rw[← hl3] at x0 hcl
   rw[← hc3] at x1 hcl
   have hblk:w3.heap[w.heap.size]? = some (.cells #[.int .i64 0,.int .i64 0] 40 (0,0)):=by
    rw[h3.bel.block _ (by simp)];exact heap_alloc_new w _
   have z0:=za4 hblk 0
   have z1:=za4 hblk 1
   have y0:=za9 hblk 0
   have y1:=za9 hblk 1
   simp only[List.getElem?_toArray,List.getElem?_cons_succ,List.getElem?_cons_zero] at z0 z1
   have hbel:=h3.bel
   obtain⟨Hbel,Htk,Her,He,Hrun,Hcl,Hsplit,Hl3,Hc3,H3⟩:=hd10 hbel htk her he hrun hcl hsplit hl3 hc3 h3;clear hbel htk her he hrun hcl hsplit hl3 hc3 h3
   clear hblk
   go_wp2_with fail
   go_region
   all_goals
    go_wp2_with fail
    refine bodyPost_ret (v:=.tuple #[.slice none 0 0,.agg #[.int .i64 l3,.int .i64 c3],.int .i64 er]) (by simp[results,Tryz.results70,go_sem,z0,z1]) rfl ?_
    rw[Hcl.out]
    refine⟨_,rfl,⟨none,0,rfl,Nat.le_refl _,Nat.zero_le _,fun i x hi=>by simp at hi⟩,?_⟩
    exact ((((Below.refl _ _).alloc (Nat.le_refl _) _).trans (Hbel.out.mono (by simp))).setCell (Nat.le_refl _) _).setCell (Nat.le_refl _) _ |>.drew
  obtain rfl:k=s.size:=by omega
  have htake:t.take s.size=t:=List.take_of_length_le (by have:=Hlen.out;omega)
  have hF:=zsn (t.take s.size) LexM.st0 0 zsd ⟨by simp[LexM.st0],by simp[LexM.st0]⟩ hz
  rw[← hst] at hF
  have hcl:LexM.close (LexM.run LexM.st0 t)=⟨(LexM.breaks st).out,0,0,0⟩:=by
   rw[htake] at hz hst
   unfold LexM.close;rw[if_pos hz,← hst]
  have hF2:=zh8 hS hF
  obtain⟨Hz,HL,HS,Hst,Htake,Hcl,HF,HF2⟩:=hd8 hz hL hS hst htake hcl hF hF2;clear hz hL hS hst htake hcl hF hF2
  go_wp2_with fail
  refine (zmb HL.out (by omega) HS.out).mono ?_
  rintro e w3 ⟨rfl,wv3,sv3,ov3,rv3,h3⟩
  have x6:=za4 h3.cells 6
  simp only[zaz,List.getElem?_toArray,List.getElem?_cons_succ,List.getElem?_cons_zero] at x6
  have hblk:w3.heap[w.heap.size]? = some (.cells #[.int .i64 0,.int .i64 0] 40 (0,0)):=by
   rw[h3.bel.block _ (by simp)];exact heap_alloc_new w _
  have z0:=za4 hblk 0
  have z1:=za4 hblk 1
  have y0:=za9 hblk 0
  have y1:=za9 hblk 1
  simp only[List.getElem?_toArray,List.getElem?_cons_succ,List.getElem?_cons_zero] at z0 z1
  have hRd:=h3.reads (w':=(w3.setCell ⟨w.heap.size,0,none⟩ (.int .i64 0)).setCell ⟨w.heap.size,1,none⟩ (.int .i64 0)) (Frm.setCell (Frm.setCell (Frm.refl _ _) (p:=⟨w.heap.size,0,none⟩) (.inr (by simp)) _) (p:=⟨w.heap.size,1,none⟩) (.inr (by simp)) _) (by omega) HF2.out
  have hbel:=h3.bel
  obtain⟨Hbel,HRd,H3⟩:=hd3 hbel hRd h3;clear hbel hRd h3
  clear hblk
  go_wp2_with fail
  refine bodyPost_ret (v:=.tuple #[ov3,.agg #[.int .i64 0,.int .i64 0],.int .i64 0]) (by simp[results,Tryz.results70,go_sem,z0,z1]) rfl ?_
  rw[Hcl.out]
  refine⟨_,rfl,?_,?_⟩
  ·exact HRd.out
  exact (((((Below.refl _ _).alloc (Nat.le_refl _) _).trans (Hbel.out.mono (by simp))).setCell (Nat.le_refl _) _).setCell (Nat.le_refl _) _)
theorem zg2 (s:ByteArray) (hs:s.size≤140737488351232) (w:World):Calls Tryz.prog 70 #[.string s] w (zfc w (LexM.lines s.data.toList)):=by
 by_cases h:65536 < s.size
 ·exact znh s hs w h
 exact zlf s w (by omega)
end

section
open Go.RowKit
theorem flat_get' {k:Nat}:∀ {css:List (List Value)},(∀ cs∈css,cs.length=k)→∀ (i:Nat) (h:i < css.length) (j:Nat),j < k→css.flatten[i * k+j]? = css[i][j]?
 | [],_,i,h,_,_=>by simp at h
 | c :: css,hk,0,_,j,hj=>by
  rw[List.flatten_cons,Nat.zero_mul,Nat.zero_add,List.getElem?_append_left (by rw[hk c (by simp)];exact hj)];rfl
 | c :: css,hk,i+1,h,j,hj=>by
  have hc:=hk c (by simp)
  rw[List.flatten_cons,List.getElem?_append_right (by rw[hc,Nat.succ_mul];omega),hc,show (i+1) * k+j - k=i * k+j by rw[Nat.succ_mul];omega]
  rw[flat_get' (fun x hx=>hk x (by simp[hx])) i (by simpa using h) j hj];rfl
theorem zgr {α:Type} {sz:Nat} {R:Rd α} {w:World} {B:Nat} {e:TypeId} {v:Value} {css:List (List Value)} {l:List α} (hsz:0 < sz) (hlen:css.length=l.length) (hk:∀ cs∈css,cs.length=sz) (h:w.ownsRow B e sz v l.length css.flatten) (hr:∀ (i:Nat) cs x,css[i]? = some cs→l[i]? = some x→R w cs x):zcs sz R w [v] l:=by
 obtain⟨a,cap,rfl,h1,h2,h3⟩:=Sl.of_owns h
 refine⟨a,cap,rfl,h1,h2,fun i x hi=>?_⟩
 have hil:=(List.getElem?_eq_some_iff.1 hi).1
 have hic:i < css.length:=by omega
 have hcl:=hk _ (List.getElem_mem hic)
 have hc:∀ c,c < sz→∀ u,css[i][c]? = some u→∃ b off,a=some ⟨b,off,none⟩∧w.cell? ⟨b,off+(i * sz+c),none⟩=some u:=fun c hc u hu=>h3 (i * sz+c) u (by rw[flat_get' hk i hic c hc];exact hu)
 obtain⟨b,off,ha,_⟩:=hc 0 hsz (css[i][0]'(by omega)) (List.getElem?_eq_getElem (by omega))
 refine⟨b,off,css[i],ha,hcl,fun j u hu=>?_,hr i _ x (List.getElem?_eq_getElem hic) hi⟩
 have hj:=(List.getElem?_eq_some_iff.1 hu).1
 obtain⟨b',off',ha',h5⟩:=hc j (by omega) u hu
 rw[ha] at ha'
 cases ha'
 rw[Nat.add_assoc];exact h5
end

section
open Go.Shelf Go.RowKit Go.Lib VerN VarM
open LexM (Wd Ln zfs)
attribute [local go_sem ↓] Go.wp_at_zero Go.wp_at_succ
abbrev Rt:=Spc3 × Int
def RRootT (W:World) (cs:List Value) (x:Rt):Prop:=∃ v1 v2,cs = [.string x.1.1,v1,v2,.int .i64 x.2]∧zea W v1 x.1.2.1∧zbv W v2 x.1.2.2
def zqd:Rd Rt:=fun W cs x=>∃ v1 v2,cs = [.string x.1.1,v1,v2,.int .i64 x.2]∧RSps W [v1] x.1.2.1∧ze3 W [v2] x.1.2.2
theorem zb4:zj5 zqd:=fun w w' cs x h hb=>by
 obtain⟨v1,v2,e,h1,h2⟩:=h
 exact⟨v1,v2,e,za5 zaw _ _ _ _ h1 hb,za5 zb5 _ _ _ _ h2 hb⟩
abbrev zdo:Rd (List Rt):=zcs 4 zqd
structure RqSt (w:World) (g:Nat) (rs:List Rt) (css:List (List Value)) (v:Value) (W:World):Prop where
 box:W.heap[g]? = some (.cells #[v] 38 (0,0))
 row:W.ownsRow w.heap.size 101 4 v rs.length css.flatten
 len:css.length=rs.length
 els:∀ (i:Nat) cs x,css[i]? = some cs→rs[i]? = some x→RRootT W cs x
 bel:Below w.heap.size w W
theorem RqSt.to {w W W':World} {g:Nat} {rs:List Rt} {css:List (List Value)} {v:Value} (h:RqSt w g rs css v W) (hb:Below W.heap.size W W'):RqSt w g rs css v W' :=
 ⟨za0 hb h.box,zae h.row hb,h.len,fun i cs x h1 h2=>by
  obtain⟨v1,v2,e,k1,k2⟩:=h.els i cs x h1 h2
  exact⟨v1,v2,e,zar k1 hb,zb0 k2 hb⟩,h.bel.trans (hb.mono h.bel.size)⟩
theorem RqSt.reads {w W:World} {g:Nat} {rs:List Rt} {css:List (List Value)} {v:Value} (h:RqSt w g rs css v W):zdo W [v] rs:=by
 refine zgr (by decide) h.len (fun cs hcs=>?_) h.row (fun i cs x h1 h2=>?_)
 ·obtain⟨i,hi,e⟩:=List.getElem_of_mem hcs
  obtain⟨v1,v2,e2,_⟩:=h.els i cs (rs[i]'(by rw[← h.len];exact hi)) (by rw[← e];exact List.getElem?_eq_getElem hi) (List.getElem?_eq_getElem (by rw[← h.len];exact hi))
  rw[e2];rfl
 obtain⟨v1,v2,e,k1,k2⟩:=h.els i cs x h1 h2
 exact⟨v1,v2,e,k1.1,k2.1⟩
theorem RqSt.other {w W W':World} {g:Nat} {rs:List Rt} {css:List (List Value)} {v:Value} {T:Nat→Prop} (h:RqSt w g rs css v W) (hF:Frm T W W') (hT:No2 W T) (hO:∀ k,T k→v.ownBlock≠some k):zdo W' [v] rs:=by
 refine zgr (by decide) h.len (fun cs hcs=>?_) (hF.owns h.row (fun k hk kT=>hO k kT hk)) (fun i cs x h1 h2=>?_)
 ·obtain⟨i,hi,e⟩:=List.getElem_of_mem hcs
  obtain⟨v1,v2,e2,_⟩:=h.els i cs (rs[i]'(by rw[← h.len];exact hi)) (by rw[← e];exact List.getElem?_eq_getElem hi) (List.getElem?_eq_getElem (by rw[← h.len];exact hi))
  rw[e2];rfl
 obtain⟨v1,v2,e,k1,k2⟩:=h.els i cs x h1 h2
 exact⟨v1,v2,e,(zas k1 hF hT).1,(zax k2 hF hT).1⟩
theorem RqSt.push {w W w9:World} {g:Nat} {rs:List Rt} {css:List (List Value)} {v v9 v1 v2:Value} {x:Rt} (h:RqSt w g rs css v W) (hg:w.heap.size≤g) (h1:zea W v1 x.1.2.1) (h2:zbv W v2 x.1.2.2)
  (ho:w9.ownsRow w.heap.size 101 4 v9 (rs.length+1) (css.flatten ++ [.string x.1.1,v1,v2,.int .i64 x.2])) (hgr:W.grownBy w9 v.ownBlock) :
  RqSt w g (rs ++ [x]) (css ++ [[.string x.1.1,v1,v2,.int .i64 x.2]]) v9 (w9.setCell ⟨g,0,none⟩ v9)∧w9.heap[g]? = some (.cells #[v] 38 (0,0)):=by
 have f1:Frm (fun k=>v.ownBlock=some k) W w9:=zer hgr
 have hvg:=zai h.row h.box (by decide)
 have hb9:=zbp h.box f1 hvg
 have hv9g:=zai ho hb9 (by decide)
 have f2:Frm (fun k=>k=g) w9 (w9.setCell ⟨g,0,none⟩ v9):=zaa (Frm.refl _ _) 0 _
 have fT:Frm (fun k=>v.ownBlock=some k∨k=g) W (w9.setCell ⟨g,0,none⟩ v9):=(f1.mono (fun _ _ h=>.inl h)).trans f2 (fun _ _ h=>.inr h)
 have hT:No2 W (fun k=>v.ownBlock=some k∨k=g):=by
  rintro k (hk | rfl)
  ·obtain⟨cs,hc⟩:=ze7 h.row k hk
   exact zay hc (by decide) (by decide)
  exact zay h.box (by decide) (by decide)
 refine⟨⟨heap_setCell_same w9 g 0 _ _ v9 hb9,?_,by simp[h.len],fun i cs y e1 e2=>?_,?_⟩,hb9⟩
 ·rw[List.length_append,List.flatten_append]
  have:=f2.owns ho (fun k hk e=>hv9g (by rw[hk,e]))
  simpa using this
 ·by_cases hi:i < css.length
  ·rw[List.getElem?_append_left hi] at e1
   rw[List.getElem?_append_left (by rw[← h.len];exact hi)] at e2
   obtain⟨u1,u2,e,k1,k2⟩:=h.els i cs y e1 e2
   exact⟨u1,u2,e,zas k1 fT hT,zax k2 fT hT⟩
  have hlt:=(List.getElem?_eq_some_iff.1 e1).1
  have e:i=css.length:=by simp at hlt;omega
  rw[List.getElem?_append_right (by omega),e,Nat.sub_self] at e1
  rw[List.getElem?_append_right (by rw[← h.len];omega),e,h.len,Nat.sub_self] at e2
  simp at e1 e2
  subst e1 e2
  exact⟨v1,v2,rfl,zas h1 fT hT,zax h2 fT hT⟩
 exact h.bel.trans (fT.below h.bel.size (by
  rintro k (hk | rfl)
  ·exact (h.row.lt k hk).1
  exact hg))
theorem lns_at {w:World} {a:Option Addr} {n c:Nat} {ls:List Ln} (h:RLns w [.slice a n c] ls):n=ls.length∧n≤9223372036854775807∧∀ i x,ls[i]? = some x→∃ b off a2 n2 c2,a=some ⟨b,off,none⟩∧w.cell? ⟨b,off+i * 2,none⟩=some (.int .i64 x.1)∧w.cell? ⟨b,off+i * 2+1,none⟩=some (.slice a2 n2 c2)∧RWds w [.slice a2 n2 c2] x.2:=by
 obtain⟨a',cap,hv,hcap,hmax,hel⟩:=h
 simp only[List.cons.injEq,and_true,Value.slice.injEq] at hv
 obtain⟨rfl,hn,_⟩:=hv
 unfold maxLen at hmax
 refine⟨hn,by omega,fun i x hi=>?_⟩
 obtain⟨b,off,ecs,h1,h2,h3,v,h4,h5,_⟩:=hel i x hi
 obtain⟨a2,c2,rfl⟩:=zo5 h5
 subst h4
 exact⟨b,off,a2,_,c2,h1,by simpa using h3 0 _ rfl,by simpa using h3 1 _ rfl,h5⟩
theorem zgy {P:Program} {fn:Func} {p q u:Tmp} {ty tz t1 t2:TypeId} (h:fn.results=#[.cell p ty,.cell q tz,.tmp u]) {tmps:Array Value} {w:World} {g k:Nat} {cs ds:Array Value} {d1 d2:TypeDesc} {x:Value}
  (hp:tmps.getD p undef = .pointer (some ⟨g,0,none⟩)) (hq:tmps.getD q undef = .pointer (some ⟨k,0,none⟩)) (hx:tmps.getD u undef=x) (hg:w.heap[g]? = some (.cells cs t1 (0,0))) (hk:w.heap[k]? = some (.cells ds t2 (0,0)))
  (hu:P.underlying ty=some d1) (hd:(match d1 with | .struct _ | .array _ _=>true | _=>false)=true) (hi:(P.info? ty).map (·.size)=some cs.size)
  (hu2:P.underlying tz=some d2) (hd2:(match d2 with | .struct _ | .array _ _=>true | _=>false)=true) (hi2:(P.info? tz).map (·.size)=some ds.size) :
  (results fn tmps).run P w = .ok (.tuple #[.agg cs,.agg ds,x]) w:=by
 have hl:=run_loadVar_row w g t1 ty cs (0,0) d1 hg hu hd hi
 have hl2:=run_loadVar_row w k t2 tz ds (0,0) d2 hk hu2 hd2 hi2
 have hp':tmps[p]?.getD undef = .pointer (some ⟨g,0,none⟩):=by simpa using hp
 have hq':tmps[q]?.getD undef = .pointer (some ⟨k,0,none⟩):=by simpa using hq
 have hx':tmps[u]?.getD undef=x:=by simpa using hx
 simp only[results,h]
 simp[Sem.run_bind,Result.andThen,asAddr,hp',hq',hx',hl,hl2]
def zrz (w:World) (r:ztt) (e:Ending) (w':World):Prop:=∃ v,e = .returned (.tuple #[.agg #[v],.agg #[.int .i64 r.at1,.int .i64 r.at2],.int .i64 r.e])∧zdo w' [v] r.roots∧Below w.heap.size w w'
theorem zpp:Elem Tryz.prog 36 101 (.agg #[.string ⟨#[]⟩,.slice none 0 0,.slice none 0 0,.int .i64 0]) 4 72:=⟨Tryz.underlying36,by kernel_rfl,rfl,by decide⟩
theorem zsu {l:Ln} {r:List Ln} {out:List Rt} {s:Spc3} {c:Int} (h:zdm l=(some s,c)):ze0 (l :: r) out=ze0 r (out ++ [(s,l.1)]):=by
 show (match zdm l with | (some s,_)=>ze0 r (out ++ [(s,l.1)]) | (none,c)=>⟨[],l.1,c,2⟩)=_
 rw[h]
theorem zsv {l:Ln} {r:List Ln} {out:List Rt} {c:Int} (h:zdm l=(none,c)):ze0 (l :: r) out=⟨[],l.1,c,2⟩:=by
 show (match zdm l with | (some s,_)=>ze0 r (out ++ [(s,l.1)]) | (none,c)=>⟨[],l.1,c,2⟩)=_
 rw[h]
abbrev WhBox (k:Nat) (x y:Int) (W:World):Prop:=W.heap[k]? = some (.cells #[.int .i64 x,.int .i64 y] 40 (0,0))
abbrev zik (k:Nat) (v:Value) (W:World):Prop:=W.heap[k]? = some (.cells #[v] 38 (0,0))
theorem zj8 {k:Nat} {x y:Int} {W:World} (h:WhBox k x y W):W.cell? ⟨k,0,none⟩=some (.int .i64 x)∧W.cell? ⟨k,1,none⟩=some (.int .i64 y)∧W.frozen? ⟨k,0,none⟩=false∧W.frozen? ⟨k,1,none⟩=false:=⟨za4 h 0,za4 h 1,za9 h 0,za9 h 1⟩
theorem zak {k:Nat} {v:Value} {W:World} (h:zik k v W):W.cell? ⟨k,0,none⟩=some v∧W.frozen? ⟨k,0,none⟩=false:=⟨za4 h 0,za9 h 0⟩
theorem zox (t:ByteArray) (ht:t.size≤140737488351232) {w:World} (hD:zbo w):Calls Tryz.prog 28 #[.string t] w (zrz w (zf0 t.data.toList)):=by
 have hgood:=LexM.doc_good7 t.data.toList
 have hL:=fun (W:World)=>zg2 t (by omega) W
 rw[LexM.lines_eq] at hL
 obtain⟨R,hR⟩ : ∃ R,R=LexM.docLines t.data.toList:=⟨_,rfl⟩
 have hreq:zf0 t.data.toList=if R.e=0 then ze0 R.lines [] else ⟨[],R.at1,R.at2,R.e⟩:=by unfold zf0;rw[hR]
 rw[← hR] at hL hgood
 have hlen:t.data.toList.length=t.size:=Txt.len t
 obtain⟨g,hg⟩ : ∃ g,g=w.heap.size:=⟨_,rfl⟩
 obtain⟨W1,hW1⟩ : ∃ W,W=(w.alloc (.cells #[.slice none 0 0] 38)).alloc (.cells #[.int .i64 0,.int .i64 0] 40):=⟨_,rfl⟩
 have hb1:Below w.heap.size w W1:=by rw[hW1];exact (za2 _ _).alloc (by simp) _
 have p0:zik g (.slice none 0 0) W1:=by rw[hW1,hg];exact za0 (za2 _ _) (za6 rfl)
 have p1:WhBox (g+1) 0 0 W1:=by rw[hW1,hg];exact za6 (by simp)
 have hs1:W1.heap.size=g+2:=by rw[hW1,hg];simp
 have hwg:w.heap.size≤g:=Nat.le_of_eq hg.symm
 have hL1:=hL W1
 unfold zfc at hL1
 obtain⟨a1,ha1⟩ : ∃ z,z=R.at1:=⟨_,rfl⟩
 obtain⟨a2,ha2⟩ : ∃ z,z=R.at2:=⟨_,rfl⟩
 obtain⟨er,her⟩ : ∃ z,z=R.e:=⟨_,rfl⟩
 obtain⟨ls,hls⟩ : ∃ z,z=R.lines:=⟨_,rfl⟩
 rw[← ha1,← ha2,← her,← hls] at hL1 hreq
 rw[← hls] at hgood
 clear hL
 obtain⟨HD,Hgood,Hreq,HL1,Hb1,Hp0,Hp1,HR,Hlen,Ha1,Ha2,Her,Hls⟩:=hd13 hD hgood hreq hL1 hb1 p0 p1 hR hlen ha1 ha2 her hls;clear hD hgood hreq hL1 hb1 p0 p1 hR hlen ha1 ha2 her hls
 go_enter Tryz.func28,Tryz.ntmps28
 go_upto_region 1 with (fail)
 rw[← hW1,← hg]
 clear hW1 hg
 go_wp2_with fail
 refine HL1.out.mono ?_
 rintro e w2 ⟨v,rfl,hln,hb2⟩
 obtain⟨ad,cp,rfl⟩ : ∃ a c,v = .slice a ls.length c:=by
  obtain⟨a,cap,hv,_⟩:=hln
  simp only[List.cons.injEq,and_true] at hv
  exact⟨a,cap,hv⟩
 obtain⟨n,hn⟩ : ∃ n,n=ls.length:=⟨_,rfl⟩
 rw[← hn] at hln ⊢
 obtain⟨w3,hw3⟩ : ∃ W,W=w2.alloc (.cells #[.int .i64 a1,.int .i64 a2] 40):=⟨_,rfl⟩
 have hb23:Below w2.heap.size w2 w3:=by rw[hw3];exact za2 _ _
 have hb13:=hb2.trans (hb23.mono hb2.size)
 have hb3:=Hb1.out.trans (hb13.mono Hb1.out.size)
 have hs2:g+2≤w2.heap.size:=by have:=hb2.size;omega
 have p6:WhBox w2.heap.size a1 a2 w3:=by rw[hw3];exact heap_alloc_new _ _
 have p0':=za0 hb13 Hp0.out
 have p1':=za0 hb13 Hp1.out
 have hln3:=zhg _ _ _ _ hln hb23
 have hs3:w3.heap.size=w2.heap.size+1:=by rw[hw3];simp
 obtain⟨x0,x1,_,_⟩:=zj8 p6
 obtain⟨_,f0⟩:=zak p0'
 obtain⟨_,_,f1,f2⟩:=zj8 p1'
 by_cases he:er=0
 ·have k1:(er != 0)=false:=by rw[he];rfl
  have hq:=Hreq.out
  rw[if_pos he] at hq
  obtain⟨q,hqq⟩ : ∃ q,q=w3.heap.size:=⟨_,rfl⟩
  obtain⟨w4,hw4⟩ : ∃ W,W=w3.alloc (.cells #[.slice none 0 0] 38):=⟨_,rfl⟩
  have hI0:RqSt w3 q [] [] (.slice none 0 0) w4:=⟨by rw[hw4,hqq];exact heap_alloc_new _ _,World.ownsRow_nil _ _ _ _,rfl,(fun i cs x h=>by simp at h),by rw[hw4];exact za2 _ _⟩
  have hn1:n≤70001:=by have:=Hgood.out.2;omega
  have hlow:w3.heap.size≤q:=Nat.le_of_eq hqq.symm
  clear x0 x1 f0 f1 f2
  obtain⟨Hln,Hb2,Hb23,Hb13,Hb3,Hp6,Hp0',Hp1',Hln3,Hn,Hq,He,HI0,Hs3⟩:=hd14 hln hb2 hb23 hb13 hb3 p6 p0' p1' hln3 hn hq he hI0 hs3;clear hln hb2 hb23 hb13 hb3 p6 p0' p1' hln3 hn hq he hI0 hs3
  go_upto_region 2 with (fail)
  rw[← hw3]
  clear hw3
  go_upto_region 5 with (fail)
  rw[← hw4,← hqq]
  clear hw4 hqq
  go_wp2_with fail
  go_loopw [26] (fun v wr=>∃ (k:Nat) (rs:List Rt) (css:List (List Value)) (u:Value),k≤n∧v = .int .i64 k∧RqSt w3 q rs css u wr∧rs.length=k∧zf0 t.data.toList=ze0 (ls.drop k) rs) (fun v _=>n - (RowKit.intOf v).toNat)
  case atStart=>exact⟨0,[],[],_,Nat.zero_le _,rfl,HI0.out,rfl,by rw[List.drop_zero];exact Hq.out⟩
  case round =>
   obtain⟨wo,hwo⟩ : ∃ W,W=wr:=⟨_,rfl⟩
   rw[← hwo] at hrel ⊢
   clear hwo wr
   obtain⟨k,rs,css,u,hk,rfl,hI,hrk,hgo⟩:=hrel
   by_cases hlt:k < n
   ·have hkl:k < ls.length:=by have:=Hn.out;omega
    obtain⟨x,hx⟩ : ∃ x,x=ls[k]:=⟨_,rfl⟩
    obtain⟨-,-,hat⟩:=lns_at Hln3.out
    obtain⟨b,off,a2',n2,c2,rfl,c0,c1,hwd⟩:=hat k x (by rw[hx];exact List.getElem?_eq_getElem hkl)
    clear hat
    have d0:=cell_later hI.bel c0
    have d1:=cell_later hI.bel c1
    obtain⟨ln,hln0⟩ : ∃ z,z=x.1:=⟨_,rfl⟩
    rw[← hln0] at d0
    have hgx0:=Hgood.out.1 x (by rw[hx];exact List.getElem_mem hkl)
    have hgx:zfs 70000 x:=hgx0
    have hdr:ls.drop k=x :: ls.drop (k+1):=by rw[hx];exact List.drop_eq_getElem_cons hkl
    rw[hdr] at hgo
    obtain⟨w5,hw5⟩ : ∃ W,W=wo.alloc (.cells #[.int .i64 ln,.slice a2' n2 c2] 62):=⟨_,rfl⟩
    have hb5:Below wo.heap.size wo w5:=by rw[hw5];exact za2 _ _
    have hb35:=hI.bel.trans (hb5.mono hI.bel.size)
    obtain⟨lb,hlb⟩ : ∃ z,z=wo.heap.size:=⟨_,rfl⟩
    have p10:w5.heap[lb]? = some (.cells #[.int .i64 ln,.slice a2' n2 c2] 62 (0,0)):=by rw[hw5,hlb];exact heap_alloc_new _ _
    have y0:=za4 p10 0
    have y1:=za4 p10 1
    simp only[List.getElem?_toArray,List.getElem?_cons_zero,List.getElem?_cons_succ] at y0 y1
    have hO:=zlb (za5 zbt _ _ _ _ hwd hb35) (HD.out.below (Hb3.out.trans (hb35.mono Hb3.out.size))) hgx
    rw[← hln0] at hO
    have hlg:g+2 < lb:=by have:=hI.bel.size;have:=Hs3.out;omega
    obtain⟨au,cu,rfl⟩:=zah hI.row
    have k5:(0:Int)≤(k:Int):=by omega
    have k6:(k:Int) < (n:Int):=by omega
    rw[hrk] at hI
    clear c0 c1
    obtain⟨HI,Hrk,Hgo,Hx,Hwd,Hln0,Hgx0,Hgx,Hdr,Hb5,Hb35,Hp10,HO⟩:=hd13 hI hrk hgo hx hwd hln0 hgx0 hgx hdr hb5 hb35 p10 hO;clear hI hrk hgo hx hwd hln0 hgx0 hgx hdr hb5 hb35 p10 hO
    go_upto_region 8 with (fail)
    rw[← hw5,← hlb]
    clear hw5 hlb
    go_wp2_with fail
    refine HO.out.mono ?_
    rintro e w6 ⟨⟨s,col,b1,n1,c1,b2,n2',c2',hw,rfl,hv1,hv2⟩ | ⟨col,hw,hcol,rfl⟩,hb6⟩
    ·rw[← Hln0.out]
     obtain⟨w7,hw7⟩ : ∃ W,W=w6.alloc (.cells #[.string s.1,.slice b1 n1 c1,.slice b2 n2' c2',.int .i64 ln] 101):=⟨_,rfl⟩
     have hb67:Below w6.heap.size w6 w7:=by rw[hw7];exact za2 _ _
     have hb57:=hb6.trans (hb67.mono hb6.size)
     have hb47:=Hb5.out.trans (hb57.mono Hb5.out.size)
     have hI7:=HI.out.to hb47
     obtain⟨tb,htb⟩ : ∃ z,z=w6.heap.size:=⟨_,rfl⟩
     have p11:zl2 tb (.string s.1) (.slice b1 n1 c1) (.slice b2 n2' c2') (.int .i64 ln) w7:=by rw[hw7,htb];exact heap_alloc_new _ _
     obtain⟨⟨u0,u1,u2,u3⟩,_,_,_,_⟩:=zcl p11
     obtain⟨qc,_⟩:=zak hI7.box
     have hv1':=zar hv1 hb67
     have hv2':=zb0 hv2 hb67
     have hrow7:=hI7.row
     rw[Hrk.out] at hrow7
     have hbz:w3.heap.size≤w7.heap.size:=hI7.bel.size
     obtain⟨N,hN⟩ : ∃ N,N=css.flatten:=⟨_,rfl⟩
     rw[← hN] at hrow7
     obtain⟨Hw,Hv1,Hv2,Hb6,Hb67,Hb57,Hb47,HI7,Hp11,Hv1',Hv2',Hrow7,HN⟩:=hd13 hw hv1 hv2 hb6 hb67 hb57 hb47 hI7 p11 hv1' hv2' hrow7 hN;clear hw hv1 hv2 hb6 hb67 hb57 hb47 hI7 p11 hv1' hv2' hrow7 hN
     go_upto_region 9 with (fail)
     rw[← hw7,← htb]
     clear hw7 htb
     go_wp2_with (at_builtin;(refine zap zpp rfl (.tmp 43) (.tmp 45) rfl w3.heap.size (.slice au k cu) k N rfl Hrow7.out 1 #[.string s.1,.slice b1 n1 c1,.slice b2 n2' c2',.int .i64 ln] rfl rfl (by simp[Value.oneCell']) (by omega) (by unfold maxLen;omega) hbz ?_;intro v9 w9 hown9 hg9 hm9;obtain⟨a9,c9,rfl⟩:=zah hown9;have hpu:=HI7.out.push hlow (x:=(s,ln)) Hv1'.out Hv2'.out (by rw[Hrk.out,← HN.out];exact hown9) hg9;obtain⟨qc9,qf9⟩:=zak hpu.2;have Hpu:=hd hpu;clear hown9 hg9 hm9 hpu))
     go_roundw
     case rel =>
      refine⟨k+1,rs ++ [(s,ln)],_,_,by omega,by go_num,Hpu.out.1,by rw[List.length_append,Hrk.out];rfl,?_⟩
      rw[Hgo.out,zsu Hw.out,← Hln0.out]
     case measure=>simp[RowKit.intOf];omega
    have hne:(col != 0)=true:=by simpa using hcol
    obtain⟨w7,hw7⟩ : ∃ W,W=w6.alloc (.cells #[.string ⟨#[]⟩,.slice none 0 0,.slice none 0 0,.int .i64 0] 101):=⟨_,rfl⟩
    have hb67:Below w6.heap.size w6 w7:=by rw[hw7];exact za2 _ _
    have hb57:=hb6.trans (hb67.mono hb6.size)
    have hb47:=Hb5.out.trans (hb57.mono Hb5.out.size)
    have hI7:=HI.out.to hb47
    have z10:=za0 hb57 Hp10.out
    have z0:=za0 hI7.bel Hp0'.out
    have z1:=za0 hI7.bel Hp1'.out
    have hb37:=Hb3.out.trans (hI7.bel.mono Hb3.out.size)
    have t0:=za4 z10 0
    simp only[List.getElem?_toArray,List.getElem?_cons_zero,List.getElem?_cons_succ] at t0
    obtain⟨_,f0⟩:=zak z0
    obtain⟨_,_,f1,f2⟩:=zj8 z1
    have hne1:¬ lb=g:=by omega
    have hne2:¬ lb=g+1:=by omega
    obtain⟨Hw,Hcol,Hb6,Hb67,Hb57,Hb47,HI7,Hz10,Hz0,Hz1,Hb37⟩:=hd11 hw hcol hb6 hb67 hb57 hb47 hI7 z10 z0 z1 hb37;clear hw hcol hb6 hb67 hb57 hb47 hI7 z10 z0 z1 hb37
    go_upto_region 9 with (fail)
    rw[← hw7]
    clear hw7
    go_wp2_with fail
    go_region
    go_wp2_with fail
    have x0:=za3 (b:=g+1) (i:=1) (u:=.int .i64 col) (za3 (b:=g+1) (i:=0) (u:=.int .i64 ln) (heap_setCell_same w7 g 0 _ _ (.slice none 0 0) Hz0.out) (by omega)) (by omega)
    have x1:=heap_setCell_same _ (g+1) 1 _ _ (.int .i64 col) (heap_setCell_same _ (g+1) 0 _ _ (.int .i64 ln) (za3 (b:=g) (i:=0) (u:=.slice none 0 0) Hz1.out (by omega)))
    refine bodyPost_ret (zgy (g:=g) (k:=g+1) rfl rfl rfl rfl x0 x1 Tryz.underlying38 rfl (by kernel_rfl) Tryz.underlying40 rfl (by kernel_rfl)) rfl ?_
    rw[Hgo.out,zsv Hw.out,← Hln0.out]
    exact⟨_,rfl,⟨none,0,rfl,Nat.le_refl _,Nat.zero_le _,fun i x hi=>by simp at hi⟩,Below.drew (((Hb37.out.setCell (p:=⟨g,0,none⟩) hwg _).setCell (p:=⟨g+1,0,none⟩) (by show w.heap.size≤g+1;omega) _).setCell (p:=⟨g+1,1,none⟩) (by show w.heap.size≤g+1;omega) _)⟩
   obtain rfl:k=n:=by omega
   have hd:ls.drop k = []:=List.drop_eq_nil_of_le (Nat.le_of_eq Hn.out.symm)
   rw[hd] at hgo
   have z0:=za0 hI.bel Hp0'.out
   have z1:=za0 hI.bel Hp1'.out
   obtain⟨qc,_⟩:=zak hI.box
   obtain⟨_,f0⟩:=zak z0
   obtain⟨_,_,f1,f2⟩:=zj8 z1
   obtain⟨au,cu,rfl⟩:=zah hI.row
   have hb3o:=Hb3.out.trans (hI.bel.mono Hb3.out.size)
   rw[hrk] at hI qc
   obtain⟨HI,Hrk,Hgo,Hz0,Hz1,Hb3o,Hd⟩:=hd7 hI hrk hgo z0 z1 hb3o hd;clear hI hrk hgo z0 z1 hb3o hd
   go_wp2_with fail
   have x0:=za3 (b:=g+1) (i:=1) (u:=.int .i64 0) (za3 (b:=g+1) (i:=0) (u:=.int .i64 0) (heap_setCell_same wo g 0 _ _ (.slice au k cu) Hz0.out) (by omega)) (by omega)
   have x1:=heap_setCell_same _ (g+1) 1 _ _ (.int .i64 0) (heap_setCell_same _ (g+1) 0 _ _ (.int .i64 0) (za3 (b:=g) (i:=0) (u:=.slice au k cu) Hz1.out (by omega)))
   have hT:Frm (fun z=>z=g∨z=g+1) wo (((wo.setCell ⟨g,0,none⟩ (.slice au k cu)).setCell ⟨g+1,0,none⟩ (.int .i64 0)).setCell ⟨g+1,1,none⟩ (.int .i64 0)) :=
    (((Frm.refl _ wo).setCell (p:=⟨g,0,none⟩) (.inr (.inl rfl)) _).setCell (p:=⟨g+1,0,none⟩) (.inr (.inr rfl)) _).setCell (p:=⟨g+1,1,none⟩) (.inr (.inr rfl)) _
   have hno:No2 wo (fun z=>z=g∨z=g+1):=by
    rintro z (rfl | rfl)
    ·exact zay Hz0.out (by decide) (by decide)
    exact zay Hz1.out (by decide) (by decide)
   have hap:∀ z,(z=g∨z=g+1)→(Value.slice au k cu).ownBlock≠some z:=by
    rintro z (rfl | rfl)
    ·exact zai HI.out.row Hz0.out (by decide)
    exact zai HI.out.row Hz1.out (by decide)
   refine bodyPost_ret (zgy (g:=g) (k:=g+1) rfl rfl rfl rfl x0 x1 Tryz.underlying38 rfl (by kernel_rfl) Tryz.underlying40 rfl (by kernel_rfl)) rfl ?_
   rw[Hgo.out]
   exact⟨_,rfl,HI.out.other hT hno hap,((Hb3o.out.setCell (p:=⟨g,0,none⟩) hwg _).setCell (p:=⟨g+1,0,none⟩) (by show w.heap.size≤g+1;omega) _).setCell (p:=⟨g+1,1,none⟩) (by show w.heap.size≤g+1;omega) _⟩
 have k1:(er != 0)=true:=by simpa using he
 have hq:=Hreq.out
 rw[if_neg he] at hq
 obtain⟨Hln,Hb2,Hb23,Hb13,Hb3,Hp6,Hp0',Hp1',Hln3,Hn,Hq,He⟩:=hd12 hln hb2 hb23 hb13 hb3 p6 p0' p1' hln3 hn hq he;clear hln hb2 hb23 hb13 hb3 p6 p0' p1' hln3 hn hq he
 go_upto_region 2 with (fail)
 rw[← hw3]
 clear hw3
 go_wp2_with fail
 go_region
 go_wp2_with fail
 have x0:=za3 (b:=g+1) (i:=1) (u:=.int .i64 a2) (za3 (b:=g+1) (i:=0) (u:=.int .i64 a1) (heap_setCell_same w3 g 0 _ _ (.slice none 0 0) Hp0'.out) (by omega)) (by omega)
 have x1:=heap_setCell_same _ (g+1) 1 _ _ (.int .i64 a2) (heap_setCell_same _ (g+1) 0 _ _ (.int .i64 a1) (za3 (b:=g) (i:=0) (u:=.slice none 0 0) Hp1'.out (by omega)))
 refine bodyPost_ret (zgy (g:=g) (k:=g+1) rfl rfl rfl rfl x0 x1 Tryz.underlying38 rfl (by kernel_rfl) Tryz.underlying40 rfl (by kernel_rfl)) rfl ?_
 rw[Hq.out]
 exact⟨_,rfl,⟨none,0,rfl,Nat.le_refl _,Nat.zero_le _,fun i x hi=>by simp at hi⟩,Below.drew (((Hb3.out.setCell (p:=⟨g,0,none⟩) hwg _).setCell (p:=⟨g+1,0,none⟩) (by show w.heap.size≤g+1;omega) _).setCell (p:=⟨g+1,1,none⟩) (by show w.heap.size≤g+1;omega) _)⟩
end

section
open Go.RowKit Go.Shelf VerN VarM
abbrev RRoot4:Rd (Spc3 × Int × Unit):=znw 3 RSpq (znw 1 (RInt .i64) RNil)
theorem zr6:zel Tryz.prog 101 RRoot4:=by
 refine zdy Tryz.underlying101 ?_
 have hN:Tryz.prog.cellsOf 101=0+3+1:=by kernel_rfl
 rw[hN]
 exact zc5 rfl (by kernel_rfl) zuu (zc5 rfl (by kernel_rfl) (opens_int Tryz.underlying3) zf7)
theorem root_of4 {w:World} {cs:List Value} {x:Spc3 × Int × Unit} (h:RRoot4 w cs x):zqd w cs (x.1,x.2.1):=by
 obtain⟨a0,t0,rfl,l0,⟨v1,v2,rfl,z0,h1,h2⟩,a1,t1,rfl,l1,⟨rfl,_⟩,h3⟩:=h
 obtain rfl:t1 = []:=h3
 exact⟨v1,v2,rfl,h1,h2⟩
theorem zux:zel Tryz.prog 101 zqd:=zkf (R:=RRoot4) (S:=zqd) zr6 fun _ _ x h=>⟨_,root_of4 h⟩
theorem zr5:zel Tryz.prog 36 zdo:=zh1 Tryz.underlying36 (by kernel_rfl) (by decide) zux
abbrev RReq1:Rd (List Rt × Unit):=znw 1 zdo RNil
theorem zuy:zel Tryz.prog 38 RReq1:=by
 refine zdy Tryz.underlying38 ?_
 have hN:Tryz.prog.cellsOf 38=0+1:=by kernel_rfl
 rw[hN]
 exact zc5 rfl (by kernel_rfl) zr5 zf7
def RReq:Rd (List Rt):=fun w cs l=>∃ v,cs = [v]∧zdo w [v] l
theorem opens_req:zel Tryz.prog 38 RReq:=zkf (R:=RReq1) (S:=RReq) zuy fun w cs x h=>by
 obtain⟨a0,t0,rfl,l0,h1,h2⟩:=h
 obtain rfl:t0 = []:=h2
 match a0,l0 with
 | [v],_=>exact⟨x.1,v,rfl,h1⟩
theorem zlz:OpensZ Tryz.prog 38 RReq:=opensZ_of opens_req
theorem req_arg {w:World} {cs:Array Value} {l:List Rt} (h:RReq w cs.toList l):∃ v,cs=#[v]∧zdo w [v] l:=by
 obtain⟨v,hc,h1⟩:=h
 exact⟨v,by rw[← Array.toArray_toList (xs:=cs),hc],h1⟩
end

section
open Go.Lib VerN VarM
open LexM (Wd Ln)
def wtx (x:Wd):ByteArray:=⟨x.2.toArray⟩
def zfe (ws:List Wd) (i:Nat):List ByteArray:=(ws.drop i).map wtx
theorem zge {ws:List Wd} {i:Nat} (h:ws.length≤i):zfe ws i = []:=by unfold zfe;rw[List.drop_eq_nil_of_le h];rfl
theorem zi6 {ws:List Wd} {i:Nat} (h:i < ws.length):zfe ws i=zbe ws i :: zfe ws (i+1):=by
 unfold zfe
 rw[List.drop_eq_getElem_cons h,zei h]
 rfl
theorem texts_len (ws:List Wd) (i:Nat):(zfe ws i).length=ws.length - i:=by unfold zfe;simp
def zla:List ByteArray→List Setg→Option (List Setg × List ByteArray)
 | [],out=>some (out,[])
 | x :: r,out=>if hasB 61 x=true then (if zdn (out ++ [zey x])=true then zla r (out ++ [zey x]) else none) else some (out,x :: r)
noncomputable def zmi:List ByteArray→Option (Spc3 × List ByteArray)
 | [] => none
 | x :: r=>if zdi x=true then (zla r []).map fun q=>(((cutB 64 x).1,zda x,q.1),q.2) else none
def zl6:ByteArray:=⟨#[42]⟩
def noT:ByteArray:=⟨#[]⟩
def znt {α:Type} (ws:List Wd):Option α × Nat→Option (α × List ByteArray)
 | (some l,j)=>some (l,zfe ws j)
 | (none,_)=>none
theorem zsj (ws:List Wd):∀ (f i:Nat) (out:List Setg),ws.length - i=f→zla (zfe ws i) out=znt ws (ziy ws f i out)
 | 0,i,out,h=>by
  rw[zge (by omega)]
  show some (out,[])=some (out,zfe ws i)
  rw[zge (by omega)]
 | f+1,i,out,h=>by
  rw[zi6 (by omega)]
  show (if _ then _ else _)=znt ws (if _ then _ else _)
  by_cases h1:hasB 61 (zbe ws i)=true
  ·rw[if_pos h1,if_pos h1]
   by_cases h2:zdn (out ++ [zey (zbe ws i)])=true
   ·rw[if_pos h2,if_pos h2]
    exact zsj ws f (i+1) _ (by omega)
   rw[if_neg h2,if_neg h2]
   rfl
  rw[if_neg h1,if_neg h1,← zi6 (by omega)]
  rfl
theorem zqn (ws:List Wd) (i:Nat) (out:List Setg):zla (zfe ws i) out=znt ws (zbf ws i out):=zsj ws _ i out rfl
theorem zsi (ws:List Wd):∀ (f i:Nat) (out:List Setg),i≤(ziy ws f i out).2∧(ziy ws f i out).2≤max i ws.length
 | 0,i,out=>⟨Nat.le_refl _,Nat.le_max_left _ _⟩
 | f+1,i,out=>by
  by_cases h1:hasB 61 (zbe ws i)=true
  ·have hl:=zpd h1
   by_cases h2:zdn (out ++ [zey (zbe ws i)])=true
   ·have e:ziy ws (f+1) i out=ziy ws f (i+1) (out ++ [zey (zbe ws i)]):=by
     show (if _ then _ else _)=_
     rw[if_pos h1,if_pos h2]
    rw[e]
    have:=zsi ws f (i+1) (out ++ [zey (zbe ws i)])
    omega
   have e:ziy ws (f+1) i out=(none,i):=by
    show (if _ then _ else _)=_
    rw[if_pos h1,if_neg h2]
   rw[e]
   exact⟨Nat.le_refl _,Nat.le_max_left _ _⟩
  have e:ziy ws (f+1) i out=(some out,i):=by
   show (if _ then _ else _)=_
   rw[if_neg h1]
  rw[e]
  exact⟨Nat.le_refl _,Nat.le_max_left _ _⟩
theorem setsAt_ge (ws:List Wd) (i:Nat) (out:List Setg):i≤(zbf ws i out).2∧(zbf ws i out).2≤max i ws.length:=zsi ws _ i out
theorem zp3:zdi ⟨#[]⟩=false:=by
 unfold zdi
 rw[show (cutB 64 (⟨#[]⟩ : ByteArray))=(⟨#[]⟩,⟨#[]⟩,false) from by kernel_rfl]
 rfl
theorem zjq (ws:List Wd) (i:Nat):zmi (zfe ws i)=znt ws (zat ws i):=by
 by_cases h:i < ws.length
 ·rw[zi6 h]
  show (if _ then _ else _)=_
  unfold zat
  by_cases h1:zdi (zbe ws i)=true
  ·rw[if_pos h1,if_pos h1,zqn]
   rcases zbf ws (i+1) [] with⟨_ | l,j⟩ <;> rfl
  rw[if_neg h1,if_neg h1]
  rfl
 rw[zge (by omega)]
 unfold zat
 rw[zd4 (by omega),if_neg (by rw[zp3];simp)]
 rfl
theorem zs3 {ws:List Wd} {i j:Nat} {s:Spc3} (h:zat ws i=(some s,j)):i < j∧j≤ws.length:=by
 have hi:i < ws.length:=by
  apply Nat.lt_of_not_le
  intro hk
  unfold zat at h
  rw[zd4 hk,if_neg (by rw[zp3];simp)] at h
  cases h
 unfold zat at h
 by_cases h1:zdi (zbe ws i)=true
 ·rw[if_pos h1] at h
  have h2:=setsAt_ge ws (i+1) []
  have h3:(zbf ws (i+1) []).2=j:=congrArg Prod.snd h
  omega
 rw[if_neg h1] at h
 cases h
theorem zku (c:UInt8) (s:ByteArray):(∃ k:Nat,indexByte s.data.toList c=k∧k < s.data.toList.length∧s.data.toList[k]? = some c∧hasB c s=true∧cutB c s=(⟨(s.data.toList.take k).toArray⟩,⟨(s.data.toList.drop (k+1)).toArray⟩,true)) ∨
  (hasB c s=false∧cutB c s=(s,⟨#[]⟩,false)):=by
 obtain⟨l,hl⟩ : ∃ l,l=s.data.toList:=⟨_,rfl⟩
 have hs:s=⟨l.toArray⟩:=Txt.ext (by rw[hl])
 unfold hasB cutB cut
 rw[← hl,index_one]
 have hge:=indexByte_ge l c
 by_cases h:0≤indexByte l c
 ·left
  obtain⟨k,hk⟩ : ∃ k:Nat,indexByte l c=k:=⟨(indexByte l c).toNat,by omega⟩
  have h1:=(indexByte_some hk).1
  refine⟨k,hk,(List.getElem?_eq_some_iff.1 h1).1,h1,decide_eq_true h,?_⟩
  rw[if_pos h,hk]
  rfl
 right
 refine⟨decide_eq_false h,?_⟩
 rw[if_neg h,hs]
theorem zte {c:UInt8} {s:ByteArray} (h:(cutB c s).2.2=true):(cutB c s).1 ++ ⟨#[c]⟩ ++ (cutB c s).2.1=s:=by
 rcases zku c s with⟨k,_,hk,hc,_,e⟩ | ⟨_,e⟩
 ·rw[e]
  apply Txt.ext
  rw[Go.Joins.data_append,Go.Joins.data_append]
  show s.data.toList.take k ++ [c] ++ s.data.toList.drop (k+1)=s.data.toList
  rw[List.append_assoc,List.singleton_append]
  have h1:s.data.toList[k]=c:=(List.getElem?_eq_some_iff.1 hc).2
  rw[← h1,← List.drop_eq_getElem_cons hk,List.take_append_drop]
 rw[e] at h
 cases h
theorem cut_flag (c:UInt8) (s:ByteArray):(cutB c s).2.2=hasB c s:=by
 rcases zku c s with⟨k,_,_,_,h,e⟩ | ⟨h,e⟩ <;> rw[h,e]
theorem cut_none {c:UInt8} {s:ByteArray} (h:(cutB c s).2.2=false):(cutB c s).1=s:=by
 rcases zku c s with⟨k,_,_,_,_,e⟩ | ⟨_,e⟩
 ·rw[e] at h
  cases h
 rw[e]
def setT (x:Setg):ByteArray:=x.1 ++ ⟨#[61]⟩ ++ x.2
theorem setT_of {x:ByteArray} (h:hasB 61 x=true):setT (zey x)=x:=zte (by rw[cut_flag];exact h)
open Classical in
noncomputable def spT (L:List BSp):ByteArray:=if h:∃ l,tB l=L then zc8 h.choose else ⟨#[]⟩
theorem tB_inj:∀ {a b:List Tp},tB a=tB b→a=b
 | [],[],_=>rfl
 | [],_ :: _,h=>by simp[tB] at h
 | _ :: _,[],h=>by simp[tB] at h
 | x :: a,y :: b,h=>by
  have h1:x.1=y.1∧tB a=tB b:=by simpa [tB] using h
  rw[Subtype.ext h1.1,tB_inj h1.2]
theorem zlo (l:List Tp):spT (tB l)=zc8 l:=by
 unfold spT
 have h:∃ k,tB k=tB l:=⟨l,rfl⟩
 rw[dif_pos h,tB_inj h.choose_spec]
theorem spT_rd {t:ByteArray} (h:Rd3 t):spT (rdV t)=t:=by
 by_cases h0:t=⟨#[33]⟩
 ·rw[h0,show rdV ⟨#[33]⟩=tB [] from by unfold rdV;rw[if_pos rfl];rfl,zlo]
  decide
 rcases h with h | h
 ·exact absurd h h0
 obtain⟨l,hl⟩:=zum t h.1
 rw[show rdV t=tB l from by unfold rdV;rw[if_neg h0,hl],zlo]
 exact h.2 l hl
open Classical in
noncomputable def zba (s:Spc3):ByteArray:=if s.2.1=allV then s.1 else s.1 ++ (⟨#[64]⟩ ++ spT s.2.1)
open Classical in
noncomputable def zb1 (s:Spc3):List ByteArray :=
 if (if zba s=noT then [] else [zba s]) ++ s.2.2.map setT = [] then [zl6] else (if zba s=noT then [] else [zba s]) ++ s.2.2.map setT
def Stop (r:List ByteArray):Prop:=∀ x,r.head? = some x→hasB 61 x=false
theorem zlr:∀ (l:List ByteArray) (out q:List Setg) (r:List ByteArray),zla l out=some (q,r)→∃ p,q=out ++ p∧l=p.map setT ++ r∧Stop r∧(∀ r',Stop r'→zla (p.map setT ++ r') out=some (q,r'))
 | [],out,q,r,h=>by
  cases h
  refine⟨[],by simp,rfl,fun x hx=>by simp at hx,fun r' hr=>?_⟩
  cases r' with
  | nil=>rfl
  | cons y t =>
   show (if _ then _ else _)=_
   rw[if_neg (by rw[hr y rfl];simp)]
 | x :: l,out,q,r,h=>by
  have e:zla (x :: l) out=if hasB 61 x=true then (if zdn (out ++ [zey x])=true then zla l (out ++ [zey x]) else none) else some (out,x :: l):=rfl
  by_cases h1:hasB 61 x=true
  ·by_cases h2:zdn (out ++ [zey x])=true
   ·rw[e,if_pos h1,if_pos h2] at h
    obtain⟨p,hp,hl,hs,hr⟩:=zlr l _ q r h
    refine⟨zey x :: p,by rw[hp];simp,by rw[List.map_cons,setT_of h1,hl];rfl,hs,fun r' hr'=>?_⟩
    rw[List.map_cons,setT_of h1,List.cons_append]
    show (if _ then _ else _)=_
    rw[if_pos h1,if_pos h2]
    exact hr r' hr'
   rw[e,if_pos h1,if_neg h2] at h
   cases h
  rw[e,if_neg h1] at h
  cases h
  refine⟨[],by simp,rfl,fun y hy=>?_,fun r' hr=>?_⟩
  ·cases hy
   simpa using h1
  cases r' with
  | nil=>rfl
  | cons y t =>
   show (if _ then _ else _)=_
   rw[if_neg (by rw[hr y rfl];simp)]
open Classical in
theorem zok {t:ByteArray}:zeu t=true↔Rd3 t∧rdV t≠[]∧(rdV t).head?≠some (⟨#[]⟩,⟨#[]⟩):=by
 unfold zeu
 exact decide_eq_true_iff
theorem zua {t:ByteArray} (h:zeu t=true):rdV t≠allV:=by
 intro e
 have:=(zok.1 h).2.2
 rw[e] at this
 exact this rfl
theorem name_ne {s:ByteArray} (h:zbl s.data.toList=true):s≠noT:=by
 intro e
 have:=(name_pos h).1
 rw[e] at this
 exact absurd this (by decide)
theorem ne_app {a b:ByteArray} (h:a≠noT):a ++ b≠noT:=by
 intro e
 apply h
 have h1:=congrArg (fun x:ByteArray=>x.data.toList) e
 simp only[Go.Joins.data_append] at h1
 exact Txt.ext (List.append_eq_nil_iff.1 h1).1
theorem ztx {l r:List ByteArray} {s:Spc3} (h:zmi l=some (s,r)):l=zb1 s ++ r∧Stop r∧zb1 s≠[]∧zbl s.1.data.toList=true∧∀ r',Stop r'→zmi (zb1 s ++ r')=some (s,r'):=by
 cases l with
 | nil=>cases h
 | cons x l =>
  have e:∀ t,zmi (x :: t)=if zdi x=true then (zla t []).map fun q=>(((cutB 64 x).1,zda x,q.1),q.2) else none:=fun _=>rfl
  by_cases h1:zdi x=true
  ·rw[e,if_pos h1] at h
   cases hq:zla l [] with
   | none=>rw[hq] at h;cases h
   | some q =>
    rw[hq] at h
    obtain⟨q,r2⟩:=q
    simp only[Option.map_some,Option.some.injEq,Prod.mk.injEq] at h
    obtain⟨hs,rfl⟩:=h
    obtain⟨p,hp,hl,hst,hr⟩:=zlr l [] q r2 hq
    rw[List.nil_append] at hp
    subst hp
    have hn:zbl (cutB 64 x).1.data.toList=true∧(!(cutB 64 x).2.2 || zeu (cutB 64 x).2.1)=true:=by
     unfold zdi at h1
     rw[Bool.and_eq_true] at h1
     exact h1
    have hf:zba s=x:=by
     rw[← hs]
     unfold zba
     show (if zda x=allV then (cutB 64 x).1 else (cutB 64 x).1 ++ (⟨#[64]⟩ ++ spT (zda x)))=x
     cases hfl:(cutB 64 x).2.2 with
     | true =>
      have hok:zeu (cutB 64 x).2.1=true:=by have:=hn.2;rw[hfl] at this;simpa using this
      have hb:zda x=rdV (cutB 64 x).2.1:=by unfold zda;rw[if_pos hfl]
      rw[hb,if_neg (zua hok),spT_rd (zok.1 hok).1,← ByteArray.append_assoc]
      exact zte hfl
     | false =>
      have hb:zda x=allV:=by unfold zda;rw[if_neg (by rw[hfl];simp)]
      rw[if_pos hb]
      exact cut_none hfl
    have hx:x≠noT:=by
     rw[← hf]
     unfold zba
     have h9:s.1≠noT:=by rw[← hs];exact name_ne hn.1
     split
     ·exact h9
     exact ne_app h9
    have hw:zb1 s=x :: q.map setT:=by
     unfold zb1
     rw[hf,if_neg hx,if_neg (by simp)]
     rw[← hs]
     rfl
    refine⟨by rw[hw,hl];rfl,hst,by rw[hw];simp,by rw[← hs];exact hn.1,fun r' hr'=>?_⟩
    rw[hw,List.cons_append,e,if_pos h1,hr r' hr',← hs]
    rfl
  rw[e,if_neg h1] at h
  cases h
end

section
open Go.Lib VerN VarM
def zd1 (L:List ByteArray):ByteArray:=⟨(Lib.join (L.map (·.data.toList)) [32]).toArray⟩
theorem zcb (L:List ByteArray):(zd1 L).data.toList=Lib.join (L.map (·.data.toList)) [32]:=rfl
theorem zkl:zd1 []=noT:=rfl
theorem zhv (x:ByteArray):zd1 [x]=x:=by
 apply Txt.ext
 rw[zcb,List.map_cons,List.map_nil,Lib.join_one]
theorem zvd {L:List ByteArray} (h:L≠[]) (x:ByteArray):zd1 (L ++ [x])=zd1 L ++ ⟨#[32]⟩ ++ x:=by
 apply Txt.ext
 rw[Go.Joins.data_append,Go.Joins.data_append,zcb,zcb]
 cases L with
 | nil=>exact absurd rfl h
 | cons y r =>
  rw[List.cons_append,List.map_cons,List.map_cons,Lib.join_cons,Lib.join_cons]
  have:Lib.joinTail [32] ((r ++ [x]).map (·.data.toList))=Lib.joinTail [32] (r.map (·.data.toList)) ++ (32 :: x.data.toList):=by simp[Lib.joinTail]
  rw[this]
  simp
def zck (o:ByteArray) (x:Setg):ByteArray:=(if o=noT then o else o ++ ⟨#[32]⟩) ++ x.1 ++ ⟨#[61]⟩ ++ x.2
noncomputable def zd7 (s:Spc3):ByteArray:=if s.2.2.foldl zck (zba s)=noT then zl6 else s.2.2.foldl zck (zba s)
theorem setT_ne (x:Setg):setT x≠noT:=by
 intro e
 have h:=congrArg (fun x:ByteArray=>x.data.toList) e
 unfold setT at h
 simp only[Go.Joins.data_append] at h
 simp[noT] at h
theorem app_ne {a b:ByteArray} (h:b≠noT):a ++ b≠noT:=by
 intro e
 apply h
 have h1:=congrArg (fun x:ByteArray=>x.data.toList) e
 simp only[Go.Joins.data_append] at h1
 exact Txt.ext (List.append_eq_nil_iff.1 h1).2
theorem noT_app (a:ByteArray):noT ++ a=a:=Txt.ext (by rw[Go.Joins.data_append];rfl)
theorem zry {L:List ByteArray} (h:L = []∨zd1 L≠noT) (x:Setg):zck (zd1 L) x=zd1 (L ++ [setT x])∧zd1 (L ++ [setT x])≠noT:=by
 unfold zck
 rcases h with h | h
 ·subst h
  rw[zkl,if_pos rfl,noT_app,List.nil_append,zhv]
  exact⟨rfl,setT_ne x⟩
 have hL:L≠[]:=by rintro rfl;exact h zkl
 rw[if_neg h,zvd hL]
 exact⟨by unfold setT;rw[← ByteArray.append_assoc,← ByteArray.append_assoc],app_ne (setT_ne x)⟩
theorem zm7:∀ (xs:List Setg) (L:List ByteArray),(L = []∨zd1 L≠noT)→xs.foldl zck (zd1 L)=zd1 (L ++ xs.map setT)∧(L ++ xs.map setT = []∨zd1 (L ++ xs.map setT)≠noT)
 | [],L,h=>by simpa using h
 | x :: xs,L,h=>by
  obtain⟨h1,h2⟩:=zry h x
  have h3:=zm7 xs (L ++ [setT x]) (.inr h2)
  rw[List.foldl_cons,h1,List.map_cons]
  simpa using h3
theorem zgh (s:Spc3):zd7 s=zd1 (zb1 s):=by
 obtain⟨L,hL,hf,h0⟩ : ∃ L,L=(if zba s=noT then [] else [zba s])∧zba s=zd1 L∧(L = []∨zd1 L≠noT):=by
  refine⟨_,rfl,?_⟩
  by_cases h:zba s=noT
  ·rw[if_pos h];exact⟨h,.inl rfl⟩
  rw[if_neg h,zhv];exact⟨rfl,.inr h⟩
 obtain⟨h1,h2⟩:=zm7 s.2.2 L h0
 unfold zd7 zb1
 rw[← hL,hf,h1]
 by_cases h:L ++ s.2.2.map setT = []
 ·rw[if_pos h,h,zkl,if_pos rfl,zhv]
 rw[if_neg h,if_neg (h2.resolve_left h)]
end

section
open LexM (Bs Wd Ln St run takes ends breaks onward mayBegin)
def zj6 (x:ByteArray):Prop:=x.data.toList≠[]∧∀ c∈x.data.toList,LexM.part c=true
structure Bt (s:St) (n:Int) (W:List ByteArray) (out:List Ln):Prop where
 frm:s.frm=0
 word:s.word = []
 off:s.off=false
 col:0≤s.col
 words:s.words.map wtx=W
 out:s.out=out
 line:s.line=n
structure Wi (s:St) (n:Int) (W:List ByteArray) (out:List Ln):Prop where
 frm:0 < s.frm
 off:s.off=false
 col:0≤s.col
 words:s.words.map wtx ++ [⟨s.word.toArray⟩]=W
 out:s.out=out
 line:s.line=n
theorem takes_in {s:St} {c:UInt8} (h:LexM.part c=true) (ho:s.off=false) (hf:0 < s.frm):takes s c=({ onward s with word:=s.word ++ [c] },0):=by
 have h:=(LexM.part_iff c).1 h
 unfold takes
 rw[if_neg (by omega),if_neg (by omega),if_neg (by rw[ho];simp),if_neg (by omega),if_neg (by omega),if_pos hf]
theorem runsIn:∀ (w:Bs) (s:St),(∀ c∈w,LexM.part c=true)→s.off=false→0 < s.frm→run s w=({ s with col:=s.col+w.length,word:=s.word ++ w },0)
 | [],s,_,_,_=>by cases s;simp[run]
 | c :: w,s,h,ho,hf=>by
  have e:=takes_in (h c (by simp)) ho hf
  have e1:(takes s c).2=0:=by rw[e]
  have e2:(takes s c).1 = { onward s with word:=s.word ++ [c] }:=by rw[e]
  have e3:=runsIn w { onward s with word:=s.word ++ [c] } (fun d hd=>h d (by simp[hd])) ho hf
  rw[LexM.run_ok e1,e2,e3]
  simp[onward]
  omega
def Fit (W:List ByteArray) (out:List Ln):Prop:=W.length < 40∧(0 < W.length∨out.length < 2000)
theorem zsm {s:St} {n:Int} {W:List ByteArray} {out:List Ln} {w:ByteArray} (h:Bt s n W out) (hw:zj6 w) :
  (Fit W out→(run s w.data.toList).2=0)∧((run s w.data.toList).2=0→Wi (run s w.data.toList).1 n (W ++ [w]) out):=by
 obtain⟨hne,hp⟩:=hw
 have hw':w=⟨w.data.toList.toArray⟩:=Txt.ext rfl
 obtain⟨l,hl⟩ : ∃ l,l=w.data.toList:=⟨_,rfl⟩
 rw[← hl] at hne hp hw' ⊢
 cases l with
 | nil=>exact absurd rfl hne
 | cons c r =>
  have hc:=(LexM.part_iff c).1 (hp c (by simp))
  have hmb:mayBegin s=true↔Fit W out:=by
   unfold mayBegin Fit
   have:s.words.length=W.length:=by rw[← h.words,List.length_map]
   rw[this,h.out]
   simp
  have e:takes s c=if mayBegin s=true then ({ onward s with frm:=s.col+1,word:=s.word ++ [c] },0) else ({ onward s with frm:=s.col+1 },4):=by
   unfold takes
   rw[if_neg (by omega),if_neg (by omega),if_neg (by rw[h.off];simp),if_neg (by omega),if_neg (by omega),if_neg (by rw[h.frm];omega)]
  by_cases hm:mayBegin s=true
  ·rw[if_pos hm] at e
   have hcol:=h.col
   have e2:=runsIn r ({ onward s with frm:=s.col+1,word:=s.word ++ [c] }) (fun d hd=>hp d (by simp[hd])) h.off (by show 0 < s.col+1;omega)
   have e3:(takes s c).2=0:=by rw[e]
   have e4:(takes s c).1 = { onward s with frm:=s.col+1,word:=s.word ++ [c] }:=by rw[e]
   rw[LexM.run_ok e3,e4,e2]
   refine⟨fun _=>rfl,fun _=>⟨?_,h.off,?_,?_,h.out,h.line⟩⟩
   ·show 0 < s.col+1;omega
   ·show 0≤(s.col+1)+(r.length:Int);omega
   show s.words.map wtx ++ [⟨(s.word ++ [c] ++ r).toArray⟩]=_
   rw[h.words,h.word,hw']
   rfl
  rw[if_neg hm] at e
  have e3:(takes s c).2=4:=by rw[e]
  rw[LexM.run_bad (by rw[e3];decide)]
  exact⟨fun k=>absurd (hmb.2 k) hm,fun k=>by rw[e3] at k;cases k⟩
theorem zjt {s:St} (ho:s.off=false):takes s 32=(ends (onward s),0):=by
 unfold takes
 rw[if_neg (by decide),if_neg (by decide),if_neg (by rw[ho];simp),if_neg (by decide),if_pos (by decide)]
theorem Bt.blank {s:St} {n:Int} {W:List ByteArray} {out:List Ln} (h:Bt s n W out):takes s 32=(ends (onward s),0)∧Bt (ends (onward s)) n W out:=by
 have hcol:=h.col
 refine⟨zjt h.off,rfl,rfl,h.off,by show 0≤s.col+1;omega,?_,h.out,h.line⟩
 show (if 0 < s.frm then _ else _:List Wd).map wtx=W
 rw[if_neg (by rw[h.frm];omega)]
 exact h.words
theorem Wi.ends_words {s:St} {n:Int} {W:List ByteArray} {out:List Ln} (h:Wi s n W out):(ends (onward s)).words.map wtx=W:=by
 show (if 0 < s.frm then s.words ++ [(s.frm,s.word)] else _:List Wd).map wtx=W
 rw[if_pos h.frm,List.map_append,← h.words]
 rfl
theorem Wi.blank {s:St} {n:Int} {W:List ByteArray} {out:List Ln} (h:Wi s n W out):takes s 32=(ends (onward s),0)∧Bt (ends (onward s)) n W out:=by
 have hcol:=h.col
 exact⟨zjt h.off,rfl,rfl,h.off,by show 0≤s.col+1;omega,h.ends_words,h.out,h.line⟩
theorem zs8 (s:St):takes s 10=(breaks (onward s),0):=by
 unfold takes
 rw[if_pos (by decide)]
theorem Wi.nl {s:St} {n:Int} {W:List ByteArray} {out:List Ln} (h:Wi s n W out) (s':St) (hs:s'=s∨s'=onward s):∃ us,us.map wtx=W∧Bt (breaks s') (n+1) [] (out ++ [(n,us)]):=by
 have hw:(ends s').words.map wtx=W:=by
  have:=h.ends_words
  rcases hs with rfl | rfl <;> exact this
 have hn:(ends s').words≠[]:=by
  intro e
  rw[e,← h.words] at hw
  simp at hw
 refine⟨(ends s').words,hw,?_⟩
 have ho:s'.out=out:=by rcases hs with rfl | rfl <;> exact h.out
 have hl:s'.line=n:=by rcases hs with rfl | rfl <;> exact h.line
 refine⟨rfl,rfl,rfl,Int.le_refl _,rfl,?_,by show s'.line+1=_;rw[hl]⟩
 show (if (ends s').words = [] then s'.out else s'.out ++ [(s'.line,(ends s').words)])=_
 rw[if_neg hn,ho,hl]
theorem zt6 (x y:Bs) (r:List Bs):Lib.join (x :: y :: r) [32]=x ++ 32 :: Lib.join (y :: r) [32]:=by
 rw[Lib.join_cons,Lib.join_cons]
 simp[Lib.joinTail]
theorem zmv:∀ (ws:List ByteArray) (s:St) (n:Int) (W:List ByteArray) (out:List Ln),Bt s n W out→ws≠[]→(∀ w∈ws,zj6 w) →
  (W.length+ws.length≤40→out.length < 2000→(run s (zd1 ws).data.toList).2=0)∧((run s (zd1 ws).data.toList).2=0→Wi (run s (zd1 ws).data.toList).1 n (W ++ ws) out)
 | [],_,_,_,_,_,h,_=>absurd rfl h
 | [x],s,n,W,out,h,_,hg=>by
  rw[zhv]
  obtain⟨h1,h2⟩:=zsm h (hg x (by simp))
  exact⟨fun k1 k2=>h1 ⟨by simp at k1;omega,.inr k2⟩,h2⟩
 | x :: y :: r,s,n,W,out,h,_,hg=>by
  have e:(zd1 (x :: y :: r)).data.toList=x.data.toList ++ ([32] ++ (zd1 (y :: r)).data.toList):=by
   rw[zcb,zcb,List.map_cons,List.map_cons,zt6]
   rfl
  obtain⟨h1,h2⟩:=zsm h (hg x (by simp))
  rw[e,LexM.run_append]
  by_cases hx:(run s x.data.toList).2=0
  ·rw[if_pos hx]
   obtain⟨b1,b2⟩:=(h2 hx).blank
   have e2:∀ t,run (run s x.data.toList).1 ([32] ++ t)=run (ends (onward (run s x.data.toList).1)) t:=fun t=>by
    rw[List.singleton_append,LexM.run_ok (by rw[b1]),b1]
   rw[e2]
   obtain⟨k1,k2⟩:=zmv (y :: r) _ n _ out b2 (by simp) (fun w hw=>hg w (by simp at hw ⊢;exact .inr hw))
   refine⟨fun q1 q2=>k1 (by simp at q1 ⊢;omega) q2,fun q=>?_⟩
   have:=k2 q
   rw[List.append_assoc] at this
   exact this
  rw[if_neg hx]
  exact⟨fun q1 q2=>absurd (h1 ⟨by simp at q1;omega,.inr q2⟩) hx,fun q=>absurd q hx⟩
def lnT (x:Bool × List ByteArray):Bs:=(if x.1=true then [32,32] else []) ++ ((zd1 x.2).data.toList ++ [10])
def txT (L:List (Bool × List ByteArray)):Bs:=L.flatMap lnT
theorem run_lead {s:St} {n:Int} {W:List ByteArray} {out:List Ln} (h:Bt s n W out) (p:Bool) (t:Bs):∃ s',Bt s' n W out∧run s ((if p=true then [32,32] else []) ++ t)=run s' t:=by
 cases p with
 | false=>exact⟨s,h,rfl⟩
 | true =>
  obtain⟨a1,a2⟩:=h.blank
  obtain⟨b1,b2⟩:=a2.blank
  refine⟨_,b2,?_⟩
  show run s (32 :: 32 :: t)=_
  rw[LexM.run_ok (by rw[a1]),a1,LexM.run_ok (by rw[b1]),b1]
theorem run_line {s:St} {n:Int} {out:List Ln} (h:Bt s n [] out) (x:Bool × List ByteArray) (hx:x.2≠[]) (hg:∀ w∈x.2,zj6 w) :
  (x.2.length≤40→out.length < 2000→(run s (lnT x)).2=0)∧((run s (lnT x)).2=0→∃ us,us.map wtx=x.2∧Bt (run s (lnT x)).1 (n+1) [] (out ++ [(n,us)])):=by
 unfold lnT
 obtain⟨s1,h1,e1⟩:=run_lead h x.1 ((zd1 x.2).data.toList ++ [10])
 rw[e1,LexM.run_append]
 obtain⟨k1,k2⟩:=zmv x.2 s1 n [] out h1 hx hg
 by_cases hr:(run s1 (zd1 x.2).data.toList).2=0
 ·rw[if_pos hr]
  obtain⟨us,hu,hb⟩:=(k2 hr).nl _ (.inr rfl)
  rw[List.nil_append] at hu
  have e2:run (run s1 (zd1 x.2).data.toList).1 [10]=(breaks (onward (run s1 (zd1 x.2).data.toList).1),0):=by
   rw[LexM.run_ok (by rw[zs8]),zs8]
   rfl
  rw[e2]
  exact⟨fun _ _=>rfl,fun _=>⟨us,hu,hb⟩⟩
 rw[if_neg hr]
 exact⟨fun q1 q2=>absurd (k1 (by simpa using q1) q2) hr,fun q=>absurd q hr⟩
def OkT (L:List (Bool × List ByteArray)):Prop:=∀ x∈L,x.2≠[]∧∀ w∈x.2,zj6 w
theorem run_txt:∀ (L:List (Bool × List ByteArray)) (s:St) (n:Int) (out:List Ln),Bt s n [] out→OkT L →
  ((∀ x∈L,x.2.length≤40)→out.length+L.length≤2000→(run s (txT L)).2=0)∧((run s (txT L)).2=0→∃ m M,M.map (fun l:Ln=>l.2.map wtx)=L.map (·.2)∧Bt (run s (txT L)).1 m [] (out ++ M))
 | [],s,n,out,h,_=>⟨fun _ _=>rfl,fun _=>⟨n,[],rfl,by rw[List.append_nil];exact h⟩⟩
 | x :: L,s,n,out,h,hg=>by
  obtain⟨hx,hw⟩:=hg x (by simp)
  obtain⟨h1,h2⟩:=run_line h x hx hw
  have e:txT (x :: L)=lnT x ++ txT L:=rfl
  rw[e,LexM.run_append]
  by_cases hr:(run s (lnT x)).2=0
  ·rw[if_pos hr]
   obtain⟨us,hu,hb⟩:=h2 hr
   obtain⟨k1,k2⟩:=run_txt L _ _ _ hb (fun y hy=>hg y (by simp[hy]))
   refine⟨fun q1 q2=>k1 (fun y hy=>q1 y (by simp[hy])) (by simp at q2 ⊢;omega),fun q=>?_⟩
   obtain⟨m,M,e1,e2⟩:=k2 q
   refine⟨m,(n,us) :: M,by rw[List.map_cons,List.map_cons,e1];exact congrArg (· :: _) hu,?_⟩
   rw[List.append_assoc,List.singleton_append] at e2
   exact e2
  rw[if_neg hr]
  exact⟨fun q1 q2=>absurd (h1 (q1 x (by simp)) (by simp at q2;omega)) hr,fun q=>absurd q hr⟩
theorem bt0:Bt LexM.st0 1 [] []:=⟨rfl,rfl,rfl,Int.le_refl _,rfl,rfl,rfl⟩
theorem Bt.close {s:St} {n:Int} {out:List Ln} (h:Bt s n [] out):(breaks s).out=out:=by
 show (if (ends s).words = [] then s.out else _)=_
 have:(ends s).words = []:=by
  show (if 0 < s.frm then _ else s.words:List Wd) = []
  rw[if_neg (by rw[h.frm];omega)]
  exact List.map_eq_nil_iff.1 h.words
 rw[if_pos this,h.out]
theorem doc_txt {L:List (Bool × List ByteArray)} (hg:OkT L):((∀ x∈L,x.2.length≤40)→L.length≤2000→(txT L).length≤65536→(LexM.docLines (txT L)).e=0) ∧
  ((LexM.docLines (txT L)).e=0→(LexM.docLines (txT L)).lines.map (fun l:Ln=>l.2.map wtx)=L.map (·.2)):=by
 rw[← LexM.lines_eq]
 unfold LexM.lines
 obtain⟨h1,h2⟩:=run_txt L LexM.st0 1 [] bt0 hg
 by_cases hz:65536 < (txT L).length
 ·rw[if_pos hz]
  exact⟨fun _ _ k=>absurd hz (by omega),fun k=>by cases k⟩
 rw[if_neg hz]
 unfold LexM.close
 by_cases hr:(run LexM.st0 (txT L)).2=0
 ·rw[if_pos hr]
  obtain⟨m,M,e1,e2⟩:=h2 hr
  rw[List.nil_append] at e2
  refine⟨fun _ _ _=>rfl,fun _=>?_⟩
  show (breaks _).out.map _=_
  rw[e2.close]
  exact e1
 rw[if_neg hr]
 exact⟨fun q1 q2 _=>absurd (h1 q1 (by simpa using q2)) hr,fun q=>absurd q hr⟩
theorem doc_one {ws:List ByteArray} (hws:ws≠[]) (hg:∀ w∈ws,zj6 w) (hl:ws.length≤40) (hz:(zd1 ws).size≤65536):(LexM.docLines (zd1 ws).data.toList).e=0∧∃ n us,(LexM.docLines (zd1 ws).data.toList).lines = [(n,us)]∧us.map wtx=ws:=by
 rw[← LexM.lines_eq]
 unfold LexM.lines
 obtain⟨h1,h2⟩:=zmv ws LexM.st0 1 [] [] bt0 hws hg
 have hr:=h1 (by simpa using hl) (by simp)
 rw[if_neg (by rw[Txt.len];omega)]
 unfold LexM.close
 rw[if_pos hr]
 refine⟨rfl,?_⟩
 have hw:=h2 hr
 rw[List.nil_append] at hw
 obtain⟨us,hu,hb⟩:=hw.nl _ (.inl rfl)
 exact⟨1,us,hb.out,hu⟩
end

section
open LexM (Bs Wd Ln St run takes ends breaks onward mayBegin)
def zfm (ws:List ByteArray):Nat:=(ws.map fun x=>x.size+1).sum
def zew (ls:List (List ByteArray)):Nat:=(ls.map zfm).sum
theorem costW_app (a b:List ByteArray):zfm (a ++ b)=zfm a+zfm b:=by unfold zfm;rw[List.map_append,List.sum_append_nat]
theorem costL_app (a b:List (List ByteArray)):zew (a ++ b)=zew a+zew b:=by unfold zew;rw[List.map_append,List.sum_append_nat]
def zcj (l:Ln):List ByteArray:=l.2.map wtx
structure Wb (s:St) (k:Nat):Prop where
 word:∀ c∈s.word,LexM.part c=true
 ne:0 < s.frm→s.word≠[]
 words:∀ x∈s.words,zj6 (wtx x)
 out:∀ l∈s.out,∀ x∈l.2,zj6 (wtx x)
 cost:zew (s.out.map zcj)+zfm (s.words.map wtx)+s.word.length≤k
 had:s.words≠[]∨0 < s.frm→s.out.length < 2000
 most:s.out.length≤2000
 col:0≤s.col
 no:¬ 0 < s.frm→s.word = []
theorem Wb.on {s:St} {k:Nat} (h:Wb s k):Wb (onward s) k:=⟨h.word,h.ne,h.words,h.out,h.cost,h.had,h.most,by show 0≤s.col+1;have:=h.col;omega,h.no⟩
theorem Wb.ends {s:St} {k:Nat} (h:Wb s k):Wb (ends s) (k+1):=by
 have hc:=h.cost
 refine⟨fun c hc=>by simp[LexM.ends] at hc,fun k=>by simp[LexM.ends] at k,?_,h.out,?_,?_,h.most,h.col,fun _=>rfl⟩
 ·intro x hx
  have hx:x∈(if 0 < s.frm then s.words ++ [(s.frm,s.word)] else s.words):=hx
  split at hx
  ·rename_i hf
   rcases List.mem_append.1 hx with hx | hx
   ·exact h.words x hx
   rw[List.mem_singleton] at hx
   rw[hx]
   exact⟨h.ne hf,h.word⟩
  exact h.words x hx
 ·show zew (s.out.map zcj)+zfm ((if 0 < s.frm then s.words ++ [(s.frm,s.word)] else s.words).map wtx)+0≤k+1
  split
  ·rw[List.map_append,costW_app]
   have e:zfm ([(s.frm,s.word)].map wtx)=s.word.length+1:=by
    show (⟨s.word.toArray⟩ : ByteArray).size+1+0=_
    rfl
   omega
  omega
 intro hk
 apply h.had
 rcases hk with hk | hk
 ·have hk:(if 0 < s.frm then s.words ++ [(s.frm,s.word)] else s.words)≠[]:=hk
  split at hk
  ·rename_i hf;exact .inr hf
  exact .inl hk
 exact absurd hk (by show ¬ (0:Int) < 0;omega)
theorem Wb.breaks {s:St} {k:Nat} (h:Wb s k):Wb (breaks s) (k+1):=by
 have he:=h.ends
 have hc:=he.cost
 have hz:(LexM.ends s).word = []:=rfl
 rw[hz] at hc
 refine⟨fun c hc=>absurd hc (by show ¬ c∈[];simp),fun k=>absurd k (by show ¬ (0:Int) < 0;omega),fun x hx=>absurd hx (by show ¬ x∈[];simp),?_,?_,fun k=>?_,?_,Int.le_refl _,fun _=>rfl⟩
 ·intro l hl x hx
  have hl:l∈(if (LexM.ends s).words = [] then s.out else s.out ++ [(s.line,(LexM.ends s).words)]):=hl
  split at hl
  ·exact h.out l hl x hx
  rcases List.mem_append.1 hl with hl | hl
  ·exact h.out l hl x hx
  rw[List.mem_singleton] at hl
  subst hl
  exact he.words x hx
 ·show zew ((if (LexM.ends s).words = [] then s.out else s.out ++ [(s.line,(LexM.ends s).words)]).map zcj)+0+0≤k+1
  split
  ·have:zew (s.out.map zcj)≤zew ((LexM.ends s).out.map zcj):=Nat.le_refl _
   omega
  rw[List.map_append,costL_app]
  have e:zew ([(s.line,(LexM.ends s).words)].map zcj)=zfm ((LexM.ends s).words.map wtx):=by
   show zfm ((LexM.ends s).words.map wtx)+0=_
   omega
  have:zew (s.out.map zcj)=zew ((LexM.ends s).out.map zcj):=rfl
  simp at hc
  omega
 ·rcases k with k | k
  ·exact absurd rfl k
  exact absurd k (by show ¬ (0:Int) < 0;omega)
 show (if (LexM.ends s).words = [] then s.out else s.out ++ [(s.line,(LexM.ends s).words)]).length≤2000
 split
 ·exact h.most
 rename_i hn
 have:=he.had (.inl hn)
 have e:(LexM.ends s).out=s.out:=rfl
 rw[e] at this
 simp
 omega
theorem Wb.mono {s:St} {k m:Nat} (h:Wb s k) (hk:k≤m):Wb s m:=⟨h.word,h.ne,h.words,h.out,by have:=h.cost;omega,h.had,h.most,h.col,h.no⟩
theorem Wb.takes {s:St} {k:Nat} {c:UInt8} (h:Wb s k) (h0:(takes s c).2=0):Wb (takes s c).1 (k+1):=by
 unfold LexM.takes at h0 ⊢
 split
 ·exact h.on.breaks
 rename_i h1
 rw[if_neg h1] at h0
 split
 ·rename_i h2
  rw[if_pos h2] at h0
  cases h0
 rename_i h2
 rw[if_neg h2] at h0
 split
 ·exact h.on.mono (by omega)
 rename_i h3
 rw[if_neg h3] at h0
 split
 ·have:=h.on.ends
  exact⟨this.word,this.ne,this.words,this.out,this.cost,this.had,this.most,this.col,this.no⟩
 rename_i h4
 rw[if_neg h4] at h0
 split
 ·exact h.on.ends
 rename_i h5
 rw[if_neg h5] at h0
 have hp:LexM.part c=true:=(LexM.part_iff c).2 (by omega)
 have hw:∀ d∈s.word ++ [c],LexM.part d=true:=fun d hd=>by
  rcases List.mem_append.1 hd with hd | hd
  ·exact h.word d hd
  rw[List.mem_singleton] at hd;rw[hd];exact hp
 have hcost:zew (s.out.map zcj)+zfm (s.words.map wtx)+(s.word ++ [c]).length≤k+1:=by
  have:=h.cost
  simp
  omega
 have hcol:0≤s.col+1:=by have:=h.col;omega
 split
 ·rename_i h6
  exact⟨hw,fun _=>by show s.word ++ [c]≠[];simp,h.words,h.out,hcost,fun _=>h.had (.inr h6),h.most,hcol,fun k=>absurd h6 k⟩
 rename_i h6
 rw[if_neg h6] at h0
 split
 ·rename_i h7
  refine⟨hw,fun _=>by show s.word ++ [c]≠[];simp,h.words,h.out,hcost,fun _=>?_,h.most,hcol,fun k=>absurd (by show 0 < s.col+1;have:=h.col;omega) k⟩
  unfold mayBegin at h7
  simp only[Bool.and_eq_true,Bool.or_eq_true,decide_eq_true_eq] at h7
  rcases h7.2 with h8 | h8
  ·exact h.had (.inl (List.ne_nil_of_length_pos h8))
  exact h8
 rename_i h7
 rw[if_neg h7] at h0
 cases h0
theorem run_wb:∀ (t:Bs) (s:St) (k:Nat),Wb s k→(run s t).2=0→Wb (run s t).1 (k+t.length)
 | [],s,k,h,_=>h
 | c :: t,s,k,h,h0=>by
  by_cases hc:(takes s c).2=0
  ·rw[LexM.run_ok hc] at h0 ⊢
   have:=run_wb t _ (k+1) (h.takes hc) h0
   exact this.mono (by simp;omega)
  rw[LexM.run_bad hc] at h0
  exact absurd h0 hc
theorem zpr (t:Bs):(∀ l∈(LexM.docLines t).lines,∀ w∈zcj l,zj6 w)∧zew ((LexM.docLines t).lines.map zcj)≤t.length+1∧(LexM.docLines t).lines.length≤2000:=by
 have hno:(∀ l∈([] : List Ln),∀ w∈zcj l,zj6 w)∧zew (([] : List Ln).map zcj)≤t.length+1∧([] : List Ln).length≤2000:=⟨fun l hl=>by simp at hl,by simp[zew],by simp⟩
 rw[← LexM.lines_eq]
 unfold LexM.lines
 split
 ·exact hno
 unfold LexM.close
 split
 ·rename_i h0
  have hb:=run_wb t LexM.st0 0 ⟨fun c hc=>by simp[LexM.st0] at hc,fun k=>absurd k (by show ¬ (0:Int) < 0;omega),fun x hx=>by simp[LexM.st0] at hx,fun x hx=>by simp[LexM.st0] at hx,Nat.le_refl _,fun _=>by simp[LexM.st0],by simp[LexM.st0],Int.le_refl _,fun _=>rfl⟩ h0
  have hb:=hb.breaks
  refine⟨fun l hl w hw=>?_,?_,hb.most⟩
  ·obtain⟨x,hx,rfl⟩:=List.mem_map.1 hw
   exact hb.out l hl x hx
  have:=hb.cost
  show zew ((LexM.breaks (run LexM.st0 t).1).out.map zcj)≤_
  omega
 exact hno
theorem zp6:∀ ws:List ByteArray,Lib.lens (ws.map (·.data.toList))+ws.length=zfm ws
 | [] => rfl
 | x :: r=>by
  have:=zp6 r
  have e:x.data.toList.length=x.size:=Txt.len x
  simp only[Lib.lens,zfm,List.map_cons,List.sum_cons,List.length_cons] at this ⊢
  omega
theorem join_cost {ws:List ByteArray} (h:ws≠[]):(zd1 ws).data.toList.length+1=zfm ws:=by
 cases ws with
 | nil=>exact absurd rfl h
 | cons x r =>
  have:=zp6 (x :: r)
  rw[zcb,List.map_cons,Lib.join_length]
  simp only[List.length_cons,List.length_map,List.length_nil,List.map_cons] at this ⊢
  omega
end

namespace LexM
end LexM

section
open Go.Lib VerN VarM
open LexM (Wd Ln)
noncomputable def zk5 (l:Ln):Option Spc3:=(zdm l).1
theorem zlv (l:Ln) (r:List Ln) (out:List (Spc3 × Int)):(∃ s,zk5 l=some s∧ze0 (l :: r) out=ze0 r (out ++ [(s,l.1)]))∨(zk5 l=none∧(ze0 (l :: r) out).e=2∧(ze0 (l :: r) out).roots = []):=by
 have e:ze0 (l :: r) out=(match zdm l with | (some s,_)=>ze0 r (out ++ [(s,l.1)]) | (none,c)=>⟨[],l.1,c,2⟩):=rfl
 unfold zk5
 rcases hr:zdm l with⟨_ | s,c⟩
 ·right
  rw[hr] at e
  rw[e]
  exact⟨rfl,rfl,rfl⟩
 left
 rw[hr] at e
 exact⟨s,rfl,e⟩
theorem reqGo_ok:∀ (L:List Ln) (out:List (Spc3 × Int)),(ze0 L out).e=0→L.map zk5=((L.map zk5).filterMap id).map some:=by
 intro L
 induction L with
 | nil=>intro out _;rfl
 | cons l r ih =>
  intro out h
  rcases zlv l r out with⟨s,h1,h2⟩ | ⟨_,h2,_⟩
  ·rw[h2] at h
   have:=ih _ h
   rw[List.map_cons,h1,List.filterMap_cons]
   simp only[id,List.map_cons]
   rw[← this]
  rw[h2] at h
  cases h
theorem zgz:∀ (L:List Ln) (rs:List Spc3) (out:List (Spc3 × Int)),L.map zk5=rs.map some→(ze0 L out).e=0∧(ze0 L out).roots.map (·.1)=out.map (·.1) ++ rs∧(ze0 L out).at1=0∧(ze0 L out).at2=0
 | [],rs,out,h=>by
  have:rs = []:=by cases rs with
   | nil=>rfl
   | cons _ _=>simp at h
  subst this
  exact⟨rfl,by simp[ze0],rfl,rfl⟩
 | l :: r,rs,out,h=>by
  cases rs with
  | nil=>simp at h
  | cons s rs =>
   simp only[List.map_cons,List.cons.injEq] at h
   rcases zlv l r out with⟨s',h1,h2⟩ | ⟨h1,_,_⟩
   ·rw[h.1] at h1
    cases h1
    rw[h2]
    have:=zgz r rs (out ++ [(s,l.1)]) h.2
    simpa using this
   rw[h.1] at h1
   cases h1
theorem reqOf_ok {t:List UInt8} (h:(zf0 t).e=0):(LexM.docLines t).e=0∧∃ rs,(LexM.docLines t).lines.map zk5=rs.map some∧(zf0 t).roots.map (·.1)=rs:=by
 unfold zf0 at h ⊢
 by_cases he:(LexM.docLines t).e=0
 ·rw[if_pos he] at h ⊢
  have h1:=reqGo_ok _ _ h
  refine⟨he,_,h1,?_⟩
  have:=(zgz _ _ [] h1).2.1
  simpa using this
 rw[if_neg he] at h
 exact absurd h he
end

section
open Go.RowKit
def Bld (B b:Nat) (bs:List UInt8) (w:World):Prop:=Lib.IsBuilder 144 5 B b (Lib.byteCells bs) w
theorem bld_size:(Tryz.prog.info? 144).map (·.size)=some 2:=by kernel_rfl
theorem bld_lies:liesAt Tryz.prog Tryz.prog.depth 144 (2 / Tryz.prog.cellsOf 144) 0 144 1=true:=by kernel_rfl
theorem ztm:(Tryz.prog.info? 5).map (fun i=>(i.zero,i.size,i.bytes))=some (some (.int .u8 0),1,1):=by kernel_rfl
theorem zq8:Tryz.prog.cellsOf 5=1:=by kernel_rfl
theorem bld_new (w:World):Bld w.heap.size w.heap.size [] (w.alloc (.cells #[.pointer none,.slice none 0 0] 144)):=Lib.fresh_isBuilder _ _ w
def Keep (w w':World):Prop:=∀ (k:Nat) (cs:Array Value) (t:TypeId) (fr:Nat × Nat),w.heap[k]? = some (.cells cs t fr)→t≠144→t≠5→w'.heap[k]? = some (.cells cs t fr)
theorem keep_refl (w:World):Keep w w:=fun _ _ _ _ h _ _=>h
theorem Keep.trans {a b c:World} (h:Keep a b) (k:Keep b c):Keep a c:=fun i cs t fr h1 h2 h3=>k i cs t fr (h i cs t fr h1 h2 h3) h2 h3
theorem zv8 {w w':World} (h:Below w.heap.size w w'):Keep w w':=fun k _ _ _ h1 _ _=>(h.block k (Array.getElem?_eq_some_iff.1 h1).1).trans h1
theorem zni {w:World} {b:Nat} {cs:Array Value} {fr:Nat × Nat} (hb:w.heap[b]? = some (.cells cs 144 fr)) (i:Nat) (u:Value):Keep w (w.setCell ⟨b,i,none⟩ u):=by
 intro k cs' t fr' h h1 _
 have hne:k≠b:=by
  intro e
  subst e
  rw[hb] at h
  simp at h
  exact h1 h.2.1.symm
 rw[Below.heap_setCell _ _ _ _ hne]
 exact h
theorem zm4 {w w':World} {B:Nat} {v:Value} {n:Nat} {xs:List Value} (hg:w.grownBy w' v.ownBlock) (hown:w.ownsRow B 5 1 v n xs):Keep w w':=by
 intro k cs t fr h _ h2
 refine (hg.block k (Array.getElem?_eq_some_iff.1 h).1 (fun e=>?_)).trans h
 rcases hown.2 with⟨hv,_⟩ | ⟨g,cap,cur,hv,_,hgg,_⟩
 ·rw[hv] at e;simp[Value.ownBlock] at e
 rw[hv] at e
 simp[Value.ownBlock] at e
 subst e
 rw[hgg] at h
 simp at h
 exact h2 h.2.1.symm
theorem zq7 {B b:Nat} {bs:List Value} {w:World} (h:Lib.IsBuilder 144 5 B b bs w) :
  Calls Tryz.prog 160 #[.pointer (some ⟨b,0,none⟩)] w fun e w'=>e = .returned (.tuple #[])∧Lib.BuilderAt 144 5 B b (.pointer (some ⟨b,0,none⟩)) bs w'∧Below B w w'∧Keep w w':=by
 obtain⟨j,hj,hjs⟩:=Option.map_eq_some_iff.1 bld_size
 rcases h with h | h
 ·have h0:=h.cell0
  have hsh:=h.shape
  have hfz:=h.frozen0
  have H:=Lib.hid h;have HJ:=Lib.hid hj;have HS:=Lib.hid hjs;have HSH:=Lib.hid hsh
  clear h hj hjs hsh
  go_enter Tryz.func160,Tryz.ntmps160
  go_wp2_with fail
  rw[Lib.run_to_unsafe w ⟨b,0,none⟩ Tryz.underlying141 Tryz.underlying232 HJ.out (by rw[HS.out];decide) HSH.out (Nat.zero_lt_succ 1)]
  simp only[Result.andThen]
  rw[Oper.upon_value]
  go_wp2_with fail
  rw[run_callFunc_extern Tryz.func191 (by kernel_rfl) (by kernel_rfl) (by kernel_rfl) (e:=Extern.AbiNoEscape.same) (by kernel_rfl)]
  rw[Lib.run_noEscape]
  simp only[Result.andThen]
  rw[Oper.upon_value]
  go_wp2_with fail
  rw[Lib.run_from_unsafe w ⟨b,0,none⟩ Tryz.underlying232 Tryz.underlying141 HJ.out HSH.out bld_lies]
  simp only[Result.andThen]
  rw[Oper.upon_value]
  go_wp2_with fail
  go_end0
  exact⟨rfl,H.out.used _,(Below.refl B w).setCell (p:=⟨b,0,none⟩) H.out.1 _,by obtain⟨_,v,hbk,_⟩:=H.out;exact zni hbk 0 _⟩
 have h0:=h.cell0
 have H:=Lib.hid h;have HJ:=Lib.hid hj
 clear h hj hjs
 go_enter Tryz.func160,Tryz.ntmps160
 go_wp2_with fail
 rw[Lib.run_neq_ptr_same w _ Tryz.underlying141 HJ.out]
 go_wp2_with fail
 go_end0
 exact⟨rfl,H.out,Below.refl B _,keep_refl _⟩
theorem zig {B b:Nat} {bs:List UInt8} {w:World} (h:Bld B b bs w) (s:ByteArray) (hlen:bs.length+s.size≤1000000000) (hBw:B≤w.heap.size) :
  Calls Tryz.prog 94 #[.pointer (some ⟨b,0,none⟩),.string s] w fun e w'=>e = .returned (.tuple #[.int .i64 s.size,.nilIface])∧Bld B b (bs ++ s.data.toList) w'∧Below B w w'∧Keep w w':=by
 obtain⟨i0,hi,hz0,hz1,hz2⟩:=info_parts ztm
 have hl:(Lib.byteCells bs).length=bs.length:=Lib.byteCells_length bs
 have HC:=Lib.hid (fun w=>zq7 (w:=w) (B:=B) (b:=b) (bs:=Lib.byteCells bs))
 have hcat:Lib.byteCells bs ++ Lib.strCells s=Lib.byteCells (bs ++ s.data.toList):=by simp[Lib.byteCells,Lib.strCells]
 obtain⟨L,hL⟩ : ∃ L,L=Lib.byteCells bs:=⟨_,rfl⟩
 unfold Bld at h
 rw[← hL] at h hl HC hcat
 have hLl:L.length+s.size≤1000000000:=by omega
 obtain⟨Hi,Hz0,Hz1,Hz2,Hh,HL,Hl,Hcat⟩:=hd8 hi hz0 hz1 hz2 h hL hl hcat;clear hi hz0 hz1 hz2 h hL hl hcat
 go_enter Tryz.func94,Tryz.ntmps94
 go_wp2_with fail
 refine (HC.out _ Hh.out).mono ?_
 rintro e w1 ⟨rfl,⟨hB,v,hbk,hown,hne⟩,hb1,hkp⟩
 have c0:w1.cell? ⟨b,0,none⟩=some (.pointer (some ⟨b,0,none⟩)):=by rw[Lib.cell_of_heap hbk];rfl
 have c1:w1.cell? ⟨b,1,none⟩=some v:=by rw[Lib.cell_of_heap hbk];rfl
 have hB1:B≤w1.heap.size:=by have:=hb1.size;omega
 obtain⟨Hbk,Hown,Hne,Hb1,Hkp⟩:=hd5 hbk hown hne hb1 hkp;clear hbk hown hne hb1 hkp
 go_wp2_with (at_builtin;refine Lib.wpList_append_own_string _ rfl _ _ 142 9 rfl B 5 i0 Tryz.underlying142 Tryz.underlying9 Hi.out Hz0.out Hz1.out Hz2.out _ _ _ rfl Hown.out s rfl ?c3 ?c4 ?c5 ?_)
 case c3=>unfold maxLen;omega
 case c4=>omega
 case c5=>omega
 intro v' w2 hown' hgrow _
 have hlt:b < w1.heap.size:=(Array.getElem?_eq_some_iff.1 Hbk.out).1
 have hb2:w2.heap[b]? = some (.cells #[.pointer (some ⟨b,0,none⟩),v] 144 (0,0)):=by
  rw[hgrow.block b hlt (fun e=>Hne.out e.symm)]
  exact Hbk.out
 have d1:w2.cell? ⟨b,1,none⟩=some v:=by rw[Lib.cell_of_heap hb2];rfl
 have f1:w2.frozen? ⟨b,1,none⟩=false:=Lib.frozen_of_heap hb2 1
 obtain⟨ao,n',cap,rfl⟩ : ∃ ao n' cap,v' = .slice ao n' cap:=by
  rcases hown'.2 with⟨hv,_⟩ | ⟨g,cap,cur,hv,_⟩
  ·exact⟨_,_,_,hv⟩
  exact⟨_,_,_,hv⟩
 obtain⟨Hb2,Hown',Hgrow⟩:=hd3 hb2 hown' hgrow;clear hb2 hown' hgrow
 go_wp2_with fail
 go_ret2
 refine⟨rfl,?_,?_,?_⟩
 ·unfold Bld
  rw[← Hcat.out]
  exact .inr (Lib.BuilderAt.put (T:=144) (e:=5) hB Hb2.out (bs':=L ++ Lib.strCells s) (by simpa [Lib.strCells_length] using Hown'.out) (by decide))
 ·exact (Hb1.out.grown Hgrow.out hB1 (fun k hk=>(Hown.out.lt k hk).1)).setCell (p:=⟨b,1,none⟩) hB _
 exact (Hkp.out.trans (zm4 Hgrow.out Hown.out)).trans (zni Hb2.out 1 _)
theorem bld_done {B b:Nat} {l:List UInt8} {w:World} (h:Bld B b l w) (h0:l≠[]) :
  Calls Tryz.prog 95 #[.pointer (some ⟨b,0,none⟩)] w fun e w'=>e = .returned (.string ⟨l.toArray⟩)∧Below B w w':=by
 obtain⟨p,hB,v,hbk,hown,hne⟩ : ∃ p,Lib.BuilderAt 144 5 B b p (Lib.byteCells l) w:=by
  rcases h with h | h
  ·exact⟨_,h⟩
  exact⟨_,h⟩
 have hl0:l.length≠0:=by simpa using h0
 rw[Lib.byteCells_length] at hown
 obtain⟨g,cap,cur,rfl,hbg,hg,hnc,hcm,hcs,htake⟩ : ∃ g cap cur,v = .slice (some ⟨g,0,none⟩) l.length cap∧B≤g∧w.heap[g]? = some (.cells cur 5 (0,0))∧l.length≤cap∧cap≤maxLen∧cur.size=cap * 1∧cur.toList.take (l.length * 1)=Lib.byteCells l:=by
  rcases hown.2 with⟨_,hz⟩ | ⟨g,cap,cur,hv,r⟩
  ·exact absurd hz hl0
  exact⟨g,cap,cur,hv,r⟩
 have c1:w.drew.cell? ⟨b,1,none⟩=some (.slice (some ⟨g,0,none⟩) l.length cap):=by
  have:w.drew.heap[b]? = some (.cells #[p,.slice (some ⟨g,0,none⟩) l.length cap] 144 (0,0)):=hbk
  rw[Lib.cell_of_heap this];rfl
 have hSD:(Builtin.unsafeSliceData_ #[142] 213 #[.slice (some ⟨g,0,none⟩) l.length cap]).run Tryz.prog w.drew = .ok (.pointer (some ⟨g,0,none⟩)) w.drew :=
  Lib.run_unsafeSliceData_row _ _ _ _ _ _ (by omega)
 have hUS:(Builtin.unsafeString_ #[213,3] 9 #[.pointer (some ⟨g,0,none⟩),.int .i64 l.length]).run Tryz.prog w.drew = .ok (.string ⟨l.toArray⟩) (w.drew.freeze ⟨g,0,none⟩ l.length):=by
  refine Lib.run_unsafeString_row w.drew 213 3 9 5 Tryz.underlying213 zq8 g cur.size (by have hg':w.drew.heap[g]? = some (.cells cur 5 (0,0)):=hg;simp[World.shape?,hg']) l h0 (by omega) (by unfold maxLen at hcm;omega) ?_
  intro j x hx
  have:=hown.cells (g:=g) rfl j (.int .u8 x.toNat) (by simp[Lib.byteCells,hx])
  exact this
 have hlm:l.length≤9223372036854775807:=by unfold maxLen at hcm;omega
 obtain⟨Hbk,Hown,Hne,Hg,Hcs,Htake,Hh⟩:=hd7 hbk hown hne hg hcs htake h;clear hbk hown hne hg hcs htake h
 go_enter Tryz.func95,Tryz.ntmps95
 go_wp2_with fail
 go_region
 all_goals
  go_wp2_with fail
  go_ret
  exact⟨rfl,Lib.below_freeze (Below.drew (Below.refl B w)) (p:=⟨g,0,none⟩) hbg _⟩
theorem ziw {T e:TypeId} {B b:Nat} {p:Value} {bs:List Value} {w w':World} (h:Lib.BuilderAt T e B b p bs w) (hb:Below w.heap.size w w'):Lib.BuilderAt T e B b p bs w':=by
 obtain⟨hB,v,hbk,hown,hne⟩:=h
 exact⟨hB,v,(hb.block b (Array.getElem?_eq_some_iff.1 hbk).1).trans hbk,zae hown hb,hne⟩
theorem zi3 {B b:Nat} {bs:List UInt8} {w w':World} (h:Bld B b bs w) (hb:Below w.heap.size w w'):Bld B b bs w':=by
 rcases h with h | h
 ·exact .inl (ziw h hb)
 exact .inr (ziw h hb)
theorem zq6 (w:World) {b:Nat} (hbk:w.heap[b]? = some (.cells #[.pointer none,.slice none 0 0] 144 (0,0))) :
  Calls Tryz.prog 95 #[.pointer (some ⟨b,0,none⟩)] w fun e w'=>e = .returned (.string ⟨#[]⟩)∧Below w.heap.size w w':=by
 have c1:w.drew.cell? ⟨b,1,none⟩=some (.slice none 0 0):=by
  have:w.drew.heap[b]? = some (.cells #[.pointer none,.slice none 0 0] 144 (0,0)):=hbk
  rw[Lib.cell_of_heap this];rfl
 have hUS:(Builtin.unsafeString_ #[213,3] 9 #[.pointer none,.int .i64 0]).run Tryz.prog w.drew = .ok (.string .empty) w.drew:=Lib.run_unsafeString_none w.drew _ _ _ none
 have hSD:(Builtin.unsafeSliceData_ #[142] 213 #[.slice none 0 0]).run Tryz.prog w.drew = .ok (.pointer none) w.drew:=rfl
 have Hbk:=hd hbk;clear hbk
 go_enter Tryz.func95,Tryz.ntmps95
 go_wp2_with fail
 go_region
 all_goals
  go_wp2_with fail
  go_ret
  exact⟨rfl,Below.drew (Below.refl _ w)⟩
end

section
open Go.RowKit
theorem zq5 {B b:Nat} {bs:List UInt8} {w:World} (h:Bld B b bs w) (c:UInt8) (hlen:bs.length+1≤1000000000) (hBw:B≤w.heap.size) :
  Calls Tryz.prog 179 #[.pointer (some ⟨b,0,none⟩),.int .u8 c.toNat] w fun e w'=>e = .returned .nilIface∧Bld B b (bs ++ [c]) w'∧Below B w w'∧Keep w w':=by
 obtain⟨i0,hi,hz0,hz1,hz2⟩:=info_parts ztm
 have hl:(Lib.byteCells bs).length=bs.length:=Lib.byteCells_length bs
 have HC:=Lib.hid (fun w=>zq7 (w:=w) (B:=B) (b:=b) (bs:=Lib.byteCells bs))
 have hcat:Lib.byteCells bs ++ [.int .u8 c.toNat]=Lib.byteCells (bs ++ [c]):=by simp[Lib.byteCells]
 obtain⟨n,hn⟩ : ∃ n,n=c.toNat:=⟨_,rfl⟩
 rw[← hn] at hcat ⊢
 have hn2:n < 256:=by rw[hn];exact c.toNat_lt
 obtain⟨L,hL⟩ : ∃ L,L=Lib.byteCells bs:=⟨_,rfl⟩
 unfold Bld at h
 rw[← hL] at h hl HC hcat
 have hLl:L.length≤1000000000:=by omega
 obtain⟨Hi,Hz0,Hz1,Hz2,Hh,HL,Hn,Hl,Hcat⟩:=hd9 hi hz0 hz1 hz2 h hL hn hl hcat;clear hi hz0 hz1 hz2 h hL hn hl hcat
 go_enter Tryz.func179,Tryz.ntmps179
 go_wp2_with fail
 refine (HC.out _ Hh.out).mono ?_
 rintro e w1 ⟨rfl,⟨hB,v,hbk,hown,hne⟩,hb1,hkp⟩
 have c0:w1.cell? ⟨b,0,none⟩=some (.pointer (some ⟨b,0,none⟩)):=by rw[Lib.cell_of_heap hbk];rfl
 have c1:w1.cell? ⟨b,1,none⟩=some v:=by rw[Lib.cell_of_heap hbk];rfl
 have hB1:B≤w1.heap.size:=by have:=hb1.size;omega
 obtain⟨Hbk,Hown,Hne,Hb1,Hkp⟩:=hd5 hbk hown hne hb1 hkp;clear hbk hown hne hb1 hkp
 go_wp2_with (at_builtin;refine wpList_append_own _ rfl _ _ 142 rfl B 5 i0 (.int .u8 0) 1 1 Tryz.underlying142 Hi.out Hz0.out Hz1.out Hz2.out rfl (by decide) _ _ _ rfl (Hown.out.alloc _) ⟨w1.heap.size,0,none⟩ 1 1 [.int .u8 n] rfl rfl ?c1 ?c2 ?c3 ?c4 ?c5 ?_)
 case c1 =>
  intro j u hj
  match j,hj with
  | 0,hj=>simp at hj;subst hj;simp[Addr.add]
 case c2=>intro u hu;simp at hu;subst hu;rfl
 case c3=>unfold maxLen;omega
 case c4=>omega
 case c5=>simp;omega
 intro v' w2 hown' hgrow _
 have hlt:b < w1.heap.size:=(Array.getElem?_eq_some_iff.1 Hbk.out).1
 have hb2:w2.heap[b]? = some (.cells #[.pointer (some ⟨b,0,none⟩),v] 144 (0,0)):=by
  rw[hgrow.block b (by simp;omega) (fun e=>Hne.out e.symm),Lib.alloc_old w1 _ b hlt]
  exact Hbk.out
 have d1:w2.cell? ⟨b,1,none⟩=some v:=by rw[Lib.cell_of_heap hb2];rfl
 have f1:w2.frozen? ⟨b,1,none⟩=false:=Lib.frozen_of_heap hb2 1
 obtain⟨g,cap,rfl⟩ : ∃ g cap,v' = .slice (some ⟨g,0,none⟩) (L.length+1) cap:=by
  rcases hown'.2 with⟨_,h0⟩ | ⟨g,cap,cur,hv,_⟩
  ·omega
  exact⟨g,cap,hv⟩
 obtain⟨Hb2,Hown',Hgrow⟩:=hd3 hb2 hown' hgrow;clear hb2 hown' hgrow
 go_wp2_with fail
 go_ret
 refine⟨rfl,?_,?_,?_⟩
 ·unfold Bld
  rw[← Hcat.out]
  exact .inr (Lib.BuilderAt.put (T:=144) (e:=5) hB Hb2.out (bs':=L ++ [.int .u8 n]) (by simpa using Hown'.out) (by decide))
 ·exact ((Hb1.out.alloc hB1 _).grown Hgrow.out (by simp;omega) (fun k hk=>(Hown.out.lt k hk).1)).setCell (p:=⟨b,1,none⟩) hB _
 exact ((Hkp.out.trans (zv8 ((Below.refl _ _).alloc (Nat.le_refl _) _))).trans (zm4 Hgrow.out (Hown.out.alloc _))).trans (zni Hb2.out 1 _)
end

section
open Go.RowKit
open LexM (Bs Wd Ln St)
theorem znf {w:World} {av:Value} {l:List Ln} (h:RLns w [av] l):∃ a cap,av = .slice a l.length cap∧l.length≤cap∧cap≤maxLen ∧
  ∀ (i:Nat) (hi:i < l.length),∃ b off,a=some ⟨b,off,none⟩∧w.cell? ⟨b,off+i * 2,none⟩=some (.int .i64 l[i].1)∧∃ v,w.cell? ⟨b,off+i * 2+1,none⟩=some v∧zcs 2 RWd w [v] l[i].2:=by
 obtain⟨a,cap,hv,h1,h2,h3⟩:=h
 simp only[List.cons.injEq,and_true] at hv
 refine⟨a,cap,hv,h1,h2,fun i hi=>?_⟩
 obtain⟨b,off,ecs,ha,hl,hc,v,hr1,hr2,_⟩:=h3 i l[i] (List.getElem?_eq_getElem hi)
 subst hr1
 exact⟨b,off,ha,by simpa using hc 0 _ rfl,v,by simpa using hc 1 _ rfl,hr2⟩
theorem wd_cell {w:World} {av:Value} {l:List Wd} (h:zcs 2 RWd w [av] l):∃ a cap,av = .slice a l.length cap∧l.length≤cap∧cap≤maxLen ∧
  ∀ (i:Nat) (hi:i < l.length),∃ b off,a=some ⟨b,off,none⟩∧w.cell? ⟨b,off+i * 2,none⟩=some (.int .i64 l[i].1)∧w.cell? ⟨b,off+i * 2+1,none⟩=some (bv l[i].2):=by
 obtain⟨a,cap,hv,h1,h2,h3⟩:=h
 simp only[List.cons.injEq,and_true] at hv
 refine⟨a,cap,hv,h1,h2,fun i hi=>?_⟩
 obtain⟨b,off,ecs,ha,hl,hc,hr1,_⟩:=h3 i l[i] (List.getElem?_eq_getElem hi)
 subst hr1
 exact⟨b,off,ha,by simpa [zb7] using hc 0 _ rfl,by simpa [zb7] using hc 1 _ rfl⟩
end

section
open Go.RowKit
open LexM (Bs Wd Ln St)
def wt:List Wd→Bs
 | [] => []
 | x :: r=>x.2 ++ r.flatMap fun y=>32 :: y.2
def ltx (l:List Ln):Bs:=l.flatMap fun ln=>wt ln.2 ++ [10]
theorem wt_snoc (ws:List Wd) (x:Wd):wt (ws ++ [x])=wt ws ++ ((if ws.length=0 then [] else [32]) ++ x.2):=by
 cases ws with
 | nil=>simp[wt]
 | cons y r=>simp[wt]
theorem zln {α:Type} (l:List α) (k:Nat) (h:k < l.length):l.take (k+1)=l.take k ++ [l[k]]:=by
 rw[List.take_add_one,List.getElem?_eq_getElem h];rfl
theorem ltx_take (l:List Ln) (k:Nat):(ltx (l.take k)).length≤(ltx l).length:=by
 conv=>rhs;rw[← List.take_append_drop k l]
 unfold ltx
 rw[List.flatMap_append,List.length_append]
 omega
theorem ltx_snoc (l:List Ln) (k:Nat) (h:k < l.length):ltx (l.take (k+1))=ltx (l.take k) ++ (wt l[k].2 ++ [10]):=by
 rw[zln l k h]
 unfold ltx
 rw[List.flatMap_append]
 simp
theorem wt_take (ws:List Wd) (j:Nat):(wt (ws.take j)).length≤(wt ws).length:=by
 induction ws generalizing j with
 | nil=>simp
 | cons x r _ =>
  match j with
  | 0=>simp[wt]
  | j+1 =>
   simp only[List.take_succ_cons,wt,List.length_append]
   have:((r.take j).flatMap fun y=>(32:UInt8) :: y.2).length≤(r.flatMap fun y=>(32:UInt8) :: y.2).length:=by
    conv=>rhs;rw[← List.take_append_drop j r]
    rw[List.flatMap_append,List.length_append]
    omega
   omega
theorem text_any {w:World} {av:Value} {l:List Ln} (h:RLns w [av] l) (hlen:(ltx l).length≤100000000):Calls Tryz.prog 129 #[av] w fun e w'=>e = .returned (.string ⟨(ltx l).toArray⟩)∧Below w.heap.size w w':=by
 obtain⟨aa,ac,rfl,ha1,ha2,ha3⟩:=znf h
 unfold maxLen at ha2
 obtain⟨b,hb⟩ : ∃ b,b=w.heap.size:=⟨_,rfl⟩
 have h0:=bld_new w
 have hbel0:Below w.heap.size w (w.alloc (.cells #[.pointer none,.slice none 0 0] 144)):=(Below.refl _ _).alloc (Nat.le_refl _) _
 by_cases hl0:l.length=0
 ·have hl:l = []:=List.eq_nil_of_length_eq_zero hl0
  subst hl
  have hnew:=heap_alloc_new w (.cells #[.pointer none,.slice none 0 0] 144)
  obtain⟨Hh,Ha3,H0,Hbel0,Hnew,Hb,Hl0⟩:=hd7 h ha3 h0 hbel0 hnew hb hl0;clear h ha3 h0 hbel0 hnew hb hl0
  go_enter Tryz.func129,Tryz.ntmps129
  go_wp2_with fail
  go_loop [10] (fun i=>i = .int .i64 0) (fun i=>0)
  case atStart=>rfl
  case round =>
   subst hrel
   go_wp2_with fail
   refine (zq6 _ Hnew.out).mono ?_
   rintro e w2 ⟨rfl,hb2⟩
   have Hb2:=hd hb2;clear hb2
   go_wp2_with fail
   go_ret
   exact⟨rfl,Hbel0.out.trans (Hb2.out.mono Hbel0.out.size)⟩
 have hlp:0 < l.length:=by omega
 obtain⟨Hh,Ha3,H0,Hbel0,Hb,Hl0⟩:=hd6 h ha3 h0 hbel0 hb hl0;clear h ha3 h0 hbel0 hb hl0
 go_enter Tryz.func129,Tryz.ntmps129
 go_wp2_with fail
 rw[← Hb.out] at H0
 obtain⟨w1,hw1⟩ : ∃ w1,w1=w.alloc (.cells #[.pointer none,.slice none 0 0] 144):=⟨_,rfl⟩
 rw[← hw1] at H0 Hbel0 ⊢
 rw[← Hb.out] at Hbel0 ⊢
 clear hw1
 go_loopw [10] (fun i wr=>∃ k:Nat,k≤l.length∧i = .int .i64 k∧Bld b b (ltx (l.take k)) wr∧Below b w wr) (fun i _=>l.length - (intOf i).toNat)
 case atStart=>exact⟨0,by omega,rfl,H0.out,Hbel0.out⟩
 case round =>
  obtain⟨k,hk,rfl,hB,hbel⟩:=hrel
  by_cases hlt:k < l.length
  ·have hbelw:Below w.heap.size w wr:=by rw[← Hb.out];exact hbel
   have hBw:=hbel.size
   obtain⟨b1,o1,hx,c1,v1,c2,r1⟩:=Ha3.out k hlt
   subst hx
   obtain⟨wa,wc,rfl,hw1,hw2,hw3⟩:=wd_cell r1
   obtain⟨A,hA⟩ : ∃ A,A=l[k]:=⟨_,rfl⟩
   rw[← hA] at c1 c2 hw1 hw3
   have c1':=cell_later hbelw c1
   have c2':=cell_later hbelw c2
   unfold maxLen at hw2
   have hsn:=ltx_snoc l k hlt
   rw[← hA] at hsn
   have htl:=ltx_take l (k+1)
   rw[hsn] at htl
   simp only[List.length_append,List.length_singleton] at htl
   obtain⟨pre,hpre⟩ : ∃ pre,pre=ltx (l.take k):=⟨_,rfl⟩
   rw[← hpre] at hB hsn htl
   have hB3:Bld b b (pre ++ wt (A.2.take 0)) (wr.alloc (.cells #[.int .i64 A.1,.slice wa A.2.length wc] 62)):=by
    simp only[List.take_zero,wt,List.append_nil]
    exact zi3 hB ((Below.refl _ _).alloc (Nat.le_refl _) _)
   have hbel3:Below b w (wr.alloc (.cells #[.int .i64 A.1,.slice wa A.2.length wc] 62)):=hbel.alloc (by rw[Hb.out];exact hBw) _
   obtain⟨HB,Hbel,Hbelw,Hr1,Hw3,HA,Hsn,Hpre,HB3,Hbel3⟩:=hd10 hB hbel hbelw r1 hw3 hA hsn hpre hB3 hbel3;clear hB hbel hbelw r1 hw3 hA hsn hpre hB3 hbel3
   clear c1 c2
   go_wp2_with fail
   obtain⟨w3,hw3'⟩ : ∃ w3,w3=wr.alloc (.cells #[.int .i64 A.1,.slice wa A.2.length wc] 62):=⟨_,rfl⟩
   rw[← hw3'] at HB3 Hbel3 ⊢
   clear hw3' c1' c2'
   go_loopw [17] (fun i wr=>∃ j:Nat,j≤A.2.length∧i = .int .i64 j∧Bld b b (pre ++ wt (A.2.take j)) wr∧Below b w wr) (fun i _=>A.2.length - (intOf i).toNat)
   case atStart=>exact⟨0,by omega,rfl,HB3.out,Hbel3.out⟩
   case round =>
    obtain⟨j,hj,rfl,hBj,hbelj⟩:=hrel
    by_cases hjl:j < A.2.length
    ·have hbelw2:Below w.heap.size w wr:=by rw[← Hb.out];exact hbelj
     have hBw2:=hbelw2.size
     obtain⟨b2,o2,hx,d1,d2⟩:=Hw3.out j hjl
     subst hx
     obtain⟨X,hX⟩ : ∃ X,X=A.2[j]:=⟨_,rfl⟩
     rw[← hX] at d1 d2
     have d1':=cell_later hbelw2 d1
     have d2':=cell_later hbelw2 d2
     have hws:wt (A.2.take (j+1))=wt (A.2.take j) ++ ((if j=0 then [] else [32]) ++ X.2):=by
      rw[zln _ _ hjl,wt_snoc,List.length_take,Nat.min_eq_left (by omega),hX]
     have hwl:=wt_take A.2 (j+1)
     rw[hws] at hwl
     simp only[List.length_append] at hwl
     have hB4:Bld b b (pre ++ wt (A.2.take j)) (wr.alloc (.cells #[.int .i64 X.1,bv X.2] 64)):=zi3 hBj ((Below.refl _ _).alloc (Nat.le_refl _) _)
     have hnew:=heap_alloc_new wr (.cells #[.int .i64 X.1,bv X.2] 64)
     have hbel4:Below b w (wr.alloc (.cells #[.int .i64 X.1,bv X.2] 64)):=hbelj.alloc (by rw[Hb.out];exact hBw2) _
     have hszX:(⟨X.2.toArray⟩ : ByteArray).size=X.2.length:=by show X.2.toArray.size=_;simp
     have hb4:b≤wr.heap.size:=by rw[Hb.out];exact hBw2
     by_cases hj0:j=0
     ·rw[if_pos hj0] at hws hwl
      have hjz:j≤0:=by omega
      have hS:=zig hB4 ⟨X.2.toArray⟩ (by rw[hszX,List.length_append];simp at hwl;omega) (by simp;omega)
      have e1:(pre ++ wt (A.2.take j)) ++ (⟨X.2.toArray⟩ : ByteArray).data.toList=pre ++ wt (A.2.take (j+1)):=by rw[hws];simp
      rw[e1] at hS
      obtain⟨HBj,Hbelj,Hbelw2,HX,Hws,Hwl,HB4,Hnew,Hbel4,HS,HszX,Hj0⟩:=hd12 hBj hbelj hbelw2 hX hws hwl hB4 hnew hbel4 hS hszX hj0;clear hBj hbelj hbelw2 hX hws hwl hB4 hnew hbel4 hS hszX hj0
      clear d1 d2
      go_wp2_with fail
      refine HS.out.mono ?_
      rintro e w5 ⟨rfl,hB5,hb5,hk5⟩
      have hbel5:=Hbel4.out.trans hb5
      obtain⟨HB5,Hb5,Hk5,Hbel5⟩:=hd4 hB5 hb5 hk5 hbel5;clear hB5 hb5 hk5 hbel5
      go_wp2_with fail
      go_roundw
      case rel=>exact⟨j+1,by omega,by go_num,HB5.out,Hbel5.out⟩
      case measure=>simp[intOf];omega
     rw[if_neg hj0] at hws hwl
     have hjp:0 < j:=by omega
     have hW:=zq5 hB4 32 (by rw[List.length_append];simp at hwl;omega) (by simp;omega)
     obtain⟨HBj,Hbelj,Hbelw2,HX,Hws,HB4,Hnew,Hbel4,HW⟩:=hd9 hBj hbelj hbelw2 hX hws hB4 hnew hbel4 hW;clear hBj hbelj hbelw2 hX hws hB4 hnew hbel4 hW
     clear d1 d2 hj0
     go_wp2_with fail
     refine HW.out.mono ?_
     rintro e w5 ⟨rfl,hB5,hb5,hk5⟩
     have hbel5:=Hbel4.out.trans hb5
     have hn5:=hk5 _ _ _ _ Hnew.out (by decide) (by decide)
     have z1:=cell_of_row _ wr.heap.size 1 _ _ _ hn5
     simp only[List.getElem?_toArray,List.getElem?_cons_succ,List.getElem?_cons_zero] at z1
     have hS:=zig hB5 ⟨X.2.toArray⟩ (by rw[hszX,List.length_append,List.length_append];simp at hwl ⊢;omega) (by rw[Hb.out];exact hbel5.size)
     have e1:(pre ++ wt (A.2.take j) ++ [32]) ++ (⟨X.2.toArray⟩ : ByteArray).data.toList=pre ++ wt (A.2.take (j+1)):=by rw[Hws.out];simp
     rw[e1] at hS
     obtain⟨HB5,Hb5,Hk5,Hbel5,HS,HszX,Hn5⟩:=hd7 hB5 hb5 hk5 hbel5 hS hszX hn5;clear hB5 hb5 hk5 hbel5 hS hszX hn5
     go_wp2_with fail
     refine HS.out.mono ?_
     rintro e w6 ⟨rfl,hB6,hb6,hk6⟩
     have hbel6:=Hbel5.out.trans hb6
     obtain⟨HB6,Hb6,Hk6,Hbel6⟩:=hd4 hB6 hb6 hk6 hbel6;clear hB6 hb6 hk6 hbel6
     go_wp2_with fail
     go_roundw
     case rel=>exact⟨j+1,by omega,by go_num,HB6.out,Hbel6.out⟩
     case measure=>simp[intOf];omega
    obtain rfl:j=A.2.length:=by omega
    rw[List.take_of_length_le (Nat.le_refl _)] at hBj
    have hW:=zq5 hBj 10 (by rw[List.length_append];omega) (by rw[Hb.out];exact hbelj.size)
    have e1:(pre ++ wt A.2) ++ [10]=ltx (l.take (k+1)):=by rw[Hsn.out,List.append_assoc]
    rw[e1] at hW
    obtain⟨HBj,Hbelj,HW⟩:=hd3 hBj hbelj hW;clear hBj hbelj hW
    go_wp2_with fail
    refine HW.out.mono ?_
    rintro e w5 ⟨rfl,hB5,hb5,hk5⟩
    have hbel5:=Hbelj.out.trans hb5
    obtain⟨HB5,Hb5,Hk5,Hbel5⟩:=hd4 hB5 hb5 hk5 hbel5;clear hB5 hb5 hk5 hbel5
    go_wp2_with fail
    go_roundw
    case rel=>exact⟨k+1,by omega,by go_num,HB5.out,Hbel5.out⟩
    case measure=>simp[intOf];omega
  obtain rfl:k=l.length:=by omega
  rw[List.take_of_length_le (Nat.le_refl _)] at hB
  have hne:ltx l≠[]:=by
   cases l with
   | nil=>simp at hlp
   | cons x r=>simp[ltx]
  have hD:=bld_done hB hne
  obtain⟨HB,Hbel,Hne,HD⟩:=hd4 hB hbel hne hD;clear hB hbel hne hD
  go_wp2_with fail
  refine HD.out.mono ?_
  rintro e w5 ⟨rfl,hb5⟩
  have hbel5:=Hbel.out.trans hb5
  obtain⟨Hb5,Hbel5⟩:=hd2 hb5 hbel5;clear hb5 hbel5
  go_wp2_with fail
  go_ret
  exact⟨rfl,by rw[← Hb.out];exact Hbel5.out⟩
end

section
open Go.RowKit Go.Shelf
attribute [local go_sem ↓] Go.wp_at_zero Go.wp_at_succ
theorem zsk (s t a b:ByteArray) (W:World):(binOp .neq 109 (.agg #[.string s,.string t]) (.agg #[.string a,.string b])).run Tryz.prog W = .ok (.bool (!(decide (s=a) && decide (t=b)))) W:=by
 have u9:=Tryz.underlying9
 have hS:Tryz.prog.underlying 109=some (.struct (Tryz.prog.fieldsOf 109)):=by kernel_rfl
 have hp:Tryz.prog.stoodInHeld 109=false:=by kernel_rfl
 rw[run_neq_struct,show (10000:Nat)=9999+1 from rfl,run_equalIn_agg W 9999 109 _ _ hS hp]
 simp only[Program.fieldsOf,Tryz.underlying109]
 go_simp
 have e1:=Txt.eq_dec s a
 have e2:=Txt.eq_dec t b
 by_cases h1:s=a <;> by_cases h2:t=b <;> simp[h1,h2] at e1 e2 ⊢ <;> simp_all
theorem zqp {w:World} {v u:Value} {l m:List Setg} (h:ze3 w [v] l) (hm:ze3 w [u] m):Calls Tryz.prog 80 #[v,u] w fun e w'=>e = .returned (.bool (decide (l=m)))∧∃ q,w'=w.drewN q:=by
 obtain⟨a,cap,rfl,hz,g⟩:=zbs h
 obtain⟨a2,cap2,rfl,hz2,g2⟩:=zbs hm
 obtain⟨n,hn⟩ : ∃ n,n=l.length:=⟨_,rfl⟩
 obtain⟨n2,hn2⟩ : ∃ n,n=m.length:=⟨_,rfl⟩
 obtain⟨r,hr⟩ : ∃ r,r=decide (l=m):=⟨_,rfl⟩
 have q1:=fun s t a b=>zsk s t a b
 rw[← hr]
 rw[← hn] at hz h ⊢
 rw[← hn2] at hz2 hm ⊢
 obtain⟨Hh,Hm,Hg,Hg2,Hn,Hn2,Hr,Hq1⟩:=hd8 h hm g g2 hn hn2 hr q1;clear h hm g g2 hn hn2 hr q1
 go_enter Tryz.func80,Tryz.ntmps80
 by_cases hne:n=n2
 case neg =>
  have k1:((n:Int) != (n2:Int))=true:=by simp;omega
  have hf:r=false:=by rw[Hr.out,decide_eq_false_iff_not];intro e;exact hne (by rw[Hn.out,Hn2.out,e])
  obtain⟨Hf,Hne⟩:=hd2 hf hne;clear hf hne
  go_wp2_with fail
  go_ret
  exact⟨zac Hf.out.symm,0,rfl⟩
 have k1:((n:Int) != (n2:Int))=false:=by simp;omega
 have Hne:=hd hne;clear hne
 go_wp2_with fail
 clear k1
 go_loopw [13] (fun i wr=>∃ k:Nat,k≤n∧i = .int .i64 k∧(∀ j (h1:j < l.length) (h2:j < m.length),j < k→l[j]=m[j])∧∃ q,wr=w.drewN q) (fun i _=>n - (intOf i).toNat)
 case atStart=>exact⟨0,Nat.zero_le _,rfl,fun _ _ _ h=>by omega,0,rfl⟩
 case round =>
  obtain⟨k,hk,rfl,hno,q,rfl⟩:=hrel
  by_cases hlt:k < n
  ·have hkl:k < l.length:=by have:=Hn.out;omega
   have hkm:k < m.length:=by have:=Hn2.out;have:=Hne.out;omega
   obtain⟨b,off,rfl,d0,d1,_,_⟩:=Hg.out k _ (List.getElem?_eq_getElem hkl)
   obtain⟨b2,off2,rfl,f0,f1,_,_⟩:=Hg2.out k _ (List.getElem?_eq_getElem hkm)
   have hnx:l[k]=m[k]→∀ j (h1:j < l.length) (h2:j < m.length),j < k+1→l[j]=m[j]:=fun h j h1 h2 hjk=>by
    by_cases e:j=k
    ·subst e;exact h
    exact hno j h1 h2 (by omega)
   have hbd:l[k]≠m[k]→l≠m:=fun h e=>h (by subst e;rfl)
   obtain⟨x,hx⟩ : ∃ x,x=l[k]:=⟨_,rfl⟩
   obtain⟨y,hy⟩ : ∃ x,x=m[k]:=⟨_,rfl⟩
   rw[← hx] at d0 d1 hnx hbd
   rw[← hy] at f0 f1 hnx hbd
   have q2:=Hq1.out x.1 x.2 y.1 y.2
   have hxy:(decide (x.1=y.1) && decide (x.2=y.2))=decide (x=y):=by
    rw[Bool.eq_iff_iff]
    simp[Prod.ext_iff]
   rw[hxy] at q2
   obtain⟨s,hs⟩ : ∃ s,s=x.1:=⟨_,rfl⟩
   obtain⟨t,ht⟩ : ∃ s,s=x.2:=⟨_,rfl⟩
   obtain⟨s',hs'⟩ : ∃ s,s=y.1:=⟨_,rfl⟩
   obtain⟨t',ht'⟩ : ∃ s,s=y.2:=⟨_,rfl⟩
   rw[← hs,← ht,← hs',← ht'] at q2
   rw[← hs] at d0
   rw[← ht] at d1
   rw[← hs'] at f0
   rw[← ht'] at f1
   have k5:(0:Int)≤(k:Int):=by omega
   have k6:(k:Int) < (n:Int):=by omega
   have k7:(k:Int) < (n2:Int):=by have:=Hne.out;omega
   clear hxy
   by_cases e:x=y
   ·have hq:=hnx e
    rw[decide_eq_true e] at q2
    simp only[Bool.not_true] at q2
    clear e
    obtain⟨Hno,Hnx,Hbd,Hx,Hy,Hs,Ht,Hs',Ht',Hq⟩:=hd10 hno hnx hbd hx hy hs ht hs' ht' hq;clear hno hnx hbd hx hy hs ht hs' ht' hq
    go_wp2_with fail
    go_region
    go_wp2_with fail
    go_roundw
    case rel=>exact⟨k+1,by omega,by go_num,Hq.out,_,rfl⟩
    case measure=>simp[intOf];omega
   have hf:r=false:=by rw[Hr.out,decide_eq_false_iff_not];exact hbd e
   rw[decide_eq_false e] at q2
   simp only[Bool.not_false] at q2
   clear e
   obtain⟨Hno,Hnx,Hbd,Hx,Hy,Hs,Ht,Hs',Ht',Hf⟩:=hd10 hno hnx hbd hx hy hs ht hs' ht' hf;clear hno hnx hbd hx hy hs ht hs' ht' hf
   go_wp2_with fail
   go_region
   go_wp2_with fail
   go_ret
   exact⟨zac Hf.out.symm,_,rfl⟩
  obtain rfl:n=k:=by omega
  have hf:r=true:=by
   rw[Hr.out,decide_eq_true_eq]
   exact List.ext_getElem (by rw[← Hn.out,← Hn2.out,Hne.out]) (fun j h1 h2=>hno j h1 h2 (by have:=Hn.out;omega))
  obtain⟨Hno,Hf⟩:=hd2 hno hf;clear hno hf
  go_wp2_with fail
  go_ret
  exact⟨zac Hf.out.symm,_,rfl⟩
end

section
open Go.Shelf Go.RowKit Go.Lib VerN VarM
attribute [local go_sem ↓] Go.wp_at_zero Go.wp_at_succ
theorem zom {w:World} {n m:ByteArray} {v1 v2 u1 u2:Value} {l1 l2:List BSp} {g1 g2:List Setg} (h1:RSps w [v1] l1) (h2:ze3 w [v2] g1) (h3:RSps w [u1] l2) (h4:ze3 w [u2] g2) :
  Calls Tryz.prog 38 #[.agg #[.string n,v1,v2],.agg #[.string m,u1,u2]] w fun e w'=>e = .returned (.bool (decide ((n,l1,g1)=(m,l2,g2))))∧Below w.heap.size w w':=by
 obtain⟨a1,c1,rfl,-,-⟩:=zbz h1
 obtain⟨a2,c2,rfl,-,-⟩:=zbs h2
 obtain⟨a3,c3,rfl,-,-⟩:=zbz h3
 obtain⟨a4,c4,rfl,-,-⟩:=zbs h4
 obtain⟨W1,hW1⟩ : ∃ W,W=(w.alloc (.cells #[.string n,.slice a1 l1.length c1,.slice a2 g1.length c2] 51)).alloc (.cells #[.string m,.slice a3 l2.length c3,.slice a4 g2.length c4] 51):=⟨_,rfl⟩
 obtain⟨g,hg⟩ : ∃ g,g=w.heap.size:=⟨_,rfl⟩
 have hb1:Below w.heap.size w W1:=by rw[hW1];exact (za2 _ _).alloc (by simp) _
 have p0:zao g (.string n) (.slice a1 l1.length c1) (.slice a2 g1.length c2) W1:=by rw[hW1,hg];exact za0 (za2 _ _) (za6 rfl)
 have p1:zao (g+1) (.string m) (.slice a3 l2.length c3) (.slice a4 g2.length c4) W1:=by rw[hW1,hg];exact za6 (by simp)
 have r1:=za5 zaw _ _ _ _ h1 hb1
 have r2:=za5 zb5 _ _ _ _ h2 hb1
 have r3:=za5 zaw _ _ _ _ h3 hb1
 have r4:=za5 zb5 _ _ _ _ h4 hb1
 obtain⟨x0,x1,x2,-⟩:=zab p0
 obtain⟨y0,y1,y2,-⟩:=zab p1
 obtain⟨r,hr⟩ : ∃ r,r=decide ((n,l1,g1)=(m,l2,g2)):=⟨_,rfl⟩
 have hS:=zon r1 r3
 have hT:=fun (W:World) (k:Below W1.heap.size W1 W)=>zqp (za5 zb5 _ _ _ _ r2 k) (za5 zb5 _ _ _ _ r4 k)
 obtain⟨n1,hn1⟩ : ∃ n,n=l1.length:=⟨_,rfl⟩
 obtain⟨n2,hn2⟩ : ∃ n,n=g1.length:=⟨_,rfl⟩
 obtain⟨n3,hn3⟩ : ∃ n,n=l2.length:=⟨_,rfl⟩
 obtain⟨n4,hn4⟩ : ∃ n,n=g2.length:=⟨_,rfl⟩
 have hnm:=Txt.eq_dec n m
 rw[← hr]
 rw[← hn1] at x1 hS hW1 ⊢
 rw[← hn2] at x2 hT hW1 ⊢
 rw[← hn3] at y1 hS hW1 ⊢
 rw[← hn4] at y2 hT hW1 ⊢
 obtain⟨bs,hbs⟩ : ∃ b,b=decide (l1=l2):=⟨_,rfl⟩
 obtain⟨bt,hbt⟩ : ∃ b,b=decide (g1=g2):=⟨_,rfl⟩
 obtain⟨bn,hbn⟩ : ∃ b,b=decide (n=m):=⟨_,rfl⟩
 rw[← hbs] at hS
 rw[← hbt] at hT
 rw[← hbn] at hnm
 have hrr:r=(bn && (bs && bt)):=by
  rw[hr,hbn,hbs,hbt,Bool.eq_iff_iff]
  simp[Prod.ext_iff]
 clear hr hbs hbt hbn
 obtain⟨H1,H2,H3,H4,Hb1,Hp0,Hp1,Hr1,Hr2,Hr3,Hr4,Hn1,Hn2,Hn3,Hn4,HS⟩:=hd16 h1 h2 h3 h4 hb1 p0 p1 r1 r2 r3 r4 hn1 hn2 hn3 hn4 hS;obtain⟨HT,Hrr⟩:=hd2 hT hrr;clear h1 h2 h3 h4 hb1 p0 p1 r1 r2 r3 r4 hn1 hn2 hn3 hn4 hS hT hrr
 go_enter Tryz.func38,Tryz.ntmps38
 go_upto_region 1 with (fail)
 rw[← hW1,← hg]
 clear hW1 hg
 cases bn with
 | false =>
  go_wp2_with fail
  go_ret
  exact⟨zac (by rw[Hrr.out];rfl),Hb1.out⟩
 | true =>
  cases bs with
  | false =>
   go_wp2_with fail
   refine HS.out.mono ?_
   rintro e w2 ⟨rfl,q,rfl⟩
   go_wp2_with fail
   go_ret
   exact⟨zac (by rw[Hrr.out];rfl),zaj Hb1.out q⟩
  | true =>
   go_wp2_with fail
   refine HS.out.mono ?_
   rintro e w2 ⟨rfl,q,rfl⟩
   have hbq:Below W1.heap.size W1 (W1.drewN q):=zaj (Below.refl _ _) q
   have hT2:=HT.out _ hbq
   obtain⟨x3,x4,x5,-⟩:=zab (za0 hbq Hp0.out)
   obtain⟨y3,y4,y5,-⟩:=zab (za0 hbq Hp1.out)
   rw[← Hn2.out] at x5
   rw[← Hn4.out] at y5
   obtain⟨HT2,Hbq⟩:=hd2 hT2 hbq;clear hT2 hbq
   go_wp2_with fail
   refine HT2.out.mono ?_
   rintro e w2 ⟨rfl,q2,rfl⟩
   go_wp2_with fail
   go_ret
   exact⟨zac (by rw[Hrr.out];rfl),zaj Hb1.out _⟩
end
end Go.Proofs.YteailgjiifdgcaaGreatDoor
