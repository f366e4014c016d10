/- Walks and plain facts. Texts merged: LexL, PnC, PnD, PnF, RpG, PnG, LexR, LexD. Condition: none beyond what each says. -/
import Derived.Test.YteailgjiifdgcaaGreatDoorPrintSpecsAll10
set_option linter.unusedVariables false
set_option linter.unusedSimpArgs false
set_option maxRecDepth 10000
set_option maxHeartbeats 4000000
namespace Go.Proofs.YteailgjiifdgcaaGreatDoor
section
open Go.RowKit
open LexM (Bs Wd Ln St)
theorem zr0:Small LexM.st0 0:=⟨by decide,by decide,by decide,by decide,by decide,by decide,by decide⟩
theorem zlo {s:St} {m:Nat} (h:Small s m):Small (LexM.ends s) (m+1):=by
 obtain⟨a,b,c,d,e,f,g⟩:=h
 refine⟨?_,?_,?_,?_,?_,?_,?_⟩ <;> unfold LexM.ends <;> dsimp only
 ·omega
 ·omega
 ·omega
 ·simp
 ·split <;> (try simp) <;> omega
 ·omega
 intro h;exact absurd h (by decide)
theorem zov {s:St} {m:Nat} (h:Small s m):Small (LexM.breaks s) (m+1):=by
 obtain⟨a,b,c,d,e,f,g⟩:=h
 refine⟨?_,?_,?_,?_,?_,?_,?_⟩ <;> unfold LexM.breaks LexM.ends <;> dsimp only
 ·omega
 ·omega
 ·omega
 ·simp
 ·simp
 ·(repeat' split) <;> (try simp) <;> omega
 intro h;exact absurd h (by decide)
theorem Small.mono {s:St} {m k:Nat} (h:Small s m) (hk:m≤k):Small s k:=by
 obtain⟨a,b,c,d,e,f,g⟩:=h
 exact⟨by omega,by omega,by omega,by omega,by omega,by omega,g⟩
theorem zjh {s:St} {m:Nat} (h:Small s m) (c:UInt8) (h0:(LexM.takes s c).2=0):Small (LexM.takes s c).1 (m+2):=by
 have h1:=zmb h
 unfold LexM.takes at h0 ⊢
 split
 ·exact zov h1
 rename_i c10
 rw[if_neg c10] at h0
 split
 ·rename_i cA;rw[if_pos cA] at h0;cases h0
 rename_i cA
 rw[if_neg cA] at h0
 split
 ·exact h1.mono (by omega)
 rename_i co
 rw[if_neg co] at h0
 split
 ·obtain⟨a,b,c,d,e,f,g⟩:=zlo h1
  exact⟨a,b,c,d,e,f,g⟩
 rename_i c35
 rw[if_neg c35] at h0
 split
 ·exact zlo h1
 rename_i c32
 rw[if_neg c32] at h0
 have hw:=h.word
 have hc:=h.col
 obtain⟨a,b,c,d,e,f,g⟩:=h1
 split
 ·exact⟨by dsimp only;omega,by dsimp only;omega,by dsimp only;omega,by simp;omega,by dsimp only;omega,by dsimp only;omega,fun _=>by simp⟩
 rename_i cf
 rw[if_neg cf] at h0
 split
 ·refine⟨by dsimp only;omega,by dsimp only;omega,by dsimp only;omega,by simp;omega,by dsimp only;omega,by dsimp only;omega,fun _=>by simp⟩
 rename_i cm
 rw[if_neg cm] at h0
 cases h0
theorem znu (t:Bs):∀ (s:St) (m:Nat),Small s m→(LexM.run s t).2=0→Small (LexM.run s t).1 (m+2 * t.length):=by
 induction t with
 | nil=>intro s m h _;exact h
 | cons c r ih =>
  intro s m h h0
  by_cases hz:(LexM.takes s c).2=0
  ·rw[LexM.run_ok hz] at h0 ⊢
   have:=ih _ _ (zjh h c hz) h0
   rw[List.length_cons]
   exact this.mono (by omega)
  rw[LexM.run_bad hz] at h0;exact absurd h0 hz
theorem zpj (t:Bs) (c:UInt8) (s:St) (h:(LexM.run s t).2=0):LexM.run s (t ++ [c])=if (LexM.takes (LexM.run s t).1 c).2=0 then ((LexM.takes (LexM.run s t).1 c).1,0) else LexM.takes (LexM.run s t).1 c:=by
 rw[LexM.run_append,if_pos h]
 by_cases hz:(LexM.takes (LexM.run s t).1 c).2=0
 ·rw[LexM.run_ok hz,if_pos hz];rfl
 rw[LexM.run_bad hz,if_neg hz]
theorem run_stop (t r:Bs) (s:St) (h:(LexM.run s t).2≠0):LexM.run s (t ++ r)=LexM.run s t:=by rw[LexM.run_append,if_neg h]
def WdOk (m:Nat) (x:Wd):Prop:=0≤x.1∧x.1≤m∧x.2.length≤m
def LnOk (m:Nat) (x:Ln):Prop:=0≤x.1∧x.1≤m+1∧∀ wd∈x.2,WdOk m wd
structure Fine (s:St) (m:Nat):Prop where
 words:∀ wd∈s.words,WdOk m wd
 out:∀ ln∈s.out,LnOk m ln
theorem WdOk.mono {m k:Nat} {x:Wd} (h:WdOk m x) (hk:m≤k):WdOk k x:=by obtain⟨a,b,c⟩:=h;exact⟨a,by omega,by omega⟩
theorem LnOk.mono {m k:Nat} {x:Ln} (h:LnOk m x) (hk:m≤k):LnOk k x:=by obtain⟨a,b,c⟩:=h;exact⟨a,by omega,fun wd hw=>(c wd hw).mono hk⟩
theorem Fine.mono {s:St} {m k:Nat} (h:Fine s m) (hk:m≤k):Fine s k:=⟨fun wd hw=>(h.words wd hw).mono hk,fun ln hl=>(h.out ln hl).mono hk⟩
theorem zoj {s:St} {m:Nat} (hs:Small s m) (h:Fine s m):Fine (LexM.ends s) m:=by
 refine⟨?_,h.out⟩
 unfold LexM.ends
 dsimp only
 split
 ·intro wd hw
  rcases List.mem_append.1 hw with hw | hw
  ·exact h.words wd hw
  simp at hw
  subst hw
  exact⟨hs.frm.1,hs.frm.2,hs.word⟩
 exact h.words
theorem zh1 {s:St} {m:Nat} (hs:Small s m) (h:Fine s m):Fine (LexM.breaks s) m:=by
 have h1:=zoj hs h
 unfold LexM.breaks
 refine⟨by simp,?_⟩
 dsimp only
 split
 ·exact h.out
 intro ln hl
 rcases List.mem_append.1 hl with hl | hl
 ·exact h.out ln hl
 simp at hl
 subst hl
 exact⟨hs.line.1,hs.line.2,h1.words⟩
theorem zsd {s:St} {m:Nat} (hs:Small s m) (h:Fine s m) (c:UInt8):Fine (LexM.takes s c).1 (m+2):=by
 have h1:=zmb hs
 have h2:Fine (LexM.onward s) (m+1):=⟨(h.mono (Nat.le_succ m)).words,(h.mono (Nat.le_succ m)).out⟩
 have h3:=(zoj h1 h2).mono (Nat.le_succ _)
 have h4:=h2.mono (Nat.le_succ (m+1))
 unfold LexM.takes
 split
 ·exact (zh1 h1 h2).mono (Nat.le_succ _)
 split
 ·exact h4
 split
 ·exact h4
 split
 ·exact⟨h3.words,h3.out⟩
 split
 ·exact h3
 split
 ·exact⟨h4.words,h4.out⟩
 split
 ·exact⟨h4.words,h4.out⟩
 exact⟨h4.words,h4.out⟩
theorem zr6 (t:Bs):∀ (s:St) (m:Nat),Small s m→Fine s m→(LexM.run s t).2=0→Fine (LexM.run s t).1 (m+2 * t.length):=by
 induction t with
 | nil=>intro s m _ h _;exact h
 | cons c r ih =>
  intro s m hs h h0
  by_cases hz:(LexM.takes s c).2=0
  ·rw[LexM.run_ok hz] at h0 ⊢
   have:=ih _ _ (zjh hs c hz) (zsd hs h c) h0
   rw[List.length_cons]
   exact this.mono (by omega)
  rw[LexM.run_bad hz] at h0;exact absurd h0 hz
theorem zm0 {n:Int} (h0:0≤n) (h1:n≤9223372036854775807):(Lit.int .i64 n).wf=true:=by
 simp[Lit.wf,IntKind.min,IntKind.max,IntKind.signed,IntKind.bits]
 omega
theorem rword {w:World} {m:Nat} (hm:m≤10000000) {x:Wd} (h:WdOk m x):RWd w (zb6 x) x:=by
 obtain⟨a,b,c⟩:=h
 exact⟨rfl,zm0 a (by omega),by unfold maxLen;omega⟩
theorem zby.reads {w0 w w':World} {x:Nat} {s:St} {wv sv ov:Value} {rv:List Value} (h:zby w0 x s wv sv ov rv w) (hfr:Frm (fun k=>k < w0.heap.size) w w') {m:Nat} (hm:m≤10000000) (hf:Fine s m):RLns w' [ov] s.out:=by
 have hz:(zdi s.out rv)=(s.out.zip rv).flatMap fun x=>[.int .i64 x.1.1,x.2]:=rfl
 have hlen:(s.out.zip rv).length=s.out.length:=by simp[h.rlen]
 have h1:=hfr.owns h.out (fun k hk e=>by have:=(h.out.lt k hk).1;omega)
 rw[hz] at h1
 have h2:zdp 2 (fun w cs (y:Ln × Value)=>RLn w cs y.1) w' [ov] (s.out.zip rv):=by
  refine zdk (B:=w0.heap.size) (e:=62) (fun x:Ln × Value=>[.int .i64 x.1.1,x.2]) _ (fun _ _=>rfl) ?_ (by rw[hlen];exact h1)
  intro y hy
  obtain⟨i,hi,rfl⟩:=List.mem_iff_getElem.1 hy
  have hi1:i < s.out.length:=by omega
  have hi2:i < rv.length:=by rw[h.rlen];exact hi1
  rw[List.getElem_zip]
  obtain⟨r0,_⟩:=h.rows i s.out[i] rv[i] (List.getElem?_eq_getElem hi1) (List.getElem?_eq_getElem hi2)
  have r1:=hfr.owns r0 (fun k hk e=>by have:=(r0.lt k hk).1;omega)
  obtain⟨a,b,c⟩:=hf.out _ (List.getElem_mem hi1)
  refine⟨rv[i],rfl,zdk zb6 RWd (fun _ _=>rfl) (fun wd hw=>rword hm (c wd hw)) r1,zm0 (n:=s.out[i].1) a (by omega)⟩
 obtain⟨a,cap,hv,g1,g2,g3⟩:=h2
 rw[hlen] at hv g1
 refine⟨a,cap,hv,g1,g2,fun i ln hi=>?_⟩
 have hi1:=(List.getElem?_eq_some_iff.1 hi).1
 have hi2:i < rv.length:=by rw[h.rlen];exact hi1
 have hzi:(s.out.zip rv)[i]? = some (ln,rv[i]):=by
  rw[List.getElem?_zip_eq_some]
  exact⟨hi,List.getElem?_eq_getElem hi2⟩
 exact g3 i _ hzi
def zg2 (w:World) (r:LexM.Res) (e:Ending) (w':World):Prop:=∃ v,e = .returned (.tuple #[v,.agg #[.int .i64 r.at1,.int .i64 r.at2],.int .i64 r.e])∧RLns w' [v] r.lines∧Below w.heap.size w w'
theorem zmv (s:ByteArray) (hs:s.size≤140737488351232) (w:World) (h:65536 < s.size):Calls Tryz.prog 70 #[.string s] w (zg2 w (LexM.lines s.data.toList)):=by
 have hr:LexM.lines s.data.toList=⟨[],0,0,4⟩:=by unfold LexM.lines;rw[if_pos];rw[Array.length_toList];exact h
 rw[hr]
 clear hr
 go_enter Tryz.func70,Tryz.ntmps70
 go_wp2_with fail
 refine bodyPost_ret (v:=.tuple #[.slice none 0 0,.agg #[.int .i64 0,.int .i64 0],.int .i64 4]) (by simp[results,Tryz.results70,go_sem]) rfl ⟨_,rfl,⟨none,0,rfl,Nat.le_refl _,Nat.zero_le _,fun i x hi=>by simp at hi⟩,?_⟩
 exact (Below.refl _ _).alloc (Nat.le_refl _) _
theorem zby.start (w1:World):zby w1 w1.heap.size LexM.st0 (.slice none 0 0) (.slice none 0 0) (.slice none 0 0) [] (w1.alloc (.cells (zb2 LexM.st0 (.slice none 0 0) (.slice none 0 0) (.slice none 0 0)) 182)) :=
 ⟨heap_alloc_new w1 _,World.ownsRow_nil _ _ _ _,World.ownsRow_nil _ _ _ _,World.ownsRow_nil _ _ _ _,rfl,fun i ln v hi=>by simp[LexM.st0] at hi,(Below.refl _ _).alloc (Nat.le_refl _) _,Nat.le_refl _⟩
def zqq (w1:World) (x:Nat) (t:Bs) (k:Nat) (w:World):Prop:=(LexM.run LexM.st0 (t.take k)).2=0∧∃ wv sv ov rv,zby w1 x (LexM.run LexM.st0 (t.take k)).1 wv sv ov rv w
theorem byte_at (s:ByteArray) (k:Nat) (h:k < s.size):s.data.toList.take (k+1)=s.data.toList.take k ++ [s[k]]:=by
 rw[List.take_add_one,List.getElem?_eq_getElem (by rw[Array.length_toList];exact h)]
 rfl
theorem zl1 (s:ByteArray) (w:World) (h:s.size≤65536):Calls Tryz.prog 70 #[.string s] w (zg2 w (LexM.lines s.data.toList)):=by
 have hlen:s.data.toList.length=s.size:=by rw[Array.length_toList];rfl
 have hr:LexM.lines s.data.toList=LexM.close (LexM.run LexM.st0 s.data.toList):=by unfold LexM.lines;rw[if_neg];omega
 rw[hr]
 clear hr
 obtain⟨t,ht⟩ : ∃ t,t=s.data.toList:=⟨_,rfl⟩
 rw[← ht] at hlen ⊢
 have h0:=zby.start (w.alloc (.cells #[.int .i64 0,.int .i64 0] 40))
 simp only[World.size_alloc] at h0
 have hg0:zqq (w.alloc (.cells #[.int .i64 0,.int .i64 0] 40)) (w.heap.size+1) t 0 ((w.alloc (.cells #[.int .i64 0,.int .i64 0] 40)).alloc (.cells (zb2 LexM.st0 (.slice none 0 0) (.slice none 0 0) (.slice none 0 0)) 182)):=⟨rfl,_,_,_,_,h0⟩
 obtain⟨Ht,Hlen,Hg0⟩:=hd3 ht hlen hg0;clear ht hlen hg0
 clear h0
 go_enter Tryz.func70,Tryz.ntmps70
 go_wp2_with fail
 obtain⟨w2,hw2⟩ : ∃ w2,w2=((w.alloc (.cells #[.int .i64 0,.int .i64 0] 40)).alloc (.cells (zb2 LexM.st0 (.slice none 0 0) (.slice none 0 0) (.slice none 0 0)) 182)):=⟨_,rfl⟩
 rw[← hw2] at Hg0
 have hw3:=hw2
 simp only[zb2,LexM.st0] at hw3
 rw[← hw3]
 clear hw2 hw3
 go_loopw [16] (fun i wr=>∃ k:Nat,k≤s.size∧i = .int .i64 k∧zqq (w.alloc (.cells #[.int .i64 0,.int .i64 0] 40)) (w.heap.size+1) t k wr) (fun i _=>s.size - (intOf i).toNat)
 case atStart=>exact⟨0,Nat.zero_le _,rfl,Hg0.out⟩
 case round =>
  obtain⟨k,hk,rfl,hg⟩:=hrel
  obtain⟨hz,wv,sv,ov,rv,hL⟩:=hg
  have hS:=znu (t.take k) LexM.st0 0 zr0 hz
  have htl:(t.take k).length≤k:=List.length_take_le _ _
  obtain⟨st,hst⟩ : ∃ st,st=(LexM.run LexM.st0 (t.take k)).1:=⟨_,rfl⟩
  rw[← hst] at hL hS
  by_cases hlt:k < s.size
  ·have hsn:=byte_at s k hlt
   obtain⟨Hz,HL,HS,Hst,Hsn⟩:=hd5 hz hL hS hst hsn;clear hz hL hS hst hsn
   go_wp2_with fail
   refine (takes_any HL.out (by omega) HS.out s[k]).mono ?_
   rintro e w3 ⟨rfl,wv3,sv3,ov3,rv3,h3⟩
   obtain⟨er,her⟩ : ∃ er,er=(LexM.takes st s[k]).2:=⟨_,rfl⟩
   have htk:LexM.run LexM.st0 (t.take (k+1))=if (LexM.takes st s[k]).2=0 then ((LexM.takes st s[k]).1,0) else LexM.takes st s[k]:=by
    rw[Ht.out,Hsn.out,← Ht.out,zpj _ _ _ Hz.out,← Hst.out]
   rw[← her] at htk ⊢
   by_cases he:er=0
   ·have hb:(er != 0)=false:=by rw[he];rfl
    rw[if_pos he] at htk
    have hg:zqq (w.alloc (.cells #[.int .i64 0,.int .i64 0] 40)) (w.heap.size+1) t (k+1) w3:=⟨by rw[htk],wv3,sv3,ov3,rv3,by rw[htk];exact h3⟩
    obtain⟨Hg,Htk,Her,He⟩:=hd4 hg htk her he;clear hg htk her he
    clear h3
    go_wp2_with fail
    go_roundw
    case rel=>exact⟨k+1,by omega,by go_num,Hg.out⟩
    case measure=>simp[intOf];omega
   have hb:(er != 0)=true:=by rw[bne_iff_ne];exact he
   rw[if_neg he] at htk
   have hsplit:t=t.take (k+1) ++ t.drop (k+1):=(List.take_append_drop _ _).symm
   have hrun:LexM.run LexM.st0 t=LexM.takes st s[k]:=by
    rw[hsplit,run_stop _ _ _ (by rw[htk];rw[← her];exact he),htk]
   have hcl:LexM.close (LexM.run LexM.st0 t)=⟨[],(LexM.takes st s[k]).1.line,(LexM.takes st s[k]).1.col,er⟩:=by
    rw[hrun];unfold LexM.close;rw[← her,if_neg he]
   have x0:=za5 h3.cells 0
   have x1:=za5 h3.cells 1
   simp only[zb2,List.getElem?_toArray,List.getElem?_cons_succ,List.getElem?_cons_zero] at x0 x1
   obtain⟨l3,hl3⟩ : ∃ l3,l3=(LexM.takes st s[k]).1.line:=⟨_,rfl⟩
   obtain⟨c3,hc3⟩ : ∃ c3,c3=(LexM.takes st s[k]).1.col:=⟨_,rfl⟩
   rw[← hl3] at x0 hcl
   rw[← hc3] at x1 hcl
   have hblk:w3.heap[w.heap.size]? = some (.cells #[.int .i64 0,.int .i64 0] 40 (0,0)):=by
    rw[h3.bel.block _ (by simp)];exact heap_alloc_new w _
   have z0:=za5 hblk 0
   have z1:=za5 hblk 1
   have y0:=zad hblk 0
   have y1:=zad hblk 1
   simp only[List.getElem?_toArray,List.getElem?_cons_succ,List.getElem?_cons_zero] at z0 z1
   have hbel:=h3.bel
   obtain⟨Hbel,Htk,Her,He,Hrun,Hcl,Hsplit,Hl3,Hc3,H3⟩:=hd10 hbel htk her he hrun hcl hsplit hl3 hc3 h3;clear hbel htk her he hrun hcl hsplit hl3 hc3 h3
   clear hblk
   go_wp2_with fail
   go_region
   all_goals
    go_wp2_with fail
    refine bodyPost_ret (v:=.tuple #[.slice none 0 0,.agg #[.int .i64 l3,.int .i64 c3],.int .i64 er]) (by simp[results,Tryz.results70,go_sem,z0,z1]) rfl ?_
    rw[Hcl.out]
    refine⟨_,rfl,⟨none,0,rfl,Nat.le_refl _,Nat.zero_le _,fun i x hi=>by simp at hi⟩,?_⟩
    exact ((((Below.refl _ _).alloc (Nat.le_refl _) _).trans (Hbel.out.mono (by simp))).setCell (Nat.le_refl _) _).setCell (Nat.le_refl _) _ |>.drew
  obtain rfl:k=s.size:=by omega
  have htake:t.take s.size=t:=List.take_of_length_le (by have:=Hlen.out;omega)
  have hF:=zr6 (t.take s.size) LexM.st0 0 zr0 ⟨by simp[LexM.st0],by simp[LexM.st0]⟩ hz
  rw[← hst] at hF
  have hcl:LexM.close (LexM.run LexM.st0 t)=⟨(LexM.breaks st).out,0,0,0⟩:=by
   rw[htake] at hz hst
   unfold LexM.close;rw[if_pos hz,← hst]
  have hF2:=zh1 hS hF
  obtain⟨Hz,HL,HS,Hst,Htake,Hcl,HF,HF2⟩:=hd8 hz hL hS hst htake hcl hF hF2;clear hz hL hS hst htake hcl hF hF2
  go_wp2_with fail
  refine (zlt HL.out (by omega) HS.out).mono ?_
  rintro e w3 ⟨rfl,wv3,sv3,ov3,rv3,h3⟩
  have x6:=za5 h3.cells 6
  simp only[zb2,List.getElem?_toArray,List.getElem?_cons_succ,List.getElem?_cons_zero] at x6
  have hblk:w3.heap[w.heap.size]? = some (.cells #[.int .i64 0,.int .i64 0] 40 (0,0)):=by
   rw[h3.bel.block _ (by simp)];exact heap_alloc_new w _
  have z0:=za5 hblk 0
  have z1:=za5 hblk 1
  have y0:=zad hblk 0
  have y1:=zad hblk 1
  simp only[List.getElem?_toArray,List.getElem?_cons_succ,List.getElem?_cons_zero] at z0 z1
  have hRd:=h3.reads (w':=(w3.setCell ⟨w.heap.size,0,none⟩ (.int .i64 0)).setCell ⟨w.heap.size,1,none⟩ (.int .i64 0)) (Frm.setCell (Frm.setCell (Frm.refl _ _) (p:=⟨w.heap.size,0,none⟩) (.inr (by simp)) _) (p:=⟨w.heap.size,1,none⟩) (.inr (by simp)) _) (by omega) HF2.out
  have hbel:=h3.bel
  obtain⟨Hbel,HRd,H3⟩:=hd3 hbel hRd h3;clear hbel hRd h3
  clear hblk
  go_wp2_with fail
  refine bodyPost_ret (v:=.tuple #[ov3,.agg #[.int .i64 0,.int .i64 0],.int .i64 0]) (by simp[results,Tryz.results70,go_sem,z0,z1]) rfl ?_
  rw[Hcl.out]
  refine⟨_,rfl,?_,?_⟩
  ·exact HRd.out
  exact (((((Below.refl _ _).alloc (Nat.le_refl _) _).trans (Hbel.out.mono (by simp))).setCell (Nat.le_refl _) _).setCell (Nat.le_refl _) _)
theorem zim (s:ByteArray) (hs:s.size≤140737488351232) (w:World):Calls Tryz.prog 70 #[.string s] w (zg2 w (LexM.lines s.data.toList)):=by
 by_cases h:65536 < s.size
 ·exact zmv s hs w h
 exact zl1 s w (by omega)
end

section
open Go.Shelf Go.RowKit Go.Lib VerN VarM
open LexM (Wd Ln zl6)
attribute [local go_sem ↓] Go.wp_at_zero Go.wp_at_succ
theorem zky {w:World} {v1 v2:Value} {nm:ByteArray} {L:List BSp} {sets:List Setg} {l:List Tp} (h1:RSps w [v1] L) (h2:zd8 w [v2] sets) (hS:Sp (nm,L,sets) l) (hD:zbk w) :
  Calls Tryz.prog 74 #[.agg #[.string nm,v1,v2],.func (.func 76) #[] #[]] w fun e w'=>e = .returned (.tuple #[.string (zeh zbq (nm,L,sets)).1,.bool (zeh zbq (nm,L,sets)).2])∧Below w.heap.size w w':=by
 have hLt:L=tB l:=hS.sp
 obtain⟨a1,c1,rfl,-,-⟩:=zbz h1
 obtain⟨a2,c2,rfl,-,-⟩:=zbt h2
 obtain⟨n1,hn1⟩ : ∃ n,n=L.length:=⟨_,rfl⟩
 obtain⟨n2,hn2⟩ : ∃ n,n=sets.length:=⟨_,rfl⟩
 rw[← hn1] at h1 ⊢
 rw[← hn2] at h2 ⊢
 obtain⟨W1,hW1⟩ : ∃ W,W=w.alloc (.cells #[.string nm,.slice a1 n1 c1,.slice a2 n2 c2] 51):=⟨_,rfl⟩
 obtain⟨g,hg⟩ : ∃ g,g=w.heap.size:=⟨_,rfl⟩
 have hb1:Below w.heap.size w W1:=by rw[hW1];exact za2 _ _
 have p0:zai g (.string nm) (.slice a1 n1 c1) (.slice a2 n2 c2) W1:=by rw[hW1,hg];exact heap_alloc_new _ _
 obtain⟨x0,x1,x2,-⟩:=za4 p0
 have r1:=za6 zat _ _ _ _ h1 hb1
 have r2:=za6 zaw _ _ _ _ h2 hb1
 have hW:=zgp (nm:=nm) (l:=l) (by rw[← hLt];exact r1) r2 (hD.below hb1) hS.l1 hS.sl hS.nm hS.sz
 rw[← hLt] at hW
 obtain⟨hwz,hwl,hwn⟩:=hS.words
 have htz:=hS.text
 have hte:=zm8 (nm,L,sets)
 obtain⟨s,hs⟩ : ∃ s:Spc3,s=(nm,L,sets):=⟨_,rfl⟩
 rw[← hs] at hW hwz hwl hwn htz hte
 rw[← hs]
 unfold zi0 at hW
 obtain⟨ws,hws⟩ : ∃ l,l=zdb s:=⟨_,rfl⟩
 rw[← hws] at hW hwz hwl hwn hte
 obtain⟨t,ht⟩ : ∃ t,t=zfc s:=⟨_,rfl⟩
 rw[← ht] at htz hte
 have hL:=fun (W:World)=>zim t (by omega) W
 rw[LexM.lines_eq] at hL
 have hgood:=LexM.doc_good7 t.data.toList
 have hyes:=zfg (R:=zbq) (s:=s)
 have hno:=zj3 (R:=zbq) (s:=s)
 unfold zf8 at hyes hno
 rw[← ht] at hyes hno
 obtain⟨R,hR⟩ : ∃ R,R=LexM.docLines t.data.toList:=⟨_,rfl⟩
 rw[← hR] at hL hgood hyes hno
 obtain⟨e1,he1⟩ : ∃ z,z=R.at1:=⟨_,rfl⟩
 obtain⟨e2,he2⟩ : ∃ z,z=R.at2:=⟨_,rfl⟩
 obtain⟨er,her⟩ : ∃ z,z=R.e:=⟨_,rfl⟩
 obtain⟨ls,hls⟩ : ∃ z,z=R.lines:=⟨_,rfl⟩
 rw[← her,← hls] at hyes hno
 rw[← hls] at hgood
 unfold zg2 at hL
 simp only[← he1,← he2,← her,← hls] at hL
 obtain⟨res,hres⟩ : ∃ q,q=zeh zbq s:=⟨_,rfl⟩
 rw[← hres] at hyes hno ⊢
 clear he1 he2 her hls hR
 have htb:t.size≤30000000000:=htz
 obtain⟨H1,H2,HS,HD,Hb1,Hp0,Hr1,Hr2,HW,Hwz,Hwl,Hwn,Htz,Hte,HL,Hgood⟩:=hd16 h1 h2 hS hD hb1 p0 r1 r2 hW hwz hwl hwn htz hte hL hgood;obtain⟨Hyes,Hno,Hres,HLt,Hn1,Hn2,Hs,Hws,Ht⟩:=hd9 hyes hno hres hLt hn1 hn2 hs hws ht;clear h1 h2 hS hD hb1 p0 r1 r2 hW hwz hwl hwn htz hte hL hgood hyes hno hres hLt hn1 hn2 hs hws ht
 go_enter Tryz.func74,Tryz.ntmps74
 go_upto_region 1 with (fail)
 rw[← hW1,← hg]
 clear hW1 hg
 go_wp2_with fail
 refine HW.out.mono ?_
 rintro e w2 ⟨a,c,rfl,hrd,hb2⟩
 obtain⟨aa,cap,hv,hz,hat⟩:=zjg hrd
 have hca:ws.length≤c:=by
  obtain⟨a',cap',hv',hc,_⟩:=hrd
  simp only[List.cons.injEq,and_true,Value.slice.injEq] at hv'
  rw[hv'.2.2]
  exact hc
 obtain⟨rfl,-,rfl⟩:=Value.slice.inj hv
 have hpos:0 < ws.length:=List.length_pos_iff.2 Hwn.out
 obtain⟨bk,o,rfl,hc0,-⟩:=hat 0 hpos
 have hJ:=Tryz.strings_Join bk o c ws ⟨#[32]⟩ w2 (fun j x hj=>by
  obtain⟨hjl,hjx⟩:=List.getElem?_eq_some_iff.1 hj
  obtain⟨b',o',e',h',_⟩:=hat j hjl
  cases e'
  rw[← hjx]
  exact h') (World.block_lt_of_cell? _ _ hc0) (by have:=Hwl.out;omega) hca (by
  have:=Htz.out
  rw[Hte.out,← Txt.len,zdy] at this
  exact Nat.le_trans this (by decide))
 have hjt:(⟨(Lib.join (ws.map (·.data.toList)) (⟨#[32]⟩ : ByteArray).data.toList).toArray⟩ : ByteArray)=t:=by rw[Hte.out];rfl
 rw[hjt] at hJ
 have hbw2:=Hb1.out.trans (hb2.mono Hb1.out.size)
 obtain⟨nw,hnw⟩ : ∃ n,n=ws.length:=⟨_,rfl⟩
 rw[← hnw] at hJ ⊢
 clear hat hv hc0 hz
 obtain⟨Hrd,Hb2,Hca,Hpos,HJ,Hjt,Hbw2,Hnw⟩:=hd8 hrd hb2 hca hpos hJ hjt hbw2 hnw;clear hrd hb2 hca hpos hJ hjt hbw2 hnw
 go_wp2_with fail
 refine HJ.out.mono ?_
 rintro e w3 ⟨rfl,hb3⟩
 have hb13:=Hb2.out.trans (hb3.mono Hb2.out.size)
 have hbw3:=Hb1.out.trans (hb13.mono Hb1.out.size)
 have hL3:=HL.out w3
 obtain⟨Hb3,Hb13,Hbw3,HL3⟩:=hd4 hb3 hb13 hbw3 hL3;clear hb3 hb13 hbw3 hL3
 go_wp2_with fail
 refine HL3.out.mono ?_
 rintro e w4 ⟨v,rfl,hln,hb4⟩
 obtain⟨ad,cp,rfl,-,-,hat⟩:=zf2 hln
 clear hat
 obtain⟨m,hm⟩ : ∃ m,m=ls.length:=⟨_,rfl⟩
 rw[← hm] at hln ⊢
 obtain⟨w5,hw5⟩ : ∃ W,W=w4.alloc (.cells #[.int .i64 e1,.int .i64 e2] 40):=⟨_,rfl⟩
 have hb45:Below w4.heap.size w4 w5:=by rw[hw5];exact za2 _ _
 have hb35:=hb4.trans (hb45.mono hb4.size)
 have hbw5:=Hbw3.out.trans (hb35.mono Hbw3.out.size)
 have hln5:=zek _ _ _ _ hln hb45
 by_cases he:er=0
 ·have k1:(er != 0)=false:=by rw[he];rfl
  by_cases h1:m=1
  ·subst h1
   obtain⟨ln,hl1⟩ : ∃ x,ls = [x]:=List.length_eq_one_iff.1 hm.symm
   have hg:=Hgood.out.1 ln (by rw[hl1];simp)
   have hwl1:=zj0 hg
   have hTx:=zqv hln5 (by rw[hl1,zi7,List.length_append];simp;omega)
   rw[hl1] at hTx
   obtain⟨lt,hlt⟩ : ∃ x:ByteArray,x=⟨(ltx [ln]).toArray⟩:=⟨_,rfl⟩
   rw[← hlt] at hTx
   have hq:(lt.toList == (t ++ ⟨#[10]⟩ : ByteArray).toList)=decide (wt ln.2=t.data.toList):=by rw[hlt];exact ltx_eq ln t
   obtain⟨eq,heq⟩ : ∃ b,b=decide (wt ln.2=t.data.toList):=⟨_,rfl⟩
   rw[← heq] at hq
   have hlz:lt.size≤100000000:=by rw[hlt];show (ltx [ln]).length≤_;rw[zi7,List.length_append];simp;omega
   rw[hl1] at hln5
   cases eq with
   | false =>
    have hr:res=(noT,false):=Hno.out (by
     rintro⟨-,ln',h2,h3,-⟩
     rw[hl1] at h2
     cases h2
     exact absurd h3 (of_decide_eq_false heq.symm))
    obtain⟨Hln,Hb4,Hb45,Hb35,Hbw5,Hln5,He,Hm,Hl1,Hg,Hwl1,HTx,Hlt,Heq,Hr,Hlz⟩:=hd16 hln hb4 hb45 hb35 hbw5 hln5 he hm hl1 hg hwl1 hTx hlt heq hr hlz;clear hln hb4 hb45 hb35 hbw5 hln5 he hm hl1 hg hwl1 hTx hlt heq hr hlz
    go_upto_region 3 with (fail)
    rw[← hw5]
    clear hw5
    go_wp2_with fail
    refine HTx.out.mono ?_
    rintro e w6 ⟨rfl,hb6⟩
    have Hb6:=hd hb6;clear hb6
    go_wp2_with fail
    go_ret2
    exact⟨by rw[Hr.out];rfl,Hbw5.out.trans (Hb6.out.mono Hbw5.out.size)⟩
   | true =>
    have hwt:wt ln.2=t.data.toList:=of_decide_eq_true heq.symm
    have hb5':=hb35
    have he0:=he
    have hl1':=hl1
    have hwt':=hwt
    obtain⟨Hln,Hb4,Hb45,Hb35,Hbw5,He,Hm,Hlt,Heq,Hlz,Hl1,Hwt⟩:=hd12 hln hb4 hb45 hb35 hbw5 he hm hlt heq hlz hl1 hwt;clear hln hb4 hb45 hb35 hbw5 he hm hlt heq hlz hl1 hwt
    go_upto_region 3 with (fail)
    rw[← hw5]
    clear hw5
    have Hln5:=Lib.hid hln5
    clear hln5
    have HTx:=Lib.hid hTx
    clear hTx
    go_wp2_with fail
    refine HTx.out.mono ?_
    rintro e w6 ⟨rfl,hb6⟩
    have hbw6:=Hbw5.out.trans (hb6.mono Hbw5.out.size)
    have hln6:=zek _ _ _ _ Hln5.out hb6
    have hp6:=za0 (hb5'.trans (hb6.mono hb5'.size)) (za0 Hb13.out Hp0.out)
    obtain⟨a',c',ha',-,-,hat⟩:=zf2 hln6
    simp only[List.length_singleton,Value.slice.injEq] at ha'
    obtain⟨rfl,-,-⟩:=ha'
    obtain⟨bq,o,rfl,c0,v,c1,hwd⟩:=hat 0 (by simp)
    clear hat c0
    rw[Nat.zero_mul,Nat.add_zero] at c1
    rw[List.getElem_cons_zero] at hwd
    obtain⟨wa,wc,rfl⟩:=zh8 hwd
    obtain⟨nw,hnw2⟩ : ∃ n,n=ln.2.length:=⟨_,rfl⟩
    rw[← hnw2] at c1 hwd
    have hcol:∀ j,zb8 ln.2 ((t.size:Int)+1) j≠0:=fun j=>by
     by_cases hj:j < ln.2.length
     ·rw[zge hj]
      have:=(hg.2.2.2 _ (List.getElem_mem hj)).1
      omega
     rw[zgf (by omega)]
     omega
    have hnw40:nw≤40:=by have:=hg.2.2.1;omega
    have hO:=zku (fin:=(t.size:Int)+1) hwd (HD.out.below hbw6) (by omega) (fun x hx=>(hg.2.2.2 x hx).2.2.2) hcol
    obtain⟨fin,hfin⟩ : ∃ f,f=(t.size:Int)+1:=⟨_,rfl⟩
    rw[← hfin] at hO hcol
    obtain⟨Hln6,Hb6,Hbw6,Hp6,Hwd,HO,Hg,Hnw2,Hcol,Hfin⟩:=hd10 hln6 hb6 hbw6 hp6 hwd hO hg hnw2 hcol hfin;clear hln6 hb6 hbw6 hp6 hwd hO hg hnw2 hcol hfin
    go_wp2_with fail
    rw[← Hfin.out]
    refine HO.out.mono ?_
    rintro e w7 ⟨⟨s2,j,b1,m1,d1,b2,m2,d2,hw,rfl,hv1,hv2⟩ | ⟨j,hw,rfl⟩,hb7⟩
    ·have hbw7:=Hbw6.out.trans (hb7.mono Hbw6.out.size)
     obtain⟨w8,hw8⟩ : ∃ W,W=w7.alloc (.cells #[.string s2.1,.slice b1 m1 d1,.slice b2 m2 d2] 51):=⟨_,rfl⟩
     have hb78:Below w7.heap.size w7 w8:=by rw[hw8];exact za2 _ _
     have hb68:=hb7.trans (hb78.mono hb7.size)
     have hbw8:=Hbw6.out.trans (hb68.mono Hbw6.out.size)
     obtain⟨q,hq⟩ : ∃ k,k=w7.heap.size:=⟨_,rfl⟩
     have pq:zai q (.string s2.1) (.slice b1 m1 d1) (.slice b2 m2 d2) w8:=by rw[hw8,hq];exact heap_alloc_new _ _
     have hp8:=za0 hb68 Hp6.out
     obtain⟨y0,y1,y2,-⟩:=za4 pq
     clear x0 x1 x2
     obtain⟨x0,x1,x2,-⟩:=za4 hp8
     have c8:=cell_later hb68 c1
     have hSame:=zdu (n:=s2.1) (m:=nm) (zap hv1 hb78).1 (zax hv2 hb78).1 (za6 zat _ _ _ _ H1.out hbw8) (za6 zaw _ _ _ _ H2.out hbw8)
     obtain⟨s21,hs21⟩ : ∃ x,x=s2.1:=⟨_,rfl⟩
     rw[← hs21] at hSame y0 hw8 ⊢
     obtain⟨same,hsame⟩ : ∃ b,b=decide ((s21,s2.2.1,s2.2.2)=(nm,L,sets)):=⟨_,rfl⟩
     rw[← hsame] at hSame
     have hsm:same=true↔s2=s:=by
      rw[hsame,decide_eq_true_eq,hs21,Hs.out]
     by_cases hj:j=nw
     ·subst hj
      cases same with
      | true =>
       have hs2:s2=s:=hsm.1 rfl
       have hr:res=(t,true):=Hyes.out ⟨he0,ln,hl1',hwt',by rw[← Hnw2.out,← hs2];exact hw⟩
       obtain⟨Hw,Hv1,Hv2,Hb7,Hbw7,Hb78,Hb68,Hbw8,Hq,Hpq,Hp8,HSame,Hs21,Hsame,Hsm,Hs2⟩:=hd16 hw hv1 hv2 hb7 hbw7 hb78 hb68 hbw8 hq pq hp8 hSame hs21 hsame hsm hs2;have Hr:=hd hr;clear hw hv1 hv2 hb7 hbw7 hb78 hb68 hbw8 hq pq hp8 hSame hs21 hsame hsm hs2 hr
       go_upto_region 6 with (fail)
       rw[← hw8,← Hq.out]
       clear hw8
       go_wp2_with fail
       refine HSame.out.mono ?_
       rintro e w9 ⟨rfl,hb9⟩
       have Hb9:=hd hb9;clear hb9
       go_wp2_with fail
       go_ret2
       exact⟨by rw[Hr.out];rfl,Hbw8.out.trans (Hb9.out.mono Hbw8.out.size)⟩
      | false =>
       have hr:res=(noT,false):=Hno.out (by
        rintro⟨-,ln',h2,-,h4⟩
        rw[hl1'] at h2
        cases h2
        rw[hw] at h4
        have h5:s2=s:=by cases h4;rfl
        exact absurd (hsm.2 h5) (by simp))
       obtain⟨Hw,Hv1,Hv2,Hb7,Hbw7,Hb78,Hb68,Hbw8,Hq,Hpq,Hp8,HSame,Hs21,Hsame,Hsm,Hr⟩:=hd16 hw hv1 hv2 hb7 hbw7 hb78 hb68 hbw8 hq pq hp8 hSame hs21 hsame hsm hr;clear hw hv1 hv2 hb7 hbw7 hb78 hb68 hbw8 hq pq hp8 hSame hs21 hsame hsm hr
       go_upto_region 6 with (fail)
       rw[← hw8,← Hq.out]
       clear hw8
       go_wp2_with fail
       refine HSame.out.mono ?_
       rintro e w9 ⟨rfl,hb9⟩
       have Hb9:=hd hb9;clear hb9
       go_wp2_with fail
       go_ret2
       exact⟨by rw[Hr.out];rfl,Hbw8.out.trans (Hb9.out.mono Hbw8.out.size)⟩
     have k3:((j:Int) != (nw:Int))=true:=by simp;omega
     have hr:res=(noT,false):=Hno.out (by
      rintro⟨-,ln',h2,-,h4⟩
      rw[hl1'] at h2
      cases h2
      rw[hw] at h4
      have h5:j=ln.2.length:=by cases h4;rfl
      exact hj (h5.trans Hnw2.out.symm))
     obtain⟨Hw,Hv1,Hv2,Hb7,Hbw7,Hb78,Hb68,Hbw8,Hq,Hpq,Hp8,HSame,Hs21,Hsame,Hsm,Hj⟩:=hd16 hw hv1 hv2 hb7 hbw7 hb78 hb68 hbw8 hq pq hp8 hSame hs21 hsame hsm hj;have Hr:=hd hr;clear hw hv1 hv2 hb7 hbw7 hb78 hb68 hbw8 hq pq hp8 hSame hs21 hsame hsm hj hr
     go_upto_region 6 with (fail)
     rw[← hw8,← Hq.out]
     clear hw8
     go_wp2_with fail
     go_ret2
     exact⟨by rw[Hr.out];rfl,Hbw8.out⟩
    obtain⟨cl,hcl⟩ : ∃ x,x=zb8 ln.2 fin j:=⟨_,rfl⟩
    have hne:(cl != 0)=true:=by rw[hcl];simpa using Hcol.out j
    rw[← hcl]
    have hr:res=(noT,false):=Hno.out (by
     rintro⟨-,ln',h2,-,h4⟩
     rw[hl1'] at h2
     cases h2
     rw[hw] at h4
     cases h4)
    have hbw7:=Hbw6.out.trans (hb7.mono Hbw6.out.size)
    obtain⟨w8,hw8⟩ : ∃ W,W=w7.alloc (.cells #[.string ⟨#[]⟩,.slice none 0 0,.slice none 0 0] 51):=⟨_,rfl⟩
    have hb78:Below w7.heap.size w7 w8:=by rw[hw8];exact za2 _ _
    have hbw8:=hbw7.trans (hb78.mono hbw7.size)
    obtain⟨Hw,Hb7,Hbw7,Hb78,Hbw8,Hcl,Hr⟩:=hd7 hw hb7 hbw7 hb78 hbw8 hcl hr;clear hw hb7 hbw7 hb78 hbw8 hcl hr
    go_upto_region 6 with (fail)
    rw[← hw8]
    clear hw8
    go_wp2_with fail
    go_ret2
    exact⟨by rw[Hr.out];rfl,Hbw8.out⟩
  have k2:((m:Int) != 1)=true:=by simp;omega
  have hr:res=(noT,false):=Hno.out (by
   rintro⟨-,ln',h2,-,-⟩
   rw[h2] at hm
   exact h1 hm)
  obtain⟨Hln,Hb4,Hb45,Hb35,Hbw5,Hln5,He,Hm,H1,Hr⟩:=hd10 hln hb4 hb45 hb35 hbw5 hln5 he hm h1 hr;clear hln hb4 hb45 hb35 hbw5 hln5 he hm h1 hr
  go_upto_region 3 with (fail)
  rw[← hw5]
  clear hw5
  go_wp2_with fail
  go_ret2
  exact⟨by rw[Hr.out];rfl,Hbw5.out⟩
 have k1:(er != 0)=true:=by simpa using he
 have hr:res=(noT,false):=Hno.out (fun h=>he h.1)
 obtain⟨Hln,Hb4,Hb45,Hb35,Hbw5,Hln5,He,Hm,Hr⟩:=hd9 hln hb4 hb45 hb35 hbw5 hln5 he hm hr;clear hln hb4 hb45 hb35 hbw5 hln5 he hm hr
 go_upto_region 3 with (fail)
 rw[← hw5]
 clear hw5
 go_wp2_with fail
 go_ret2
 exact⟨by rw[Hr.out];rfl,Hbw5.out⟩
theorem zhm {w:World} {v1 v2:Value} {nm:ByteArray} {L:List BSp} {sets:List Setg} {l:List Tp} (h1:RSps w [v1] L) (h2:zd8 w [v2] sets) (hS:Sp (nm,L,sets) l) (hD:zbk w) :
  Calls Tryz.prog 34 #[.agg #[.string nm,v1,v2]] w fun e w'=>e = .returned (.tuple #[.string (zeh zbq (nm,L,sets)).1,.bool (zeh zbq (nm,L,sets)).2])∧Below w.heap.size w w':=by
 obtain⟨a1,c1,rfl⟩:=zbf h1
 obtain⟨a2,c2,rfl⟩:=zc9 h2
 obtain⟨W1,hW1⟩ : ∃ W,W=w.alloc (.cells #[.string nm,.slice a1 L.length c1,.slice a2 sets.length c2] 51):=⟨_,rfl⟩
 obtain⟨g,hg⟩ : ∃ g,g=w.heap.size:=⟨_,rfl⟩
 have hb1:Below w.heap.size w W1:=by rw[hW1];exact za2 _ _
 have p0:zai g (.string nm) (.slice a1 L.length c1) (.slice a2 sets.length c2) W1:=by rw[hW1,hg];exact heap_alloc_new _ _
 have hP:=zky (za6 zat _ _ _ _ h1 hb1) (za6 zaw _ _ _ _ h2 hb1) hS (hD.below hb1)
 obtain⟨n1,hn1⟩ : ∃ n,n=L.length:=⟨_,rfl⟩
 obtain⟨n2,hn2⟩ : ∃ n,n=sets.length:=⟨_,rfl⟩
 rw[← hn1,← hn2] at hP p0 hW1 ⊢
 obtain⟨res,hres⟩ : ∃ q,q=zeh zbq (nm,L,sets):=⟨_,rfl⟩
 rw[← hres] at hP ⊢
 obtain⟨x0,x1,x2,-⟩:=za4 p0
 obtain⟨r1,r2⟩:=res
 obtain⟨H1,H2,HS,HD,Hb1,Hp0,HP,Hn1,Hn2,Hres⟩:=hd10 h1 h2 hS hD hb1 p0 hP hn1 hn2 hres;clear h1 h2 hS hD hb1 p0 hP hn1 hn2 hres
 go_enter Tryz.func34,Tryz.ntmps34
 go_upto_region 1 with (fail)
 rw[← hW1,← hg]
 clear hW1 hg
 go_wp2_with fail
 refine HP.out.mono ?_
 rintro e w2 ⟨rfl,hb2⟩
 have Hb2:=hd hb2;clear hb2
 go_wp2_with fail
 go_ret2
 exact⟨rfl,Hb1.out.trans (Hb2.out.mono Hb1.out.size)⟩
end

section
open Go.Shelf Go.RowKit Go.Lib VerN VarM
open LexM (Wd Ln zl6)
attribute [local go_sem ↓] Go.wp_at_zero Go.wp_at_succ
theorem zkz {w:World} {v1 v2:Value} {nm:ByteArray} {L:List BSp} {sets:List Setg} {l:List Tp} (h1:RSps w [v1] L) (h2:zd8 w [v2] sets) (hS:Sp (nm,L,sets) l) (hD:zbk w) :
  Calls Tryz.prog 74 #[.agg #[.string nm,v1,v2],.func (.func 75) #[] #[]] w fun e w'=>e = .returned (.tuple #[.string (zeh zbn (nm,L,sets)).1,.bool (zeh zbn (nm,L,sets)).2])∧Below w.heap.size w w':=by
 have hLt:L=tB l:=hS.sp
 obtain⟨a1,c1,rfl,-,-⟩:=zbz h1
 obtain⟨a2,c2,rfl,-,-⟩:=zbt h2
 obtain⟨n1,hn1⟩ : ∃ n,n=L.length:=⟨_,rfl⟩
 obtain⟨n2,hn2⟩ : ∃ n,n=sets.length:=⟨_,rfl⟩
 rw[← hn1] at h1 ⊢
 rw[← hn2] at h2 ⊢
 obtain⟨W1,hW1⟩ : ∃ W,W=w.alloc (.cells #[.string nm,.slice a1 n1 c1,.slice a2 n2 c2] 51):=⟨_,rfl⟩
 obtain⟨g,hg⟩ : ∃ g,g=w.heap.size:=⟨_,rfl⟩
 have hb1:Below w.heap.size w W1:=by rw[hW1];exact za2 _ _
 have p0:zai g (.string nm) (.slice a1 n1 c1) (.slice a2 n2 c2) W1:=by rw[hW1,hg];exact heap_alloc_new _ _
 obtain⟨x0,x1,x2,-⟩:=za4 p0
 have r1:=za6 zat _ _ _ _ h1 hb1
 have r2:=za6 zaw _ _ _ _ h2 hb1
 have hW:=zgp (nm:=nm) (l:=l) (by rw[← hLt];exact r1) r2 (hD.below hb1) hS.l1 hS.sl hS.nm hS.sz
 rw[← hLt] at hW
 obtain⟨hwz,hwl,hwn⟩:=hS.words
 have htz:=hS.text
 have hte:=zm8 (nm,L,sets)
 obtain⟨s,hs⟩ : ∃ s:Spc3,s=(nm,L,sets):=⟨_,rfl⟩
 rw[← hs] at hW hwz hwl hwn htz hte
 rw[← hs]
 unfold zi0 at hW
 obtain⟨ws,hws⟩ : ∃ l,l=zdb s:=⟨_,rfl⟩
 rw[← hws] at hW hwz hwl hwn hte
 obtain⟨t,ht⟩ : ∃ t,t=zfc s:=⟨_,rfl⟩
 rw[← ht] at htz hte
 have hL:=fun (W:World)=>zim t (by omega) W
 rw[LexM.lines_eq] at hL
 have hgood:=LexM.doc_good7 t.data.toList
 have hyes:=zfg (R:=zbn) (s:=s)
 have hno:=zj3 (R:=zbn) (s:=s)
 unfold zf8 at hyes hno
 rw[← ht] at hyes hno
 obtain⟨R,hR⟩ : ∃ R,R=LexM.docLines t.data.toList:=⟨_,rfl⟩
 rw[← hR] at hL hgood hyes hno
 obtain⟨e1,he1⟩ : ∃ z,z=R.at1:=⟨_,rfl⟩
 obtain⟨e2,he2⟩ : ∃ z,z=R.at2:=⟨_,rfl⟩
 obtain⟨er,her⟩ : ∃ z,z=R.e:=⟨_,rfl⟩
 obtain⟨ls,hls⟩ : ∃ z,z=R.lines:=⟨_,rfl⟩
 rw[← her,← hls] at hyes hno
 rw[← hls] at hgood
 unfold zg2 at hL
 simp only[← he1,← he2,← her,← hls] at hL
 obtain⟨res,hres⟩ : ∃ q,q=zeh zbn s:=⟨_,rfl⟩
 rw[← hres] at hyes hno ⊢
 clear he1 he2 her hls hR
 have htb:t.size≤30000000000:=htz
 obtain⟨H1,H2,HS,HD,Hb1,Hp0,Hr1,Hr2,HW,Hwz,Hwl,Hwn,Htz,Hte,HL,Hgood⟩:=hd16 h1 h2 hS hD hb1 p0 r1 r2 hW hwz hwl hwn htz hte hL hgood;obtain⟨Hyes,Hno,Hres,HLt,Hn1,Hn2,Hs,Hws,Ht⟩:=hd9 hyes hno hres hLt hn1 hn2 hs hws ht;clear h1 h2 hS hD hb1 p0 r1 r2 hW hwz hwl hwn htz hte hL hgood hyes hno hres hLt hn1 hn2 hs hws ht
 go_enter Tryz.func74,Tryz.ntmps74
 go_upto_region 1 with (fail)
 rw[← hW1,← hg]
 clear hW1 hg
 go_wp2_with fail
 refine HW.out.mono ?_
 rintro e w2 ⟨a,c,rfl,hrd,hb2⟩
 obtain⟨aa,cap,hv,hz,hat⟩:=zjg hrd
 have hca:ws.length≤c:=by
  obtain⟨a',cap',hv',hc,_⟩:=hrd
  simp only[List.cons.injEq,and_true,Value.slice.injEq] at hv'
  rw[hv'.2.2]
  exact hc
 obtain⟨rfl,-,rfl⟩:=Value.slice.inj hv
 have hpos:0 < ws.length:=List.length_pos_iff.2 Hwn.out
 obtain⟨bk,o,rfl,hc0,-⟩:=hat 0 hpos
 have hJ:=Tryz.strings_Join bk o c ws ⟨#[32]⟩ w2 (fun j x hj=>by
  obtain⟨hjl,hjx⟩:=List.getElem?_eq_some_iff.1 hj
  obtain⟨b',o',e',h',_⟩:=hat j hjl
  cases e'
  rw[← hjx]
  exact h') (World.block_lt_of_cell? _ _ hc0) (by have:=Hwl.out;omega) hca (by
  have:=Htz.out
  rw[Hte.out,← Txt.len,zdy] at this
  exact Nat.le_trans this (by decide))
 have hjt:(⟨(Lib.join (ws.map (·.data.toList)) (⟨#[32]⟩ : ByteArray).data.toList).toArray⟩ : ByteArray)=t:=by rw[Hte.out];rfl
 rw[hjt] at hJ
 have hbw2:=Hb1.out.trans (hb2.mono Hb1.out.size)
 obtain⟨nw,hnw⟩ : ∃ n,n=ws.length:=⟨_,rfl⟩
 rw[← hnw] at hJ ⊢
 clear hat hv hc0 hz
 obtain⟨Hrd,Hb2,Hca,Hpos,HJ,Hjt,Hbw2,Hnw⟩:=hd8 hrd hb2 hca hpos hJ hjt hbw2 hnw;clear hrd hb2 hca hpos hJ hjt hbw2 hnw
 go_wp2_with fail
 refine HJ.out.mono ?_
 rintro e w3 ⟨rfl,hb3⟩
 have hb13:=Hb2.out.trans (hb3.mono Hb2.out.size)
 have hbw3:=Hb1.out.trans (hb13.mono Hb1.out.size)
 have hL3:=HL.out w3
 obtain⟨Hb3,Hb13,Hbw3,HL3⟩:=hd4 hb3 hb13 hbw3 hL3;clear hb3 hb13 hbw3 hL3
 go_wp2_with fail
 refine HL3.out.mono ?_
 rintro e w4 ⟨v,rfl,hln,hb4⟩
 obtain⟨ad,cp,rfl,-,-,hat⟩:=zf2 hln
 clear hat
 obtain⟨m,hm⟩ : ∃ m,m=ls.length:=⟨_,rfl⟩
 rw[← hm] at hln ⊢
 obtain⟨w5,hw5⟩ : ∃ W,W=w4.alloc (.cells #[.int .i64 e1,.int .i64 e2] 40):=⟨_,rfl⟩
 have hb45:Below w4.heap.size w4 w5:=by rw[hw5];exact za2 _ _
 have hb35:=hb4.trans (hb45.mono hb4.size)
 have hbw5:=Hbw3.out.trans (hb35.mono Hbw3.out.size)
 have hln5:=zek _ _ _ _ hln hb45
 by_cases he:er=0
 ·have k1:(er != 0)=false:=by rw[he];rfl
  by_cases h1:m=1
  ·subst h1
   obtain⟨ln,hl1⟩ : ∃ x,ls = [x]:=List.length_eq_one_iff.1 hm.symm
   have hg:=Hgood.out.1 ln (by rw[hl1];simp)
   have hwl1:=zj0 hg
   have hTx:=zqv hln5 (by rw[hl1,zi7,List.length_append];simp;omega)
   rw[hl1] at hTx
   obtain⟨lt,hlt⟩ : ∃ x:ByteArray,x=⟨(ltx [ln]).toArray⟩:=⟨_,rfl⟩
   rw[← hlt] at hTx
   have hq:(lt.toList == (t ++ ⟨#[10]⟩ : ByteArray).toList)=decide (wt ln.2=t.data.toList):=by rw[hlt];exact ltx_eq ln t
   obtain⟨eq,heq⟩ : ∃ b,b=decide (wt ln.2=t.data.toList):=⟨_,rfl⟩
   rw[← heq] at hq
   have hlz:lt.size≤100000000:=by rw[hlt];show (ltx [ln]).length≤_;rw[zi7,List.length_append];simp;omega
   rw[hl1] at hln5
   cases eq with
   | false =>
    have hr:res=(noT,false):=Hno.out (by
     rintro⟨-,ln',h2,h3,-⟩
     rw[hl1] at h2
     cases h2
     exact absurd h3 (of_decide_eq_false heq.symm))
    obtain⟨Hln,Hb4,Hb45,Hb35,Hbw5,Hln5,He,Hm,Hl1,Hg,Hwl1,HTx,Hlt,Heq,Hr,Hlz⟩:=hd16 hln hb4 hb45 hb35 hbw5 hln5 he hm hl1 hg hwl1 hTx hlt heq hr hlz;clear hln hb4 hb45 hb35 hbw5 hln5 he hm hl1 hg hwl1 hTx hlt heq hr hlz
    go_upto_region 3 with (fail)
    rw[← hw5]
    clear hw5
    go_wp2_with fail
    refine HTx.out.mono ?_
    rintro e w6 ⟨rfl,hb6⟩
    have Hb6:=hd hb6;clear hb6
    go_wp2_with fail
    go_ret2
    exact⟨by rw[Hr.out];rfl,Hbw5.out.trans (Hb6.out.mono Hbw5.out.size)⟩
   | true =>
    have hwt:wt ln.2=t.data.toList:=of_decide_eq_true heq.symm
    have hb5':=hb35
    have he0:=he
    have hl1':=hl1
    have hwt':=hwt
    obtain⟨Hln,Hb4,Hb45,Hb35,Hbw5,He,Hm,Hlt,Heq,Hlz,Hl1,Hwt⟩:=hd12 hln hb4 hb45 hb35 hbw5 he hm hlt heq hlz hl1 hwt;clear hln hb4 hb45 hb35 hbw5 he hm hlt heq hlz hl1 hwt
    go_upto_region 3 with (fail)
    rw[← hw5]
    clear hw5
    have Hln5:=Lib.hid hln5
    clear hln5
    have HTx:=Lib.hid hTx
    clear hTx
    go_wp2_with fail
    refine HTx.out.mono ?_
    rintro e w6 ⟨rfl,hb6⟩
    have hbw6:=Hbw5.out.trans (hb6.mono Hbw5.out.size)
    have hln6:=zek _ _ _ _ Hln5.out hb6
    have hp6:=za0 (hb5'.trans (hb6.mono hb5'.size)) (za0 Hb13.out Hp0.out)
    obtain⟨a',c',ha',-,-,hat⟩:=zf2 hln6
    simp only[List.length_singleton,Value.slice.injEq] at ha'
    obtain⟨rfl,-,-⟩:=ha'
    obtain⟨bq,o,rfl,c0,v,c1,hwd⟩:=hat 0 (by simp)
    clear hat c0
    rw[Nat.zero_mul,Nat.add_zero] at c1
    rw[List.getElem_cons_zero] at hwd
    obtain⟨wa,wc,rfl⟩:=zh8 hwd
    obtain⟨nw,hnw2⟩ : ∃ n,n=ln.2.length:=⟨_,rfl⟩
    rw[← hnw2] at c1 hwd
    have hcol:∀ j,zb8 ln.2 ((t.size:Int)+1) j≠0:=fun j=>by
     by_cases hj:j < ln.2.length
     ·rw[zge hj]
      have:=(hg.2.2.2 _ (List.getElem_mem hj)).1
      omega
     rw[zgf (by omega)]
     omega
    have hnw40:nw≤40:=by have:=hg.2.2.1;omega
    have hO:=zkw (fin:=(t.size:Int)+1) hwd (HD.out.below hbw6) (by omega) (fun x hx=>(hg.2.2.2 x hx).2.2.2) hcol
    obtain⟨fin,hfin⟩ : ∃ f,f=(t.size:Int)+1:=⟨_,rfl⟩
    rw[← hfin] at hO hcol
    obtain⟨Hln6,Hb6,Hbw6,Hp6,Hwd,HO,Hg,Hnw2,Hcol,Hfin⟩:=hd10 hln6 hb6 hbw6 hp6 hwd hO hg hnw2 hcol hfin;clear hln6 hb6 hbw6 hp6 hwd hO hg hnw2 hcol hfin
    go_wp2_with fail
    rw[← Hfin.out]
    refine HO.out.mono ?_
    rintro e w7 ⟨⟨s2,j,b1,m1,d1,b2,m2,d2,hw,rfl,hv1,hv2⟩ | ⟨j,hw,rfl⟩,hb7⟩
    ·have hbw7:=Hbw6.out.trans (hb7.mono Hbw6.out.size)
     obtain⟨w8,hw8⟩ : ∃ W,W=w7.alloc (.cells #[.string s2.1,.slice b1 m1 d1,.slice b2 m2 d2] 51):=⟨_,rfl⟩
     have hb78:Below w7.heap.size w7 w8:=by rw[hw8];exact za2 _ _
     have hb68:=hb7.trans (hb78.mono hb7.size)
     have hbw8:=Hbw6.out.trans (hb68.mono Hbw6.out.size)
     obtain⟨q,hq⟩ : ∃ k,k=w7.heap.size:=⟨_,rfl⟩
     have pq:zai q (.string s2.1) (.slice b1 m1 d1) (.slice b2 m2 d2) w8:=by rw[hw8,hq];exact heap_alloc_new _ _
     have hp8:=za0 hb68 Hp6.out
     obtain⟨y0,y1,y2,-⟩:=za4 pq
     clear x0 x1 x2
     obtain⟨x0,x1,x2,-⟩:=za4 hp8
     have c8:=cell_later hb68 c1
     have hSame:=zdu (n:=s2.1) (m:=nm) (zap hv1 hb78).1 (zax hv2 hb78).1 (za6 zat _ _ _ _ H1.out hbw8) (za6 zaw _ _ _ _ H2.out hbw8)
     obtain⟨s21,hs21⟩ : ∃ x,x=s2.1:=⟨_,rfl⟩
     rw[← hs21] at hSame y0 hw8 ⊢
     obtain⟨same,hsame⟩ : ∃ b,b=decide ((s21,s2.2.1,s2.2.2)=(nm,L,sets)):=⟨_,rfl⟩
     rw[← hsame] at hSame
     have hsm:same=true↔s2=s:=by
      rw[hsame,decide_eq_true_eq,hs21,Hs.out]
     by_cases hj:j=nw
     ·subst hj
      cases same with
      | true =>
       have hs2:s2=s:=hsm.1 rfl
       have hr:res=(t,true):=Hyes.out ⟨he0,ln,hl1',hwt',by rw[← Hnw2.out,← hs2];exact hw⟩
       obtain⟨Hw,Hv1,Hv2,Hb7,Hbw7,Hb78,Hb68,Hbw8,Hq,Hpq,Hp8,HSame,Hs21,Hsame,Hsm,Hs2⟩:=hd16 hw hv1 hv2 hb7 hbw7 hb78 hb68 hbw8 hq pq hp8 hSame hs21 hsame hsm hs2;have Hr:=hd hr;clear hw hv1 hv2 hb7 hbw7 hb78 hb68 hbw8 hq pq hp8 hSame hs21 hsame hsm hs2 hr
       go_upto_region 6 with (fail)
       rw[← hw8,← Hq.out]
       clear hw8
       go_wp2_with fail
       refine HSame.out.mono ?_
       rintro e w9 ⟨rfl,hb9⟩
       have Hb9:=hd hb9;clear hb9
       go_wp2_with fail
       go_ret2
       exact⟨by rw[Hr.out];rfl,Hbw8.out.trans (Hb9.out.mono Hbw8.out.size)⟩
      | false =>
       have hr:res=(noT,false):=Hno.out (by
        rintro⟨-,ln',h2,-,h4⟩
        rw[hl1'] at h2
        cases h2
        rw[hw] at h4
        have h5:s2=s:=by cases h4;rfl
        exact absurd (hsm.2 h5) (by simp))
       obtain⟨Hw,Hv1,Hv2,Hb7,Hbw7,Hb78,Hb68,Hbw8,Hq,Hpq,Hp8,HSame,Hs21,Hsame,Hsm,Hr⟩:=hd16 hw hv1 hv2 hb7 hbw7 hb78 hb68 hbw8 hq pq hp8 hSame hs21 hsame hsm hr;clear hw hv1 hv2 hb7 hbw7 hb78 hb68 hbw8 hq pq hp8 hSame hs21 hsame hsm hr
       go_upto_region 6 with (fail)
       rw[← hw8,← Hq.out]
       clear hw8
       go_wp2_with fail
       refine HSame.out.mono ?_
       rintro e w9 ⟨rfl,hb9⟩
       have Hb9:=hd hb9;clear hb9
       go_wp2_with fail
       go_ret2
       exact⟨by rw[Hr.out];rfl,Hbw8.out.trans (Hb9.out.mono Hbw8.out.size)⟩
     have k3:((j:Int) != (nw:Int))=true:=by simp;omega
     have hr:res=(noT,false):=Hno.out (by
      rintro⟨-,ln',h2,-,h4⟩
      rw[hl1'] at h2
      cases h2
      rw[hw] at h4
      have h5:j=ln.2.length:=by cases h4;rfl
      exact hj (h5.trans Hnw2.out.symm))
     obtain⟨Hw,Hv1,Hv2,Hb7,Hbw7,Hb78,Hb68,Hbw8,Hq,Hpq,Hp8,HSame,Hs21,Hsame,Hsm,Hj⟩:=hd16 hw hv1 hv2 hb7 hbw7 hb78 hb68 hbw8 hq pq hp8 hSame hs21 hsame hsm hj;have Hr:=hd hr;clear hw hv1 hv2 hb7 hbw7 hb78 hb68 hbw8 hq pq hp8 hSame hs21 hsame hsm hj hr
     go_upto_region 6 with (fail)
     rw[← hw8,← Hq.out]
     clear hw8
     go_wp2_with fail
     go_ret2
     exact⟨by rw[Hr.out];rfl,Hbw8.out⟩
    obtain⟨cl,hcl⟩ : ∃ x,x=zb8 ln.2 fin j:=⟨_,rfl⟩
    have hne:(cl != 0)=true:=by rw[hcl];simpa using Hcol.out j
    rw[← hcl]
    have hr:res=(noT,false):=Hno.out (by
     rintro⟨-,ln',h2,-,h4⟩
     rw[hl1'] at h2
     cases h2
     rw[hw] at h4
     cases h4)
    have hbw7:=Hbw6.out.trans (hb7.mono Hbw6.out.size)
    obtain⟨w8,hw8⟩ : ∃ W,W=w7.alloc (.cells #[.string ⟨#[]⟩,.slice none 0 0,.slice none 0 0] 51):=⟨_,rfl⟩
    have hb78:Below w7.heap.size w7 w8:=by rw[hw8];exact za2 _ _
    have hbw8:=hbw7.trans (hb78.mono hbw7.size)
    obtain⟨Hw,Hb7,Hbw7,Hb78,Hbw8,Hcl,Hr⟩:=hd7 hw hb7 hbw7 hb78 hbw8 hcl hr;clear hw hb7 hbw7 hb78 hbw8 hcl hr
    go_upto_region 6 with (fail)
    rw[← hw8]
    clear hw8
    go_wp2_with fail
    go_ret2
    exact⟨by rw[Hr.out];rfl,Hbw8.out⟩
  have k2:((m:Int) != 1)=true:=by simp;omega
  have hr:res=(noT,false):=Hno.out (by
   rintro⟨-,ln',h2,-,-⟩
   rw[h2] at hm
   exact h1 hm)
  obtain⟨Hln,Hb4,Hb45,Hb35,Hbw5,Hln5,He,Hm,H1,Hr⟩:=hd10 hln hb4 hb45 hb35 hbw5 hln5 he hm h1 hr;clear hln hb4 hb45 hb35 hbw5 hln5 he hm h1 hr
  go_upto_region 3 with (fail)
  rw[← hw5]
  clear hw5
  go_wp2_with fail
  go_ret2
  exact⟨by rw[Hr.out];rfl,Hbw5.out⟩
 have k1:(er != 0)=true:=by simpa using he
 have hr:res=(noT,false):=Hno.out (fun h=>he h.1)
 obtain⟨Hln,Hb4,Hb45,Hb35,Hbw5,Hln5,He,Hm,Hr⟩:=hd9 hln hb4 hb45 hb35 hbw5 hln5 he hm hr;clear hln hb4 hb45 hb35 hbw5 hln5 he hm hr
 go_upto_region 3 with (fail)
 rw[← hw5]
 clear hw5
 go_wp2_with fail
 go_ret2
 exact⟨by rw[Hr.out];rfl,Hbw5.out⟩
theorem zf0 {w:World} {v1 v2:Value} {nm:ByteArray} {L:List BSp} {sets:List Setg} {l:List Tp} (h1:RSps w [v1] L) (h2:zd8 w [v2] sets) (hS:Sp (nm,L,sets) l) (hD:zbk w) :
  Calls Tryz.prog 33 #[.agg #[.string nm,v1,v2]] w fun e w'=>e = .returned (.tuple #[.string (zeh zbn (nm,L,sets)).1,.bool (zeh zbn (nm,L,sets)).2])∧Below w.heap.size w w':=by
 obtain⟨a1,c1,rfl⟩:=zbf h1
 obtain⟨a2,c2,rfl⟩:=zc9 h2
 obtain⟨W1,hW1⟩ : ∃ W,W=w.alloc (.cells #[.string nm,.slice a1 L.length c1,.slice a2 sets.length c2] 51):=⟨_,rfl⟩
 obtain⟨g,hg⟩ : ∃ g,g=w.heap.size:=⟨_,rfl⟩
 have hb1:Below w.heap.size w W1:=by rw[hW1];exact za2 _ _
 have p0:zai g (.string nm) (.slice a1 L.length c1) (.slice a2 sets.length c2) W1:=by rw[hW1,hg];exact heap_alloc_new _ _
 have hP:=zkz (za6 zat _ _ _ _ h1 hb1) (za6 zaw _ _ _ _ h2 hb1) hS (hD.below hb1)
 obtain⟨n1,hn1⟩ : ∃ n,n=L.length:=⟨_,rfl⟩
 obtain⟨n2,hn2⟩ : ∃ n,n=sets.length:=⟨_,rfl⟩
 rw[← hn1,← hn2] at hP p0 hW1 ⊢
 obtain⟨res,hres⟩ : ∃ q,q=zeh zbn (nm,L,sets):=⟨_,rfl⟩
 rw[← hres] at hP ⊢
 obtain⟨x0,x1,x2,-⟩:=za4 p0
 obtain⟨r1,r2⟩:=res
 obtain⟨H1,H2,HS,HD,Hb1,Hp0,HP,Hn1,Hn2,Hres⟩:=hd10 h1 h2 hS hD hb1 p0 hP hn1 hn2 hres;clear h1 h2 hS hD hb1 p0 hP hn1 hn2 hres
 go_enter Tryz.func33,Tryz.ntmps33
 go_upto_region 1 with (fail)
 rw[← hW1,← hg]
 clear hW1 hg
 go_wp2_with fail
 refine HP.out.mono ?_
 rintro e w2 ⟨rfl,hb2⟩
 have Hb2:=hd hb2;clear hb2
 go_wp2_with fail
 go_ret2
 exact⟨rfl,Hb1.out.trans (Hb2.out.mono Hb1.out.size)⟩
end

section
open Go.Shelf Go.RowKit Go.Lib VerN VarM
attribute [local go_sem ↓] Go.wp_at_zero Go.wp_at_succ
theorem zhv {sets:List Setg} {k:Nat} (h:k < sets.length) (o:ByteArray):(sets.take (k+1)).foldl zcj o=zcj ((sets.take k).foldl zcj o) sets[k]:=by
 rw[List.take_succ_eq_append_getElem h,List.foldl_append]
 rfl
theorem zof {sets:List Setg} (h:∀ x∈sets,x.1.size≤9000∧x.2.size≤9000):∀ (k:Nat) (o:ByteArray),k≤sets.length→((sets.take k).foldl zcj o).size≤o.size+18002 * k
 | 0,o,_=>by simp
 | k+1,o,hk=>by
  have h1:=zof h k o (by omega)
  have h2:=h _ (List.getElem_mem (show k < sets.length by omega))
  rw[zhv (show k < sets.length by omega)]
  have h3:(zcj ((sets.take k).foldl zcj o) sets[k]).size≤((sets.take k).foldl zcj o).size+1+sets[k].1.size+1+sets[k].2.size:=by
   unfold zcj
   rw[zfy,zfy,zfy]
   have e1:(⟨#[61]⟩ : ByteArray).size=1:=rfl
   have e2:(⟨#[32]⟩ : ByteArray).size=1:=rfl
   split
   ·omega
   rw[zfy];omega
  omega
theorem tx_spT {l:List Tp} (h:zbo l=true):zix (zch l)=spT (tB l):=by
 rw[zqz]
 unfold zc8 zix
 rw[if_neg (show ¬ zbo l=false by rw[h];simp)]
theorem tx_no {l:List Tp} (h:zbo l=false):spT (tB l)=noT:=by
 rw[zqz]
 unfold zc8
 rw[if_pos h]
 rfl
theorem zid {o:ByteArray} {x:Setg} (h:o=noT):o ++ x.1 ++ ⟨#[61]⟩ ++ x.2=zcj o x:=by unfold zcj;rw[if_pos h]
theorem zh3 {o:ByteArray} {x:Setg} (h:o≠noT):o ++ ⟨#[32]⟩ ++ x.1 ++ ⟨#[61]⟩ ++ x.2=zcj o x:=by unfold zcj;rw[if_neg h]
theorem zem (o:ByteArray):o.size=0↔o=noT:=⟨fun h=>Txt.ext (List.eq_nil_of_length_eq_zero (by rw[Txt.len];exact h)),fun h=>by rw[h];rfl⟩
theorem zik {w:World} {v1 v2:Value} {nm:ByteArray} {L:List BSp} {sets:List Setg} {l:List Tp} (h1:RSps w [v1] L) (h2:zd8 w [v2] sets) (hS:Sp (nm,L,sets) l) :
  Calls Tryz.prog 35 #[.agg #[.string nm,v1,v2]] w fun e w'=>e = .returned (.string (zfc (nm,L,sets)))∧Below w.heap.size w w':=by
 have hLt:L=tB l:=hS.sp
 obtain⟨a1,c1,rfl,-,hat1⟩:=zbz h1
 obtain⟨a2,c2,rfl,hz2,hat⟩:=zbt h2
 obtain⟨n1,hn1⟩ : ∃ n,n=L.length:=⟨_,rfl⟩
 obtain⟨n2,hn2⟩ : ∃ n,n=sets.length:=⟨_,rfl⟩
 rw[← hn1] at h1 ⊢
 rw[← hn2] at h2 hz2 ⊢
 obtain⟨W1,hW1⟩ : ∃ W,W=w.alloc (.cells #[.string nm,.slice a1 n1 c1,.slice a2 n2 c2] 51):=⟨_,rfl⟩
 obtain⟨g,hg⟩ : ∃ g,g=w.heap.size:=⟨_,rfl⟩
 have hb1:Below w.heap.size w W1:=by rw[hW1];exact za2 _ _
 have p0:zai g (.string nm) (.slice a1 n1 c1) (.slice a2 n2 c2) W1:=by rw[hW1,hg];exact heap_alloc_new _ _
 obtain⟨x0,x1,x2,-⟩:=za4 p0
 have r1:=za6 zat _ _ _ _ h1 hb1
 have hF:=zju (l:=l) (by rw[← hLt];exact r1) (by have:=hS.l1;omega)
 unfold zf7 at hF
 have hfirst:=hS.first
 have hst:zbg (nm,L,sets)=if L=allV then nm else nm ++ (⟨#[64]⟩ ++ spT L):=rfl
 have hsp:zfc (nm,L,sets)=if sets.foldl zcj (zbg (nm,L,sets))=noT then zds else sets.foldl zcj (zbg (nm,L,sets)):=rfl
 have hsz:∀ x∈sets,x.1.size≤9000∧x.2.size≤9000:=hS.sz
 have hsl:sets.length≤1000:=hS.sl
 have hnm:nm.size≤9000:=hS.nm
 have htz:=zma l hS.l1
 rw[← hLt] at htz
 obtain⟨fi,hfi⟩ : ∃ f,f=zbg (nm,L,sets):=⟨_,rfl⟩
 obtain⟨R,hR⟩ : ∃ R,R=zfc (nm,L,sets):=⟨_,rfl⟩
 rw[← hfi] at hst hsp hfirst
 rw[← hR] at hsp ⊢
 obtain⟨al,hal⟩ : ∃ b,b=decide (L=allV):=⟨_,rfl⟩
 have hfs:=zof hsz
 obtain⟨H1,H2,Hb1,Hp0,Hr1,HF,Hst,Hsp,Hsz,Hfi,HR,Hal,Hn1,Hn2,Hat,HS⟩:=hd16 h1 h2 hb1 p0 r1 hF hst hsp hsz hfi hR hal hn1 hn2 hat hS;obtain⟨HLt,Hfs⟩:=hd2 hLt hfs;clear h1 h2 hb1 p0 r1 hF hst hsp hsz hfi hR hal hn1 hn2 hat hS hLt hfs
 go_enter Tryz.func35,Tryz.ntmps35
 go_upto_region 1 with (fail)
 rw[← hW1,← hg]
 clear hW1 hg
 go_upto_region 2 with (fail)
 go_cut [28] (fun v W=>v = .bool (!al)∧W=W1)
 case first =>
  by_cases hk:n1=1
  ·subst hk
   obtain⟨x,hx⟩ : ∃ x,L = [x]:=List.length_eq_one_iff.1 Hn1.out.symm
   obtain⟨b,off,rfl,d0,d1,-,-⟩:=hat1 0 x (by rw[hx];rfl)
   rw[Nat.zero_mul,Nat.add_zero] at d0 d1
   have d0:=cell_later Hb1.out d0
   have d1:=cell_later Hb1.out d1
   have hal2:al=(decide (x.1.size=0) && decide (x.2.size=0)):=by
    rw[Hal.out,hx,Bool.eq_iff_iff]
    simp only[decide_eq_true_eq,Bool.and_eq_true,zem]
    simp[allV,Prod.ext_iff,noT]
   have e1:=Txt.no_dec x.1
   have e2:=Txt.no_dec x.2
   obtain⟨s,hs⟩ : ∃ s,s=x.1:=⟨_,rfl⟩
   obtain⟨t,ht⟩ : ∃ s,s=x.2:=⟨_,rfl⟩
   rw[← hs] at d0 e1 hal2
   rw[← ht] at d1 e2 hal2
   obtain⟨q1,hq1⟩ : ∃ b,b=decide (s.size=0):=⟨_,rfl⟩
   obtain⟨q2,hq2⟩ : ∃ b,b=decide (t.size=0):=⟨_,rfl⟩
   rw[← hq1] at e1 hal2
   rw[← hq2] at e2 hal2
   clear hat1
   obtain⟨Hx,Hs,Ht,Hal2,Hq1,Hq2⟩:=hd6 hx hs ht hal2 hq1 hq2;clear hx hs ht hal2 hq1 hq2
   cases q1 with
   | false =>
    go_wp2_with fail
    go_meet
    exact⟨by rw[Hal2.out];rfl,rfl⟩
   | true =>
    cases q2 with
    | false =>
     go_wp2_with fail
     go_meet
     exact⟨by rw[Hal2.out];rfl,rfl⟩
    | true =>
     go_wp2_with fail
     go_meet
     exact⟨by rw[Hal2.out];rfl,rfl⟩
  have k1:((n1:Int) != 1)=true:=by simp;omega
  have hf:al=false:=by
   rw[Hal.out,decide_eq_false_iff_not]
   intro e
   have:=Hn1.out
   rw[e] at this
   exact hk this
  clear hat1
  have Hf:=hd hf;clear hf
  go_wp2_with fail
  go_meet
  exact⟨by rw[Hf.out];rfl,rfl⟩
 case rest =>
  obtain⟨rfl,rfl⟩:=hcut
  clear hat1
  cases al with
  | true =>
   have hfn:fi=nm:=by rw[Hst.out,if_pos (of_decide_eq_true Hal.out.symm)]
   have HFI:=Lib.hid hfn
   clear hfn
   have Hbk:=Hb1
   have Hpk:=Hp0
   go_wp2_with fail
   go_loopw [3,45] (fun v i wr=>∃ k:Nat,k≤n2∧i = .int .i64 k∧v = .string ((sets.take k).foldl zcj fi)∧Below w.heap.size w wr∧zai g (.string nm) (.slice a1 n1 c1) (.slice a2 n2 c2) wr) (fun _ i _=>n2 - (RowKit.intOf i).toNat)
   case atStart=>exact⟨0,Nat.zero_le _,rfl,by rw[HFI.out];rfl,Hbk.out,Hpk.out⟩
   case round =>
    obtain⟨k,hk,rfl,rfl,hbr,hpr⟩:=hrel
    have hoz:=Hfs.out k fi (by have:=Hn2.out;omega)
    clear x0 x1 x2
    obtain⟨x0,x1,x2,-⟩:=za4 hpr
    obtain⟨o,ho⟩ : ∃ o,o=(sets.take k).foldl zcj fi:=⟨_,rfl⟩
    rw[← ho] at hoz ⊢
    have hnd:=Txt.no_dec o
    by_cases hlt:k < n2
    ·have hkl:k < sets.length:=by have:=Hn2.out;omega
     obtain⟨x,hx⟩ : ∃ x,x=sets[k]:=⟨_,rfl⟩
     obtain⟨b,off,rfl,d0,d1,-,-⟩:=Hat.out k x (by rw[hx];exact List.getElem?_eq_getElem hkl)
     have e0:=cell_later hbr d0
     have e1:=cell_later hbr d1
     have hnext:=zhv hkl fi
     rw[← ho,← hx] at hnext
     have hxz:=Hsz.out x (by rw[hx];exact List.getElem_mem hkl)
     obtain⟨s,hs⟩ : ∃ s,s=x.1:=⟨_,rfl⟩
     obtain⟨t,ht⟩ : ∃ s,s=x.2:=⟨_,rfl⟩
     rw[← hs,← ht] at hxz
     obtain⟨hss,htt⟩:=hxz
     rw[← hs] at e0
     rw[← ht] at e1
     have k5:(0:Int)≤(k:Int):=by omega
     have k6:(k:Int) < (n2:Int):=by omega
     clear d0 d1
     by_cases hz:o=noT
     ·have k7:o.toList.isEmpty=true:=by rw[hnd];exact decide_eq_true ((zem o).2 hz)
      have hadd:=zid (x:=x) hz
      rw[← hnext,← hs,← ht] at hadd
      clear hnd
      obtain⟨Hbr,Hpr,Ho,Hx,Hs,Ht,Hnext,Hz,Hadd⟩:=hd9 hbr hpr ho hx hs ht hnext hz hadd;clear hbr hpr ho hx hs ht hnext hz hadd
      go_wp2_with fail
      go_region
      go_wp2_with fail
      go_roundw
      case rel=>exact⟨k+1,by omega,by go_num,by rw[← Hadd.out],Below.drew Hbr.out,Hpr.out⟩
      case measure=>(simp[RowKit.intOf]) <;> omega
     have k7:o.toList.isEmpty=false:=by rw[hnd];exact decide_eq_false (fun h=>hz ((zem o).1 h))
     have hadd:=zh3 (x:=x) hz
     rw[← hnext,← hs,← ht] at hadd
     clear hnd
     obtain⟨Hbr,Hpr,Ho,Hx,Hs,Ht,Hnext,Hz,Hadd⟩:=hd9 hbr hpr ho hx hs ht hnext hz hadd;clear hbr hpr ho hx hs ht hnext hz hadd
     go_wp2_with fail
     go_region
     go_wp2_with fail
     go_roundw
     case rel=>exact⟨k+1,by omega,by go_num,by rw[← Hadd.out],Below.drew Hbr.out,Hpr.out⟩
     case measure=>(simp[RowKit.intOf]) <;> omega
    obtain rfl:k=n2:=by omega
    have htk:sets.take k=sets:=List.take_of_length_le (Nat.le_of_eq Hn2.out.symm)
    have hsp2:=Hsp.out
    rw[htk] at ho
    rw[← ho] at hsp2
    by_cases hz:o=noT
    ·have k7:o.toList.isEmpty=true:=by rw[hnd];exact decide_eq_true ((zem o).2 hz)
     rw[if_pos hz] at hsp2
     clear hnd
     obtain⟨Hbr,Hpr,Ho,Hz,Hsp2,Htk⟩:=hd6 hbr hpr ho hz hsp2 htk;clear hbr hpr ho hz hsp2 htk
     go_wp2_with fail
     go_ret
     exact⟨by rw[Hsp2.out];rfl,Hbr.out⟩
    have k7:o.toList.isEmpty=false:=by rw[hnd];exact decide_eq_false (fun h=>hz ((zem o).1 h))
    rw[if_neg hz] at hsp2
    clear hnd
    obtain⟨Hbr,Hpr,Ho,Hz,Hsp2,Htk⟩:=hd6 hbr hpr ho hz hsp2 htk;clear hbr hpr ho hz hsp2 htk
    go_wp2_with fail
    go_ret
    exact⟨by rw[Hsp2.out];rfl,Hbr.out⟩
  | false =>
   have hfn:fi=nm ++ (⟨#[64]⟩ ++ spT L):=by rw[Hst.out,if_neg (of_decide_eq_false Hal.out.symm)]
   obtain⟨f,hf⟩ : ∃ b,b=zbo l:=⟨_,rfl⟩
   obtain⟨q,hq⟩ : ∃ q,q=(zch l).length:=⟨_,rfl⟩
   have hF:=HF.out
   rw[← hf,← hq] at hF
   cases f with
   | false =>
    have hfn2:fi=nm ++ ⟨#[64]⟩:=by rw[hfn,HLt.out,tx_no hf.symm];exact congrArg (nm ++ ·) (Txt.ext (by rw[Go.Joins.data_append];simp[noT]))
    have HFI:=Lib.hid hfn2
    clear hfn2
    obtain⟨HF,Hf,Hq,Hfn⟩:=hd4 hF hf hq hfn;clear hF hf hq hfn
    go_wp2_with fail
    refine HF.out.mono ?_
    rintro e w2 ⟨o,rfl,-,hb2⟩
    have Hbk:=Lib.hid (Hb1.out.trans (hb2.mono Hb1.out.size))
    have hpk:=za0 hb2 Hp0.out
    have Hpk:=Lib.hid hpk
    clear hpk hb2 x0 x1 x2
    obtain⟨x0,x1,x2,-⟩:=za4 Hpk.out
    go_wp2_with fail
    go_loopw [3,45] (fun v i wr=>∃ k:Nat,k≤n2∧i = .int .i64 k∧v = .string ((sets.take k).foldl zcj fi)∧Below w.heap.size w wr∧zai g (.string nm) (.slice a1 n1 c1) (.slice a2 n2 c2) wr) (fun _ i _=>n2 - (RowKit.intOf i).toNat)
    case atStart=>exact⟨0,Nat.zero_le _,rfl,by rw[HFI.out];rfl,Hbk.out,Hpk.out⟩
    case round =>
     obtain⟨k,hk,rfl,rfl,hbr,hpr⟩:=hrel
     have hoz:=Hfs.out k fi (by have:=Hn2.out;omega)
     clear x0 x1 x2
     obtain⟨x0,x1,x2,-⟩:=za4 hpr
     obtain⟨o,ho⟩ : ∃ o,o=(sets.take k).foldl zcj fi:=⟨_,rfl⟩
     rw[← ho] at hoz ⊢
     have hnd:=Txt.no_dec o
     by_cases hlt:k < n2
     ·have hkl:k < sets.length:=by have:=Hn2.out;omega
      obtain⟨x,hx⟩ : ∃ x,x=sets[k]:=⟨_,rfl⟩
      obtain⟨b,off,rfl,d0,d1,-,-⟩:=Hat.out k x (by rw[hx];exact List.getElem?_eq_getElem hkl)
      have e0:=cell_later hbr d0
      have e1:=cell_later hbr d1
      have hnext:=zhv hkl fi
      rw[← ho,← hx] at hnext
      have hxz:=Hsz.out x (by rw[hx];exact List.getElem_mem hkl)
      obtain⟨s,hs⟩ : ∃ s,s=x.1:=⟨_,rfl⟩
      obtain⟨t,ht⟩ : ∃ s,s=x.2:=⟨_,rfl⟩
      rw[← hs,← ht] at hxz
      obtain⟨hss,htt⟩:=hxz
      rw[← hs] at e0
      rw[← ht] at e1
      have k5:(0:Int)≤(k:Int):=by omega
      have k6:(k:Int) < (n2:Int):=by omega
      clear d0 d1
      by_cases hz:o=noT
      ·have k7:o.toList.isEmpty=true:=by rw[hnd];exact decide_eq_true ((zem o).2 hz)
       have hadd:=zid (x:=x) hz
       rw[← hnext,← hs,← ht] at hadd
       clear hnd
       obtain⟨Hbr,Hpr,Ho,Hx,Hs,Ht,Hnext,Hz,Hadd⟩:=hd9 hbr hpr ho hx hs ht hnext hz hadd;clear hbr hpr ho hx hs ht hnext hz hadd
       go_wp2_with fail
       go_region
       go_wp2_with fail
       go_roundw
       case rel=>exact⟨k+1,by omega,by go_num,by rw[← Hadd.out],Below.drew Hbr.out,Hpr.out⟩
       case measure=>(simp[RowKit.intOf]) <;> omega
      have k7:o.toList.isEmpty=false:=by rw[hnd];exact decide_eq_false (fun h=>hz ((zem o).1 h))
      have hadd:=zh3 (x:=x) hz
      rw[← hnext,← hs,← ht] at hadd
      clear hnd
      obtain⟨Hbr,Hpr,Ho,Hx,Hs,Ht,Hnext,Hz,Hadd⟩:=hd9 hbr hpr ho hx hs ht hnext hz hadd;clear hbr hpr ho hx hs ht hnext hz hadd
      go_wp2_with fail
      go_region
      go_wp2_with fail
      go_roundw
      case rel=>exact⟨k+1,by omega,by go_num,by rw[← Hadd.out],Below.drew Hbr.out,Hpr.out⟩
      case measure=>(simp[RowKit.intOf]) <;> omega
     obtain rfl:k=n2:=by omega
     have htk:sets.take k=sets:=List.take_of_length_le (Nat.le_of_eq Hn2.out.symm)
     have hsp2:=Hsp.out
     rw[htk] at ho
     rw[← ho] at hsp2
     by_cases hz:o=noT
     ·have k7:o.toList.isEmpty=true:=by rw[hnd];exact decide_eq_true ((zem o).2 hz)
      rw[if_pos hz] at hsp2
      clear hnd
      obtain⟨Hbr,Hpr,Ho,Hz,Hsp2,Htk⟩:=hd6 hbr hpr ho hz hsp2 htk;clear hbr hpr ho hz hsp2 htk
      go_wp2_with fail
      go_ret
      exact⟨by rw[Hsp2.out];rfl,Hbr.out⟩
     have k7:o.toList.isEmpty=false:=by rw[hnd];exact decide_eq_false (fun h=>hz ((zem o).1 h))
     rw[if_neg hz] at hsp2
     clear hnd
     obtain⟨Hbr,Hpr,Ho,Hz,Hsp2,Htk⟩:=hd6 hbr hpr ho hz hsp2 htk;clear hbr hpr ho hz hsp2 htk
     go_wp2_with fail
     go_ret
     exact⟨by rw[Hsp2.out];rfl,Hbr.out⟩
   | true =>
    obtain⟨HF,Hf,Hq,Hfn⟩:=hd4 hF hf hq hfn;clear hF hf hq hfn
    go_wp2_with fail
    refine HF.out.mono ?_
    rintro e w2 ⟨o,rfl,ho,hb2⟩
    have hf:=Hf.out
    have hq:=Hq.out
    have hfn:=Hfn.out
    have ho:=ho trivial
    have hrdF:RSps w2 [o] (zch l):=zdm (fun x hx=>by have:=zdh l x hx;unfold maxLen;omega) (by rw[← hq];exact ho)
    have hfo:zbo l=true:=hf.symm
    have hT:=zij hrdF (zdh l) (zet.2 (zja (zdz.1 hfo).1).1.1) (by have:=(zdz.1 hfo).2;omega)
    rw[tx_spT hfo,← HLt.out] at hT
    obtain⟨oa,oc,rfl⟩:=zaj ho
    obtain⟨tx,htx⟩ : ∃ t,t=spT L:=⟨_,rfl⟩
    rw[← htx] at hT htz hfn
    have hbw2:=Hb1.out.trans (hb2.mono Hb1.out.size)
    have hp2:=za0 hb2 Hp0.out
    clear x0 x1 x2
    obtain⟨x0,x1,x2,-⟩:=za4 hp2
    have hass:fi=nm ++ ⟨#[64]⟩ ++ tx:=by rw[hfn,ByteArray.append_assoc]
    have HFI:=Lib.hid hass
    clear hass
    obtain⟨Ho,HrdF,Hfo,HT,Hfn,Htx,Hf,Hq,Hb2,Hbw2,Hp2⟩:=hd11 ho hrdF hfo hT hfn htx hf hq hb2 hbw2 hp2;clear ho hrdF hfo hT hfn htx hf hq hb2 hbw2 hp2
    go_wp2_with fail
    refine HT.out.mono ?_
    rintro e w3 ⟨rfl,hb3⟩
    have Hbk:=Lib.hid (Hbw2.out.trans (hb3.mono Hbw2.out.size))
    have hpk:=za0 hb3 Hp2.out
    have Hpk:=Lib.hid hpk
    clear hpk hb3 x0 x1 x2
    obtain⟨x0,x1,x2,-⟩:=za4 Hpk.out
    go_wp2_with fail
    go_loopw [3,45] (fun v i wr=>∃ k:Nat,k≤n2∧i = .int .i64 k∧v = .string ((sets.take k).foldl zcj fi)∧Below w.heap.size w wr∧zai g (.string nm) (.slice a1 n1 c1) (.slice a2 n2 c2) wr) (fun _ i _=>n2 - (RowKit.intOf i).toNat)
    case atStart=>exact⟨0,Nat.zero_le _,rfl,by rw[HFI.out];rfl,Hbk.out,Hpk.out⟩
    case round =>
     obtain⟨k,hk,rfl,rfl,hbr,hpr⟩:=hrel
     have hoz:=Hfs.out k fi (by have:=Hn2.out;omega)
     clear x0 x1 x2
     obtain⟨x0,x1,x2,-⟩:=za4 hpr
     obtain⟨o,ho⟩ : ∃ o,o=(sets.take k).foldl zcj fi:=⟨_,rfl⟩
     rw[← ho] at hoz ⊢
     have hnd:=Txt.no_dec o
     by_cases hlt:k < n2
     ·have hkl:k < sets.length:=by have:=Hn2.out;omega
      obtain⟨x,hx⟩ : ∃ x,x=sets[k]:=⟨_,rfl⟩
      obtain⟨b,off,rfl,d0,d1,-,-⟩:=Hat.out k x (by rw[hx];exact List.getElem?_eq_getElem hkl)
      have e0:=cell_later hbr d0
      have e1:=cell_later hbr d1
      have hnext:=zhv hkl fi
      rw[← ho,← hx] at hnext
      have hxz:=Hsz.out x (by rw[hx];exact List.getElem_mem hkl)
      obtain⟨s,hs⟩ : ∃ s,s=x.1:=⟨_,rfl⟩
      obtain⟨t,ht⟩ : ∃ s,s=x.2:=⟨_,rfl⟩
      rw[← hs,← ht] at hxz
      obtain⟨hss,htt⟩:=hxz
      rw[← hs] at e0
      rw[← ht] at e1
      have k5:(0:Int)≤(k:Int):=by omega
      have k6:(k:Int) < (n2:Int):=by omega
      clear d0 d1
      by_cases hz:o=noT
      ·have k7:o.toList.isEmpty=true:=by rw[hnd];exact decide_eq_true ((zem o).2 hz)
       have hadd:=zid (x:=x) hz
       rw[← hnext,← hs,← ht] at hadd
       clear hnd
       obtain⟨Hbr,Hpr,Ho,Hx,Hs,Ht,Hnext,Hz,Hadd⟩:=hd9 hbr hpr ho hx hs ht hnext hz hadd;clear hbr hpr ho hx hs ht hnext hz hadd
       go_wp2_with fail
       go_region
       go_wp2_with fail
       go_roundw
       case rel=>exact⟨k+1,by omega,by go_num,by rw[← Hadd.out],Below.drew Hbr.out,Hpr.out⟩
       case measure=>(simp[RowKit.intOf]) <;> omega
      have k7:o.toList.isEmpty=false:=by rw[hnd];exact decide_eq_false (fun h=>hz ((zem o).1 h))
      have hadd:=zh3 (x:=x) hz
      rw[← hnext,← hs,← ht] at hadd
      clear hnd
      obtain⟨Hbr,Hpr,Ho,Hx,Hs,Ht,Hnext,Hz,Hadd⟩:=hd9 hbr hpr ho hx hs ht hnext hz hadd;clear hbr hpr ho hx hs ht hnext hz hadd
      go_wp2_with fail
      go_region
      go_wp2_with fail
      go_roundw
      case rel=>exact⟨k+1,by omega,by go_num,by rw[← Hadd.out],Below.drew Hbr.out,Hpr.out⟩
      case measure=>(simp[RowKit.intOf]) <;> omega
     obtain rfl:k=n2:=by omega
     have htk:sets.take k=sets:=List.take_of_length_le (Nat.le_of_eq Hn2.out.symm)
     have hsp2:=Hsp.out
     rw[htk] at ho
     rw[← ho] at hsp2
     by_cases hz:o=noT
     ·have k7:o.toList.isEmpty=true:=by rw[hnd];exact decide_eq_true ((zem o).2 hz)
      rw[if_pos hz] at hsp2
      clear hnd
      obtain⟨Hbr,Hpr,Ho,Hz,Hsp2,Htk⟩:=hd6 hbr hpr ho hz hsp2 htk;clear hbr hpr ho hz hsp2 htk
      go_wp2_with fail
      go_ret
      exact⟨by rw[Hsp2.out];rfl,Hbr.out⟩
     have k7:o.toList.isEmpty=false:=by rw[hnd];exact decide_eq_false (fun h=>hz ((zem o).1 h))
     rw[if_neg hz] at hsp2
     clear hnd
     obtain⟨Hbr,Hpr,Ho,Hz,Hsp2,Htk⟩:=hd6 hbr hpr ho hz hsp2 htk;clear hbr hpr ho hz hsp2 htk
     go_wp2_with fail
     go_ret
     exact⟨by rw[Hsp2.out];rfl,Hbr.out⟩
end

section
open Go.RowKit Go.Shelf Go.Lib VerN
def zn6 (F:List BSp):Prop:=F.length≤30∧∀ z∈F,z.1.size≤100∧z.2.size≤100
theorem zmf {w:World} {v:Value} {F:List BSp} (h:RSps w [v] F):Calls Tryz.prog 20 #[v] w fun e w'=>(∃ r,e = .returned (.bool r)∧(r=false→zn6 F))∧w=w':=by
 obtain⟨a,cap,hv,hlen,hop⟩:=zbz h
 have hat:=zhc (by rw[← hv];exact h)
 subst hv
 obtain⟨q,hq⟩ : ∃ q,q=F.length:=⟨_,rfl⟩
 have hsz:=sps_size h
 rw[← hq] at h hlen ⊢
 by_cases h30:30 < q
 ·have kk:decide ((30:Int) < (q:Int))=true:=decide_eq_true (by omega)
  obtain⟨Hh,Hq,Hat,Hop,Hsz⟩:=hd5 h hq hat hop hsz;clear h hq hat hop hsz
  go_enter Tryz.func20,Tryz.ntmps20
  go_wp2_with fail
  go_ret
  exact⟨⟨_,rfl,fun h=>by cases h⟩,rfl⟩
 have kk:decide ((30:Int) < (q:Int))=false:=decide_eq_false (by omega)
 obtain⟨Hh,Hq,Hat,Hop,Hsz⟩:=hd5 h hq hat hop hsz;clear h hq hat hop hsz
 go_enter Tryz.func20,Tryz.ntmps20
 go_wp2_with fail
 go_loopw [9] (fun i wr=>∃ k:Nat,k≤q∧i = .int .i64 k∧(∀ j (hj:j < F.length),j < k→F[j].1.size≤100∧F[j].2.size≤100)∧wr=w) (fun i _=>q - (RowKit.intOf i).toNat)
 case atStart=>exact⟨0,Nat.zero_le _,rfl,(fun _ _ h=>absurd h (Nat.not_lt_zero _)),rfl⟩
 case round =>
  obtain⟨k,hk,rfl,hno,rfl⟩:=hrel
  by_cases hlt:k < q
  ·have hkF:k < F.length:=by have:=Hq.out;omega
   obtain⟨y,hy⟩ : ∃ y,y=F[k]:=⟨_,rfl⟩
   obtain⟨b,off,rfl,c0,c1⟩:=Hat.out k y (by rw[hy];exact List.getElem?_eq_getElem hkF)
   have hys:=Hsz.out y (by rw[hy];exact List.getElem_mem hkF)
   have hnx:y.1.size≤100→y.2.size≤100→∀ j (hj:j < F.length),j < k+1→F[j].1.size≤100∧F[j].2.size≤100:=fun h h' j hj hjk=>by
    by_cases e:j=k
    ·subst e;rw[← hy];exact⟨h,h'⟩
    exact hno j hj (by omega)
   obtain⟨y1,hy1⟩ : ∃ s,s=y.1:=⟨_,rfl⟩
   obtain⟨y2,hy2⟩ : ∃ s,s=y.2:=⟨_,rfl⟩
   rw[← hy1] at c0 hnx hys
   rw[← hy2] at c1 hnx hys
   unfold maxLen at hys
   have k5:(0:Int)≤(k:Int):=by omega
   have k6:(k:Int) < (q:Int):=by omega
   by_cases h1:100 < y1.size
   ·have e1:decide ((100:Int) < (y1.size:Int))=true:=decide_eq_true (by omega)
    obtain⟨Hno,Hy,Hys,Hnx,Hy1,Hy2⟩:=hd6 hno hy hys hnx hy1 hy2;clear hno hy hys hnx hy1 hy2
    go_wp2_with fail
    go_ret
    exact⟨⟨_,rfl,fun h=>by cases h⟩,rfl⟩
   have e1:decide ((100:Int) < (y1.size:Int))=false:=decide_eq_false (by omega)
   by_cases h2:100 < y2.size
   ·have e2:decide ((100:Int) < (y2.size:Int))=true:=decide_eq_true (by omega)
    obtain⟨Hno,Hy,Hys,Hnx,Hy1,Hy2⟩:=hd6 hno hy hys hnx hy1 hy2;clear hno hy hys hnx hy1 hy2
    go_wp2_with fail
    go_ret
    exact⟨⟨_,rfl,fun h=>by cases h⟩,rfl⟩
   have e2:decide ((100:Int) < (y2.size:Int))=false:=decide_eq_false (by omega)
   have hf:=hnx (by omega) (by omega)
   obtain⟨Hno,Hy,Hys,Hnx,Hy1,Hy2,Hf⟩:=hd7 hno hy hys hnx hy1 hy2 hf;clear hno hy hys hnx hy1 hy2 hf
   go_wp2_with fail
   go_roundw
   case rel=>exact⟨k+1,by omega,by go_num,Hf.out,by first | rfl | trivial⟩
   case measure=>(simp[RowKit.intOf]) <;> omega
  obtain rfl:k=q:=by omega
  have hf:zn6 F:=⟨by have:=Hq.out;omega,fun z hz=>by
   obtain⟨j,hj,rfl⟩:=List.mem_iff_getElem.1 hz
   exact hno j hj (by have:=Hq.out;omega)⟩
  obtain⟨Hno,Hf⟩:=hd2 hno hf;clear hno hf
  go_wp2_with fail
  go_ret
  exact⟨⟨_,rfl,fun _=>Hf.out⟩,rfl⟩
def zqo (s:Spc3):Prop:=s.1.size≤100∧s.2.2.length≤20∧zn6 s.2.1∧∀ x∈s.2.2,x.1.size≤100∧x.2.size≤100
theorem zqf {w:World} {nm:ByteArray} {u v:Value} {sp:List BSp} {l:List Setg} (hsp:RSps w [u] sp) (h:zd8 w [v] l):Calls Tryz.prog 73 #[.agg #[.string nm,u,v]] w fun e w'=>(∃ r,e = .returned (.bool r)∧(r=false→zqo (nm,sp,l)))∧Below w.heap.size w w':=by
 have hb0:Below w.heap.size w (w.alloc (.cells #[.string nm,u,v] 51)):=za2 _ _
 have hG:=zmf (za6 zat _ _ _ _ hsp hb0)
 obtain⟨W0,hW0⟩ : ∃ W0,W0=w.alloc (.cells #[.string nm,u,v] 51):=⟨_,rfl⟩
 obtain⟨nb,hnb⟩ : ∃ nb,nb=w.heap.size:=⟨_,rfl⟩
 have hbx:W0.heap[nb]? = some (.cells #[.string nm,u,v] 51 (0,0)):=by rw[hW0,hnb];exact heap_alloc_new _ _
 rw[← hW0] at hb0 hG
 obtain⟨ua,uc,rfl,hzu,_⟩:=zbz hsp
 obtain⟨m,hm⟩ : ∃ m,m=sp.length:=⟨_,rfl⟩
 rw[← hm] at hG hbx hW0 hzu
 obtain⟨a,cap,rfl,hz,g⟩:=zbt h
 obtain⟨n,hn⟩ : ∃ n,n=l.length:=⟨_,rfl⟩
 rw[← hn] at hz h hbx hW0
 rw[← hm,← hn]
 have c0:=za5 hbx 0
 have c1:=za5 hbx 1
 have c2:=za5 hbx 2
 simp only[List.getElem?_toArray,List.getElem?_cons_zero,List.getElem?_cons_succ] at c0 c1 c2
 obtain⟨Hh,Hsp,Hg,Hn,Hm,HG,Hb0,Hbx⟩:=hd8 h hsp g hn hm hG hb0 hbx;clear h hsp g hn hm hG hb0 hbx
 go_enter Tryz.func73,Tryz.ntmps73
 go_upto_region 1 with (fail)
 rw[← hW0,← hnb]
 obtain⟨HW0,Hnb⟩:=hd2 hW0 hnb;clear hW0 hnb
 by_cases h1:100 < nm.size
 ·have k1:decide ((100:Int) < (nm.size:Int))=true:=by simp;omega
  go_wp2_with fail
  go_ret
  exact⟨⟨true,rfl,fun h=>by cases h⟩,Hb0.out⟩
 have k1:decide ((100:Int) < (nm.size:Int))=false:=by simp;omega
 by_cases h2:20 < n
 ·have k2:decide ((20:Int) < (n:Int))=true:=by simp;omega
  go_wp2_with fail
  go_ret
  exact⟨⟨true,rfl,fun h=>by cases h⟩,Hb0.out⟩
 have k2:decide ((20:Int) < (n:Int))=false:=by simp;omega
 go_wp2_with fail
 refine HG.out.mono ?_
 rintro e w1 ⟨⟨r,rfl,hsm⟩,rfl⟩
 have Hsm:=hd hsm;clear hsm
 cases r with
 | true =>
  go_wp2_with fail
  go_ret
  exact⟨⟨true,rfl,fun h=>by cases h⟩,Hb0.out⟩
 | false =>
  go_wp2_with fail
  clear k1 k2
  obtain⟨H1,H2⟩:=hd2 h1 h2;clear h1 h2
  go_loopw [22] (fun i wr=>∃ k:Nat,k≤n∧i = .int .i64 k∧(∀ j x,j < k→l[j]? = some x→x.1.size≤100∧x.2.size≤100)∧W0=wr) (fun i _=>n - (intOf i).toNat)
  case atStart=>exact⟨0,Nat.zero_le _,rfl,fun j x h=>by omega,rfl⟩
  case round =>
   obtain⟨k,hk,rfl,hsf,rfl⟩:=hrel
   have Hsf:=hd hsf;clear hsf
   by_cases hlt:k < n
   ·have hkl:k < l.length:=by have:=Hn.out;omega
    obtain⟨b,off,rfl,d0,d1,hs1,hs2⟩:=Hg.out k _ (List.getElem?_eq_getElem hkl)
    obtain⟨x,hx⟩ : ∃ x,x=l[k]:=⟨_,rfl⟩
    rw[← hx] at d0 d1 hs1 hs2
    obtain⟨s,hs⟩ : ∃ s,s=x.1:=⟨_,rfl⟩
    obtain⟨t,ht⟩ : ∃ s,s=x.2:=⟨_,rfl⟩
    rw[← hs] at d0 hs1
    rw[← ht] at d1 hs2
    have e0:=cell_later Hb0.out d0
    have e1:=cell_later Hb0.out d1
    have k5:(0:Int)≤(k:Int):=by omega
    have k6:(k:Int) < (n:Int):=by omega
    have hx':l[k]? = some x:=by rw[hx];exact List.getElem?_eq_getElem hkl
    clear hx hkl d0 d1
    obtain⟨Hx',Hs,Ht⟩:=hd3 hx' hs ht;clear hx' hs ht
    by_cases h100:100 < s.size
    ·have k7:decide ((100:Int) < (s.size:Int))=true:=by simp;omega
     go_wp2_with fail
     go_ret
     exact⟨⟨true,rfl,fun h=>by cases h⟩,Hb0.out⟩
    have k7:decide ((100:Int) < (s.size:Int))=false:=by simp;omega
    by_cases hm20:100 < t.size
    ·have k8:decide ((100:Int) < (t.size:Int))=true:=by simp;omega
     go_wp2_with fail
     go_ret
     exact⟨⟨true,rfl,fun h=>by cases h⟩,Hb0.out⟩
    have k8:decide ((100:Int) < (t.size:Int))=false:=by simp;omega
    go_wp2_with fail
    go_roundw
    case rel =>
     refine⟨k+1,by omega,by go_num,fun j y hj hy=>?_,by first | rfl | trivial⟩
     by_cases e:j=k
     ·subst e
      rw[Hx'.out] at hy
      obtain rfl:=Option.some.inj hy
      rw[← Hs.out,← Ht.out]
      omega
     exact Hsf.out j y (by omega) hy
    case measure=>simp[intOf];omega
   obtain rfl:k=n:=by omega
   go_wp2_with fail
   go_ret
   exact⟨⟨false,rfl,fun _=>⟨by have:=H1.out;show nm.size≤100;omega,by have:=H2.out;have:=Hn.out;show l.length≤20;omega,Hsm.out trivial,fun x hx=>by obtain⟨i,hi,e⟩:=List.getElem_of_mem hx;exact Hsf.out i x (by have:=Hn.out;have hi:i < l.length:=hi;omega) (by rw[← e];exact List.getElem?_eq_getElem hi)⟩⟩,Hb0.out⟩
theorem zkb {w:World} {nm:ByteArray} {u v:Value} {sp:List BSp} {l:List Setg} (hsp:RSps w [u] sp) (h:zd8 w [v] l):Calls Tryz.prog 31 #[.agg #[.string nm,u,v]] w fun e w'=>(∃ r,e = .returned (.bool r)∧(r=false→zqo (nm,sp,l)))∧Below w.heap.size w w':=by
 obtain⟨W0,hW0⟩ : ∃ W0,W0=w.alloc (.cells #[.string nm,u,v] 51):=⟨_,rfl⟩
 obtain⟨nb,hnb⟩ : ∃ nb,nb=w.heap.size:=⟨_,rfl⟩
 have hb0:Below w.heap.size w W0:=by rw[hW0];exact za2 _ _
 have hG:=zqf (nm:=nm) (za6 zat _ _ _ _ hsp hb0) (za6 zaw _ _ _ _ h hb0)
 have hbx:W0.heap[nb]? = some (.cells #[.string nm,u,v] 51 (0,0)):=by rw[hW0,hnb];exact heap_alloc_new _ _
 obtain⟨ua,uc,rfl⟩:=zbf hsp
 obtain⟨a,cap,rfl⟩:=zc9 h
 obtain⟨n1,hn1⟩ : ∃ n,n=sp.length:=⟨_,rfl⟩
 obtain⟨n2,hn2⟩ : ∃ n,n=l.length:=⟨_,rfl⟩
 rw[← hn1,← hn2] at hG hbx hW0
 rw[← hn1,← hn2]
 have c0:=za5 hbx 0
 have c1:=za5 hbx 1
 have c2:=za5 hbx 2
 simp only[List.getElem?_toArray,List.getElem?_cons_zero,List.getElem?_cons_succ] at c0 c1 c2
 obtain⟨Hh,Hsp,HG,Hb0,Hbx,Hn1,Hn2⟩:=hd7 h hsp hG hb0 hbx hn1 hn2;clear h hsp hG hb0 hbx hn1 hn2
 go_enter Tryz.func31,Tryz.ntmps31
 go_upto_region 1 with (fail)
 rw[← hW0,← hnb]
 clear hW0 hnb
 go_wp2_with fail
 refine HG.out.mono ?_
 rintro e w1 ⟨⟨r,rfl,hr⟩,hb⟩
 obtain⟨Hr,Hb⟩:=hd2 hr hb;clear hr hb
 go_wp2_with fail
 go_ret
 exact⟨⟨r,rfl,Hr.out⟩,Hb0.out.trans (Hb.out.mono Hb0.out.size)⟩
end

section
open Go.Shelf Go.RowKit Go.Lib VerN VarM
open LexM (Wd Ln)
attribute [local go_sem ↓] Go.wp_at_zero Go.wp_at_succ
theorem znl:zfc (noT,allV,[])=zds:=by
 have hf:zbg (noT,allV,[])=noT:=by unfold zbg;rw[if_pos rfl]
 unfold zfc
 rw[hf]
 exact if_pos rfl
theorem doc_star:LexM.docLines zds.data.toList=⟨[(1,[(1,[42])])],0,0,0⟩:=by kernel_rfl
theorem zss:zeh zbn (noT,allV,[])=(zds,true):=by
 have h:zf8 zbn (zfc (noT,allV,[])) (noT,allV,[]):=by
  rw[znl]
  unfold zf8
  rw[doc_star]
  refine⟨rfl,_,rfl,rfl,?_⟩
  have hp:zb7 [((1:Int),[(42:UInt8)])] 0=zds:=by rw[ze5 (by decide)];rfl
  exact zib hp
 rw[zfg h,znl]
theorem zm9 {s:Spc3} (h:zqo s):∃ l,Sp s l:=by
 obtain⟨h1,h2,⟨h3,h4⟩,h5⟩:=h
 have hex:∀ L:List BSp,(∀ z∈L,z.1.size≤100∧z.2.size≤100)→∃ l:List Tp,L=tB l∧l.length=L.length:=by
  intro L
  induction L with
  | nil=>intro _;exact⟨[],rfl,rfl⟩
  | cons z L ih =>
   intro h
   obtain⟨l,e1,e2⟩:=ih (fun x hx=>h x (by simp[hx]))
   have hz:=h z (by simp)
   exact⟨⟨z,by omega⟩ :: l,by rw[e1];rfl,by simp[e2]⟩
 obtain⟨l,e1,e2⟩:=hex s.2.1 h4
 exact⟨l,e1,by omega,by omega,by omega,fun x hx=>by have:=h5 x hx;omega⟩
theorem zke {w:World} (hD:zbk w):Calls Tryz.prog 32 #[] w fun e w'=>e = .returned (.bool true)∧Below w.heap.size w w':=by
 obtain⟨W1,hW1⟩ : ∃ W,W=w.alloc (.cells #[.string ⟨#[]⟩,.string ⟨#[]⟩] 34):=⟨_,rfl⟩
 have hb1:Below w.heap.size w W1:=by rw[hW1];exact za2 _ _
 have hr:RSps W1 [.slice (some ⟨w.heap.size,0,none⟩) 1 1] allV:=by rw[hW1];exact (zfz w).1
 have hs:zd8 W1 [.slice none 0 0] []:=⟨_,0,rfl,Nat.zero_le _,Nat.zero_le _,fun i x hi=>by simp at hi⟩
 obtain⟨l,hl⟩:=zm9 (s:=(noT,allV,[])) ⟨by decide,by decide,⟨by decide,fun z hz=>by simp[allV] at hz;rw[hz];decide⟩,fun x hx=>by simp at hx⟩
 have hP:=zf0 (nm:=noT) hr hs hl (hD.below hb1)
 rw[zss] at hP
 have e:noT=⟨#[]⟩:=rfl
 have e2:zds=⟨#[42]⟩:=rfl
 rw[e,e2] at hP
 obtain⟨g,hg⟩ : ∃ g,g=w.heap.size:=⟨_,rfl⟩
 rw[← hg] at hP
 clear e e2
 obtain⟨HD,Hb1,Hr,Hs,Hl,HP⟩:=hd6 hD hb1 hr hs hl hP;clear hD hb1 hr hs hl hP
 go_enter Tryz.func32,Tryz.ntmps32
 go_wp2_with fail
 rw[← hW1,← hg]
 clear hW1 hg
 refine HP.out.mono ?_
 rintro e w2 ⟨rfl,hb2⟩
 have Hb2:=hd hb2;clear hb2
 go_wp2_with fail
 go_ret
 exact⟨rfl,Hb1.out.trans (Hb2.out.mono Hb1.out.size)⟩
end

section
open Go.RowKit
open LexM (Bs Wd Ln St RS)
theorem zj5 (c:UInt8) (w:World):Calls Tryz.prog 133 #[.int .u8 c.toNat] w fun e w'=>e = .returned (.bool (LexM.part c))∧w=w':=by
 have hcl:c.toNat < 256:=c.toNat_lt
 obtain⟨n,hn⟩ : ∃ n,n=c.toNat:=⟨_,rfl⟩
 have hp:LexM.part c=(decide (32 < n) && decide (n < 127) && !decide (n=35)):=by rw[hn];rfl
 rw[← hn] at hcl ⊢
 obtain⟨p,hpp⟩ : ∃ p,p=LexM.part c:=⟨_,rfl⟩
 rw[← hpp] at hp ⊢
 clear hn
 by_cases h1:32 < n
 ·by_cases h2:n < 127
  ·by_cases h3:n=35
   ·have hq:p=false:=by rw[hp];simp[h3]
    have hb:((n:Int) != 35)=false:=by rw[h3];rfl
    subst hq
    clear hp hpp h3
    go_enter Tryz.func133,Tryz.ntmps133
    go_wp2_with fail
    go_ret
    exact⟨rfl,rfl⟩
   have hq:p=true:=by rw[hp];simp[h1,h2,h3]
   have hb:((n:Int) != 35)=true:=by rw[bne_iff_ne];omega
   subst hq
   clear hp hpp h3
   go_enter Tryz.func133,Tryz.ntmps133
   go_wp2_with fail
   go_ret
   exact⟨rfl,rfl⟩
  have hq:p=false:=by rw[hp];simp[h2]
  have h3:127≤n:=by omega
  subst hq
  clear hp hpp
  go_enter Tryz.func133,Tryz.ntmps133
  go_wp2_with fail
  go_ret
  exact⟨rfl,rfl⟩
 have hq:p=false:=by rw[hp];simp[h1]
 have h3:n≤32:=by omega
 subst hq
 clear hp hpp
 go_enter Tryz.func133,Tryz.ntmps133
 go_wp2_with fail
 go_ret
 exact⟨rfl,rfl⟩
def zn8 (w:World) (r:List Wd × Int × Int) (e:Ending) (w':World):Prop:=∃ v,e = .returned (.tuple #[v,.int .i64 r.2.1,.int .i64 r.2.2])∧w'.ownsRow w.heap.size 64 2 v r.1.length (r.1.flatMap zb6)∧Below w.heap.size w w'
def LineGo (w0:World) (t:Bs) (room:Bool) (k:Nat) (v o:Value) (w:World):Prop :=
 ∃ st:RS,LexM.rline t room=LexM.rgo t room st k (t.drop k)∧o = .bool st.off∧w.ownsRow w0.heap.size 64 2 v st.out.length (st.out.flatMap zb6)∧st.out.length≤k∧Below w0.heap.size w0 w
theorem drop_at (s:ByteArray) (k:Nat) (h:k < s.size):s.data.toList.drop k=s[k] :: s.data.toList.drop (k+1):=by
 rw[List.drop_eq_getElem_cons (by rw[Array.length_toList];exact h)]
 rfl
theorem zgy (s:ByteArray) (k:Nat) (h:k < s.size):s.data.toList.getD k 0=s[k]:=by
 have h2:k < s.data.toList.length:=by rw[Array.length_toList];exact h
 rw[List.getD_eq_getElem?_getD,List.getElem?_eq_getElem h2]
 rfl
theorem zjs {t:Bs} {room:Bool} {st:RS} {k:Nat} {c:UInt8} {r:Bs} {e:Int} (h:LexM.rerr t room st k c=e) (he:e≠0):LexM.rgo t room st k (c :: r)=(st.out,(k:Int)+1,e):=by
 unfold LexM.rgo;rw[if_neg (by rw[h];exact he),h]
theorem zii {t:Bs} {room:Bool} {st:RS} {k:Nat} {c:UInt8} {r:Bs} (h:LexM.rerr t room st k c=0):LexM.rgo t room st k (c :: r)=LexM.rgo t room (LexM.rnext t st k c) (k+1) r:=by
 rw[LexM.rgo,if_pos h]
theorem zks {p:UInt8→Bool}:∀ (l:Bs) (m:Nat),m≤l.length→(∀ j,j < m→p (l.getD j 0)=true)→(m < l.length→p (l.getD m 0)=false)→l.takeWhile p=l.take m:=by
 intro l
 induction l with
 | nil=>intro m hm _ _;simp
 | cons a l ih =>
  intro m hm h1 h2
  match m with
  | 0 =>
   have:=h2 (by simp)
   simp only[List.getD_cons_zero] at this
   simp[this]
  | m+1 =>
   have h0:=h1 0 (by omega)
   simp only[List.getD_cons_zero] at h0
   simp only[List.takeWhile_cons,h0,if_true,List.take_succ_cons]
   rw[ih m (by simpa using hm) (fun j hj=>by have:=h1 (j+1) (by omega);simpa using this) (fun hj=>by have:=h2 (by simpa using hj);simpa using this)]
theorem zlz (s:ByteArray) (k q:Nat) (hk:k≤q) (hq:q≤s.size) (h1:∀ j,k≤j→j < q→LexM.part (s.data.toList.getD j 0)=true) (h2:q < s.size→LexM.part (s.data.toList.getD q 0)=false):bv (LexM.wordAt s.data.toList k) = .string (s.extract k q):=by
 have hl:s.data.toList.length=s.size:=by rw[Array.length_toList];rfl
 have e:LexM.wordAt s.data.toList k=(s.extract k q).data.toList:=by
  rw[Lib.extract_data]
  unfold LexM.wordAt
  refine zks _ _ (by rw[List.length_drop];omega) (fun j hj=>?_) (fun hj=>?_)
  ·have:=h1 (k+j) (by omega) (by omega)
   simpa [List.getD,List.getElem?_drop] using this
  rw[List.length_drop] at hj
  have:=h2 (by omega)
  have e2:k+(q - k)=q:=by omega
  simpa [List.getD,List.getElem?_drop,e2] using this
 unfold bv
 rw[e]
theorem zri (s:ByteArray) (room:Bool) (w:World) (hs:s.size≤1000000):Calls Tryz.prog 77 #[.string s,.bool room] w (zn8 w (LexM.rline s.data.toList room)):=by
 obtain⟨t,ht⟩ : ∃ t,t=s.data.toList:=⟨_,rfl⟩
 rw[← ht]
 have h0:LineGo w t room 0 (.slice (some ⟨w.heap.size,0,none⟩) 0 0) (.bool false) (w.alloc (.cells #[] 64)) :=
  ⟨⟨false,[]⟩,rfl,rfl,World.ownsRow_lit (base:=w.heap.size) (e:=64) (size:=2) w #[] 0 (Nat.le_refl _) (by decide) rfl,Nat.le_refl _,(Below.refl _ _).alloc (Nat.le_refl _) _⟩
 obtain⟨Ht,H0⟩:=hd2 ht h0;clear ht h0
 go_enter Tryz.func77,Tryz.ntmps77
 go_wp2_with fail
 go_loopw [7,8,9] (fun v o i wr=>∃ k:Nat,k≤s.size∧i = .int .i64 k∧LineGo w t room k v o wr) (fun _ _ i _=>s.size - (intOf i).toNat)
 case atStart=>exact⟨0,Nat.zero_le _,rfl,H0.out⟩
 case round =>
  obtain⟨k,hk,rfl,st,hg,rfl,hown,hle,hbel⟩:=hrel
  obtain⟨va,vc,rfl⟩:=zaj hown
  have hB:=hbel.size
  by_cases hlt:k < s.size
  ·have hdr:=drop_at s k hlt
   rw[← Ht.out] at hdr
   rw[hdr] at hg
   obtain⟨c,hc⟩ : ∃ c,c=s[k]:=⟨_,rfl⟩
   have hcl:c.toNat < 256:=c.toNat_lt
   obtain⟨n,hn⟩ : ∃ n,n=c.toNat:=⟨_,rfl⟩
   have hsk:s[k].toNat=n:=by rw[hn,hc]
   rw[← hc] at hg
   rw[← hn] at hcl
   obtain⟨off,hoff⟩ : ∃ off,off=st.off:=⟨_,rfl⟩
   rw[← hoff]
   obtain⟨Hdr,Hc,Hn,Hg,Hoff,Hown,Hbel⟩:=hd7 hdr hc hn hg hoff hown hbel;clear hdr hc hn hg hoff hown hbel
   by_cases hA:n < 32∨126 < n
   ·have hpost:LexM.rline t room=(st.out,(k:Int)+1,3):=by
     rw[Hg.out]
     exact zjs (by unfold LexM.rerr;rw[if_pos (by rw[← Hn.out];exact hA)]) (by decide)
    have Hpost:=hd hpost;clear hpost
    by_cases h32:n < 32
    ·clear hA
     go_wp2_with fail
     refine bodyPost_ret (v:=.tuple #[.slice va st.out.length vc,.int .i64 ((k:Int)+1),.int .i64 3]) (by simp[results,Tryz.results77,go_sem]) rfl ?_
     rw[Hpost.out]
     exact⟨_,rfl,Hown.out,Hbel.out⟩
    have h126:126 < n:=by omega
    clear hA
    go_wp2_with fail
    refine bodyPost_ret (v:=.tuple #[.slice va st.out.length vc,.int .i64 ((k:Int)+1),.int .i64 3]) (by simp[results,Tryz.results77,go_sem]) rfl ?_
    rw[Hpost.out]
    exact⟨_,rfl,Hown.out,Hbel.out⟩
   have hlo:32≤n:=by omega
   have hhi:n≤126:=by omega
   have hr:LexM.rerr t room st k c=if LexM.rskip t st k c=true then 0 else if st.out.length=40∨room=false then 4 else 0:=by unfold LexM.rerr;rw[if_neg (by rw[← Hn.out];exact hA)]
   have Hr:=hd hr;clear hr
   clear hA
   cases off
   ·by_cases h35:n=35
    ·have hb35:((n:Int) == 35)=true:=by rw[beq_iff_eq];omega
     have hx:c.toNat=35:=by rw[← Hn.out];exact h35
     have hsk:LexM.rskip t st k c=true:=by unfold LexM.rskip;simp[LexM.roff,hx]
     have herr:LexM.rerr t room st k c=0:=by rw[Hr.out,if_pos hsk]
     have hno:(LexM.rnext t st k c).out=st.out:=by unfold LexM.rnext;rw[if_pos hsk]
     have hro:(LexM.rnext t st k c).off=true:=by unfold LexM.rnext LexM.roff;simp[hx]
     obtain⟨Hsk,Herr,Hno,Hro⟩:=hd4 hsk herr hno hro;clear hsk herr hno hro
     clear hx h35
     go_wp2_with fail
     go_roundw
     case rel=>exact⟨k+1,by omega,by go_num,LexM.rnext t st k c,by rw[Hg.out,zii Herr.out],by rw[Hro.out],by rw[Hno.out];exact Hown.out,by rw[Hno.out];omega,Hbel.out⟩
     case measure=>simp[intOf];omega
    have hb35:((n:Int) == 35)=false:=by rw[beq_eq_false_iff_ne];omega
    have hx:c.toNat≠35:=by rw[← Hn.out];exact h35
    have hof:LexM.roff st c=false:=by unfold LexM.roff;rw[← Hoff.out];simp[hx]
    obtain⟨Hof,Hx⟩:=hd2 hof hx;clear hof hx
    clear h35
    obtain⟨pc,hpc⟩ : ∃ pc,pc=LexM.part c:=⟨_,rfl⟩
    have HP:=Lib.hid (fun w=>zj5 c w)
    rw[← hpc,← Hn.out] at HP
    have Hpc:=hd hpc;clear hpc
    cases pc
    ·have hsk:LexM.rskip t st k c=true:=by unfold LexM.rskip;rw[← Hpc.out];simp
     have herr:LexM.rerr t room st k c=0:=by rw[Hr.out,if_pos hsk]
     have hno:(LexM.rnext t st k c).out=st.out:=by unfold LexM.rnext;rw[if_pos hsk]
     have hro:(LexM.rnext t st k c).off=false:=by unfold LexM.rnext LexM.roff;exact Hof.out
     obtain⟨Hsk,Herr,Hno,Hro⟩:=hd4 hsk herr hno hro;clear hsk herr hno hro
     go_wp2_with (go_at_call 133;refine (HP.out _).mono ?_;rintro e w' ⟨rfl,rfl⟩)
     go_roundw
     case rel=>exact⟨k+1,by omega,by go_num,LexM.rnext t st k c,by rw[Hg.out,zii Herr.out],by rw[Hro.out],by rw[Hno.out];exact Hown.out,by rw[Hno.out];omega,Hbel.out⟩
     case measure=>simp[intOf];omega
    obtain⟨pp,hpp⟩ : ∃ pp,pp=(decide (0 < k) && LexM.part (t.getD (k - 1) 0)):=⟨_,rfl⟩
    have hsk:LexM.rskip t st k c=pp:=by unfold LexM.rskip;rw[Hof.out,← Hpc.out,hpp];rfl
    by_cases hk0:0 < k
    ·have hk1:k - 1 < s.size:=by omega
     have hgd:=zgy s (k - 1) hk1
     rw[← Ht.out] at hgd
     have hpv:pp=LexM.part s[k - 1]:=by rw[hpp,hgd];simp[hk0]
     have HQ:=Lib.hid (fun w=>zj5 s[k - 1] w)
     rw[← hpv] at HQ
     obtain⟨Hpv,Hgd,Hpp⟩:=hd3 hpv hgd hpp;clear hpv hgd hpp
     cases pp
     ·have hskn:¬ LexM.rskip t st k c=true:=by rw[hsk];simp
      by_cases h40:st.out.length=40
      ·have hb40:((st.out.length:Int) == 40)=true:=by rw[beq_iff_eq];omega
       have hpost:LexM.rline t room=(st.out,(k:Int)+1,4):=by
        rw[Hg.out]
        exact zjs (by rw[Hr.out,if_neg hskn,if_pos (.inl h40)]) (by decide)
       obtain⟨Hpost,Hskn,Hsk,H40⟩:=hd4 hpost hskn hsk h40;clear hpost hskn hsk h40
       go_wp2_with fail
       refine (HP.out _).mono ?_
       rintro e w' ⟨rfl,rfl⟩
       go_wp2_with fail
       refine (HQ.out _).mono ?_
       rintro e w' ⟨rfl,rfl⟩
       go_wp2_with fail
       refine bodyPost_ret (v:=.tuple #[.slice va st.out.length vc,.int .i64 ((k:Int)+1),.int .i64 4]) (by simp[results,Tryz.results77,go_sem]) rfl ?_
       rw[Hpost.out]
       exact⟨_,rfl,Hown.out,Hbel.out⟩
      have hb40:((st.out.length:Int) == 40)=false:=by rw[beq_eq_false_iff_ne];omega
      cases room
      ·have hpost:LexM.rline t false=(st.out,(k:Int)+1,4):=by
        rw[Hg.out]
        exact zjs (by rw[Hr.out,if_neg hskn,if_pos (.inr rfl)]) (by decide)
       obtain⟨Hpost,Hskn,Hsk,H40⟩:=hd4 hpost hskn hsk h40;clear hpost hskn hsk h40
       go_wp2_with fail
       refine (HP.out _).mono ?_
       rintro e w' ⟨rfl,rfl⟩
       go_wp2_with fail
       refine (HQ.out _).mono ?_
       rintro e w' ⟨rfl,rfl⟩
       go_wp2_with fail
       refine bodyPost_ret (v:=.tuple #[.slice va st.out.length vc,.int .i64 ((k:Int)+1),.int .i64 4]) (by simp[results,Tryz.results77,go_sem]) rfl ?_
       rw[Hpost.out]
       exact⟨_,rfl,Hown.out,Hbel.out⟩
      have herr:LexM.rerr t true st k c=0:=by rw[Hr.out,if_neg hskn,if_neg];rintro (h | h);exact h40 h;cases h
      have hno:(LexM.rnext t st k c).out=st.out ++ [((k:Int)+1,LexM.wordAt t k)]:=by unfold LexM.rnext;rw[if_neg hskn]
      have hro:(LexM.rnext t st k c).off=false:=Hof.out
      have hpk:LexM.part (t.getD k 0)=true:=by rw[Ht.out,zgy s k hlt,← Hc.out,← Hpc.out]
      obtain⟨Hskn,Hsk,H40,Herr,Hno,Hro,Hpk⟩:=hd7 hskn hsk h40 herr hno hro hpk;clear hskn hsk h40 herr hno hro hpk
      go_wp2_with fail
      refine (HP.out _).mono ?_
      rintro e w' ⟨rfl,rfl⟩
      go_wp2_with fail
      refine (HQ.out _).mono ?_
      rintro e w' ⟨rfl,rfl⟩
      go_wp2_with fail
      go_loop [10] (fun i=>∃ q:Nat,k≤q∧q≤s.size∧i = .int .i64 q∧∀ j,k≤j→j < q→LexM.part (t.getD j 0)=true) (fun i=>s.size - (intOf i).toNat)
      case atStart=>exact⟨k,Nat.le_refl _,hk,rfl,fun j h1 h2=>by omega⟩
      case round =>
       obtain⟨q,hkq,hqs,rfl,hall⟩:=hrel
       have Hall:=hd hall;clear hall
       by_cases hq:q < s.size
       ·have hgq:=zgy s q hq
        rw[← Ht.out] at hgq
        obtain⟨pq,hpq⟩ : ∃ pq,pq=LexM.part s[q]:=⟨_,rfl⟩
        have HR:=Lib.hid (fun w=>zj5 s[q] w)
        rw[← hpq] at HR
        obtain⟨Hpq,Hgq⟩:=hd2 hpq hgq;clear hpq hgq
        cases pq
        ·have hw:=zlz s k q hkq (by omega) (by rw[← Ht.out];exact Hall.out) (fun _=>by rw[← Ht.out,Hgq.out,← Hpq.out])
         rw[← Ht.out] at hw
         have Hw:=hd hw;clear hw
         go_wp2_with fail
         refine (HR.out _).mono ?_
         rintro e w' ⟨rfl,rfl⟩
         go_wp2_with (at_builtin;refine zay zfu rfl (.tmp 80) (.tmp 88) rfl w.heap.size (.slice va st.out.length vc) st.out.length (st.out.flatMap zb6) rfl Hown.out 1 (by decide) #[.int .i64 ((k:Int)+1),.string (s.extract k q)] rfl rfl (by simp[Value.oneCell']) (by omega) (by unfold maxLen;omega) hB ?_)
         intro g8 c8 w8 hown8 hg8 hm8
         have hb8:=zbi Hbel.out Hown.out (Nat.le_refl _) hg8 hB
         have ho8:w8.ownsRow w.heap.size 64 2 (.slice (some ⟨g8,0,none⟩) (st.out.length+1) c8) (LexM.rnext t st k c).out.length ((LexM.rnext t st k c).out.flatMap zb6):=by
          rw[Hno.out,List.length_append,List.flatMap_append]
          simp only[List.flatMap_cons,List.flatMap_nil,List.append_nil,zb6,Hw.out]
          exact hown8
         obtain⟨Hb8,Ho8⟩:=hd2 hb8 ho8;clear hb8 ho8
         clear hown8 hg8 hm8
         go_wp2_with fail
         go_roundw
         case rel=>exact⟨k+1,by omega,by go_num,LexM.rnext t st k c,by rw[Hg.out,zii Herr.out],by rw[Hro.out],Ho8.out,by rw[Hno.out,List.length_append];simp;omega,Hb8.out⟩
         case measure=>simp[intOf];omega
        go_wp2_with fail
        refine (HR.out _).mono ?_
        rintro e w' ⟨rfl,rfl⟩
        go_wp2_with fail
        go_round
        case rel=>exact⟨q+1,by omega,by omega,by go_num,fun j h1 h2=>by
         by_cases e:j=q
         ·rw[e,Hgq.out,← Hpq.out]
         exact Hall.out j h1 (by omega)⟩
        case measure=>simp[intOf];omega
       have hw:=zlz s k q hkq hqs (by rw[← Ht.out];exact Hall.out) (fun h=>absurd h hq)
       rw[← Ht.out] at hw
       have Hw:=hd hw;clear hw
       go_wp2_with (at_builtin;refine zay zfu rfl (.tmp 80) (.tmp 88) rfl w.heap.size (.slice va st.out.length vc) st.out.length (st.out.flatMap zb6) rfl Hown.out 1 (by decide) #[.int .i64 ((k:Int)+1),.string (s.extract k q)] rfl rfl (by simp[Value.oneCell']) (by omega) (by unfold maxLen;omega) hB ?_)
       intro g8 c8 w8 hown8 hg8 hm8
       have hb8:=zbi Hbel.out Hown.out (Nat.le_refl _) hg8 hB
       have ho8:w8.ownsRow w.heap.size 64 2 (.slice (some ⟨g8,0,none⟩) (st.out.length+1) c8) (LexM.rnext t st k c).out.length ((LexM.rnext t st k c).out.flatMap zb6):=by
        rw[Hno.out,List.length_append,List.flatMap_append]
        simp only[List.flatMap_cons,List.flatMap_nil,List.append_nil,zb6,Hw.out]
        exact hown8
       obtain⟨Hb8,Ho8⟩:=hd2 hb8 ho8;clear hb8 ho8
       clear hown8 hg8 hm8
       go_wp2_with fail
       go_roundw
       case rel=>exact⟨k+1,by omega,by go_num,LexM.rnext t st k c,by rw[Hg.out,zii Herr.out],by rw[Hro.out],Ho8.out,by rw[Hno.out,List.length_append];simp;omega,Hb8.out⟩
       case measure=>simp[intOf];omega
     have herr:LexM.rerr t room st k c=0:=by rw[Hr.out,if_pos hsk]
     have hno:(LexM.rnext t st k c).out=st.out:=by unfold LexM.rnext;rw[if_pos hsk]
     have hro:(LexM.rnext t st k c).off=false:=Hof.out
     obtain⟨Hsk,Herr,Hno,Hro⟩:=hd4 hsk herr hno hro;clear hsk herr hno hro
     go_wp2_with fail
     refine (HP.out _).mono ?_
     rintro e w' ⟨rfl,rfl⟩
     go_wp2_with fail
     refine (HQ.out _).mono ?_
     rintro e w' ⟨rfl,rfl⟩
     go_wp2_with fail
     go_roundw
     case rel=>exact⟨k+1,by omega,by go_num,LexM.rnext t st k c,by rw[Hg.out,zii Herr.out],by rw[Hro.out],by rw[Hno.out];exact Hown.out,by rw[Hno.out];omega,Hbel.out⟩
     case measure=>simp[intOf];omega
    have hpf:pp=false:=by rw[hpp];simp[hk0]
    subst hpf
    have Hpp:=hd hpp;clear hpp
    have hskn:¬ LexM.rskip t st k c=true:=by rw[hsk];simp
    by_cases h40:st.out.length=40
    ·have hb40:((st.out.length:Int) == 40)=true:=by rw[beq_iff_eq];omega
     have hpost:LexM.rline t room=(st.out,(k:Int)+1,4):=by
      rw[Hg.out]
      exact zjs (by rw[Hr.out,if_neg hskn,if_pos (.inl h40)]) (by decide)
     obtain⟨Hpost,Hskn,Hsk,H40⟩:=hd4 hpost hskn hsk h40;clear hpost hskn hsk h40
     go_wp2_with fail
     refine (HP.out _).mono ?_
     rintro e w' ⟨rfl,rfl⟩
     go_wp2_with fail
     refine bodyPost_ret (v:=.tuple #[.slice va st.out.length vc,.int .i64 ((k:Int)+1),.int .i64 4]) (by simp[results,Tryz.results77,go_sem]) rfl ?_
     rw[Hpost.out]
     exact⟨_,rfl,Hown.out,Hbel.out⟩
    have hb40:((st.out.length:Int) == 40)=false:=by rw[beq_eq_false_iff_ne];omega
    cases room
    ·have hpost:LexM.rline t false=(st.out,(k:Int)+1,4):=by
      rw[Hg.out]
      exact zjs (by rw[Hr.out,if_neg hskn,if_pos (.inr rfl)]) (by decide)
     obtain⟨Hpost,Hskn,Hsk,H40⟩:=hd4 hpost hskn hsk h40;clear hpost hskn hsk h40
     go_wp2_with fail
     refine (HP.out _).mono ?_
     rintro e w' ⟨rfl,rfl⟩
     go_wp2_with fail
     refine bodyPost_ret (v:=.tuple #[.slice va st.out.length vc,.int .i64 ((k:Int)+1),.int .i64 4]) (by simp[results,Tryz.results77,go_sem]) rfl ?_
     rw[Hpost.out]
     exact⟨_,rfl,Hown.out,Hbel.out⟩
    have herr:LexM.rerr t true st k c=0:=by rw[Hr.out,if_neg hskn,if_neg];rintro (h | h);exact h40 h;cases h
    have hno:(LexM.rnext t st k c).out=st.out ++ [((k:Int)+1,LexM.wordAt t k)]:=by unfold LexM.rnext;rw[if_neg hskn]
    have hro:(LexM.rnext t st k c).off=false:=Hof.out
    have hpk:LexM.part (t.getD k 0)=true:=by rw[Ht.out,zgy s k hlt,← Hc.out,← Hpc.out]
    obtain⟨Hskn,Hsk,H40,Herr,Hno,Hro,Hpk⟩:=hd7 hskn hsk h40 herr hno hro hpk;clear hskn hsk h40 herr hno hro hpk
    go_wp2_with fail
    refine (HP.out _).mono ?_
    rintro e w' ⟨rfl,rfl⟩
    go_wp2_with fail
    go_loop [10] (fun i=>∃ q:Nat,k≤q∧q≤s.size∧i = .int .i64 q∧∀ j,k≤j→j < q→LexM.part (t.getD j 0)=true) (fun i=>s.size - (intOf i).toNat)
    case atStart=>exact⟨k,Nat.le_refl _,hk,rfl,fun j h1 h2=>by omega⟩
    case round =>
     obtain⟨q,hkq,hqs,rfl,hall⟩:=hrel
     have Hall:=hd hall;clear hall
     by_cases hq:q < s.size
     ·have hgq:=zgy s q hq
      rw[← Ht.out] at hgq
      obtain⟨pq,hpq⟩ : ∃ pq,pq=LexM.part s[q]:=⟨_,rfl⟩
      have HR:=Lib.hid (fun w=>zj5 s[q] w)
      rw[← hpq] at HR
      obtain⟨Hpq,Hgq⟩:=hd2 hpq hgq;clear hpq hgq
      cases pq
      ·have hw:=zlz s k q hkq (by omega) (by rw[← Ht.out];exact Hall.out) (fun _=>by rw[← Ht.out,Hgq.out,← Hpq.out])
       rw[← Ht.out] at hw
       have Hw:=hd hw;clear hw
       go_wp2_with fail
       refine (HR.out _).mono ?_
       rintro e w' ⟨rfl,rfl⟩
       go_wp2_with (at_builtin;refine zay zfu rfl (.tmp 80) (.tmp 88) rfl w.heap.size (.slice va st.out.length vc) st.out.length (st.out.flatMap zb6) rfl Hown.out 1 (by decide) #[.int .i64 ((k:Int)+1),.string (s.extract k q)] rfl rfl (by simp[Value.oneCell']) (by omega) (by unfold maxLen;omega) hB ?_)
       intro g8 c8 w8 hown8 hg8 hm8
       have hb8:=zbi Hbel.out Hown.out (Nat.le_refl _) hg8 hB
       have ho8:w8.ownsRow w.heap.size 64 2 (.slice (some ⟨g8,0,none⟩) (st.out.length+1) c8) (LexM.rnext t st k c).out.length ((LexM.rnext t st k c).out.flatMap zb6):=by
        rw[Hno.out,List.length_append,List.flatMap_append]
        simp only[List.flatMap_cons,List.flatMap_nil,List.append_nil,zb6,Hw.out]
        exact hown8
       obtain⟨Hb8,Ho8⟩:=hd2 hb8 ho8;clear hb8 ho8
       clear hown8 hg8 hm8
       go_wp2_with fail
       go_roundw
       case rel=>exact⟨k+1,by omega,by go_num,LexM.rnext t st k c,by rw[Hg.out,zii Herr.out],by rw[Hro.out],Ho8.out,by rw[Hno.out,List.length_append];simp;omega,Hb8.out⟩
       case measure=>simp[intOf];omega
      go_wp2_with fail
      refine (HR.out _).mono ?_
      rintro e w' ⟨rfl,rfl⟩
      go_wp2_with fail
      go_round
      case rel=>exact⟨q+1,by omega,by omega,by go_num,fun j h1 h2=>by
       by_cases e:j=q
       ·rw[e,Hgq.out,← Hpq.out]
       exact Hall.out j h1 (by omega)⟩
      case measure=>simp[intOf];omega
     have hw:=zlz s k q hkq hqs (by rw[← Ht.out];exact Hall.out) (fun h=>absurd h hq)
     rw[← Ht.out] at hw
     have Hw:=hd hw;clear hw
     go_wp2_with (at_builtin;refine zay zfu rfl (.tmp 80) (.tmp 88) rfl w.heap.size (.slice va st.out.length vc) st.out.length (st.out.flatMap zb6) rfl Hown.out 1 (by decide) #[.int .i64 ((k:Int)+1),.string (s.extract k q)] rfl rfl (by simp[Value.oneCell']) (by omega) (by unfold maxLen;omega) hB ?_)
     intro g8 c8 w8 hown8 hg8 hm8
     have hb8:=zbi Hbel.out Hown.out (Nat.le_refl _) hg8 hB
     have ho8:w8.ownsRow w.heap.size 64 2 (.slice (some ⟨g8,0,none⟩) (st.out.length+1) c8) (LexM.rnext t st k c).out.length ((LexM.rnext t st k c).out.flatMap zb6):=by
      rw[Hno.out,List.length_append,List.flatMap_append]
      simp only[List.flatMap_cons,List.flatMap_nil,List.append_nil,zb6,Hw.out]
      exact hown8
     obtain⟨Hb8,Ho8⟩:=hd2 hb8 ho8;clear hb8 ho8
     clear hown8 hg8 hm8
     go_wp2_with fail
     go_roundw
     case rel=>exact⟨k+1,by omega,by go_num,LexM.rnext t st k c,by rw[Hg.out,zii Herr.out],by rw[Hro.out],Ho8.out,by rw[Hno.out,List.length_append];simp;omega,Hb8.out⟩
     case measure=>simp[intOf];omega
   have hsk:LexM.rskip t st k c=true:=by unfold LexM.rskip;simp[LexM.roff,← Hoff.out]
   have herr:LexM.rerr t room st k c=0:=by rw[Hr.out,if_pos hsk]
   have hno:(LexM.rnext t st k c).out=st.out:=by unfold LexM.rnext;rw[if_pos hsk]
   have hro:(LexM.rnext t st k c).off=true:=by unfold LexM.rnext LexM.roff;simp[← Hoff.out]
   obtain⟨Hsk,Herr,Hno,Hro⟩:=hd4 hsk herr hno hro;clear hsk herr hno hro
   go_wp2_with fail
   go_roundw
   case rel=>exact⟨k+1,by omega,by go_num,LexM.rnext t st k c,by rw[Hg.out,zii Herr.out],by rw[Hro.out],by rw[Hno.out];exact Hown.out,by rw[Hno.out];omega,Hbel.out⟩
   case measure=>simp[intOf];omega
  have hdr:t.drop k = []:=List.drop_eq_nil_of_le (by rw[Ht.out,Array.length_toList];show s.data.size≤k;have:s.data.size=s.size:=rfl;omega)
  have hpost:LexM.rline t room=(st.out,0,0):=by rw[hg,hdr];rfl
  obtain⟨Hpost,Hown,Hbel⟩:=hd3 hpost hown hbel;clear hpost hown hbel
  clear hg hdr
  go_wp2_with fail
  refine bodyPost_ret (v:=.tuple #[.slice va st.out.length vc,.int .i64 0,.int .i64 0]) (by simp[results,Tryz.results77,go_sem]) rfl ?_
  rw[Hpost.out]
  exact⟨_,rfl,Hown.out,Hbel.out⟩
end

section
open Go.RowKit
open LexM (Bs Wd Ln St RS)
theorem zef {w w':World} (h:Below w.drew.heap.size w.drew w'):Below w.heap.size w w':=⟨h.os,h.tape,h.output,h.size,h.block⟩
structure zfb (B:Nat) (out:List Ln) (ov:Value) (rv:List Value) (w:World):Prop where
 row:w.ownsRow B 62 2 ov out.length (zdi out rv)
 rlen:rv.length=out.length
 rows:∀ (i:Nat) (ln:Ln) (v:Value),out[i]? = some ln→rv[i]? = some v→w.ownsRow B 64 2 v ln.2.length (ln.2.flatMap zb6)
theorem zfb.kept {B:Nat} {out:List Ln} {ov:Value} {rv:List Value} {w w':World} (h:zfb B out ov rv w) {S:Nat→Prop} (hf:Frm S w w') (hS:∀ k cs,S k→w.heap[k]? = some (.cells cs 62 (0,0))→False) (hS2:∀ k cs,S k→w.heap[k]? = some (.cells cs 64 (0,0))→False):zfb B out ov rv w' :=
 ⟨hf.owns h.row (fun k hk e=>by obtain⟨cs,hc⟩:=zec h.row k hk;exact hS k cs e hc),h.rlen,fun i ln v hi hv=>hf.owns (h.rows i ln v hi hv) (fun k hk e=>by obtain⟨cs,hc⟩:=zec (h.rows i ln v hi hv) k hk;exact hS2 k cs e hc)⟩
theorem zfb.below {B:Nat} {out:List Ln} {ov:Value} {rv:List Value} {w w':World} (h:zfb B out ov rv w) (hb:Below w.heap.size w w'):zfb B out ov rv w' :=
 h.kept (S:=fun _=>False) (Frm.of_below hb) (fun _ _ h=>h.elim) (fun _ _ h=>h.elim)
theorem zfb.push {B:Nat} {out:List Ln} {ov ov':Value} {rv:List Value} {w w3:World} (h:zfb B out ov rv w) (n:Int) (ws:List Wd) (v:Value) (hv:w.ownsRow B 64 2 v ws.length (ws.flatMap zb6))
  (hown:w3.ownsRow B 62 2 ov' (out.length+1) (zdi out rv ++ [.int .i64 n,v])) (hg:w.grownBy w3 ov.ownBlock):zfb B (out ++ [(n,ws)]) ov' (rv ++ [v]) w3:=by
 have f1:Frm (fun k=>ov.ownBlock=some k) w w3:=(Frm.refl _ w).grown hg (fun k hk=>.inr hk)
 refine⟨by rw[zil h.rlen,List.length_append];exact hown,by simp[h.rlen],?_⟩
 intro i ln u hi hu
 by_cases hlt:i < out.length
 ·rw[List.getElem?_append_left hlt] at hi
  rw[List.getElem?_append_left (by rw[h.rlen];exact hlt)] at hu
  have r1:=h.rows i ln u hi hu
  exact f1.owns r1 (fun k hk e=>zck r1 h.row (by decide) k hk e)
 have hil:=(List.getElem?_eq_some_iff.1 hi).1
 simp at hil
 obtain rfl:i=out.length:=by omega
 have hh:=h.rlen
 rw[List.getElem?_append_right (Nat.le_refl _)] at hi
 rw[← hh,List.getElem?_append_right (Nat.le_refl _)] at hu
 simp at hi hu
 subst hi;subst hu
 exact f1.owns hv (fun k hk e=>zck hv h.row (by decide) k hk e)
theorem zfb.reads {B:Nat} {out:List Ln} {ov:Value} {rv:List Value} {w:World} (h:zfb B out ov rv w) {m:Nat} (hm:m≤10000000) (hf:∀ ln∈out,LnOk m ln):RLns w [ov] out:=by
 have hlen:(out.zip rv).length=out.length:=by simp[h.rlen]
 have h1:=h.row
 have h2:zdp 2 (fun w cs (y:Ln × Value)=>RLn w cs y.1) w [ov] (out.zip rv):=by
  refine zdk (B:=B) (e:=62) (fun x:Ln × Value=>[.int .i64 x.1.1,x.2]) _ (fun _ _=>rfl) ?_ (by rw[hlen];exact h1)
  intro y hy
  obtain⟨i,hi,rfl⟩:=List.mem_iff_getElem.1 hy
  have hi1:i < out.length:=by omega
  have hi2:i < rv.length:=by rw[h.rlen];exact hi1
  rw[List.getElem_zip]
  have r1:=h.rows i out[i] rv[i] (List.getElem?_eq_getElem hi1) (List.getElem?_eq_getElem hi2)
  obtain⟨a,b,c⟩:=hf _ (List.getElem_mem hi1)
  exact⟨rv[i],rfl,zdk zb6 RWd (fun _ _=>rfl) (fun wd hw=>rword hm (c wd hw)) r1,zm0 (n:=out[i].1) a (by omega)⟩
 obtain⟨a,cap,hv,g1,g2,g3⟩:=h2
 rw[hlen] at hv g1
 refine⟨a,cap,hv,g1,g2,fun i ln hi=>?_⟩
 have hi1:=(List.getElem?_eq_some_iff.1 hi).1
 have hi2:i < rv.length:=by rw[h.rlen];exact hi1
 have hzi:(out.zip rv)[i]? = some (ln,rv[i]):=by
  rw[List.getElem?_zip_eq_some]
  exact⟨hi,List.getElem?_eq_getElem hi2⟩
 exact g3 i _ hzi
theorem ztc (t:Bs) (h:t.length≤65536):∀ ln∈(LexM.docLines t).lines,LnOk 200000 ln:=by
 rw[← LexM.lines_eq]
 unfold LexM.lines
 rw[if_neg (by omega)]
 unfold LexM.close
 split
 ·rename_i h0
  have h1:=znu t LexM.st0 0 zr0 h0
  have h2:=zr6 t LexM.st0 0 zr0 ⟨by simp[LexM.st0],by simp[LexM.st0]⟩ h0
  exact ((zh1 h1 h2).mono (by omega)).out
 simp
def zko (w:World) (r:LexM.Res) (e:Ending) (w':World):Prop:=∃ v,e = .returned (.agg #[v,.int .i64 r.at1,.int .i64 r.at2,.int .i64 r.e])∧RLns w' [v] r.lines∧Below w.heap.size w w'
def DocAt (doc:LexM.Res) (t:Bs) (i:Nat) (n:Int) (f:Nat) (out:List Ln):Prop :=
 (i≤t.length∧f≤i∧doc=LexM.rlines n ((t.drop f).take (i - f)) out (t.drop i))∨(i=t.length+1∧f=i∧doc=⟨out,0,0,0⟩)
theorem docAt_on {doc:LexM.Res} {t:Bs} {i:Nat} {n:Int} {f:Nat} {out:List Ln} {c:UInt8} (h:DocAt doc t i n f out) (hi:i < t.length) (hc:t.getD i 0=c) (h10:c.toNat≠10):DocAt doc t (i+1) n f out:=by
 rcases h with⟨h1,h2,h3⟩ | ⟨h1,_,_⟩
 ·left
  refine⟨by omega,by omega,?_⟩
  have hd:t.drop i=c :: t.drop (i+1):=by
   rw[List.drop_eq_getElem_cons hi]
   congr 1
   rw[← hc];simp[List.getD,hi]
  rw[h3,hd]
  conv=>lhs;unfold LexM.rlines
  rw[if_neg h10]
  congr 1
  have:i+1 - f=(i - f)+1:=by omega
  rw[this,List.take_add_one]
  congr 1
  rw[List.getElem?_drop,show f+(i - f)=i by omega]
  have:t[i]? = some c:=by
   rw[List.getElem?_eq_getElem hi,← hc];simp[List.getD,hi]
  rw[this];rfl
 omega
theorem zlp {doc:LexM.Res} {t:Bs} {i:Nat} {n:Int} {f:Nat} {out:List Ln} (h:DocAt doc t i n f out) (hi:i≤t.length) (hc:i < t.length→(t.getD i 0).toNat=10) :
  let q:=LexM.rline ((t.drop f).take (i - f)) (decide (out.length < 2000))
  (q.2.2=0→DocAt doc t (i+1) (n+1) (i+1) (LexM.addLn out n q.1))∧(q.2.2≠0→doc=⟨[],n,q.2.1,q.2.2⟩):=by
 intro q
 rcases h with⟨h1,h2,h3⟩ | ⟨h1,_,_⟩
 ·by_cases hlt:i < t.length
  ·have hd:t.drop i=t.getD i 0 :: t.drop (i+1):=by
    rw[List.drop_eq_getElem_cons hlt]
    congr 1
    simp[List.getD,hlt]
   rw[hd] at h3
   unfold LexM.rlines at h3
   rw[if_pos (hc hlt)] at h3
   dsimp only at h3
   constructor
   ·intro hq
    rw[if_pos hq] at h3
    left
    refine⟨by omega,Nat.le_refl _,?_⟩
    rw[h3,Nat.sub_self]
    rfl
   intro hq
   rw[if_neg hq] at h3
   exact h3
  rw[List.drop_eq_nil_of_le (show t.length≤i by omega)] at h3
  unfold LexM.rlines at h3
  dsimp only at h3
  constructor
  ·intro hq
   rw[if_pos hq] at h3
   right
   exact⟨by omega,rfl,h3⟩
  intro hq
  rw[if_neg hq] at h3
  exact h3
 omega
abbrev zbv (ov:Value):Array Value:=#[ov,.int .i64 0,.int .i64 0,.int .i64 0]
structure zqp (w1:World) (x:Nat) (out:List Ln) (ov:Value) (rv:List Value) (w:World):Prop where
 cells:w.heap[x]? = some (.cells (zbv ov) 58 (0,0))
 own:zfb w1.heap.size out ov rv w
 bel:Below w1.heap.size w1 w
 xB:w1.heap.size≤x
theorem zqp.below {w1 w w':World} {x:Nat} {out:List Ln} {ov:Value} {rv:List Value} (h:zqp w1 x out ov rv w) (hb:Below w.heap.size w w'):zqp w1 x out ov rv w' :=
 ⟨zbu h.cells (Frm.of_below (S:=fun _=>False) hb) (fun h=>h),h.own.below hb,h.bel.trans (hb.mono h.bel.size),h.xB⟩
theorem zqp.push {w1 w w3:World} {x:Nat} {out:List Ln} {ov ov':Value} {rv:List Value} (h:zqp w1 x out ov rv w) (n:Int) (ws:List Wd) (v:Value) (hv:w.ownsRow w1.heap.size 64 2 v ws.length (ws.flatMap zb6))
  (hown:w3.ownsRow w1.heap.size 62 2 ov' (out.length+1) (zdi out rv ++ [.int .i64 n,v])) (hg:w.grownBy w3 ov.ownBlock):zqp w1 x (out ++ [(n,ws)]) ov' (rv ++ [v]) (w3.setCell ⟨x,0,none⟩ ov'):=by
 have hx:=zan h.own.row h.cells (by decide)
 have f1:Frm (fun k=>ov.ownBlock=some k) w w3:=(Frm.refl _ w).grown hg (fun k hk=>.inr hk)
 have hc3:=zbu h.cells f1 hx
 have f2:=zaa (Frm.refl (fun k=>k=x) w3) 0 ov'
 refine⟨?_,?_,?_,h.xB⟩
 ·rw[heap_setCell_same w3 x 0 _ _ ov' hc3];rfl
 ·refine (h.own.push n ws v hv hown hg).kept f2 (fun k cs e hc=>?_) (fun k cs e hc=>?_)
  ·rw[e,hc3] at hc;simp at hc
  rw[e,hc3] at hc;simp at hc
 have b1:Below w1.heap.size w w3:=f1.below h.bel.size (fun k hk=>(h.own.row.lt k hk).1)
 exact (h.bel.trans b1).trans (f2.below (by have:=h.bel.size;have:=f1.size;omega) (fun k hk=>by rw[hk];exact h.xB))
def DocGo (w1:World) (x:Nat) (doc:LexM.Res) (t:Bs) (i:Nat) (nv fv:Value) (w:World):Prop :=
 ∃ (n:Int) (f:Nat) (out:List Ln) (ov:Value) (rv:List Value),nv = .int .i64 n∧fv = .int .i64 f∧f≤i∧DocAt doc t i n f out∧zqp w1 x out ov rv w∧out.length≤i∧0≤n∧n≤i+1
theorem zn3 (s:ByteArray) (hs:s.size≤140737488351232) (w:World) (h:65536 < s.size):Calls Tryz.prog 36 #[.string s] w (zko w (LexM.docLines s.data.toList)):=by
 have hr:LexM.docLines s.data.toList=⟨[],0,0,4⟩:=by unfold LexM.docLines;rw[if_pos];rw[Array.length_toList];exact h
 rw[hr]
 clear hr
 go_enter Tryz.func36,Tryz.ntmps36
 go_wp2_with fail
 refine bodyPost_ret (v:=.agg #[.slice none 0 0,.int .i64 0,.int .i64 0,.int .i64 4]) (by simp[results,Tryz.results36,go_sem]) rfl ⟨_,rfl,⟨none,0,rfl,Nat.le_refl _,Nat.zero_le _,fun i x hi=>by simp at hi⟩,?_⟩
 exact ((Below.refl _ _).alloc (Nat.le_refl _) _).alloc (by simp) _
theorem zl4 (s:ByteArray) (w:World) (h:s.size≤65536):Calls Tryz.prog 36 #[.string s] w (zko w (LexM.docLines s.data.toList)):=by
 have hlen:s.data.toList.length=s.size:=by rw[Array.length_toList];rfl
 obtain⟨t,ht⟩ : ∃ t,t=s.data.toList:=⟨_,rfl⟩
 rw[← ht] at hlen ⊢
 have hdoc:LexM.docLines t=LexM.rlines 1 [] [] t:=by unfold LexM.docLines;rw[if_neg (by omega)]
 have hfine:=ztc t (by omega)
 obtain⟨doc,hd⟩ : ∃ doc,doc=LexM.docLines t:=⟨_,rfl⟩
 rw[← hd] at hfine hdoc ⊢
 obtain⟨w1,hw1⟩ : ∃ w1,w1=w.alloc (.cells (zbv (.slice none 0 0)) 58):=⟨_,rfl⟩
 have hs1:w1.heap.size=w.heap.size+1:=by rw[hw1];simp
 have h0:DocGo w1 (w.heap.size+1) doc t 0 (.int .i64 1) (.int .i64 0) (w1.alloc (.cells (zbv (.slice none 0 0)) 58)):=by
  refine⟨1,0,[],.slice none 0 0,[],rfl,rfl,Nat.le_refl _,.inl ⟨by omega,Nat.le_refl _,by rw[hdoc];simp⟩,⟨?_,⟨World.ownsRow_nil _ _ _ _,rfl,fun i ln v hi=>by simp at hi⟩,(Below.refl _ _).alloc (Nat.le_refl _) _,by omega⟩,by simp,by omega,by omega⟩
  have:=heap_alloc_new w1 (.cells (zbv (.slice none 0 0)) 58)
  rw[hs1] at this
  exact this
 have hblk:w1.heap[w.heap.size]? = some (.cells (zbv (.slice none 0 0)) 58 (0,0)):=by rw[hw1];exact heap_alloc_new w _
 have hbel1:Below w.heap.size w w1:=by rw[hw1];exact (Below.refl _ _).alloc (Nat.le_refl _) _
 obtain⟨Ht,Hlen,Hdoc,Hfine,Hd,H0,Hblk,Hs1,Hbel1⟩:=hd9 ht hlen hdoc hfine hd h0 hblk hs1 hbel1;clear ht hlen hdoc hfine hd h0 hblk hs1 hbel1
 go_enter Tryz.func36,Tryz.ntmps36
 go_wp2_with fail
 have hw2:(w.alloc (.cells #[.slice none 0 0,.int .i64 0,.int .i64 0,.int .i64 0] 58)).alloc (.cells #[.slice none 0 0,.int .i64 0,.int .i64 0,.int .i64 0] 58)=w1.alloc (.cells (zbv (.slice none 0 0)) 58):=by rw[hw1]
 rw[hw2]
 clear hw2 hw1
 go_loopw [4,5,6] (fun nv fv i wr=>∃ k:Nat,k≤s.size+1∧i = .int .i64 k∧DocGo w1 (w.heap.size+1) doc t k nv fv wr) (fun _ _ i _=>s.size+1 - (intOf i).toNat)
 case atStart=>exact⟨0,Nat.zero_le _,rfl,H0.out⟩
 case round =>
  obtain⟨k,hk,rfl,n,f,out,ov,rv,rfl,rfl,hfk,hat,hst,hol,hn0,hn1⟩:=hrel
  obtain⟨oa,oc,rfl⟩:=zaj hst.own.row
  by_cases hlt:k≤s.size
  ·by_cases hone:k < s.size
   ·by_cases h10:s[k].toNat=10
    ·have hc10:k < t.length→(t.getD k 0).toNat=10:=by
      intro _
      rw[Ht.out,zgy s k hone]
      exact h10
     obtain⟨m,hm⟩ : ∃ m,m=s[k].toNat:=⟨_,rfl⟩
     have hm2:s[k].toNat=m:=hm.symm
     have hb:((m:Int) != 10)=false:=by rw[hm,h10];rfl
     clear hm h10
     obtain⟨Hat,Hst⟩:=hd2 hat hst;clear hat hst
     have hblk2:∀ w9,Below wr.heap.size wr w9→w9.heap[w.heap.size]? = some (.cells (zbv (.slice none 0 0)) 58 (0,0)):=by
      intro w9 hb9
      have h1:=Hst.out.bel.size
      have h2:=Hs1.out
      rw[hb9.block _ (by omega),Hst.out.bel.block _ (by omega)]
      exact Hblk.out
     obtain⟨q,hq⟩ : ∃ q,q=LexM.rline ((t.drop f).take (k - f)) (decide (out.length < 2000)):=⟨_,rfl⟩
     have hline:=zlp Hat.out (by have:=Hlen.out;omega) hc10
     rw[← hq] at hline
     have HC:Hid (∀ w',Calls Tryz.prog 77 #[.string (s.extract f k),.bool (decide ((out.length:Int) < 2000))] w' (zn8 w' q)):=by
      intro w'
      have h1:=zri (s.extract f k) (decide (out.length < 2000)) w' (by rw[ByteArray.size_extract];omega)
      rw[Lib.extract_data,← Ht.out,← hq] at h1
      have h2:decide ((out.length:Int) < 2000)=decide (out.length < 2000):=by
       congr 1;simp only[eq_iff_iff];omega
      rw[h2]
      exact h1
     have hx0:=za5 Hst.out.cells 0
     simp only[zbv,List.getElem?_toArray,List.getElem?_cons_zero] at hx0
     obtain⟨ws,qa,qe⟩:=q
     obtain⟨Hline,Hq,Hblk2⟩:=hd3 hline hq hblk2;clear hline hq hblk2
     clear hc10
     go_wp2_with fail
     go_region_with (go_at_call 77;refine (HC.out _).mono ?_;rintro e w5 ⟨v5,rfl,hv5,hb5⟩)
     obtain⟨va,vc,rfl⟩:=zaj hv5
     have hS5:=Hst.out.below (zef hb5)
     have hv6:=zco hv5 (show w1.heap.size≤wr.heap.size from Hst.out.bel.size)
     have hk5:=Hblk2.out w5 (zef hb5)
     have hB5:=hS5.bel.size
     by_cases he:qe=0
     ·have hbe:(qe != 0)=false:=by rw[he];rfl
      have hat3:=Hline.out.1 he
      by_cases hw:ws = []
      ·have hadd:LexM.addLn out n ws=out:=by unfold LexM.addLn;rw[if_pos hw]
       have hwl:ws.length=0:=by rw[hw];rfl
       rw[hadd] at hat3
       obtain⟨HS5,Hv5,Hv6,Hk5,Hb5,He,Hat3,Hadd,Hw⟩:=hd9 hS5 hv5 hv6 hk5 hb5 he hat3 hadd hw;clear hS5 hv5 hv6 hk5 hb5 he hat3 hadd hw
       go_wp2_with fail
       go_roundw
       case rel=>exact⟨k+1,by omega,by go_num,n+1,k+1,out,_,rv,rfl,by go_num,by omega,Hat3.out,HS5.out,by omega,by omega,by omega⟩
       case measure=>simp[intOf];omega
      have hadd:LexM.addLn out n ws=out ++ [(n,ws)]:=by unfold LexM.addLn;rw[if_neg hw]
      have hwl:0 < ws.length:=List.length_pos_iff.2 hw
      rw[hadd] at hat3
      have y0:=za5 hS5.cells 0
      simp only[zbv,List.getElem?_toArray,List.getElem?_cons_zero] at y0
      have hro:=hS5.own.row
      have hnx:=zan hS5.own.row hS5.cells (by decide)
      obtain⟨HS5,Hv5,Hv6,Hk5,Hb5,He,Hat3,Hadd,Hw,Hro,Hnx⟩:=hd11 hS5 hv5 hv6 hk5 hb5 he hat3 hadd hw hro hnx;clear hS5 hv5 hv6 hk5 hb5 he hat3 hadd hw hro hnx
      go_wp2_with (at_builtin;refine zay zkf (w:=w5) rfl (.tmp 56) (.tmp 60) rfl w1.heap.size (.slice oa out.length oc) out.length (zdi out rv) rfl Hro.out 1 (by decide) #[.int .i64 n,.slice va ws.length vc] rfl rfl (by simp[Value.oneCell']) (by omega) (by unfold maxLen;omega) hB5 ?_)
      intro g8 c8 w8 hown8 hg8 hm8
      have hc8:=zbu HS5.out.cells ((Frm.refl _ w5).grown hg8 (S:=fun k=>(Value.slice oa out.length oc).ownBlock=some k) (fun k hk=>.inr hk)) Hnx.out
      have z0:=za5 hc8 0
      have u0:=zad hc8 0
      simp only[zbv,List.getElem?_toArray,List.getElem?_cons_zero] at z0
      have hP:=HS5.out.push n ws _ Hv6.out hown8 hg8
      have HP:=hd hP;clear hP
      clear hown8 hg8 hm8 hc8
      go_wp2_with fail
      go_roundw
      case rel=>exact⟨k+1,by omega,by go_num,n+1,k+1,out ++ [(n,ws)],_,_,rfl,by go_num,by omega,Hat3.out,HP.out,by simp;omega,by omega,by omega⟩
      case measure=>simp[intOf];omega
     have hbe:(qe != 0)=true:=by rw[bne_iff_ne];exact he
     have hdd:=Hline.out.2 he
     have z0:=za5 hk5 0
     have z1:=za5 hk5 1
     have z2:=za5 hk5 2
     have z3:=za5 hk5 3
     have u0:=zad hk5 0
     have u1:=zad hk5 1
     have u2:=zad hk5 2
     have u3:=zad hk5 3
     simp only[zbv,List.getElem?_toArray,List.getElem?_cons_succ,List.getElem?_cons_zero] at z0 z1 z2 z3
     have hbel5:=hS5.bel
     obtain⟨HS5,Hv5,Hv6,Hk5,Hb5,He,Hdd,Hbel5⟩:=hd8 hS5 hv5 hv6 hk5 hb5 he hdd hbel5;clear hS5 hv5 hv6 hk5 hb5 he hdd hbel5
     go_wp2_with fail
     refine bodyPost_ret (v:=.agg #[.slice none 0 0,.int .i64 n,.int .i64 qa,.int .i64 qe]) (by simp[results,Tryz.results36,go_sem,z0,z1,z2,z3]) rfl ?_
     rw[Hdd.out]
     refine⟨_,rfl,⟨none,0,rfl,Nat.le_refl _,Nat.zero_le _,fun i x hi=>by simp at hi⟩,?_⟩
     exact ((((Hbel1.out.trans (Hbel5.out.mono (by rw[Hs1.out];omega))).setCell (Nat.le_refl _) _).setCell (Nat.le_refl _) _).setCell (Nat.le_refl _) _).setCell (Nat.le_refl _) _
    have hat2:=docAt_on hat (by have:=Hlen.out;omega) (show t.getD k 0=s[k] by rw[Ht.out];exact zgy s k hone) h10
    obtain⟨m,hm⟩ : ∃ m,m=s[k].toNat:=⟨_,rfl⟩
    have hm2:s[k].toNat=m:=hm.symm
    have hb:((m:Int) != 10)=true:=by rw[bne_iff_ne,hm];omega
    obtain⟨Hat,Hat2,Hst⟩:=hd3 hat hat2 hst;clear hat hat2 hst
    clear hm h10
    go_wp2_with fail
    go_roundw
    case rel=>exact⟨k+1,by omega,by go_num,n,f,out,_,rv,rfl,rfl,by omega,Hat2.out,Hst.out,by omega,hn0,by omega⟩
    case measure=>simp[intOf];omega
   have hc10:k < t.length→(t.getD k 0).toNat=10:=by
    intro h1
    have:=Hlen.out
    omega
   obtain⟨Hat,Hst⟩:=hd2 hat hst;clear hat hst
   have hblk2:∀ w9,Below wr.heap.size wr w9→w9.heap[w.heap.size]? = some (.cells (zbv (.slice none 0 0)) 58 (0,0)):=by
    intro w9 hb9
    have h1:=Hst.out.bel.size
    have h2:=Hs1.out
    rw[hb9.block _ (by omega),Hst.out.bel.block _ (by omega)]
    exact Hblk.out
   obtain⟨q,hq⟩ : ∃ q,q=LexM.rline ((t.drop f).take (k - f)) (decide (out.length < 2000)):=⟨_,rfl⟩
   have hline:=zlp Hat.out (by have:=Hlen.out;omega) hc10
   rw[← hq] at hline
   have HC:Hid (∀ w',Calls Tryz.prog 77 #[.string (s.extract f k),.bool (decide ((out.length:Int) < 2000))] w' (zn8 w' q)):=by
    intro w'
    have h1:=zri (s.extract f k) (decide (out.length < 2000)) w' (by rw[ByteArray.size_extract];omega)
    rw[Lib.extract_data,← Ht.out,← hq] at h1
    have h2:decide ((out.length:Int) < 2000)=decide (out.length < 2000):=by
     congr 1;simp only[eq_iff_iff];omega
    rw[h2]
    exact h1
   have hx0:=za5 Hst.out.cells 0
   simp only[zbv,List.getElem?_toArray,List.getElem?_cons_zero] at hx0
   obtain⟨ws,qa,qe⟩:=q
   obtain⟨Hline,Hq,Hblk2⟩:=hd3 hline hq hblk2;clear hline hq hblk2
   clear hc10
   go_wp2_with fail
   go_region_with (go_at_call 77;refine (HC.out _).mono ?_;rintro e w5 ⟨v5,rfl,hv5,hb5⟩)
   obtain⟨va,vc,rfl⟩:=zaj hv5
   have hS5:=Hst.out.below (zef hb5)
   have hv6:=zco hv5 (show w1.heap.size≤wr.heap.size from Hst.out.bel.size)
   have hk5:=Hblk2.out w5 (zef hb5)
   have hB5:=hS5.bel.size
   by_cases he:qe=0
   ·have hbe:(qe != 0)=false:=by rw[he];rfl
    have hat3:=Hline.out.1 he
    by_cases hw:ws = []
    ·have hadd:LexM.addLn out n ws=out:=by unfold LexM.addLn;rw[if_pos hw]
     have hwl:ws.length=0:=by rw[hw];rfl
     rw[hadd] at hat3
     obtain⟨HS5,Hv5,Hv6,Hk5,Hb5,He,Hat3,Hadd,Hw⟩:=hd9 hS5 hv5 hv6 hk5 hb5 he hat3 hadd hw;clear hS5 hv5 hv6 hk5 hb5 he hat3 hadd hw
     go_wp2_with fail
     go_roundw
     case rel=>exact⟨k+1,by omega,by go_num,n+1,k+1,out,_,rv,rfl,by go_num,by omega,Hat3.out,HS5.out,by omega,by omega,by omega⟩
     case measure=>simp[intOf];omega
    have hadd:LexM.addLn out n ws=out ++ [(n,ws)]:=by unfold LexM.addLn;rw[if_neg hw]
    have hwl:0 < ws.length:=List.length_pos_iff.2 hw
    rw[hadd] at hat3
    have y0:=za5 hS5.cells 0
    simp only[zbv,List.getElem?_toArray,List.getElem?_cons_zero] at y0
    have hro:=hS5.own.row
    have hnx:=zan hS5.own.row hS5.cells (by decide)
    obtain⟨HS5,Hv5,Hv6,Hk5,Hb5,He,Hat3,Hadd,Hw,Hro,Hnx⟩:=hd11 hS5 hv5 hv6 hk5 hb5 he hat3 hadd hw hro hnx;clear hS5 hv5 hv6 hk5 hb5 he hat3 hadd hw hro hnx
    go_wp2_with (at_builtin;refine zay zkf (w:=w5) rfl (.tmp 56) (.tmp 60) rfl w1.heap.size (.slice oa out.length oc) out.length (zdi out rv) rfl Hro.out 1 (by decide) #[.int .i64 n,.slice va ws.length vc] rfl rfl (by simp[Value.oneCell']) (by omega) (by unfold maxLen;omega) hB5 ?_)
    intro g8 c8 w8 hown8 hg8 hm8
    have hc8:=zbu HS5.out.cells ((Frm.refl _ w5).grown hg8 (S:=fun k=>(Value.slice oa out.length oc).ownBlock=some k) (fun k hk=>.inr hk)) Hnx.out
    have z0:=za5 hc8 0
    have u0:=zad hc8 0
    simp only[zbv,List.getElem?_toArray,List.getElem?_cons_zero] at z0
    have hP:=HS5.out.push n ws _ Hv6.out hown8 hg8
    have HP:=hd hP;clear hP
    clear hown8 hg8 hm8 hc8
    go_wp2_with fail
    go_roundw
    case rel=>exact⟨k+1,by omega,by go_num,n+1,k+1,out ++ [(n,ws)],_,_,rfl,by go_num,by omega,Hat3.out,HP.out,by simp;omega,by omega,by omega⟩
    case measure=>simp[intOf];omega
   have hbe:(qe != 0)=true:=by rw[bne_iff_ne];exact he
   have hdd:=Hline.out.2 he
   have z0:=za5 hk5 0
   have z1:=za5 hk5 1
   have z2:=za5 hk5 2
   have z3:=za5 hk5 3
   have u0:=zad hk5 0
   have u1:=zad hk5 1
   have u2:=zad hk5 2
   have u3:=zad hk5 3
   simp only[zbv,List.getElem?_toArray,List.getElem?_cons_succ,List.getElem?_cons_zero] at z0 z1 z2 z3
   have hbel5:=hS5.bel
   obtain⟨HS5,Hv5,Hv6,Hk5,Hb5,He,Hdd,Hbel5⟩:=hd8 hS5 hv5 hv6 hk5 hb5 he hdd hbel5;clear hS5 hv5 hv6 hk5 hb5 he hdd hbel5
   go_wp2_with fail
   refine bodyPost_ret (v:=.agg #[.slice none 0 0,.int .i64 n,.int .i64 qa,.int .i64 qe]) (by simp[results,Tryz.results36,go_sem,z0,z1,z2,z3]) rfl ?_
   rw[Hdd.out]
   refine⟨_,rfl,⟨none,0,rfl,Nat.le_refl _,Nat.zero_le _,fun i x hi=>by simp at hi⟩,?_⟩
   exact ((((Hbel1.out.trans (Hbel5.out.mono (by rw[Hs1.out];omega))).setCell (Nat.le_refl _) _).setCell (Nat.le_refl _) _).setCell (Nat.le_refl _) _).setCell (Nat.le_refl _) _
  obtain rfl:k=s.size+1:=by omega
  have hdd:doc=⟨out,0,0,0⟩:=by
   rcases hat with⟨h1,_,_⟩ | ⟨_,_,h3⟩
   ·have:=Hlen.out;omega
   exact h3
  have hfine2:=Hfine.out
  rw[hdd] at hfine2
  have hk5:wr.heap[w.heap.size]? = some (.cells (zbv (.slice none 0 0)) 58 (0,0)):=by
   rw[hst.bel.block _ (by rw[Hs1.out];omega)]
   exact Hblk.out
  have x0:=za5 hst.cells 0
  have x1:=za5 hst.cells 1
  have x2:=za5 hst.cells 2
  have x3:=za5 hst.cells 3
  have z0:=za5 hk5 0
  have z1:=za5 hk5 1
  have z2:=za5 hk5 2
  have z3:=za5 hk5 3
  have u0:=zad hk5 0
  have u1:=zad hk5 1
  have u2:=zad hk5 2
  have u3:=zad hk5 3
  simp only[zbv,List.getElem?_toArray,List.getElem?_cons_succ,List.getElem?_cons_zero] at z0 z1 z2 z3 x0 x1 x2 x3
  obtain⟨Hat,Hst,Hdd,Hfine2,Hk5⟩:=hd5 hat hst hdd hfine2 hk5;clear hat hst hdd hfine2 hk5
  go_wp2_with fail
  refine bodyPost_ret (v:=.agg #[.slice oa out.length oc,.int .i64 0,.int .i64 0,.int .i64 0]) (by simp[results,Tryz.results36,go_sem,z0,z1,z2,z3]) rfl ?_
  rw[Hdd.out]
  refine⟨_,rfl,?_,?_⟩
  ·refine (Hst.out.own.kept (S:=fun k=>k=w.heap.size) (zaa (zaa (zaa (zaa (Frm.refl _ wr) 0 _) 1 _) 2 _) 3 _) (fun k cs e hc=>?_) (fun k cs e hc=>?_)).reads (m:=200000) (by omega) Hfine2.out
   ·rw[e,Hk5.out] at hc;simp at hc
   rw[e,Hk5.out] at hc;simp at hc
  exact ((((Hbel1.out.trans (Hst.out.bel.mono (by rw[Hs1.out];omega))).setCell (Nat.le_refl _) _).setCell (Nat.le_refl _) _).setCell (Nat.le_refl _) _).setCell (Nat.le_refl _) _
theorem zir (s:ByteArray) (hs:s.size≤140737488351232) (w:World):Calls Tryz.prog 36 #[.string s] w (zko w (LexM.docLines s.data.toList)):=by
 by_cases h:65536 < s.size
 ·exact zn3 s hs w h
 exact zl4 s w (by omega)
end
end Go.Proofs.YteailgjiifdgcaaGreatDoor
