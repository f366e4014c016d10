/- Walks and plain facts. Texts merged: SpsT, SpnRm, SpsW, SpsB, Ins, SpsX, SpsP, SpnRf, SpsS, SpsU, StR, Typ, SpsY, VarM, VarN, VarR, WishR, LexM, RqM, LexK, RqA, RqC, RpM. Condition: none beyond what each says. -/
import Derived.Lib.Join
import Derived.Lib.Small
import Derived.Deep.Cut
import Derived.Deep.DrawnRows
import Derived.Test.YteailgjiifdgcaaGreatDoorRecipeJoinsAll5
set_option linter.unusedVariables false
set_option linter.unusedSimpArgs false
set_option maxRecDepth 10000
set_option maxHeartbeats 4000000
namespace Go.Proofs.YteailgjiifdgcaaGreatDoor
section
open Go.Shelf Go.RowKit Go.Lib Go.Sort SortM VerN
theorem zdx:Elem Tryz.prog 88 9 (.string ⟨#[]⟩) 1 16:=⟨Tryz.underlying88,by kernel_rfl,rfl,by decide⟩
def zef (s:BSp):ByteArray:=txS s.1 s.2
theorem zo5 {s:BSp} (h:s.1.size≤9000∧s.2.size≤9000):(zef s).size≤18001:=by
 unfold zef txS
 split
 ·have:=txR_size s.1 s.2;omega
 decide
def joinF (F:List BSp):ByteArray:=⟨(Lib.join ((F.map zef).map (·.data.toList)) [44]).toArray⟩
theorem lens_le (B:Nat):∀ (L:List (List UInt8)),(∀ x∈L,x.length≤B)→Lib.lens L≤B * L.length
 | [],_=>by simp[Lib.lens]
 | x :: L,h=>by
  have h1:=lens_le B L fun y hy=>h y (by simp[hy])
  have h2:=h x (by simp)
  simp only[Lib.lens,List.map_cons,List.sum_cons,List.length_cons] at *
  rw[Nat.mul_add]
  omega
theorem zr6 {F:List BSp} (h:zfn F) (hl:F.length≤80000):(Lib.join ((F.map zef).map (·.data.toList)) [44]).length≤140737488355328:=by
 have hb:∀ x∈(F.map zef).map (·.data.toList),x.length≤18001:=by
  intro x hx
  obtain⟨y,hy,rfl⟩:=List.mem_map.1 hx
  obtain⟨z,hz,rfl⟩:=List.mem_map.1 hy
  rw[Txt.len]
  exact zo5 (h z hz)
 have h1:=lens_le 18001 _ hb
 have h2:((F.map zef).map (·.data.toList)).length≤80000:=by simpa using hl
 obtain⟨L,hL⟩ : ∃ L,L=(F.map zef).map (·.data.toList):=⟨_,rfl⟩
 rw[← hL] at h1 h2 ⊢
 cases L with
 | nil=>simp[Lib.join_nil]
 | cons x r =>
  rw[Lib.join_length]
  simp only[List.length_cons,List.length_nil] at *
  omega
def zeb (l:List Tp):ByteArray:=if zfl l=false then ⟨#[]⟩ else if (zjg l).length=0 then ⟨#[33]⟩ else joinF (zjg l)
theorem znp (l:List Tp):zfn (zjg l):=zgs _ _ (fun z hz=>by simp at hz) (ziz _)
theorem zo4 {F:List BSp} {k:Nat} (h:k < F.length):((F.take (k+1)).map fun s=>Value.string (zef s))=((F.take k).map fun s=>Value.string (zef s)) ++ [Value.string (zef F[k])]:=by
 rw[List.take_succ_eq_append_getElem h,List.map_append];rfl
theorem znm {w:World} {v:Value} {l:List Tp} (h:RSps w [v] (tB l)) (hl:l.length≤80000) (hD:zbz w):Calls Tryz.prog 19 #[v] w fun e w'=>e = .returned (.string (zeb l))∧Below w.heap.size w w':=by
 have hF:=form_any h hl hD
 unfold zlq at hF
 obtain⟨a,cap,rfl⟩:=zdb h
 obtain⟨ok,hok⟩ : ∃ b,b=zfl l:=⟨_,rfl⟩
 obtain⟨n,hn⟩ : ∃ n,n=(tB l).length:=⟨_,rfl⟩
 obtain⟨F,hFF⟩ : ∃ F,F=zjg l:=⟨_,rfl⟩
 rw[← hok,← hFF] at hF
 rw[← hn] at hF h ⊢
 cases ok with
 | false =>
  have ht:zeb l=⟨#[]⟩:=by unfold zeb;rw[if_pos hok.symm]
  rw[ht]
  obtain⟨Hh,HF,Hok,Hn,HFF,HD,Ht⟩:=hd7 h hF hok hn hFF hD ht;clear h hF hok hn hFF hD ht
  go_enter Tryz.func19,Tryz.ntmps19
  go_wp2_with fail
  refine HF.out.mono ?_
  rintro e w1 ⟨o,rfl,_,ho,hb1⟩
  obtain⟨Ho,Hb1⟩:=hd2 ho hb1;clear ho hb1
  go_wp2_with fail
  go_ret
  exact⟨rfl,Hb1.out⟩
 | true =>
  have hlen:F.length≤80000:=by rw[hFF];have:=form_len l;omega
  have hFs:zfn F:=by rw[hFF];exact znp l
  obtain⟨Hh,HF,Hok,Hn,HFF,HD,HFs⟩:=hd7 h hF hok hn hFF hD hFs;clear h hF hok hn hFF hD hFs
  go_enter Tryz.func19,Tryz.ntmps19
  go_wp2_with fail
  refine HF.out.mono ?_
  rintro e w1 ⟨o,rfl,ho,_,hb1⟩
  have ho:=ho trivial
  obtain⟨oa,oc,rfl⟩:=za9 ho
  have hrd:RSps w1 [.slice oa F.length oc] F:=zh4 (fun x hx=>by have:=HFs.out x hx;unfold maxLen;omega) ho
  have hat:=zp8 hrd
  obtain⟨q,hq⟩ : ∃ q,q=F.length:=⟨_,rfl⟩
  rw[← hq] at hlen ⊢
  by_cases h0:q=0
  ·subst h0
   have ht:zeb l=⟨#[33]⟩:=by unfold zeb;rw[if_neg (by rw[← Hok.out];simp),← HFF.out,if_pos hq.symm]
   obtain⟨Ho,Hb1,Hrd,Hat,Hq,Ht⟩:=hd6 ho hb1 hrd hat hq ht;clear ho hb1 hrd hat hq ht
   go_wp2_with fail
   go_ret
   exact⟨by rw[Ht.out];rfl,Hb1.out⟩
  have k0:((q:Int) == 0)=false:=by rw[beq_eq_false_iff_ne];omega
  have ht:zeb l=joinF F:=by unfold zeb;rw[if_neg (by rw[← Hok.out];simp),← HFF.out,if_neg (by rw[← hq];exact h0)]
  have hr0:w1.ownsRow w1.heap.size 9 1 (.slice none 0 0) 0 ((F.take 0).map fun s=>Value.string (zef s)):=World.ownsRow_nil _ _ _ _
  obtain⟨Ho,Hb1,Hrd,Hat,Hq,Ht,Hr0⟩:=hd7 ho hb1 hrd hat hq ht hr0;clear ho hb1 hrd hat hq ht hr0
  go_wp2_with fail
  go_loopw [5,22] (fun v i wr=>∃ k:Nat,k≤q∧i = .int .i64 k∧wr.ownsRow w1.heap.size 9 1 v k ((F.take k).map fun s=>Value.string (zef s))∧Below w1.heap.size w1 wr) (fun _ i _=>q - (RowKit.intOf i).toNat)
  case atStart=>exact⟨0,Nat.zero_le _,rfl,Hr0.out,Below.refl _ _⟩
  case round =>
   obtain⟨k,hk,rfl,hrow,hbr⟩:=hrel
   obtain⟨ra,rc,rfl⟩:=za9 hrow
   by_cases hlt:k < q
   ·have hkF:k < F.length:=by have:=Hq.out;omega
    obtain⟨y,hy⟩ : ∃ y,y=F[k]:=⟨_,rfl⟩
    obtain⟨b,off,rfl,c0,c1⟩:=Hat.out k y (by rw[hy];exact List.getElem?_eq_getElem hkF)
    have d0:=cell_later hbr c0
    have d1:=cell_later hbr c1
    have hys:=HFs.out y (by rw[hy];exact List.getElem_mem hkF)
    have hnext:=zo4 hkF
    rw[← hy] at hnext
    obtain⟨N,hN⟩ : ∃ N,N=(F.take k).map fun s=>Value.string (zef s):=⟨_,rfl⟩
    rw[← hN] at hrow hnext
    obtain⟨y1,y2⟩:=y
    have hba:Below wr.heap.size wr (wr.alloc (.cells #[.string y1,.string y2] 34)):=za1 _ _
    have hbw:=Hb1.out.trans ((hbr.trans (hba.mono hbr.size)).mono Hb1.out.size)
    have hT:=zfr y1 y2 (by have:=hys.1;simp only at this;omega) (by have:=hys.2;simp only at this;omega) (HD.out.below hbw)
    obtain⟨P,hP⟩ : ∃ P,P=txS y1 y2:=⟨_,rfl⟩
    rw[← hP] at hT
    have hPp:zef (y1,y2)=P:=hP.symm
    rw[hPp] at hnext
    have k5:(0:Int)≤(k:Int):=by omega
    have k6:(k:Int) < (q:Int):=by omega
    clear c0 c1
    obtain⟨Hrow,Hbr,Hy,Hys,Hnext,HN,Hba,Hbw,HT,HP,HPp⟩:=hd11 hrow hbr hy hys hnext hN hba hbw hT hP hPp;clear hrow hbr hy hys hnext hN hba hbw hT hP hPp
    go_wp2_with fail
    refine HT.out.mono ?_
    rintro e w5 ⟨rfl,hb5⟩
    have hb15:=Hbr.out.trans ((Hba.out.trans (hb5.mono Hba.out.size)).mono Hbr.out.size)
    have hrow5:=za6 (za6 Hrow.out Hba.out) hb5
    have hz5:=hb15.size
    obtain⟨Hb5,Hb15,Hrow5⟩:=hd3 hb5 hb15 hrow5;clear hb5 hb15 hrow5
    go_wp2_with (at_builtin;(refine zcm zdx rfl (.tmp 26) (.tmp 29) rfl w1.heap.size (.slice ra k rc) k N rfl Hrow5.out 1 #[.string P] rfl rfl (by simp[Value.oneCell']) (by omega) (by unfold maxLen;omega) (by omega) ?_;intro v9 w9 hown9 hg9 hm9;obtain⟨a9,c9,rfl⟩:=za9 hown9;have hb9:=(zai Hb15.out Hrow5.out (Nat.le_refl _) hg9 (by omega):Below w1.heap.size w1 w9);obtain⟨Hown9,Hb9⟩:=hd2 hown9 hb9;clear hown9 hg9 hm9 hb9))
    go_roundw
    case rel=>exact⟨k+1,by omega,by go_num,by rw[Hnext.out];exact Hown9.out,Hb9.out⟩
    case measure=>(simp[RowKit.intOf]) <;> omega
   obtain rfl:k=q:=by omega
   rw[List.take_of_length_le (Nat.le_of_eq Hq.out.symm)] at hrow
   obtain⟨gr,rc2,hra⟩ : ∃ g c,Value.slice ra k rc = .slice (some ⟨g,0,none⟩) k c:=by
    rcases hrow.2 with⟨h1,h2⟩ | ⟨g,cap,_,h1,_⟩
    ·omega
    exact⟨_,cap,h1⟩
   injection hra with hra _ hrc
   subst hra hrc
   have hJ:=Tryz.strings_Join gr 0 rc (F.map zef) ⟨#[44]⟩ wr (fun j x hj=>by
    have hjl:=(List.getElem?_eq_some_iff.1 hj).1
    have:=hrow.cells (g:=gr) rfl j (.string x) (by
     rw[List.getElem?_map] at hj ⊢
     obtain⟨z,hz,rfl⟩:=Option.map_eq_some_iff.1 hj
     rw[hz];rfl)
    rw[Addr.add_lit] at this
    exact this) (hrow.lt gr rfl).2 (by rw[List.length_map];have:=Hq.out;omega) (by
     rw[List.length_map,← Hq.out]
     rcases hrow.2 with⟨e0,_⟩ | ⟨g',cap',cur,e0,_,_,hn9,_⟩
     ·cases e0
     injection e0 with _ _ e3
     omega) (zr6 HFs.out (by have:=Hq.out;omega))
   rw[List.length_map,← Hq.out] at hJ
   have hbw:=Hb1.out.trans (hbr.mono Hb1.out.size)
   obtain⟨T,hT⟩ : ∃ T,T=joinF F:=⟨_,rfl⟩
   have hJ2:Calls Tryz.prog 58 #[.slice (some ⟨gr,0,none⟩) k rc,.string ⟨#[44]⟩] wr fun e w'=>e = .returned (.string T)∧Below wr.heap.size wr w':=by rw[hT];exact hJ
   clear hJ
   obtain⟨Hrow,Hbr,Hbw,HT,HJ2⟩:=hd5 hrow hbr hbw hT hJ2;clear hrow hbr hbw hT hJ2
   go_wp2_with fail
   refine HJ2.out.mono ?_
   rintro e w6 ⟨rfl,hb6⟩
   have Hb6:=hd hb6;clear hb6
   go_wp2_with fail
   go_ret
   exact⟨by rw[Ht.out,← HT.out];rfl,Hbw.out.trans (Hb6.out.mono Hbw.out.size)⟩
end

section
open Go.RowKit Go.Lib VerN
set_option linter.unusedSimpArgs false
end

section
open Go.Shelf Go.RowKit Go.Lib Go.Sort SortM VerN
instance:Inhabited Tp:=⟨⟨(⟨#[]⟩,⟨#[]⟩),by decide⟩⟩
end

section
open Go.RowKit Go.Lib VerN
end

section
open SortM
end

section
open Go.Shelf Go.RowKit Go.Lib Go.Sort SortM VerN
structure Left (l L:List Tp):Prop where
 may:mayT L
 cov:∀ p,covT L p↔covT l p
 len:L.length≤l.length
theorem Left.step {l L M:List Tp} (h:Left l L) (hs:MStep L M):Left l M∧M.length < L.length:=by
 obtain⟨h1,h2,h3⟩:=zqd h.may hs
 exact⟨⟨h1,fun p=>(h2 p).trans (h.cov p),by have:=h.len;omega⟩,by omega⟩
end

section
open Go.RowKit Go.Shelf Go.Lib VerN
attribute [local go_sem] Oper.semAt_some
def zj5 (pre:List ByteArray):List Value:=pre.flatMap fun p=>zay (spV p)
theorem zqk (pre:List ByteArray) (x:ByteArray):zj5 (pre ++ [x])=zj5 pre ++ zay (spV x):=by simp[zj5]
theorem zm8 (pre:List ByteArray):zj5 pre=(pre.map spV).flatMap zay:=by rw[List.flatMap_map];rfl
structure SI (w W:World) (pre:List ByteArray):Prop where
 bel:Below w.heap.size w W
 r2:W.heap[w.heap.size]? = some (.cells #[.slice none 0 0] 23 (0,0))
 r3:W.heap[w.heap.size+1]? = some (.cells #[.bool false] 4 (0,0))
 out:∃ v,W.heap[w.heap.size+1+1]? = some (.cells #[v] 23 (0,0))∧W.ownsRow (w.heap.size+6) 34 2 v pre.length (zj5 pre)
 ok:∀ p∈pre,spOk p.data.toList=true
structure SX (w W:World) (pre:List ByteArray):Prop where
 bel:Below w.heap.size w W
 r2:W.heap[w.heap.size]? = some (.cells #[.slice none 0 0] 23 (0,0))
 r3:W.heap[w.heap.size+1]? = some (.cells #[.bool false] 4 (0,0))
 bad:∃ p∈pre,spOk p.data.toList=false
theorem SI.own {w:World} {B:Nat} (hB:w.heap.size+6≤B):OwnFrom B (fun (pre:List ByteArray) W=>SI w W pre):=by
 rintro pre W W' row h hg hr
 have hr':∀ r,row=some r→B≤r:=fun r e=>(hr r e).1
 obtain⟨v,hv,hrow⟩:=h.out
 refine⟨h.bel.grown hg h.bel.size (fun k e=>by have:=hr' k e;omega),zcy hg hr' (by omega) h.r2,zcy hg hr' (by omega) h.r3,⟨v,zcy hg hr' (by omega) hv,hrow.kept hg ?_⟩,h.ok⟩
 rcases hrow.2 with⟨rfl,_⟩ | ⟨g,cap,cur,rfl,_,hgb,_⟩
 ·exact .inl rfl
 refine .inr fun e'=>?_
 obtain⟨_,o,ho,hc⟩:=hr g (by simpa [Value.ownBlock] using e'.symm)
 rw[hgb] at ho
 cases ho
 cases hc
theorem SX.own {w:World} {B:Nat} (hB:w.heap.size+6≤B):OwnFrom B (fun (pre:List ByteArray) W=>SX w W pre):=by
 rintro pre W W' row h hg hr
 have hr':∀ r,row=some r→B≤r:=fun r e=>(hr r e).1
 exact⟨h.bel.grown hg h.bel.size (fun k e=>by have:=hr' k e;omega),zcy hg hr' (by omega) h.r2,zcy hg hr' (by omega) h.r3,h.bad⟩
theorem SI.lets (w:World):Lets (w.heap.size+1+1+1) (fun (pre:List ByteArray) W=>SI w W pre):=by
 rintro pre W i u h
 obtain⟨v,hv,hrow⟩:=h.out
 exact⟨h.bel.setCell (p:=⟨w.heap.size+1+1+1,i,none⟩) (by show w.heap.size≤w.heap.size+1+1+1;omega) _,zaa h.r2 (by omega),zaa h.r3 (by omega),⟨v,zaa hv (by omega),zeh hrow (by omega) i u⟩,h.ok⟩
theorem SX.lets (w:World):Lets (w.heap.size+1+1+1) (fun (pre:List ByteArray) W=>SX w W pre):=by
 rintro pre W i u h
 exact⟨h.bel.setCell (p:=⟨w.heap.size+1+1+1,i,none⟩) (by show w.heap.size≤w.heap.size+1+1+1;omega) _,zaa h.r2 (by omega),zaa h.r3 (by omega),h.bad⟩
theorem SI.size {w W:World} {pre:List ByteArray} (h:SI w W pre) (hs:w.heap.size+6≤W.heap.size):∀ k,sb w k→k < W.heap.size:=by
 rintro k (rfl | rfl | rfl) <;> omega
theorem SI.add {w W W3 w1:World} {pre:List ByteArray} {x:ByteArray} {tmp:Obj} {B:Nat} (h:SI w W pre) (hs:w.heap.size+6≤W.heap.size) (hb:Below W.heap.size W W3) {v v':Value}
  (hv:W.heap[w.heap.size+1+1]? = some (.cells #[v] 23 (0,0))) (hrow:W.ownsRow (w.heap.size+6) 34 2 v pre.length (zj5 pre))
  (hown:w1.ownsRow (w.heap.size+6) 34 2 v' (pre.length+1) (zj5 pre ++ zay (spV x))) (hg:(W3.alloc tmp).grownBy w1 v.ownBlock) (hx:spOk x.data.toList=true) :
  KeepsFrom B W (w1.setCell ⟨w.heap.size+1+1,0,none⟩ v')∧zf7 (sb w) W (w1.setCell ⟨w.heap.size+1+1,0,none⟩ v')∧SI w (w1.setCell ⟨w.heap.size+1+1,0,none⟩ v') (pre ++ [x])∧w1.heap[w.heap.size+1+1]? = some (.cells #[v] 23 (0,0))∧w.heap.size+6≤(w1.setCell ⟨w.heap.size+1+1,0,none⟩ v').heap.size:=by
 have hb3:Below W.heap.size W (W3.alloc tmp):=hb.alloc hb.size _
 have hrow3:(W3.alloc tmp).ownsRow (w.heap.size+6) 34 2 v pre.length (zj5 pre):=za6 hrow hb3
 have old:∀ {k:Nat} {o:Obj},k < w.heap.size+6→W.heap[k]? = some o→w1.heap[k]? = some o:=fun {k o} hk ho =>
  (hg.block k (by have:=hb3.size;have:=(Array.getElem?_eq_some_iff.1 ho).1;omega) (fun e=>by have:=(hrow3.lt k e.symm).1;omega)).trans (za0 hb3 ho)
 refine⟨?_,?_,⟨?_,zaa (old (by omega) h.r2) (by omega),zaa (old (by omega) h.r3) (by omega),⟨v',heap_setCell_same _ _ 0 _ _ _ (old (by omega) hv),?_⟩,?_⟩,old (by omega) hv,by have:=hg.size;have:=hb3.size;simp[World.setCell];omega⟩
 ·have k1:KeepsFrom B W (W3.alloc tmp):=zdi hb3
  have k2:KeepsFrom B (W3.alloc tmp) w1:=⟨hg.size,fun k o _ hk hc=>(hg.block k (Array.getElem?_eq_some_iff.1 hk).1 (fun e=>by
   obtain⟨cs,hcs⟩:=zbt hrow3 k e.symm
   rw[hcs] at hk
   cases hk
   cases hc)).trans hk⟩
  exact (k1.trans k2).trans ((KeepsOthers.setCell _ _ _).from B)
 ·intro k hk
  have hlt:=h.size hs k hk
  have hlt6:k < w.heap.size+6:=by rcases hk with rfl | rfl | rfl <;> omega
  have hne:k≠w.heap.size+1+1:=by rcases hk with h | h | h <;> omega
  rw[Below.heap_setCell _ _ _ _ hne]
  cases ho:W.heap[k]? with
  | none=>exact absurd ho (by rw[Array.getElem?_eq_getElem hlt];simp)
  | some o=>exact old hlt6 ho
 ·exact ((h.bel.trans (hb3.mono h.bel.size)).grown hg (by have:=hb3.size;have:=h.bel.size;omega) (fun k e=>by have:=(hrow3.lt k e).1;omega)).setCell (p:=⟨w.heap.size+1+1,0,none⟩) (by show w.heap.size≤w.heap.size+1+1;omega) _
 ·rw[zqk,List.length_append]
  exact zeh hown (by omega) 0 v'
 intro p hp
 rcases List.mem_append.1 hp with hp | hp
 ·exact h.ok p hp
 rw[List.mem_singleton] at hp;subst hp;exact hx
theorem SI.no {w W W3:World} {pre:List ByteArray} {x:ByteArray} {B:Nat} (h:SI w W pre) (hs:w.heap.size+6≤W.heap.size) (hb:Below W.heap.size W W3) (hx:spOk x.data.toList=false) :
  KeepsFrom B W ((W3.setCell ⟨w.heap.size,0,none⟩ (.slice none 0 0)).setCell ⟨w.heap.size+1,0,none⟩ (.bool false))∧SX w ((W3.setCell ⟨w.heap.size,0,none⟩ (.slice none 0 0)).setCell ⟨w.heap.size+1,0,none⟩ (.bool false)) (pre ++ [x]):=by
 refine⟨((zdi hb).trans ((KeepsOthers.setCell _ _ _).from B)).trans ((KeepsOthers.setCell _ _ _).from B),?_,?_,?_,?_⟩
 ·exact (((h.bel.trans (hb.mono h.bel.size)).setCell (p:=⟨w.heap.size,0,none⟩) (Nat.le_refl _) _).setCell (p:=⟨w.heap.size+1,0,none⟩) (by show w.heap.size≤w.heap.size+1;omega) _)
 ·exact zaa (heap_setCell_same _ _ 0 _ _ _ (za0 hb h.r2)) (by omega)
 ·exact heap_setCell_same _ _ 0 _ _ _ (zaa (za0 hb h.r3) (by omega))
 exact⟨x,by simp,hx⟩
def rdSp (t:ByteArray):List BSp:=(cutS 44 t).map spV
theorem spV_size (s:ByteArray):(spV s).1.size≤s.size∧(spV s).2.size≤s.size:=by
 have h:=zjk s
 have e:∀ l:List UInt8,(⟨l.toArray⟩ : ByteArray).size=l.length:=fun l=>rfl
 unfold spV spB
 split
 ·split
  ·exact⟨by rw[e];exact h.1,by rw[e];exact h.2⟩
  exact⟨by rw[e];exact h.1,by rw[e];exact h.1⟩
 exact⟨Nat.zero_le _,Nat.zero_le _⟩
theorem spV_small {p:ByteArray} (h:spOk p.data.toList=true):(spV p).1.size≤40∧(spV p).2.size≤40:=by
 have hm:mayS (spO p.data.toList)=true:=by
  have h2:=h
  unfold spOk at h2
  simp only[Bool.and_eq_true] at h2
  exact h2.1
 have h1:=zco.1 hm
 have b40:∀ x:ByteArray,zcl x.data.toList=true→x.size≤40:=fun x hx=>by
  rw[← Txt.len]
  rcases bound_iff.1 hx with h | h
  ·rw[h];simp
  exact ((zfe _).1 h).2.1
 rw[← zkv p] at h1
 unfold spV
 rw[if_pos h]
 exact⟨b40 _ h1.1,b40 _ h1.2.1⟩
theorem rd_ok (t:ByteArray) (hok:∀ p∈cutS 44 t,spOk p.data.toList=true):∃ l:List Tp,tB l=rdSp t:=by
 have hs:∀ s∈cutS 44 t,(spV s).1.size≤9000∧(spV s).2.size≤9000:=fun s h=>by
  have h1:=spV_small (hok s h)
  omega
 refine⟨(cutS 44 t).pmap (fun s h=>(⟨spV s,h⟩ : Tp)) hs,?_⟩
 unfold rdSp tB
 rw[List.map_pmap]
 simp
theorem lit2 (w:World) (x y:Value) (t:TypeId) {n:Nat} (hn:w.heap.size=n):∀ j u,[x,y][j]? = some u→(w.alloc (.cells #[x,y] t)).cell? ((⟨n,0,none⟩ : Addr).add j)=some u:=by
 intro j u hu
 subst hn
 rw[Addr.add_lit,Nat.zero_add,World.cell?_alloc_new]
 simpa using hu
def RdPost (t:ByteArray) (w:World) (e:Ending) (w':World):Prop :=
 ((∃ v,e = .returned (.tuple #[v,.bool true])∧((t=⟨#[33]⟩∧v = .slice none 0 0)∨(t≠⟨#[33]⟩∧(∀ p∈cutS 44 t,spOk p.data.toList=true)∧(∀ l,tB l=rdSp t→zeb l=t)∧w'.ownsRow w.heap.size 34 2 v (rdSp t).length ((rdSp t).flatMap zay)))) ∨
  (e = .returned (.tuple #[.slice none 0 0,.bool false])∧t≠⟨#[33]⟩∧((∃ p∈cutS 44 t,spOk p.data.toList=false)∨∀ l,tB l=rdSp t→zeb l≠t)))∧Below w.heap.size w w'
theorem info_span:(Tryz.prog.info? 34).map (fun i=>(i.zero,i.size,i.bytes))=some (some (.agg #[.string ⟨#[]⟩,.string ⟨#[]⟩]),2,32):=by kernel_rfl
theorem znn (s:ByteArray) (hs:s.size≤70000) {w:World} (hD:zbz w):Calls Tryz.prog 16 #[.string s] w (RdPost s w):=by
 refine (callsIn_wide (n:=8)).1 ?_
 refine callsIn_of_wp_marks Tryz.func16 rfl trivial ?_ rfl
 simp only[Tryz.ntmps16,List.size_toArray,List.length_cons,List.length_nil,Nat.reduceAdd,Nat.reduceSub,Array.replicate_succ,Array.replicate_zero,List.push_toArray,List.append_toArray,List.nil_append,List.cons_append]
 have e33:(⟨#[33]⟩ : ByteArray).toList = [33]:=by rw[Lib.toList_data]
 by_cases h0:s=⟨#[33]⟩
 ·have k1:(s.toList == [33])=true:=by rw[← e33,Txt.eq_dec,decide_eq_true h0]
  clear e33
  obtain⟨HD,H0⟩:=hd2 hD h0;clear hD h0
  gi_wp2
  refine⟨_,zby rfl rfl rfl (za0 (za1 _ _) (za0 (za1 _ _) (zag rfl))) (za0 (za1 _ _) (zag (by simp))) (Tryz.isAgg23 _) (Tryz.isAgg4 _),?_⟩
  exact⟨.inl ⟨_,rfl,.inl ⟨H0.out,rfl⟩⟩,(((Below.refl _ w).alloc (Nat.le_refl _) _).alloc (by simp) _).alloc (by simp;omega) _⟩
 have k1:(s.toList == [33])=false:=by rw[← e33,Txt.eq_dec,decide_eq_false h0]
 clear e33
 have hq:=zhw s 44 (((w.alloc (.cells #[.slice none 0 0] 23)).alloc (.cells #[.bool false] 4)).alloc (.cells #[.slice none 0 0] 23))
 obtain⟨Hq,HD,H0⟩:=hd3 hq hD h0;clear hq hD h0
 gi_wp2
 refine⟨trivial,(callsIn_wide.2 Hq.out).mono ?_⟩
 rintro e w2 ⟨rfl,rfl⟩
 gi_wp2
 have hsb:SBox (w.heap.size+1+1+1) (w.heap.size+1+1+1+1) (w.heap.size+1+1+1+1+1) 44 s ((((((w.alloc (.cells #[.slice none 0 0] 23)).alloc (.cells #[.bool false] 4)).alloc (.cells #[.slice none 0 0] 23)).alloc (.cells #[.string s] 9)).alloc (.cells #[.string ⟨#[44]⟩] 9)).alloc (.cells #[.int .i64 0] 3)):=by
  have a1:=zag (w:=(((w.alloc (.cells #[.slice none 0 0] 23)).alloc (.cells #[.bool false] 4)).alloc (.cells #[.slice none 0 0] 23))) (o:=.cells #[.string s] 9) (n:=w.heap.size+1+1+1) (by simp)
  have a2:=zag (w:=((((w.alloc (.cells #[.slice none 0 0] 23)).alloc (.cells #[.bool false] 4)).alloc (.cells #[.slice none 0 0] 23)).alloc (.cells #[.string s] 9))) (o:=.cells #[.string ⟨#[44]⟩] 9) (n:=w.heap.size+1+1+1+1) (by simp)
  have a3:=zag (w:=(((((w.alloc (.cells #[.slice none 0 0] 23)).alloc (.cells #[.bool false] 4)).alloc (.cells #[.slice none 0 0] 23)).alloc (.cells #[.string s] 9)).alloc (.cells #[.string ⟨#[44]⟩] 9))) (o:=.cells #[.int .i64 0] 3) (n:=w.heap.size+1+1+1+1+1) (by simp)
  exact⟨za0 (za1 _ _) (za0 (za1 _ _) a1),za0 (za1 _ _) a2,a3⟩
 obtain⟨W0,hW0⟩ : ∃ W0,W0=((((((w.alloc (.cells #[.slice none 0 0] 23)).alloc (.cells #[.bool false] 4)).alloc (.cells #[.slice none 0 0] 23)).alloc (.cells #[.string s] 9)).alloc (.cells #[.string ⟨#[44]⟩] 9)).alloc (.cells #[.int .i64 0] 3)):=⟨_,rfl⟩
 have hs0:W0.heap.size=w.heap.size+6:=by rw[hW0];simp
 rw[← hW0] at hsb ⊢
 have hSI:SI w W0 []:=by
  rw[hW0]
  have k1:∀ {w':World} {o:Obj} {k:Nat} {o':Obj},w'.heap[k]? = some o→(w'.alloc o').heap[k]? = some o:=fun h=>za0 (za1 _ _) h
  refine⟨(((((((Below.refl _ w).alloc (Nat.le_refl _) _).alloc (by simp) _).alloc (by simp;omega) _).alloc (by simp;omega) _).alloc (by simp;omega) _).alloc (by simp;omega) _),k1 (k1 (k1 (k1 (k1 (zag rfl))))),k1 (k1 (k1 (k1 (zag (by simp))))),⟨_,k1 (k1 (k1 (zag (by simp)))),World.ownsRow_nil _ _ _ _⟩,(fun p hp=>by cases hp)⟩
 have HW0:=hd hW0;clear hW0
 refine zgh rfl (by omega) (gf:=zmx) rfl trivial (enters_of Tryz.func167 (by kernel_rfl) rfl) (ziw 7 (by omega) _ _ _ 44 s (by omega) W0 (by omega) (by omega) (by omega) (by omega) (by omega) hsb)
  (fun k hk=>by rcases hk with h | h | h <;> omega) (by omega) (Below.refl _ _) rfl
  (fun pre W=>w.heap.size+6≤W.heap.size∧SI w W pre) (fun pre W=>w.heap.size+6≤W.heap.size∧SX w W pre) (OwnFrom.and (zew _) (SI.own (by omega))) (OwnFrom.and (zew _) (SX.own (by omega))) (fun pre W i u h=>⟨by simp[World.setCell];exact h.1,SI.lets w pre W i u h.2⟩) (fun pre W i u h=>⟨by simp[World.setCell];exact h.1,SX.lets w pre W i u h.2⟩) ⟨by omega,hSI⟩
  (fun x=>{ tmps:=#[.string s,undef,.pointer (some ⟨w.heap.size,0,none⟩),.pointer (some ⟨w.heap.size+1,0,none⟩),.pointer (some ⟨w.heap.size+1+1,0,none⟩),.string x,undef,undef,.string s,.bool false,.string s,
   .func (.func zmx) #[] #[.pointer (some ⟨w.heap.size+1+1+1+1,0,none⟩),.pointer (some ⟨w.heap.size+1+1+1,0,none⟩),.pointer (some ⟨w.heap.size+1+1+1+1+1,0,none⟩)],.string x,undef,undef,undef,undef,undef,undef,undef,undef,undef,undef,undef,undef,undef,undef,undef,undef],defers:=[] }) ?assign ?body ?done ?stop
 case assign =>
  intro l x W K hK
  gi_wp2
  exact hK
 case body =>
  rintro l pre x W ⟨hsz,h⟩ ⟨hx,hpx⟩
  obtain⟨v,hv,hrow⟩:=h.out
  obtain⟨a,cap,rfl⟩:=za9 hrow
  have hR:=zm0 x (by omega) (HD.out.below h.bel)
  obtain⟨b,hb⟩ : ∃ b,b=spOk x.data.toList:=⟨_,rfl⟩
  obtain⟨y1,hy1⟩ : ∃ y,y=(spV x).1:=⟨_,rfl⟩
  obtain⟨y2,hy2⟩ : ∃ y,y=(spV x).2:=⟨_,rfl⟩
  have c0:W.cell? ⟨w.heap.size+1+1,0,none⟩=some (.slice a pre.length cap):=za2 hv 0
  rw[← hb,← hy1,← hy2] at hR
  have hpl:pre.length≤70000:=by
   have h1:=hpx.length_le
   have h2:(cutS 44 s).length≤s.size+1:=by rw[zhd,← dlen s];exact (zll 44 _).2
   rw[List.length_append,List.length_singleton] at h1
   omega
  obtain⟨Hv,Hrow,HR,Hh,Hc0,Hx,Hpx,Hy1,Hy2⟩:=hd9 hv hrow hR h c0 hx hpx hy1 hy2;clear hv hrow hR h c0 hx hpx hy1 hy2
  gi_wp2
  refine⟨trivial,(CallsIn.inRound l (callsIn_wide.2 HR.out)).mono ?_⟩
  rintro e W2 ⟨rfl,hb2⟩
  have hb3:Below W.heap.size W (W2.alloc (.cells #[.string y1,.string y2] 34)):=hb2.alloc hb2.size _
  have r2:=za0 hb3 Hh.out.r2
  have r3:=za0 hb3 Hh.out.r3
  have d0:(W2.alloc (.cells #[.string y1,.string y2] 34)).cell? ⟨w.heap.size+1+1,0,none⟩=some (.slice a pre.length cap):=cell_later hb3 Hc0.out
  have d1:(W2.alloc (.cells #[.string y1,.string y2] 34)).cell? ⟨w.heap.size,0,none⟩=some (.slice none 0 0):=za2 r2 0
  have d2:(W2.alloc (.cells #[.string y1,.string y2] 34)).cell? ⟨w.heap.size+1,0,none⟩=some (.bool false):=za2 r3 0
  have f1:=za5 r2 0
  have f2:=za5 r3 0
  obtain⟨Hb2,Hb3,Hr2,Hr3,Hb⟩:=hd5 hb2 hb3 r2 r3 hb;clear hb2 hb3 r2 r3 hb
  clear Hq
  cases b with
  | false =>
   have hno:=Hh.out.no (B:=W0.heap.size) hsz Hb3.out Hb.out.symm
   have hs3:w.heap.size+6≤(((W2.alloc (.cells #[.string y1,.string y2] 34)).setCell ⟨w.heap.size,0,none⟩ (.slice none 0 0)).setCell ⟨w.heap.size+1,0,none⟩ (.bool false)).heap.size:=by have:=Hb3.out.size;simp[World.setCell] at this ⊢;omega
   have Hno:=hd hno;clear hno
   gi_wp2
   exact⟨Hno.out.1,hs3,Hno.out.2⟩
  | true =>
   have hrow3:=za6 Hrow.out Hb3.out
   obtain⟨i0,hi,hz0,hz1,hz2⟩:=info_parts info_span
   have hadd:=fun (w1:World) (v':Value)=>Hh.out.add (B:=W0.heap.size) hsz Hb3.out Hv.out Hrow.out (w1:=w1) (v':=v') (x:=x) (tmp:=.cells #[.string y1,.string y2] 34)
   have hsp:zay (spV x) = [.string y1,.string y2]:=by rw[Hy1.out,Hy2.out];rfl
   rw[hsp] at hadd
   have hz9:w.heap.size+6≤(W2.alloc (.cells #[.string y1,.string y2] 34)).heap.size:=by have:=Hb3.out.size;omega
   have g1:pre.length+1≤maxLen:=by unfold maxLen;omega
   have g2:(pre.length+1) * 32≤140737488355328:=by omega
   have g3:w.heap.size+6≤((W2.alloc (.cells #[.string y1,.string y2] 34)).alloc (.cells #[.string y1,.string y2] 34)).heap.size:=by simp at hz9 ⊢;omega
   have g4:=lit2 (W2.alloc (.cells #[.string y1,.string y2] 34)) (.string y1) (.string y2) 34 (n:=W2.heap.size+1) (by simp)
   have g5:∀ u∈[Value.string y1,.string y2],u.oneCell'=true:=by simp[Value.oneCell']
   obtain⟨Hrow3,Hsp,Hadd,Hz9,Hg1,Hg2,Hg3,Hg4,Hg5⟩:=hd9 hrow3 hsp hadd hz9 g1 g2 g3 g4 g5;clear hrow3 hsp hadd hz9 g1 g2 g3 g4 g5
   gi_wp2_with (gi_at_builtin;refine wpListIn_append_own _ rfl _ _ 23 rfl (w.heap.size+6) 34 i0 (.agg #[.string ⟨#[]⟩,.string ⟨#[]⟩]) 2 32 Tryz.underlying23 hi hz0 hz1 hz2 rfl (by decide) _ _ _ rfl (Hrow3.out.alloc _) ⟨W2.heap.size+1,0,none⟩ 1 1 [.string y1,.string y2] rfl rfl Hg4.out Hg5.out Hg1.out Hg2.out Hg3.out ?_;intro v' w1 hown' hgrow _;obtain⟨g',cap',rfl⟩:=ownsRow_succ hown';have hfin:=Hadd.out w1 _ hown' hgrow Hb.out.symm;clear hown' hgrow;refine Hid.out ?_)
   have e1:=za2 hfin.2.2.2.1 0
   have e2:=za5 hfin.2.2.2.1 0
   simp only[List.getElem?_toArray,List.getElem?_cons_zero] at e1
   have Hfin:=hd hfin;clear hfin
   refine Lib.hid ?_
   gi_wp2
   exact⟨Hfin.out.1,Hfin.out.2.1,Hfin.out.2.2.2.2,Hfin.out.2.2.1⟩
 case done =>
  rintro D ys W hD rfl ⟨hsz,h⟩ hK
  obtain⟨v,hv,hrow⟩:=h.out
  obtain⟨a,cap,rfl⟩:=za9 hrow
  have c0:W.cell? ⟨w.heap.size+1+1,0,none⟩=some (.slice a (cutS 44 s).length cap):=za2 hv 0
  obtain⟨l,hl⟩:=rd_ok s h.ok
  have hll:l.length=(cutS 44 s).length:=by have:=congrArg List.length hl;simpa [rdSp] using this
  have hn1:(cutS 44 s).length≤s.size+1:=by rw[zhd,← dlen s];exact (zll 44 _).2
  have hrl:(rdSp s).length=(cutS 44 s).length:=by simp[rdSp]
  have hrd:RSps W [.slice a (cutS 44 s).length cap] (tB l):=by
   rw[hl]
   refine zh4 (B:=w.heap.size+6) (fun x hx=>?_) ?_
   ·obtain⟨p,hp,rfl⟩:=List.mem_map.1 hx
    have h1:=zrc hp
    have h2:=spV_size p
    unfold maxLen;omega
   rw[hrl]
   have h3:=hrow
   rw[zm8] at h3
   exact h3
  have hT:=znm hrd (by omega) (HD.out.below h.bel)
  have hall:=h.ok
  have hinj:∀ l',tB l'=rdSp s→l'=l:=fun l' h'=>(List.map_inj_right fun _ _ e=>Subtype.ext e).1 (h'.trans hl.symm)
  obtain⟨T,hTT⟩ : ∃ T,T=zeb l:=⟨_,rfl⟩
  rw[← hTT] at hT
  have k2:(T.toList == s.toList)=decide (T=s):=Txt.eq_dec _ _
  by_cases htx:T=s
  ·have k3:(T.toList == s.toList)=true:=by rw[k2,decide_eq_true htx]
   clear k2
   obtain⟨Hv,Hrow,Hh,HT,Hall,Hinj,HTT,Htx,Hrd,Hl,Hll,Hrl⟩:=hd12 hv hrow h hT hall hinj hTT htx hrd hl hll hrl;clear hv hrow h hT hall hinj hTT htx hrd hl hll hrl
   gi_wp2
   refine⟨trivial,(callsIn_wide.2 HT.out).mono ?_⟩
   rintro e W5 ⟨rfl,hb5⟩
   have r2:=za0 hb5 Hh.out.r2
   have r3:=za0 hb5 Hh.out.r3
   have hK5:=za0 hb5 hK
   have c5:=cell_later hb5 c0
   have hrow5:=za6 Hrow.out hb5
   have c1:=za2 r2 0
   have c2:=za2 r3 0
   have f1:=za5 r2 0
   have f2:=za5 r3 0
   simp only[List.getElem?_toArray,List.getElem?_cons_zero] at c1 c2
   obtain⟨Hb5,Hr2,Hr3,Hrow5⟩:=hd4 hb5 r2 r3 hrow5;clear hb5 r2 r3 hrow5
   gi_wp2
   have hK2:((W5.setCell ⟨w.heap.size,0,none⟩ (.slice a (cutS 44 s).length cap)).setCell ⟨w.heap.size+1,0,none⟩ (.bool true)).heap[D]? = some (.deferred (some [])):=zaa (zaa hK5 (by omega)) (by omega)
   have x1:=zaa (b:=w.heap.size+1) (i:=0) (u:=.bool true) (heap_setCell_same W5 w.heap.size 0 _ _ (.slice a (cutS 44 s).length cap) Hr2.out) (by omega)
   have x2:=heap_setCell_same _ (w.heap.size+1) 0 _ _ (.bool true) (zaa (b:=w.heap.size) (i:=0) (u:=.slice a (cutS 44 s).length cap) Hr3.out (by omega))
   have hb9:Below w.heap.size w ((W5.setCell ⟨w.heap.size,0,none⟩ (.slice a (cutS 44 s).length cap)).setCell ⟨w.heap.size+1,0,none⟩ (.bool true)):=((Hh.out.bel.trans (Hb5.out.mono Hh.out.bel.size)).setCell (p:=⟨w.heap.size,0,none⟩) (Nat.le_refl _) _).setCell (p:=⟨w.heap.size+1,0,none⟩) (by show w.heap.size≤w.heap.size+1;omega) _
   have ho:((W5.setCell ⟨w.heap.size,0,none⟩ (.slice a (cutS 44 s).length cap)).setCell ⟨w.heap.size+1,0,none⟩ (.bool true)).ownsRow (w.heap.size+6) 34 2 (.slice a (cutS 44 s).length cap) (cutS 44 s).length (zj5 (cutS 44 s)):=zeh (zeh Hrow5.out (p:=w.heap.size) (by omega) 0 (.slice a (cutS 44 s).length cap)) (p:=w.heap.size+1) (by omega) 0 (.bool true)
   refine⟨by simp,.inl ⟨_,_,rfl,run_takeDeferred hK2,?_⟩⟩
   refine⟨_,zby rfl rfl rfl ((World.putObj_heap_other (by omega)).trans x1) ((World.putObj_heap_other (by omega)).trans x2) (Tryz.isAgg23 _) (Tryz.isAgg4 _),?_⟩
   refine⟨.inl ⟨_,rfl,.inr ⟨H0.out,Hall.out,fun l' h'=>by rw[Hinj.out l' h',← HTT.out,Htx.out],?_⟩⟩,hb9.trans (belowK_b (w:=w) (Nat.le_refl _) _ D _ _ (by omega) hK2 rfl rfl)⟩
   have e9:(rdSp s).flatMap zay=zj5 (cutS 44 s):=(zm8 _).symm
   rw[e9,Hrl.out]
   exact zfx (ownsRow_putObj ho _ hK2 rfl) (by omega)
  have k3:(T.toList == s.toList)=false:=by rw[k2,decide_eq_false htx]
  clear k2
  obtain⟨Hv,Hrow,Hh,HT,Hall,Hinj,HTT,Htx,Hrd,Hl,Hll,Hrl⟩:=hd12 hv hrow h hT hall hinj hTT htx hrd hl hll hrl;clear hv hrow h hT hall hinj hTT htx hrd hl hll hrl
  gi_wp2
  refine⟨trivial,(callsIn_wide.2 HT.out).mono ?_⟩
  rintro e W5 ⟨rfl,hb5⟩
  have r2:=za0 hb5 Hh.out.r2
  have r3:=za0 hb5 Hh.out.r3
  have hK5:=za0 hb5 hK
  have c5:=cell_later hb5 c0
  have hrow5:=za6 Hrow.out hb5
  have c1:=za2 r2 0
  have c2:=za2 r3 0
  have f1:=za5 r2 0
  have f2:=za5 r3 0
  simp only[List.getElem?_toArray,List.getElem?_cons_zero] at c1 c2
  obtain⟨Hb5,Hr2,Hr3,Hrow5⟩:=hd4 hb5 r2 r3 hrow5;clear hb5 r2 r3 hrow5
  gi_wp2
  have hK2:((W5.setCell ⟨w.heap.size,0,none⟩ (.slice none 0 0)).setCell ⟨w.heap.size+1,0,none⟩ (.bool false)).heap[D]? = some (.deferred (some [])):=zaa (zaa hK5 (by omega)) (by omega)
  have x1:=zaa (b:=w.heap.size+1) (i:=0) (u:=.bool false) (heap_setCell_same W5 w.heap.size 0 _ _ (.slice none 0 0) Hr2.out) (by omega)
  have x2:=heap_setCell_same _ (w.heap.size+1) 0 _ _ (.bool false) (zaa (b:=w.heap.size) (i:=0) (u:=.slice none 0 0) Hr3.out (by omega))
  have hb9:Below w.heap.size w ((W5.setCell ⟨w.heap.size,0,none⟩ (.slice none 0 0)).setCell ⟨w.heap.size+1,0,none⟩ (.bool false)):=((Hh.out.bel.trans (Hb5.out.mono Hh.out.bel.size)).setCell (p:=⟨w.heap.size,0,none⟩) (Nat.le_refl _) _).setCell (p:=⟨w.heap.size+1,0,none⟩) (by show w.heap.size≤w.heap.size+1;omega) _
  have ho:((W5.setCell ⟨w.heap.size,0,none⟩ (.slice none 0 0)).setCell ⟨w.heap.size+1,0,none⟩ (.bool false)).ownsRow (w.heap.size+6) 34 2 (.slice a (cutS 44 s).length cap) (cutS 44 s).length (zj5 (cutS 44 s)):=zeh (zeh Hrow5.out (p:=w.heap.size) (by omega) 0 (.slice none 0 0)) (p:=w.heap.size+1) (by omega) 0 (.bool false)
  refine⟨by simp,.inl ⟨_,_,rfl,run_takeDeferred hK2,?_⟩⟩
  refine⟨_,zby rfl rfl rfl ((World.putObj_heap_other (by omega)).trans x1) ((World.putObj_heap_other (by omega)).trans x2) (Tryz.isAgg23 _) (Tryz.isAgg4 _),?_⟩
  refine⟨.inr ⟨rfl,H0.out,.inr fun l' h'=>by rw[Hinj.out l' h',← HTT.out];exact Htx.out⟩,hb9.trans (belowK_b (w:=w) (Nat.le_refl _) _ D _ _ (by omega) hK2 rfl rfl)⟩
 case stop =>
  rintro D pre W hD hpre ⟨hsz,h⟩ hK
  obtain⟨p,hp,hf⟩:=h.bad
  have hbad:∃ p∈cutS 44 s,spOk p.data.toList=false:=⟨p,hpre.subset hp,hf⟩
  have Hbad:=hd hbad;clear hbad
  gi_wp2
  refine⟨by simp,.inl ⟨_,_,rfl,run_takeDeferred hK,?_⟩⟩
  refine⟨_,zby rfl rfl rfl ((World.putObj_heap_other (by omega)).trans h.r2) ((World.putObj_heap_other (by omega)).trans h.r3) (Tryz.isAgg23 _) (Tryz.isAgg4 _),?_⟩
  exact⟨.inr ⟨rfl,H0.out,.inl Hbad.out⟩,h.bel.trans (belowK_b (w:=w) (Nat.le_refl _) _ D _ _ (by omega) hK rfl rfl)⟩
end

section
open Go.RowKit Go.Lib VerN
end

section
open Go.Lib VerN
end

section
open Go.Shelf Go.RowKit Go.Lib VerN
end

section
open Go.RowKit Go.Shelf
abbrev Setg:=ByteArray × ByteArray
def setCells (x:Setg):List Value:=[.string x.1,.string x.2]
theorem elem_set:Elem Tryz.prog 49 109 (.agg #[.string ⟨#[]⟩,.string ⟨#[]⟩]) 2 32:=⟨Tryz.underlying49,by kernel_rfl,rfl,by decide⟩
def RSet:Rd Setg:=fun _ cs x=>cs = [.string x.1,.string x.2]∧x.1.size≤maxLen∧x.2.size≤maxLen
theorem zbx:zgg RSet:=fun _ _ _ _ h _=>h
abbrev zfj:Rd (List Setg):=zb8 2 RSet
theorem zm6 (x:Setg):(setCells x).length=2:=rfl
theorem zrp (f:List Setg) (i:Nat) (h:i < f.length) (j:Nat) (hj:j < 2):(f.flatMap setCells)[i * 2+j]? = (setCells f[i])[j]?:=zii setCells 2 zm6 f i h j hj
theorem zd7 {w:World} {v:Value} {f:List Setg} (h:zfj w [v] f):∃ a c,v = .slice a f.length c:=by
 obtain⟨a,cap,hv,_⟩:=h
 simp only[List.cons.injEq,and_true] at hv
 exact⟨a,cap,hv⟩
theorem zkc {w:World} {B:Nat} {v:Value} {f:List Setg} (hw:∀ x∈f,x.1.size≤maxLen∧x.2.size≤maxLen) (h:w.ownsRow B 109 2 v f.length (f.flatMap setCells)):zfj w [v] f:=by
 obtain⟨a,cap,rfl,h1,h2,h3⟩:=Sl.of_owns h
 refine⟨a,cap,rfl,h1,h2,fun i x hi=>?_⟩
 have hil:=(List.getElem?_eq_some_iff.1 hi).1
 have hx:=(List.getElem?_eq_some_iff.1 hi).2
 have hc:∀ c,c < 2→∀ u,(setCells x)[c]? = some u→∃ b off,a=some ⟨b,off,none⟩∧w.cell? ⟨b,off+(i * 2+c),none⟩=some u:=fun c hc u hu=>h3 (i * 2+c) u (by rw[zrp f i hil c hc,hx];exact hu)
 obtain⟨b,off,ha,h4⟩:=hc 0 (by omega) _ rfl
 obtain⟨b',off',ha',h5⟩:=hc 1 (by omega) _ rfl
 rw[ha] at ha'
 cases ha'
 refine⟨b,off,setCells x,ha,rfl,fun j u hu=>?_,rfl,(hw x (List.mem_of_getElem? hi)).1,(hw x (List.mem_of_getElem? hi)).2⟩
 match j,hu with
 | 0,hu=>simp[setCells] at hu;subst hu;rw[← Nat.add_assoc] at h4;exact h4
 | 1,hu=>simp[setCells] at hu;subst hu;rw[← Nat.add_assoc] at h5;exact h5
theorem zf3 {w:World} {v:Value} {l:List Setg} (h:zfj w [v] l):∃ a cap,v = .slice a l.length cap∧l.length≤9223372036854775807∧∀ i x,l[i]? = some x→∃ b off,a=some ⟨b,off,none⟩∧w.cell? ⟨b,off+i * 2,none⟩=some (.string x.1)∧w.cell? ⟨b,off+i * 2+1,none⟩=some (.string x.2)∧x.1.size≤9223372036854775807∧x.2.size≤9223372036854775807:=by
 obtain⟨a,cap,hv,hcap,hmax,hel⟩:=h
 simp only[List.cons.injEq,and_true] at hv
 unfold maxLen at hmax
 refine⟨a,cap,hv,by omega,fun i x hi=>?_⟩
 obtain⟨b,off,ecs,h1,h2,h3,h4,h5,h6⟩:=hel i x hi
 subst h4
 unfold maxLen at h5 h6
 exact⟨b,off,h1,by simpa using h3 0 _ rfl,by simpa using h3 1 _ rfl,by omega,by omega⟩
end

section
open Go.RowKit Go.Shelf
def RSlT {α:Type} (sz:Nat) (R:Rd α) (e:TypeId) (W:World) (v:Value) (L:List α):Prop:=zb8 sz R W [v] L∧(L≠[]→∀ k,v.ownBlock=some k→∃ cs fr,W.heap[k]? = some (.cells cs e fr))
abbrev zg2:World→Value→List BSp→Prop:=RSlT 2 RSpn 34
abbrev zel:World→Value→List Setg→Prop:=RSlT 2 RSet 109
theorem RSlT.frm {α:Type} {sz:Nat} {R:Rd α} {e:TypeId} {W W':World} {v:Value} {L:List α} {T:Nat→Prop} (hR:∀ W W' cs x,R W cs x→R W' cs x) (h:RSlT sz R e W v L) (hF:Frm T W W') (hT:∀ k,T k→∀ cs fr,W.heap[k]?≠some (.cells cs e fr)):RSlT sz R e W' v L:=by
 obtain⟨⟨a,cap,hv,h1,h2,hel⟩,ht⟩:=h
 have hv':=hv
 simp only[List.cons.injEq,and_true] at hv'
 refine⟨⟨a,cap,hv,h1,h2,fun i x hi=>?_⟩,fun hL k hk=>?_⟩
 ·obtain⟨b,off,ecs,e1,e2,e3,e4⟩:=hel i x hi
  have hL:L≠[]:=by rintro rfl;simp at hi
  obtain⟨cs,fr,hb⟩:=ht hL b (by rw[hv',e1];rfl)
  have hbT:¬ T b:=fun k=>hT b k cs fr hb
  refine⟨b,off,ecs,e1,e2,fun j u hu=>?_,hR _ _ _ _ e4⟩
  have k:=e3 j u hu
  exact (hF.cell (p:=⟨b,off+i * sz+j,none⟩) (World.block_lt_of_cell? W _ k) hbT).trans k
 obtain⟨cs,fr,hb⟩:=ht hL k hk
 exact⟨cs,fr,zaf hb hF fun kT=>hT k kT cs fr hb⟩
theorem RSlT.below {α:Type} {sz:Nat} {R:Rd α} {e:TypeId} {W W':World} {v:Value} {L:List α} (hR:zgg R) (h:RSlT sz R e W v L) (hb:Below W.heap.size W W'):RSlT sz R e W' v L :=
 ⟨zam hR _ _ _ _ h.1 hb,fun hL k hk=>by obtain⟨cs,fr,h2⟩:=h.2 hL k hk;exact⟨cs,fr,za0 hb h2⟩⟩
theorem zdn {W W':World} {v:Value} {L:List BSp} (h:zg2 W v L) (hb:Below W.heap.size W W'):zg2 W' v L:=RSlT.below zbw h hb
theorem znr {W W':World} {v:Value} {L:List Setg} (h:zel W v L) (hb:Below W.heap.size W W'):zel W' v L:=RSlT.below zbx h hb
def No2 (W:World) (T:Nat→Prop):Prop:=∀ k,T k→∃ cs e fr,W.heap[k]? = some (.cells cs e fr)∧e≠34∧e≠109
theorem zi0 {W:World} {k:Nat} {cs:Array Value} {t:TypeId} {fr:Nat × Nat} (h:W.heap[k]? = some (.cells cs t fr)) (h1:t≠34) (h2:t≠109):∃ cs e fr,W.heap[k]? = some (.cells cs e fr)∧e≠34∧e≠109:=⟨_,_,_,h,h1,h2⟩
theorem zbr {W W':World} {T:Nat→Prop} {v:Value} {L:List BSp} (h:zg2 W v L) (hF:Frm T W W') (hT:No2 W T):zg2 W' v L :=
 RSlT.frm (fun _ _ _ _ h=>h) h hF fun k hk cs fr hc=>by
  obtain⟨cs',e,fr',h1,h2,_⟩:=hT k hk
  rw[hc] at h1
  cases h1
  exact h2 rfl
theorem zcn {W W':World} {T:Nat→Prop} {v:Value} {L:List Setg} (h:zel W v L) (hF:Frm T W W') (hT:No2 W T):zel W' v L :=
 RSlT.frm (fun _ _ _ _ h=>h) h hF fun k hk cs fr hc=>by
  obtain⟨cs',e,fr',h1,_,h2⟩:=hT k hk
  rw[hc] at h1
  cases h1
  exact h2 rfl
theorem spsT_nil {W:World} {v:Value} (h:RSps W [v] []):zg2 W v []:=⟨h,fun h=>absurd rfl h⟩
theorem setsT_nil {W:World} {v:Value} (h:zfj W [v] []):zel W v []:=⟨h,fun h=>absurd rfl h⟩
theorem zp4 {W:World} {B:Nat} {e:TypeId} {size:Nat} {v:Value} {n:Nat} {xs:List Value} (h:W.ownsRow B e size v n xs):∀ k,v.ownBlock=some k→∃ cs fr,W.heap[k]? = some (.cells cs e fr):=fun k hk=>by
 obtain⟨cs,hc⟩:=zbt h k hk
 exact⟨cs,(0,0),hc⟩
end

section
open Go.Shelf Go.RowKit Go.Lib VerN
def Rd3 (t:ByteArray):Prop:=t=⟨#[33]⟩∨((∀ p∈cutS 44 t,spOk p.data.toList=true)∧∀ l,tB l=rdSp t→zeb l=t)
def rdV (t:ByteArray):List BSp:=if t=⟨#[33]⟩ then [] else rdSp t
def znd (t:ByteArray) (w:World) (e:Ending) (w':World):Prop :=
 ((∃ v,e = .returned (.tuple #[v,.bool true])∧Rd3 t∧zg2 w' v (rdV t))∨(∃ v,e = .returned (.tuple #[v,.bool false])∧¬ Rd3 t∧RSps w' [v] []))∧Below w.heap.size w w'
end

namespace VarM
def letN (n:Nat):Bool:=decide (97≤n) && decide (n≤122)
def digN (n:Nat):Bool:=decide (48≤n) && decide (n≤57)
def okN (n:Nat):Bool:=letN n || digN n || decide (n=45)
abbrev Bs:=List UInt8
def okB (c:UInt8):Bool:=okN c.toNat
def digB (c:UInt8):Bool:=digN c.toNat
def zmu (l:Bs):Nat:=(l.headD 0).toNat
def ze1 (l:Bs):Bool:=l.all okB && (decide (0 < l.length) && (decide (l.length≤24) && letN (zmu l)))
def zpx (l:Bs):Bool:=l.all digB && decide (0 < l.length)
def zf2 (l:Bs):Bool:=ze1 l || (zpx l && decide (l.length≤3))
theorem all_succ {p:UInt8→Bool} {l:Bs} {k:Nat} (h:k < l.length) (h1:(l.take k).all p=true) (h2:p l[k]=true):(l.take (k+1)).all p=true:=by
 rw[List.take_succ_eq_append_getElem h,List.all_append,h1];simp[h2]
theorem all_no {p:UInt8→Bool} {l:Bs} {k:Nat} (h:k < l.length) (h2:p l[k]=false):l.all p=false:=by
 rw[Bool.eq_false_iff];intro h3
 have:=List.all_eq_true.1 h3 _ (List.getElem_mem h)
 rw[h2] at this;cases this
theorem name_no {l:Bs} (h:l.all okB=false):ze1 l=false:=by unfold ze1;rw[h];rfl
theorem name_all {l:Bs} (h:l.all okB=true):ze1 l=(decide (0 < l.length) && (decide (l.length≤24) && letN (zmu l))):=by unfold ze1;rw[h];rfl
theorem okN_let {n:Nat} (h:letN n=true):okN n=true:=by unfold okN;rw[h];rfl
theorem okN_dig {n:Nat} (h:digN n=true):okN n=true:=by unfold okN;rw[h];simp
theorem okN_no {n:Nat} (h1:letN n=false) (h2:digN n=false) (h3:n≠45):okN n=false:=by unfold okN;rw[h1,h2];simp[h3]
end VarM

section
open Go.RowKit
open VarM (letN digN okN okB digB ze1 zf2 zpx zmu)
theorem dl (s:ByteArray):s.data.toList.length=s.size:=by rw[Array.length_toList];rfl
theorem zki (n:Nat) (h:n < 256) (w:World):Calls Tryz.prog 186 #[.int .u8 (n:Int)] w fun e w'=>e = .returned (.bool (letN n))∧w=w':=by
 obtain⟨r,hr⟩ : ∃ r,r=letN n:=⟨_,rfl⟩
 rw[← hr]
 rcases Nat.lt_or_ge n 97 with h1 | h1
 ·have hf:r=false:=by rw[hr];unfold letN;rw[decide_eq_false (by omega)];rfl
  obtain⟨Hr,Hf⟩:=hd2 hr hf;clear hr hf
  go_enter Tryz.func186,Tryz.ntmps186
  go_wp2_with fail
  go_ret
  exact⟨zaw Hf.out.symm,rfl⟩
 rcases Nat.lt_or_ge 122 n with h2 | h2
 ·have hf:r=false:=by rw[hr];unfold letN;rw[decide_eq_false (p:=n≤122) (by omega)];simp
  have k2:decide ((n:Int)≤122)=false:=by simp;omega
  obtain⟨Hr,Hf⟩:=hd2 hr hf;clear hr hf
  go_enter Tryz.func186,Tryz.ntmps186
  go_wp2_with fail
  go_ret
  exact⟨zaw Hf.out.symm,rfl⟩
 have hf:r=true:=by rw[hr];unfold letN;rw[decide_eq_true h1,decide_eq_true h2];rfl
 have k2:decide ((n:Int)≤122)=true:=by simp;omega
 obtain⟨Hr,Hf⟩:=hd2 hr hf;clear hr hf
 go_enter Tryz.func186,Tryz.ntmps186
 go_wp2_with fail
 go_ret
 exact⟨zaw Hf.out.symm,rfl⟩
theorem zn1 (n:Nat) (h:n < 256) (w:World):Calls Tryz.prog 187 #[.int .u8 (n:Int)] w fun e w'=>e = .returned (.bool (digN n))∧w=w':=by
 obtain⟨r,hr⟩ : ∃ r,r=digN n:=⟨_,rfl⟩
 rw[← hr]
 rcases Nat.lt_or_ge n 48 with h1 | h1
 ·have hf:r=false:=by rw[hr];unfold digN;rw[decide_eq_false (by omega)];rfl
  obtain⟨Hr,Hf⟩:=hd2 hr hf;clear hr hf
  go_enter Tryz.func187,Tryz.ntmps187
  go_wp2_with fail
  go_ret
  exact⟨zaw Hf.out.symm,rfl⟩
 rcases Nat.lt_or_ge 57 n with h2 | h2
 ·have hf:r=false:=by rw[hr];unfold digN;rw[decide_eq_false (p:=n≤57) (by omega)];simp
  have k2:decide ((n:Int)≤57)=false:=by simp;omega
  obtain⟨Hr,Hf⟩:=hd2 hr hf;clear hr hf
  go_enter Tryz.func187,Tryz.ntmps187
  go_wp2_with fail
  go_ret
  exact⟨zaw Hf.out.symm,rfl⟩
 have hf:r=true:=by rw[hr];unfold digN;rw[decide_eq_true h1,decide_eq_true h2];rfl
 have k2:decide ((n:Int)≤57)=true:=by simp;omega
 obtain⟨Hr,Hf⟩:=hd2 hr hf;clear hr hf
 go_enter Tryz.func187,Tryz.ntmps187
 go_wp2_with fail
 go_ret
 exact⟨zaw Hf.out.symm,rfl⟩
theorem head_is (s:ByteArray) (h:0 < s.size):zmu s.data.toList=s[0].toNat:=by
 unfold zmu
 have e:s.data.toList=s[0] :: s.data.toList.drop 1:=by
  have:=List.drop_eq_getElem_cons (l:=s.data.toList) (i:=0) (by rw[dl];exact h)
  rw[List.drop_zero] at this
  exact this
 rw[e];rfl
theorem zih (s:ByteArray) (hs:s.size≤9223372036854775807) (w:World):Calls Tryz.prog 153 #[.string s] w fun e w'=>e = .returned (.bool (ze1 s.data.toList))∧w=w':=by
 obtain⟨l,hl⟩ : ∃ l,l=s.data.toList:=⟨_,rfl⟩
 have hln:l.length=s.size:=by rw[hl];exact dl s
 obtain⟨r,hr⟩ : ∃ r,r=ze1 l:=⟨_,rfl⟩
 rw[← hl,← hr]
 have hh:=head_is s
 rw[← hl] at hh
 obtain⟨Hl,Hln,Hr,Hh⟩:=hd4 hl hln hr hh;clear hl hln hr hh
 go_enter Tryz.func153,Tryz.ntmps153
 go_wp2_with fail
 go_loop [6] (fun i=>∃ k:Nat,k≤s.size∧i = .int .i64 k∧(l.take k).all okB=true) (fun i=>s.size - (intOf i).toNat)
 case atStart=>exact⟨0,Nat.zero_le _,rfl,by simp⟩
 case round =>
  obtain⟨k,hk,rfl,hall⟩:=hrel
  by_cases hlt:k < s.size
  ·have hkl:k < l.length:=by have:=Hln.out;omega
   obtain⟨n,hn⟩ : ∃ n,n=s[k].toNat:=⟨_,rfl⟩
   have hn256:n < 256:=by rw[hn];exact s[k].toNat_lt
   have hck:okB l[k]=okN n:=by
    have e:l[k]=s[k]:=by simp only[Hl.out];rfl
    unfold okB
    rw[e,hn]
   have hL:=fun W=>zki n hn256 W
   have hD:=fun W=>zn1 n hn256 W
   have hsk:s[k].toNat=n:=hn.symm
   have hyes:okN n=true→(l.take (k+1)).all okB=true:=fun h=>VarM.all_succ hkl hall (by rw[hck];exact h)
   have hno:okN n=false→r=false:=fun h=>by rw[Hr.out];exact VarM.name_no (VarM.all_no hkl (by rw[hck];exact h))
   clear hn hck
   clear hkl
   cases h1:letN n with
   | true =>
    have hnext:=hyes (VarM.okN_let h1)
    rw[h1] at hL
    obtain⟨Hall,HL,HD,Hyes,Hno,Hnext,H1⟩:=hd7 hall hL hD hyes hno hnext h1;clear hall hL hD hyes hno hnext h1
    go_wp2_with fail
    refine (HL.out _).mono ?_
    rintro e w1 ⟨rfl,rfl⟩
    go_wp2_with fail
    go_round
    case rel=>exact⟨k+1,by omega,by go_num,Hnext.out⟩
    case measure=>simp[intOf];omega
   | false =>
    rw[h1] at hL
    cases h2:digN n with
    | true =>
     have hnext:=hyes (VarM.okN_dig h2)
     rw[h2] at hD
     obtain⟨Hall,HL,HD,Hyes,Hno,Hnext,H1,H2⟩:=hd8 hall hL hD hyes hno hnext h1 h2;clear hall hL hD hyes hno hnext h1 h2
     go_wp2_with fail
     refine (HL.out _).mono ?_
     rintro e w1 ⟨rfl,rfl⟩
     go_wp2_with fail
     refine (HD.out _).mono ?_
     rintro e w1 ⟨rfl,rfl⟩
     go_wp2_with fail
     go_round
     case rel=>exact⟨k+1,by omega,by go_num,Hnext.out⟩
     case measure=>simp[intOf];omega
    | false =>
     rw[h2] at hD
     by_cases h3:n=45
     ·have hnext:=hyes (by unfold okN;simp[h3])
      have e3:((n:Int) != 45)=false:=by rw[h3];rfl
      obtain⟨Hall,HL,HD,Hyes,Hno,Hnext,H1,H2,H3⟩:=hd9 hall hL hD hyes hno hnext h1 h2 h3;clear hall hL hD hyes hno hnext h1 h2 h3
      go_wp2_with fail
      refine (HL.out _).mono ?_
      rintro e w1 ⟨rfl,rfl⟩
      go_wp2_with fail
      refine (HD.out _).mono ?_
      rintro e w1 ⟨rfl,rfl⟩
      go_wp2_with fail
      go_round
      case rel=>exact⟨k+1,by omega,by go_num,Hnext.out⟩
      case measure=>simp[intOf];omega
     have hf:=hno (VarM.okN_no h1 h2 h3)
     have e3:((n:Int) != 45)=true:=by rw[bne_iff_ne];omega
     obtain⟨Hall,HL,HD,Hyes,Hno,Hf,H1,H2,H3⟩:=hd9 hall hL hD hyes hno hf h1 h2 h3;clear hall hL hD hyes hno hf h1 h2 h3
     go_wp2_with fail
     refine (HL.out _).mono ?_
     rintro e w1 ⟨rfl,rfl⟩
     go_wp2_with fail
     refine (HD.out _).mono ?_
     rintro e w1 ⟨rfl,rfl⟩
     go_wp2_with fail
     go_ret
     exact⟨zaw Hf.out.symm,rfl⟩
  obtain rfl:k=s.size:=by omega
  have hall2:l.all okB=true:=by rw[List.take_of_length_le (by have:=Hln.out;omega)] at hall;exact hall
  have hrr:r=(decide (0 < s.size) && (decide (s.size≤24) && letN (zmu l))):=by rw[Hr.out,VarM.name_all hall2,Hln.out]
  by_cases h0:0 < s.size
  ·by_cases h24:s.size≤24
   ·have hf:r=letN (zmu l):=by rw[hrr,decide_eq_true h0,decide_eq_true h24];rfl
    rw[Hh.out h0] at hf
    obtain⟨n,hn⟩ : ∃ n,n=s[0].toNat:=⟨_,rfl⟩
    have hn256:n < 256:=by rw[hn];exact s[0].toNat_lt
    have hL:=fun W=>zki n hn256 W
    rw[← hn] at hf
    rw[← hf] at hL
    have hsk:s[0].toNat=n:=hn.symm
    have k1:(0:Int) < (s.size:Int):=by omega
    have k2:(s.size:Int)≤24:=by omega
    have k3:decide ((s.size:Int)≤24)=true:=by simpa using k2
    clear hn
    obtain⟨Hall,Hall2,Hrr,Hf,HL⟩:=hd5 hall hall2 hrr hf hL;clear hall hall2 hrr hf hL
    go_wp2_with fail
    refine (HL.out _).mono ?_
    rintro e w1 ⟨rfl,rfl⟩
    go_wp2_with fail
    go_ret
    exact⟨rfl,rfl⟩
   have hf:r=false:=by rw[hrr,decide_eq_false h24];simp
   have k2:(24:Int) < (s.size:Int):=by omega
   have k3:decide ((s.size:Int)≤24)=false:=by simpa using k2
   obtain⟨Hall,Hall2,Hrr,Hf⟩:=hd4 hall hall2 hrr hf;clear hall hall2 hrr hf
   go_wp2_with fail
   go_ret
   exact⟨zaw Hf.out.symm,rfl⟩
  have hf:r=false:=by rw[hrr,decide_eq_false h0];rfl
  have k2:s.size≤0:=by omega
  have k3:decide (0 < (s.size:Int))=false:=decide_eq_false (by omega)
  obtain⟨Hall,Hall2,Hrr,Hf⟩:=hd4 hall hall2 hrr hf;clear hall hall2 hrr hf
  go_wp2_with fail
  go_ret
  exact⟨zaw Hf.out.symm,rfl⟩
theorem zlt (s:ByteArray) (hs:s.size≤9223372036854775807) (w:World):Calls Tryz.prog 189 #[.string s] w fun e w'=>e = .returned (.bool (zf2 s.data.toList))∧w=w':=by
 have hN:=fun W=>zih s hs W
 obtain⟨l,hl⟩ : ∃ l,l=s.data.toList:=⟨_,rfl⟩
 have hln:l.length=s.size:=by rw[hl];exact dl s
 obtain⟨r,hr⟩ : ∃ r,r=zf2 l:=⟨_,rfl⟩
 rw[← hl] at hN
 rw[← hl,← hr]
 cases hq:ze1 l with
 | true =>
  rw[hq] at hN
  have hf:r=true:=by rw[hr];unfold zf2;rw[hq];rfl
  obtain⟨Hl,Hln,Hr,HN,Hf,Hq⟩:=hd6 hl hln hr hN hf hq;clear hl hln hr hN hf hq
  go_enter Tryz.func189,Tryz.ntmps189
  go_wp2_with fail
  refine (HN.out _).mono ?_
  rintro e w1 ⟨rfl,rfl⟩
  go_wp2_with fail
  go_ret
  exact⟨zaw Hf.out.symm,rfl⟩
 | false =>
  rw[hq] at hN
  have hv:r=(l.all digB && decide (0 < l.length) && decide (l.length≤3)):=by rw[hr];unfold zf2 zpx;rw[hq];rfl
  obtain⟨Hl,Hln,Hr,HN,Hv,Hq⟩:=hd6 hl hln hr hN hv hq;clear hl hln hr hN hv hq
  go_enter Tryz.func189,Tryz.ntmps189
  go_wp2_with fail
  refine (HN.out _).mono ?_
  rintro e w1 ⟨rfl,rfl⟩
  go_wp2_with fail
  go_loop [8] (fun i=>∃ k:Nat,k≤s.size∧i = .int .i64 k∧(l.take k).all digB=true) (fun i=>s.size - (intOf i).toNat)
  case atStart=>exact⟨0,Nat.zero_le _,rfl,by simp⟩
  case round =>
   obtain⟨k,hk,rfl,hall⟩:=hrel
   by_cases hlt:k < s.size
   ·have hkl:k < l.length:=by have:=Hln.out;omega
    obtain⟨n,hn⟩ : ∃ n,n=s[k].toNat:=⟨_,rfl⟩
    have hn256:n < 256:=by rw[hn];exact s[k].toNat_lt
    have hck:digB l[k]=digN n:=by
     have e:l[k]=s[k]:=by simp only[Hl.out];rfl
     unfold digB
     rw[e,hn]
    have hD:=fun W=>zn1 n hn256 W
    have hsk:s[k].toNat=n:=hn.symm
    have hyes:digN n=true→(l.take (k+1)).all digB=true:=fun h=>VarM.all_succ hkl hall (by rw[hck];exact h)
    have hno:digN n=false→r=false:=fun h=>by rw[Hv.out,VarM.all_no hkl (by rw[hck];exact h)];rfl
    clear hn hck
    clear hkl
    cases h2:digN n with
    | true =>
     have hnext:=hyes h2
     rw[h2] at hD
     obtain⟨Hall,HD,Hyes,Hno,Hnext,H2⟩:=hd6 hall hD hyes hno hnext h2;clear hall hD hyes hno hnext h2
     go_wp2_with fail
     refine (HD.out _).mono ?_
     rintro e w1 ⟨rfl,rfl⟩
     go_wp2_with fail
     go_round
     case rel=>exact⟨k+1,by omega,by go_num,Hnext.out⟩
     case measure=>simp[intOf];omega
    | false =>
     have hf:=hno h2
     rw[h2] at hD
     obtain⟨Hall,HD,Hyes,Hno,Hf,H2⟩:=hd6 hall hD hyes hno hf h2;clear hall hD hyes hno hf h2
     go_wp2_with fail
     refine (HD.out _).mono ?_
     rintro e w1 ⟨rfl,rfl⟩
     go_wp2_with fail
     go_ret
     exact⟨zaw Hf.out.symm,rfl⟩
   obtain rfl:k=s.size:=by omega
   have hall2:l.all digB=true:=by rw[List.take_of_length_le (by have:=Hln.out;omega)] at hall;exact hall
   have hrr:r=(decide (0 < s.size) && decide (s.size≤3)):=by rw[Hv.out,hall2,Hln.out];rfl
   by_cases h0:0 < s.size
   ·by_cases h3:s.size≤3
    ·have hf:r=true:=by rw[hrr,decide_eq_true h0,decide_eq_true h3];rfl
     have k1:(0:Int) < (s.size:Int):=by omega
     have k2:(s.size:Int)≤3:=by omega
     have k3:decide ((s.size:Int)≤3)=true:=by simpa using k2
     obtain⟨Hall,Hall2,Hrr,Hf⟩:=hd4 hall hall2 hrr hf;clear hall hall2 hrr hf
     go_wp2_with fail
     go_ret
     exact⟨zaw Hf.out.symm,rfl⟩
    have hf:r=false:=by rw[hrr,decide_eq_false h3];simp
    have k2:(3:Int) < (s.size:Int):=by omega
    have k3:decide ((s.size:Int)≤3)=false:=by simpa using k2
    obtain⟨Hall,Hall2,Hrr,Hf⟩:=hd4 hall hall2 hrr hf;clear hall hall2 hrr hf
    go_wp2_with fail
    go_ret
    exact⟨zaw Hf.out.symm,rfl⟩
   have hf:r=false:=by rw[hrr,decide_eq_false h0];rfl
   have k2:s.size≤0:=by omega
   have k3:decide (0 < (s.size:Int))=false:=decide_eq_false (by omega)
   obtain⟨Hall,Hall2,Hrr,Hf⟩:=hd4 hall hall2 hrr hf;clear hall hall2 hrr hf
   go_wp2_with fail
   go_ret
   exact⟨zaw Hf.out.symm,rfl⟩
theorem empty_iff (s:ByteArray):s.toList = []↔s.size=0:=by
 rw[Lib.toList_data,← dl]
 exact List.length_eq_zero_iff.symm
end

section
open Go.RowKit
open VarM (letN digN okN okB digB ze1 zf2 zpx zmu)
end

section
open Go.RowKit Go.Shelf VarM
attribute [local go_sem ↓] Go.wp_at_zero Go.wp_at_succ
theorem zev {P:Program} {f:FuncId} {args:Array Value} {w:World} {n:Nat} {v:Value}
  (h:Calls P f args (w.drewN n) fun e w'=>e = .returned v∧∃ q,w'=(w.drewN n).drewN q):Calls P f args (w.drewN n) fun e w''=>e = .returned v∧∃ m,w''=w.drewN m :=
 h.mono fun _ _ ⟨he,q,hq⟩=>⟨he,n+q,by rw[hq,World.drewN_drewN]⟩
def zgi (l:List Setg) (i:Nat):Bool:=match l[i]? with
 | none=>true
 | some x=>ze1 x.1.data.toList && zf2 x.2.data.toList && (decide (i=0) || Op.bytesLess (l.getD (i - 1) (⟨#[]⟩,⟨#[]⟩)).1.toList x.1.toList)
def ze7 (l:List Setg):Bool:=(List.range l.length).all (zgi l)
theorem wishAt_eq {l:List Setg} {i:Nat} (h:i < l.length):zgi l i=(ze1 l[i].1.data.toList && zf2 l[i].2.data.toList && (decide (i=0) || Op.bytesLess (l.getD (i - 1) (⟨#[]⟩,⟨#[]⟩)).1.toList l[i].1.toList)):=by
 unfold zgi
 rw[List.getElem?_eq_getElem h]
theorem wishIs_no {l:List Setg} {i:Nat} (h:i < l.length) (hi:zgi l i=false):ze7 l=false:=by
 unfold ze7
 rw[List.all_eq_false]
 exact⟨i,List.mem_range.2 h,by rw[hi];simp⟩
theorem zq7 {l:List Setg} (h:∀ i,i < l.length→zgi l i=true):ze7 l=true:=by
 unfold ze7
 rw[List.all_eq_true]
 exact fun i hi=>h i (List.mem_range.1 hi)
theorem zq8 {w:World} {v:Value} {l:List Setg} (h:zfj w [v] l):Calls Tryz.prog 209 #[v] w fun e w'=>e = .returned (.bool (ze7 l))∧Below w.heap.size w w':=by
 obtain⟨a,cap,rfl,hz,g⟩:=zf3 h
 obtain⟨n,hn⟩ : ∃ n,n=l.length:=⟨_,rfl⟩
 obtain⟨r,hr⟩ : ∃ r,r=ze7 l:=⟨_,rfl⟩
 rw[← hr]
 rw[← hn] at hz h ⊢
 obtain⟨Hh,Hg,Hn,Hr⟩:=hd4 h g hn hr;clear h g hn hr
 go_enter Tryz.func209,Tryz.ntmps209
 go_wp2_with fail
 go_loopw [7] (fun i wr=>∃ k:Nat,k≤n∧i = .int .i64 k∧(∀ j,j < k→zgi l j=true)∧Below w.heap.size w wr) (fun i _=>n - (intOf i).toNat)
 case atStart=>exact⟨0,Nat.zero_le _,rfl,fun _ h=>by omega,Below.refl _ _⟩
 case round =>
  obtain⟨k,hk,rfl,hno,hb⟩:=hrel
  by_cases hlt:k < n
  ·have hkl:k < l.length:=by have:=Hn.out;omega
   obtain⟨b,off,rfl,d0,d1,hs1,hs2⟩:=Hg.out k _ (List.getElem?_eq_getElem hkl)
   have hwa:=wishAt_eq hkl
   have hnx:zgi l k=true→∀ j,j < k+1→zgi l j=true:=fun h j hj=>by
    by_cases e:j=k
    ·rw[e];exact h
    exact hno j (by omega)
   have hbd:=fun (h:zgi l k=false)=>wishIs_no hkl h
   obtain⟨x,hx⟩ : ∃ x,x=l[k]:=⟨_,rfl⟩
   rw[← hx] at d0 d1 hs1 hs2 hwa
   obtain⟨s,hs⟩ : ∃ s,s=x.1:=⟨_,rfl⟩
   obtain⟨t,ht⟩ : ∃ s,s=x.2:=⟨_,rfl⟩
   rw[← hs] at d0 hs1 hwa
   rw[← ht] at d1 hs2 hwa
   have hN:=fun (W:World)=>(zih s hs1 W).mono (fun e w' (⟨he,hw⟩ : _∧W=w')=>(⟨he,0,hw.symm⟩ : e=_∧∃ m,w'=W.drewN m))
   have hV:=fun (W:World)=>(zlt t hs2 W).mono (fun e w' (⟨he,hw⟩ : _∧W=w')=>(⟨he,0,hw.symm⟩ : e=_∧∃ m,w'=W.drewN m))
   obtain⟨p1,hp1⟩ : ∃ p,p=ze1 s.data.toList:=⟨_,rfl⟩
   obtain⟨p2,hp2⟩ : ∃ p,p=zf2 t.data.toList:=⟨_,rfl⟩
   rw[← hp1] at hN hwa
   rw[← hp2] at hV hwa
   have e0:=cell_later hb d0
   have e1:=cell_later hb d1
   obtain⟨W1,hW1⟩ : ∃ W1,W1=wr.alloc (.cells #[.string s,.string t] 109):=⟨_,rfl⟩
   have hbn:Below wr.heap.size wr W1:=by rw[hW1];exact za1 _ _
   have hb1:=hb.trans (hbn.mono hb.size)
   obtain⟨D,hD⟩ : ∃ D,D=wr.heap.size:=⟨_,rfl⟩
   have hdb:W1.heap[D]? = some (.cells #[.string s,.string t] 109 (0,0)):=by rw[hW1,hD];exact heap_alloc_new _ _
   have f0:=za2 hdb 0
   have f1:=za2 hdb 1
   simp only[List.getElem?_toArray,List.getElem?_cons_zero,List.getElem?_cons_succ] at f0 f1
   have k5:(0:Int)≤(k:Int):=by omega
   have k6:(k:Int) < (n:Int):=by omega
   clear hx hs ht
   obtain⟨HN,HV,Hp1,Hp2,Hno,Hnx,Hbd,Hwa,Hb,Hbn,Hb1,Hdb⟩:=hd12 hN hV hp1 hp2 hno hnx hbd hwa hb hbn hb1 hdb;clear hN hV hp1 hp2 hno hnx hbd hwa hb hbn hb1 hdb
   go_upto_region 4 with (fail)
   rw[← hW1,← hD]
   obtain⟨HW1,HD⟩:=hd2 hW1 hD;clear hW1 hD
   clear e0 e1
   cases p1 with
   | false =>
    have hf:r=false:=by rw[Hr.out];exact Hbd.out (by rw[Hwa.out];rfl)
    have Hf:=hd hf;clear hf
    go_quiet (first | (go_at_call 153;exact zev (HN.out _)) | (go_at_call 189;exact zev (HV.out _)))
    go_wp2_with fail
    go_ret
    exact⟨zaw Hf.out.symm,zac Hb1.out _⟩
   | true =>
    cases p2 with
    | false =>
     have hf:r=false:=by rw[Hr.out];exact Hbd.out (by rw[Hwa.out];rfl)
     have Hf:=hd hf;clear hf
     go_quiet (first | (go_at_call 153;exact zev (HN.out _)) | (go_at_call 189;exact zev (HV.out _)))
     go_wp2_with fail
     go_ret
     exact⟨zaw Hf.out.symm,zac Hb1.out _⟩
    | true =>
     by_cases h0:0 < k
     ·obtain⟨k',rfl⟩ : ∃ k',k=k' + 1:=⟨k - 1,by omega⟩
      have hkl':k' < l.length:=by have:=Hn.out;omega
      obtain⟨b2,off2,e2,y0,_,_,_⟩:=Hg.out k' _ (List.getElem?_eq_getElem hkl')
      injection e2 with e2
      injection e2 with e3 e4
      subst e3 e4
      obtain⟨z,hz4⟩ : ∃ z,z=l[k'].1:=⟨_,rfl⟩
      rw[← hz4] at y0
      have y0:=cell_later Hb1.out y0
      have hwb:zgi l (k' + 1)=Op.bytesLess z.toList s.toList:=by rw[Hwa.out,hz4];simp[List.getD_eq_getElem?_getD,List.getElem?_eq_getElem hkl']
      obtain⟨Hz4,Hwb⟩:=hd2 hz4 hwb;clear hz4 hwb
      have k7:decide ((0:Int) < ((k' + 1:Nat):Int))=true:=by rw[decide_eq_true_eq];omega
      have k8:(((k' + 1:Nat):Int) - 1)=(k':Int):=by omega
      have k11:IntKind.i64.wrap (((k' + 1:Nat):Int) - 1)=(k':Int):=by rw[k8];exact IntWalk.i64_in _ (by omega)
      have k9:(0:Int)≤(k':Int):=by omega
      have k10:(k':Int) < (n:Int):=by omega
      go_quiet (first | (go_at_call 153;exact zev (HN.out _)) | (go_at_call 189;exact zev (HV.out _)))
      obtain⟨bl,hbl⟩ : ∃ b,b=Op.bytesLess z.toList s.toList:=⟨_,rfl⟩
      have hwb:=Hwb.out
      rw[← hbl] at hwb ⊢
      obtain⟨Hbl,Hwb⟩:=hd2 hbl hwb;clear hbl hwb
      cases bl with
      | true =>
       have hq:=Hnx.out Hwb.out
       have Hq:=hd hq;clear hq
       go_wp2_with fail
       go_roundw
       case rel=>exact⟨k' + 1+1,by omega,by go_num,Hq.out,zac Hb1.out _⟩
       case measure=>simp[intOf];omega
      | false =>
       have hf:r=false:=by rw[Hr.out];exact Hbd.out Hwb.out
       have Hf:=hd hf;clear hf
       go_wp2_with fail
       go_ret
       exact⟨zaw Hf.out.symm,zac Hb1.out _⟩
     have k7:decide ((0:Int) < (k:Int))=false:=by rw[decide_eq_false_iff_not];omega
     have hq:=Hnx.out (by rw[Hwa.out,show k=0 by omega];rfl)
     have Hq:=hd hq;clear hq
     go_quiet (first | (go_at_call 153;exact zev (HN.out _)) | (go_at_call 189;exact zev (HV.out _)))
     go_wp2_with fail
     go_roundw
     case rel=>exact⟨k+1,by omega,by go_num,Hq.out,zac Hb1.out _⟩
     case measure=>simp[intOf];omega
  obtain rfl:n=k:=by omega
  have hf:r=true:=by rw[Hr.out];exact zq7 (by rw[← Hn.out];exact hno)
  obtain⟨Hno,Hf,Hb⟩:=hd3 hno hf hb;clear hno hf hb
  go_wp2_with fail
  go_ret
  exact⟨zaw Hf.out.symm,Hb.out⟩
end

namespace LexM
abbrev Bs:=List UInt8
abbrev Wd:=Int × Bs
abbrev Ln:=Int × List Wd
structure St where
 line:Int
 col:Int
 frm:Int
 off:Bool
 word:Bs
 words:List Wd
 out:List Ln
def ends (s:St):St:={ s with frm:=0,word:=[],words:=if 0 < s.frm then s.words ++ [(s.frm,s.word)] else s.words }
def breaks (s:St):St :=
 { (ends s) with out:=if (ends s).words = [] then s.out else s.out ++ [(s.line,(ends s).words)],words:=[],off:=false,line:=s.line+1,col:=0 }
def mayBegin (s:St):Bool:=decide (s.words.length < 40) && (decide (0 < s.words.length) || decide (s.out.length < 2000))
def onward (s:St):St:={ s with col:=s.col+1 }
def takes (s:St) (c:UInt8):St × Int :=
 if c.toNat=10 then (breaks (onward s),0)
 else if c.toNat < 32∨126 < c.toNat then (onward s,3)
 else if s.off=true then (onward s,0)
 else if c.toNat=35 then ({ ends (onward s) with off:=true },0)
 else if c.toNat=32 then (ends (onward s),0)
 else if 0 < s.frm then ({ onward s with word:=s.word ++ [c] },0)
 else if mayBegin s=true then ({ onward s with frm:=s.col+1,word:=s.word ++ [c] },0)
 else ({ onward s with frm:=s.col+1 },4)
def run:St→Bs→St × Int
 | s,[] => (s,0)
 | s,c :: r=>if (takes s c).2=0 then run (takes s c).1 r else takes s c
def st0:St:=⟨1,0,0,false,[],[],[]⟩
structure Res where
 lines:List Ln
 at1:Int
 at2:Int
 e:Int
def close (r:St × Int):Res:=if r.2=0 then ⟨(breaks r.1).out,0,0,0⟩ else ⟨[],r.1.line,r.1.col,r.2⟩
def lines (t:Bs):Res:=if 65536 < t.length then ⟨[],0,0,4⟩ else close (run st0 t)
def part (c:UInt8):Bool:=decide (32 < c.toNat) && decide (c.toNat < 127) && !decide (c.toNat=35)
def zim (t:Bs) (i:Nat):Bs:=(t.drop i).takeWhile part
structure RS where
 off:Bool
 out:List Wd
def roff (s:RS) (c:UInt8):Bool:=s.off || decide (c.toNat=35)
def zfb (t:Bs) (s:RS) (i:Nat) (c:UInt8):Bool:=roff s c || !part c || (decide (0 < i) && part (t.getD (i - 1) 0))
def zdo (t:Bs) (s:RS) (i:Nat) (c:UInt8):RS:=⟨roff s c,if zfb t s i c=true then s.out else s.out ++ [((i:Int)+1,zim t i)]⟩
def rerr (t:Bs) (room:Bool) (s:RS) (i:Nat) (c:UInt8):Int :=
 if c.toNat < 32∨126 < c.toNat then 3
 else if zfb t s i c=true then 0
 else if s.out.length=40∨room=false then 4 else 0
def rgo (t:Bs) (room:Bool) (s:RS) (i:Nat):Bs→List Wd × Int × Int
 | [] => (s.out,0,0)
 | c :: r=>if rerr t room s i c=0 then rgo t room (zdo t s i c) (i+1) r else (s.out,(i:Int)+1,rerr t room s i c)
def zc8 (t:Bs) (room:Bool):List Wd × Int × Int:=rgo t room ⟨false,[]⟩ 0 t
def ze5 (out:List Ln) (n:Int) (ws:List Wd):List Ln:=if ws = [] then out else out ++ [(n,ws)]
def zb4 (n:Int) (cur:Bs) (out:List Ln):Bs→Res
 | [] => let r:=zc8 cur (decide (out.length < 2000));if r.2.2=0 then ⟨ze5 out n r.1,0,0,0⟩ else ⟨[],n,r.2.1,r.2.2⟩
 | c :: r =>
  if c.toNat=10 then
   let q:=zc8 cur (decide (out.length < 2000))
   if q.2.2=0 then zb4 (n+1) [] (ze5 out n q.1) r else ⟨[],n,q.2.1,q.2.2⟩
  else zb4 n (cur ++ [c]) out r
def docLines (t:Bs):Res:=if 65536 < t.length then ⟨[],0,0,4⟩ else zb4 1 [] [] t
theorem run_ok {s:St} {c:UInt8} {r:Bs} (h:(takes s c).2=0):run s (c :: r)=run (takes s c).1 r:=by simp[run,h]
theorem run_bad {s:St} {c:UInt8} {r:Bs} (h:(takes s c).2≠0):run s (c :: r)=takes s c:=by simp[run,h]
theorem run_append (a b:Bs):∀ s,run s (a ++ b)=if (run s a).2=0 then run (run s a).1 b else run s a:=by
 induction a with
 | nil=>intro s;simp[run]
 | cons c r ih =>
  intro s
  by_cases h:(takes s c).2=0
  ·rw[List.cons_append,run_ok h,ih,run_ok h]
  rw[List.cons_append,run_bad h,run_bad h,if_neg h]
theorem zlr {t:Bs} {i:Nat} {c:UInt8} {r:Bs} (h:t.drop i=c :: r) (hc:part c=true):zim t i=c :: r.takeWhile part:=by
 unfold zim;rw[h];simp[hc]
structure Inv (t:Bs) (room:Bool) (p:St) (s:RS) (i:Nat):Prop where
 col:p.col=i
 off:p.off=s.off
 none:p.frm=0→p.word = []∧s.out=p.words∧(p.off=true∨i=0∨part (t.getD (i - 1) 0)=false)
 some:p.frm≠0→p.off=false∧0 < i∧part (t.getD (i - 1) 0)=true∧∃ j:Nat,p.frm=(j:Int)+1∧s.out=p.words ++ [((j:Int)+1,p.word ++ (t.drop i).takeWhile part)]
 nonneg:0≤p.frm
 room:room=decide (p.out.length < 2000)
 had:p.words≠[]∨p.frm≠0→p.out.length < 2000
 le:s.out.length≤40
theorem zl2 (c:UInt8):part c=true↔32 < c.toNat∧c.toNat < 127∧c.toNat≠35:=by
 unfold part;simp[and_assoc]
theorem zf0 {t:Bs} {i:Nat} {c:UInt8} {r:Bs} (h:t.drop i=c :: r):t.getD i 0=c∧t.drop (i+1)=r∧i < t.length:=by
 have hi:i < t.length:=by
  rcases Nat.lt_or_ge i t.length with hi | hi
  ·exact hi
  rw[List.drop_eq_nil_of_le hi] at h;cases h
 rw[List.drop_eq_getElem_cons hi] at h
 injection h with h1 h2
 refine⟨?_,h2,hi⟩
 simp[List.getD,hi,h1]
theorem step_inv {t:Bs} {room:Bool} {p:St} {s:RS} {i:Nat} {c:UInt8} {r:Bs} (h:Inv t room p s i) (hd:t.drop i=c :: r) (hc:c.toNat≠10) :
  (takes p c).2=rerr t room s i c∧(takes p c).1.col=(i:Int)+1∧(takes p c).1.line=p.line∧(takes p c).1.out=p.out∧((takes p c).2=0→Inv t room (takes p c).1 (zdo t s i c) (i+1)):=by
 obtain⟨hg,hd2,hi⟩:=zf0 hd
 have hg2:t.getD (i+1 - 1) 0=c:=by rw[Nat.add_sub_cancel];exact hg
 have hcol:=h.col
 unfold takes
 rw[if_neg hc]
 by_cases hf:c.toNat < 32∨126 < c.toNat
 ·rw[if_pos hf]
  have e1:rerr t room s i c=3:=by unfold rerr;rw[if_pos hf]
  exact⟨e1.symm,by simp[onward,hcol],rfl,rfl,fun h=>by cases h⟩
 rw[if_neg hf]
 have hr:rerr t room s i c=if zfb t s i c=true then 0 else if s.out.length=40∨room=false then 4 else 0:=by unfold rerr;rw[if_neg hf]
 by_cases ho:p.off=true
 ·rw[if_pos ho]
  have hso:s.off=true:=by rw[← h.off];exact ho
  have hro:roff s c=true:=by unfold roff;rw[hso];rfl
  have hsk:zfb t s i c=true:=by unfold zfb;rw[hro];rfl
  have hf0:p.frm=0:=Classical.byContradiction fun hn=>by have:=(h.some hn).1;rw[ho] at this;cases this
  refine⟨by rw[hr,if_pos hsk],by simp[onward,hcol],rfl,rfl,fun _=>?_⟩
  have hn:=h.none hf0
  exact⟨by simp[onward,hcol],by simp[onward,zdo,hro,ho],fun _=>⟨hn.1,by simp[zdo,hsk];exact hn.2.1,.inl ho⟩,fun hx=>absurd hf0 hx,h.nonneg,h.room,h.had,by simp only[zdo,if_pos hsk];exact h.le⟩
 rw[if_neg ho]
 have hoff:p.off=false:=by simpa using ho
 have hso:s.off=false:=by rw[← h.off];exact hoff
 have endsEq:∀ b:Bool,b=roff s c→part c=false→zfb t s i c=true→Inv t room { ends (onward p) with off:=b } (zdo t s i c) (i+1):=by
  intro b hb hpc hsk
  refine⟨by simp[ends,onward,hcol],by simp[zdo,hb],fun _=>⟨rfl,?_,.inr (.inr ?_)⟩,fun hx=>absurd rfl hx,Int.le_refl _,h.room,?_,by simp only[zdo,if_pos hsk];exact h.le⟩
  ·simp only[zdo,if_pos hsk]
   by_cases h0:p.frm=0
   ·rw[(h.none h0).2.1]
    simp[ends,onward,h0]
   obtain⟨_,_,_,j,hj,hso⟩:=h.some h0
   rw[hso,hd]
   have hp:0 < (j:Int)+1:=by omega
   simp[ends,onward,hp,hj,hpc]
  ·rw[hg2];exact hpc
  intro hne
  apply h.had
  by_cases h0:p.frm=0
  ·left
   simpa [ends,onward,h0] using hne
  exact .inr h0
 by_cases h35:c.toNat=35
 ·rw[if_pos h35]
  have hpc:part c=false:=by
   have:=zl2 c
   cases hh:part c
   ·rfl
   have:=this.1 hh;omega
  have hro:roff s c=true:=by unfold roff;simp[h35]
  have hsk:zfb t s i c=true:=by unfold zfb;rw[hro];rfl
  exact⟨by rw[hr,if_pos hsk],by simp[ends,onward,hcol],rfl,rfl,fun _=>endsEq true hro.symm hpc hsk⟩
 rw[if_neg h35]
 have hro:roff s c=false:=by unfold roff;simp[hso,h35]
 by_cases h32:c.toNat=32
 ·rw[if_pos h32]
  have hpc:part c=false:=by
   have:=zl2 c
   cases hh:part c
   ·rfl
   have:=this.1 hh;omega
  have hsk:zfb t s i c=true:=by unfold zfb;rw[hpc];simp
  refine⟨by rw[hr,if_pos hsk],by simp[ends,onward,hcol],rfl,rfl,fun _=>?_⟩
  have:=endsEq false hro.symm hpc hsk
  have e:ends (onward p) = { ends (onward p) with off:=false }:=by simp[ends,onward,hoff]
  rw[e]
  exact this
 rw[if_neg h32]
 have hpc:part c=true:=(zl2 c).2 (by omega)
 by_cases h0:p.frm=0
 ·have hn:=h.none h0
  have hprev:(decide (0 < i) && part (t.getD (i - 1) 0))=false:=by
   rcases hn.2.2 with h1 | h1 | h1
   ·rw[hoff] at h1;cases h1
   ·simp[h1]
   rw[h1];simp
  have hsk:zfb t s i c=false:=by unfold zfb;rw[hro,hpc,hprev];rfl
  have hsk':¬ zfb t s i c=true:=by rw[hsk];simp
  rw[if_neg (by omega)]
  by_cases hm:mayBegin p=true
  ·rw[if_pos hm]
   have hm':=hm
   unfold mayBegin at hm'
   simp only[Bool.and_eq_true,Bool.or_eq_true,decide_eq_true_eq] at hm'
   have hout:p.out.length < 2000:=by
    rcases hm'.2 with h1 | h1
    ·exact h.had (.inl (List.ne_nil_of_length_pos h1))
    exact h1
   have hl:s.out.length < 40:=by rw[hn.2.1];exact hm'.1
   refine⟨?_,by simp[onward,hcol],rfl,rfl,fun _=>⟨by simp[onward,hcol],by simp[onward,zdo,hro,hoff],fun hx=>?_,fun _=>⟨hoff,by omega,by rw[hg2];exact hpc,i,by simp[hcol],?_⟩,by simp;omega,h.room,fun _=>hout,?_⟩⟩
   ·rw[hr,if_neg hsk',if_neg]
    rintro (h1 | h1)
    ·omega
    rw[h.room] at h1;simp at h1;omega
   ·exfalso
    simp at hx
    omega
   ·simp only[zdo,if_neg hsk',hd2,hn.1,hn.2.1,onward]
    rw[zlr hd hpc]
    rfl
   simp only[zdo,if_neg hsk',List.length_append,List.length_singleton]
   omega
  rw[if_neg hm]
  refine⟨?_,by simp[onward,hcol],rfl,rfl,fun hx=>by cases hx⟩
  rw[hr,if_neg hsk',if_pos]
  unfold mayBegin at hm
  simp only[Bool.and_eq_true,Bool.or_eq_true,decide_eq_true_eq] at hm
  have hle:=h.le
  rw[hn.2.1] at hle ⊢
  by_cases h40:p.words.length=40
  ·exact .inl h40
  right
  rw[h.room]
  simp
  omega
 obtain⟨ha,hb,hpv,j,hj,hso2⟩:=h.some h0
 have hsk:zfb t s i c=true:=by unfold zfb;rw[hpv];simp[hb]
 have hp:0 < p.frm:=by omega
 rw[if_pos hp]
 refine⟨by rw[hr,if_pos hsk],by simp[onward,hcol],rfl,rfl,fun _=>⟨by simp[onward,hcol],by simp[onward,zdo,hro,hoff],fun hx=>absurd hx h0,fun _=>⟨hoff,by omega,by rw[hg2];exact hpc,j,hj,?_⟩,h.nonneg,h.room,h.had,by simp only[zdo,if_pos hsk];exact h.le⟩⟩
 simp only[zdo,if_pos hsk,onward]
 rw[hso2,hd,hd2]
 simp[hpc]
theorem line_inv {t:Bs} {room:Bool} (r:Bs):∀ (p:St) (s:RS) (i:Nat),Inv t room p s i→t.drop i=r→(∀ c∈r,c.toNat≠10) →
  (run p r).2=(rgo t room s i r).2.2∧(run p r).1.line=p.line∧(run p r).1.out=p.out∧((run p r).2≠0→(run p r).1.col=(rgo t room s i r).2.1)∧((run p r).2=0→(ends (run p r).1).words=(rgo t room s i r).1):=by
 induction r with
 | nil =>
  intro p s i h hd _
  refine⟨rfl,rfl,rfl,fun hx=>absurd rfl hx,fun _=>?_⟩
  simp only[run,rgo]
  by_cases h0:p.frm=0
  ·rw[(h.none h0).2.1];simp[ends,h0]
  obtain⟨_,_,_,j,hj,hso⟩:=h.some h0
  have hp:0 < (j:Int)+1:=by omega
  rw[hso,hd]
  simp[ends,hj,hp]
 | cons c r ih =>
  intro p s i h hd hn
  obtain⟨e1,e2,e3,e4,e5⟩:=step_inv h hd (hn c (by simp))
  simp only[rgo,← e1]
  by_cases hz:(takes p c).2=0
  ·rw[run_ok hz,if_pos hz]
   obtain⟨f1,f2,f3,f4,f5⟩:=ih _ _ (i+1) (e5 hz) (zf0 hd).2.1 (fun x hx=>hn x (by simp[hx]))
   exact⟨f1,f2.trans e3,f3.trans e4,f4,f5⟩
  rw[run_bad hz,if_neg hz]
  exact⟨rfl,e3,e4,fun _=>e2,fun hx=>absurd hx hz⟩
def zfz (n:Int) (out:List Ln):St:=⟨n,0,0,false,[],[],out⟩
theorem inv0 (t:Bs) (n:Int) (out:List Ln):Inv t (decide (out.length < 2000)) (zfz n out) ⟨false,[]⟩ 0 :=
 ⟨rfl,rfl,fun _=>⟨rfl,rfl,.inr (.inl rfl)⟩,fun h=>absurd rfl h,Int.le_refl _,rfl,fun h=>by rcases h with h | h <;> exact absurd rfl h,by simp⟩
theorem zpp (t:Bs) (n:Int) (out:List Ln) (h:∀ c∈t,c.toNat≠10) :
  (run (zfz n out) t).2=(zc8 t (decide (out.length < 2000))).2.2∧(run (zfz n out) t).1.line=n∧(run (zfz n out) t).1.out=out∧((run (zfz n out) t).2≠0→(run (zfz n out) t).1.col=(zc8 t (decide (out.length < 2000))).2.1) ∧
  ((run (zfz n out) t).2=0→(ends (run (zfz n out) t).1).words=(zc8 t (decide (out.length < 2000))).1) :=
 line_inv t _ _ 0 (inv0 t n out) rfl h
theorem zn9 (p:St) (n:Int) (out:List Ln) (ws:List Wd) (hl:p.line=n) (ho:p.out=out) (hw:(ends p).words=ws):breaks p=zfz (n+1) (ze5 out n ws):=by
 subst hl;subst ho;subst hw
 rfl
theorem rlines_eq (r:Bs):∀ (n:Int) (cur:Bs) (out:List Ln),(∀ c∈cur,c.toNat≠10)→zb4 n cur out r=close (run (zfz n out) (cur ++ r)):=by
 induction r with
 | nil =>
  intro n cur out hc
  obtain⟨e1,e2,e3,e4,e5⟩:=zpp cur n out hc
  rw[List.append_nil]
  unfold zb4 close
  dsimp only
  rw[← e1]
  by_cases hz:(run (zfz n out) cur).2=0
  ·rw[if_pos hz,if_pos hz,zn9 _ n out _ e2 e3 (e5 hz)]
   rfl
  rw[if_neg hz,if_neg hz,e2,e4 hz]
 | cons c r ih =>
  intro n cur out hc
  unfold zb4
  by_cases h10:c.toNat=10
  ·rw[if_pos h10]
   dsimp only
   obtain⟨e1,e2,e3,e4,e5⟩:=zpp cur n out hc
   rw[run_append,← e1]
   by_cases hz:(run (zfz n out) cur).2=0
   ·rw[if_pos hz,if_pos hz,ih _ _ _ (by simp)]
    have:run (run (zfz n out) cur).1 (c :: r)=run (zfz (n+1) (ze5 out n (zc8 cur (decide (out.length < 2000))).1)) r:=by
     have h1:takes (run (zfz n out) cur).1 c=(breaks (onward (run (zfz n out) cur).1),0):=by unfold takes;rw[if_pos h10]
     rw[run_ok (by rw[h1]),h1]
     rw[zn9 (onward (run (zfz n out) cur).1) n out (zc8 cur (decide (out.length < 2000))).1 e2 e3 (e5 hz)]
    rw[this]
    rfl
   rw[if_neg hz,if_neg hz]
   unfold close
   rw[if_neg hz,e2,e4 hz]
  rw[if_neg h10,ih _ _ _ (by
   intro x hx
   rcases List.mem_append.1 hx with hx | hx
   ·exact hc x hx
   simp at hx;rw[hx];exact h10)]
  simp
theorem lines_eq (t:Bs):lines t=docLines t:=by
 unfold lines docLines
 by_cases h:65536 < t.length
 ·rw[if_pos h,if_pos h]
 rw[if_neg h,if_neg h,rlines_eq t 1 [] [] (by simp)]
 rfl
end LexM

section
open Go.Lib VerN VarM
open LexM (Wd Ln)
abbrev Spc3:=ByteArray × List BSp × List Setg
def zan (ws:List Wd) (i:Nat):ByteArray:=match ws[i]? with
 | some x=>⟨x.2.toArray⟩
 | none=>⟨#[]⟩
def zf6 (ws:List Wd) (fin:Int) (i:Nat):Int:=match ws[i]? with
 | some x=>x.1
 | none=>fin
def cutB (c:UInt8) (s:ByteArray):ByteArray × ByteArray × Bool:=(⟨(cut s.data.toList [c]).1.toArray⟩,⟨(cut s.data.toList [c]).2.1.toArray⟩,(cut s.data.toList [c]).2.2)
def hasB (c:UInt8) (s:ByteArray):Bool:=decide (0≤indexByte s.data.toList c)
def zfu (s:ByteArray):Setg:=((cutB 61 s).1,(cutB 61 s).2.1)
def zk0 (ws:List Wd):Nat→Nat→List Setg→Option (List Setg) × Nat
 | 0,i,out=>(some out,i)
 | f+1,i,out=>if hasB 61 (zan ws i)=true then (if ze7 (out ++ [zfu (zan ws i)])=true then zk0 ws f (i+1) (out ++ [zfu (zan ws i)]) else (none,i)) else (some out,i)
theorem zeg {ws:List Wd} {i:Nat} (h:ws.length≤i):zan ws i=⟨#[]⟩:=by unfold zan;rw[List.getElem?_eq_none h]
theorem zh9 {ws:List Wd} {i:Nat} (h:i < ws.length):zan ws i=⟨ws[i].2.toArray⟩:=by unfold zan;rw[List.getElem?_eq_getElem h]
theorem col_none {ws:List Wd} {fin:Int} {i:Nat} (h:ws.length≤i):zf6 ws fin i=fin:=by unfold zf6;rw[List.getElem?_eq_none h]
theorem col_some {ws:List Wd} {fin:Int} {i:Nat} (h:i < ws.length):zf6 ws fin i=ws[i].1:=by unfold zf6;rw[List.getElem?_eq_getElem h]
theorem zle:hasB 61 ⟨#[]⟩=false:=by decide
def zb7 (ws:List Wd) (i:Nat) (out:List Setg):Option (List Setg) × Nat:=zk0 ws (ws.length - i) i out
theorem zkd {ws:List Wd} {i:Nat} {out:List Setg} (h:hasB 61 (zan ws i)=false):zb7 ws i out=(some out,i):=by
 unfold zb7
 cases hf:ws.length - i with
 | zero=>rfl
 | succ f=>unfold zk0;rw[if_neg (by rw[h];simp)]
theorem zps {ws:List Wd} {i:Nat} (h:hasB 61 (zan ws i)=true):i < ws.length:=by
 apply Nat.lt_of_not_le
 intro hk
 rw[zeg hk,zle] at h
 cases h
theorem zj1 {ws:List Wd} {i:Nat} {out:List Setg} (h:hasB 61 (zan ws i)=true) (hw:ze7 (out ++ [zfu (zan ws i)])=true):zb7 ws i out=zb7 ws (i+1) (out ++ [zfu (zan ws i)]):=by
 have hl:=zps h
 unfold zb7
 obtain⟨f,hf⟩ : ∃ f,ws.length - i=f+1:=⟨ws.length - i - 1,by omega⟩
 rw[hf,show ws.length - (i+1)=f by omega]
 show (if _ then _ else _)=_
 rw[if_pos h,if_pos hw]
theorem zj2 {ws:List Wd} {i:Nat} {out:List Setg} (h:hasB 61 (zan ws i)=true) (hw:ze7 (out ++ [zfu (zan ws i)])=false):zb7 ws i out=(none,i):=by
 have hl:=zps h
 unfold zb7
 obtain⟨f,hf⟩ : ∃ f,ws.length - i=f+1:=⟨ws.length - i - 1,by omega⟩
 rw[hf]
 show (if _ then _ else _)=_
 rw[if_pos h,if_neg (by rw[hw];simp)]
open Classical in
noncomputable def zed (t:ByteArray):Bool:=decide (Rd3 t∧rdV t≠[]∧(rdV t).head?≠some (⟨#[]⟩,⟨#[]⟩))
def allV:List BSp:=[(⟨#[]⟩,⟨#[]⟩)]
noncomputable def zho (s:ByteArray):Bool:=ze1 (cutB 64 s).1.data.toList && (!(cutB 64 s).2.2 || zed (cutB 64 s).2.1)
noncomputable def zhx (s:ByteArray):List BSp:=if (cutB 64 s).2.2=true then rdV (cutB 64 s).2.1 else allV
noncomputable def ze0 (ws:List Wd) (i:Nat):Option Spc3 × Nat :=
 if zho (zan ws i)=true then ((zb7 ws (i+1) []).1.map fun l=>((cutB 64 (zan ws i)).1,zhx (zan ws i),l),(zb7 ws (i+1) []).2) else (none,i)
end

section
open Go.RowKit
open LexM (Bs Wd Ln St)
abbrev bv (s:Bs):Value:=.string ⟨s.toArray⟩
def ze8 (x:Wd):List Value:=[.int .i64 x.1,bv x.2]
def zi5 (s:Bs):List Value:=s.map fun c=>.int .u8 c.toNat
def zfy (out:List Ln) (rv:List Value):List Value:=(out.zip rv).flatMap fun x=>[.int .i64 x.1.1,x.2]
theorem zn0:Elem Tryz.prog 142 5 (.int .u8 0) 1 1:=⟨Tryz.underlying142,by kernel_rfl,rfl,by decide⟩
theorem elem_word:Elem Tryz.prog 60 64 (.agg #[.int .i64 0,.string ⟨#[]⟩]) 2 24:=⟨Tryz.underlying60,by kernel_rfl,rfl,by decide⟩
theorem elem_line:Elem Tryz.prog 56 62 (.agg #[.int .i64 0,.slice none 0 0]) 2 32:=⟨Tryz.underlying56,by kernel_rfl,rfl,by decide⟩
def zb0 (s:St) (wv sv ov:Value):Array Value:=#[.int .i64 s.line,.int .i64 s.col,.int .i64 s.frm,.bool s.off,wv,sv,ov]
structure zbu (w0:World) (x:Nat) (s:St) (wv sv ov:Value) (rv:List Value) (w:World):Prop where
 cells:w.heap[x]? = some (.cells (zb0 s wv sv ov) 182 (0,0))
 word:w.ownsRow w0.heap.size 5 1 wv s.word.length (zi5 s.word)
 words:w.ownsRow w0.heap.size 64 2 sv s.words.length (s.words.flatMap ze8)
 out:w.ownsRow w0.heap.size 62 2 ov s.out.length (zfy s.out rv)
 rlen:rv.length=s.out.length
 rows:∀ (i:Nat) (ln:Ln) (v:Value),s.out[i]? = some ln→rv[i]? = some v→w.ownsRow w0.heap.size 64 2 v ln.2.length (ln.2.flatMap ze8)∧∀ k,v.ownBlock=some k→sv.ownBlock≠some k
 bel:Below w0.heap.size w0 w
 xB:w0.heap.size≤x
theorem zbu.xs {w0 w:World} {x:Nat} {s:St} {wv sv ov:Value} {rv:List Value} (h:zbu w0 x s wv sv ov rv w):x < w.heap.size:=(Array.getElem?_eq_some_iff.1 h.cells).1
theorem zbu.to {w0 w w':World} {x:Nat} {s s':St} {wv sv ov wv' sv':Value} {rv:List Value} (h:zbu w0 x s wv sv ov rv w) (hf:Frm (fun k=>k=x) w w')
  (hc:w'.heap[x]? = some (.cells (zb0 s' wv' sv' ov) 182 (0,0)))
  (h1:(wv'=wv∧s'.word=s.word)∨(wv' = .slice none 0 0∧s'.word = [])) (h2:(sv'=sv∧s'.words=s.words)∨(sv' = .slice none 0 0∧s'.words = [])) (h3:s'.out=s.out):zbu w0 x s' wv' sv' ov rv w':=by
 have hxw:=za3 h.word h.cells (by decide)
 have hxs:=za3 h.words h.cells (by decide)
 have hxo:=za3 h.out h.cells (by decide)
 refine⟨hc,?_,?_,?_,by rw[h3];exact h.rlen,?_,h.bel.trans (hf.below h.bel.size (fun k hk=>by rw[hk];exact h.xB)),h.xB⟩
 ·rcases h1 with⟨rfl,e⟩ | ⟨rfl,e⟩
  ·rw[e];exact hf.owns h.word (fun k hk e=>hxw (by rw[hk,e]))
  rw[e];exact World.ownsRow_nil _ _ _ _
 ·rcases h2 with⟨rfl,e⟩ | ⟨rfl,e⟩
  ·rw[e];exact hf.owns h.words (fun k hk e=>hxs (by rw[hk,e]))
  rw[e];exact World.ownsRow_nil _ _ _ _
 ·rw[h3];exact hf.owns h.out (fun k hk e=>hxo (by rw[hk,e]))
 intro i ln v hi hv
 rw[h3] at hi
 obtain⟨r1,r2⟩:=h.rows i ln v hi hv
 have hxv:=za3 r1 h.cells (by decide)
 refine⟨hf.owns r1 (fun k hk e=>hxv (by rw[hk,e])),fun k hk=>?_⟩
 rcases h2 with⟨rfl,e⟩ | ⟨rfl,e⟩
 ·exact r2 k hk
 simp[Value.ownBlock]
theorem zbu.keep {w0 w w':World} {x:Nat} {s:St} {wv sv ov:Value} {rv:List Value} (h:zbu w0 x s wv sv ov rv w) (hf:Frm (fun _=>False) w w'):zbu w0 x s wv sv ov rv w' :=
 h.to (hf.mono (fun _ _ h=>h.elim)) (zaf h.cells hf (fun h=>h)) (.inl ⟨rfl,rfl⟩) (.inl ⟨rfl,rfl⟩) rfl
theorem zbu.pushByte {w0 w w3:World} {x:Nat} {s:St} {wv sv ov:Value} {rv:List Value} (h:zbu w0 x s wv sv ov rv w) (c:UInt8) {wv':Value}
  (hown:w3.ownsRow w0.heap.size 5 1 wv' (s.word.length+1) (zi5 s.word ++ [.int .u8 c.toNat])) (hg:w.grownBy w3 wv.ownBlock) :
  zbu w0 x { s with word:=s.word ++ [c] } wv' sv ov rv (w3.setCell ⟨x,4,none⟩ wv'):=by
 have hxw:=za3 h.word h.cells (by decide)
 have f1:Frm (fun k=>wv.ownBlock=some k) w w3:=(Frm.refl _ w).grown hg (fun k hk=>.inr hk)
 have hc3:=zaf h.cells f1 hxw
 have f2:Frm (fun k=>k=x) w3 (w3.setCell ⟨x,4,none⟩ wv'):=Frm.setCell (S:=fun k=>k=x) (Frm.refl _ _) (p:=⟨x,4,none⟩) (.inr rfl) _
 have hx3:=za3 hown hc3 (by decide)
 refine⟨?_,?_,?_,?_,h.rlen,?_,?_,h.xB⟩
 ·rw[heap_setCell_same w3 x 4 _ _ wv' hc3];rfl
 ·simp only[List.length_append,List.length_singleton,zi5,List.map_append]
  exact f2.owns hown (fun k hk e=>hx3 (by rw[hk,e]))
 ·have:=f1.owns h.words (fun k hk e=>zd8 h.words h.word (by decide) k hk e)
  have hxs:=za3 this hc3 (by decide)
  exact f2.owns this (fun k hk e=>hxs (by rw[hk,e]))
 ·have:=f1.owns h.out (fun k hk e=>zd8 h.out h.word (by decide) k hk e)
  have hxs:=za3 this hc3 (by decide)
  exact f2.owns this (fun k hk e=>hxs (by rw[hk,e]))
 ·intro i ln v hi hv
  obtain⟨r1,r2⟩:=h.rows i ln v hi hv
  have:=f1.owns r1 (fun k hk e=>zd8 r1 h.word (by decide) k hk e)
  have hxs:=za3 this hc3 (by decide)
  exact⟨f2.owns this (fun k hk e=>hxs (by rw[hk,e])),r2⟩
 have b1:Below w0.heap.size w w3:=f1.below h.bel.size (fun k hk=>(h.word.lt k hk).1)
 exact (h.bel.trans b1).trans (f2.below (by have:=h.bel.size;have:=f1.size;omega) (fun k hk=>by rw[hk];exact h.xB))
theorem zbu.pushWord {w0 w w3:World} {x:Nat} {s:St} {wv sv ov:Value} {rv:List Value} (h:zbu w0 x s wv sv ov rv w) (a:Wd) {sv':Value}
  (hown:w3.ownsRow w0.heap.size 64 2 sv' (s.words.length+1) (s.words.flatMap ze8 ++ ze8 a)) (hg:w.grownBy w3 sv.ownBlock) (hm:zg4 w sv sv') :
  zbu w0 x { s with words:=s.words ++ [a] } wv sv' ov rv (w3.setCell ⟨x,5,none⟩ sv'):=by
 have hxw:=za3 h.words h.cells (by decide)
 have f1:Frm (fun k=>sv.ownBlock=some k) w w3:=(Frm.refl _ w).grown hg (fun k hk=>.inr hk)
 have hc3:=zaf h.cells f1 hxw
 have f2:Frm (fun k=>k=x) w3 (w3.setCell ⟨x,5,none⟩ sv'):=Frm.setCell (S:=fun k=>k=x) (Frm.refl _ _) (p:=⟨x,5,none⟩) (.inr rfl) _
 have hx3:=za3 hown hc3 (by decide)
 refine⟨?_,?_,?_,?_,h.rlen,?_,?_,h.xB⟩
 ·rw[heap_setCell_same w3 x 5 _ _ sv' hc3];rfl
 ·have:=f1.owns h.word (fun k hk e=>zd8 h.word h.words (by decide) k hk e)
  have hxs:=za3 this hc3 (by decide)
  exact f2.owns this (fun k hk e=>hxs (by rw[hk,e]))
 ·simp only[List.length_append,List.length_singleton,List.flatMap_append,List.flatMap_cons,List.flatMap_nil,List.append_nil]
  exact f2.owns hown (fun k hk e=>hx3 (by rw[hk,e]))
 ·have:=f1.owns h.out (fun k hk e=>zd8 h.out h.words (by decide) k hk e)
  have hxs:=za3 this hc3 (by decide)
  exact f2.owns this (fun k hk e=>hxs (by rw[hk,e]))
 ·intro i ln v hi hv
  obtain⟨r1,r2⟩:=h.rows i ln v hi hv
  have:=f1.owns r1 (fun k hk e=>r2 k hk e)
  have hxs:=za3 this hc3 (by decide)
  refine⟨f2.owns this (fun k hk e=>hxs (by rw[hk,e])),fun k hk e=>?_⟩
  rcases hm k e with e | e
  ·exact r2 k hk e
  have:=(r1.lt k hk).2;omega
 have b1:Below w0.heap.size w w3:=f1.below h.bel.size (fun k hk=>(h.words.lt k hk).1)
 exact (h.bel.trans b1).trans (f2.below (by have:=h.bel.size;have:=f1.size;omega) (fun k hk=>by rw[hk];exact h.xB))
theorem zmn {out:List Ln} {rv:List Value} (h:rv.length=out.length) (ln:Ln) (v:Value):zfy (out ++ [ln]) (rv ++ [v])=zfy out rv ++ [.int .i64 ln.1,v]:=by
 unfold zfy
 rw[List.zip_append h.symm]
 simp
theorem zbu.pushLine {w0 w w3 w':World} {x:Nat} {s s':St} {wv sv ov:Value} {rv:List Value} (h:zbu w0 x s wv sv ov rv w) {ov':Value}
  (hown:w3.ownsRow w0.heap.size 62 2 ov' (s.out.length+1) (zfy s.out rv ++ [.int .i64 s.line,sv])) (hg:w.grownBy w3 ov.ownBlock) (hf:Frm (fun k=>k=x) w3 w')
  (hc:w'.heap[x]? = some (.cells (zb0 s' wv (.slice none 0 0) ov') 182 (0,0))) (h1:s'.word=s.word) (h2:s'.words = []) (h3:s'.out=s.out ++ [(s.line,s.words)]) :
  zbu w0 x s' wv (.slice none 0 0) ov' (rv ++ [sv]) w':=by
 have hxw:=za3 h.out h.cells (by decide)
 have f1:Frm (fun k=>ov.ownBlock=some k) w w3:=(Frm.refl _ w).grown hg (fun k hk=>.inr hk)
 have hc3:=zaf h.cells f1 hxw
 have hx3:=za3 hown hc3 (by decide)
 refine⟨hc,?_,?_,?_,by rw[h3];simp[h.rlen],?_,?_,h.xB⟩
 ·rw[h1]
  have:=f1.owns h.word (fun k hk e=>zd8 h.word h.out (by decide) k hk e)
  have hxs:=za3 this hc3 (by decide)
  exact hf.owns this (fun k hk e=>hxs (by rw[hk,e]))
 ·rw[h2];exact World.ownsRow_nil _ _ _ _
 ·rw[h3,zmn h.rlen,List.length_append]
  exact hf.owns hown (fun k hk e=>hx3 (by rw[hk,e]))
 ·intro i ln v hi hv
  refine⟨?_,by simp[Value.ownBlock]⟩
  rw[h3] at hi
  by_cases hlt:i < s.out.length
  ·rw[List.getElem?_append_left hlt] at hi
   rw[List.getElem?_append_left (by rw[h.rlen];exact hlt)] at hv
   obtain⟨r1,r2⟩:=h.rows i ln v hi hv
   have:=f1.owns r1 (fun k hk e=>zd8 r1 h.out (by decide) k hk e)
   have hxs:=za3 this hc3 (by decide)
   exact hf.owns this (fun k hk e=>hxs (by rw[hk,e]))
  have hil:=(List.getElem?_eq_some_iff.1 hi).1
  simp at hil
  obtain rfl:i=s.out.length:=by omega
  have hh:=h.rlen
  rw[List.getElem?_append_right (Nat.le_refl _)] at hi
  rw[← hh,List.getElem?_append_right (Nat.le_refl _)] at hv
  simp at hi hv
  subst hi;subst hv
  have:=f1.owns h.words (fun k hk e=>zd8 h.words h.out (by decide) k hk e)
  have hxs:=za3 this hc3 (by decide)
  exact hf.owns this (fun k hk e=>hxs (by rw[hk,e]))
 have b1:Below w0.heap.size w w3:=f1.below h.bel.size (fun k hk=>(h.out.lt k hk).1)
 exact (h.bel.trans b1).trans (hf.below (by have:=h.bel.size;have:=f1.size;omega) (fun k hk=>by rw[hk];exact h.xB))
structure Small (s:St) (m:Nat):Prop where
 col:0≤s.col∧s.col≤m
 line:0≤s.line∧s.line≤m+1
 frm:0≤s.frm∧s.frm≤m
 word:s.word.length≤m
 words:s.words.length≤m
 out:s.out.length≤m
 begun:0 < s.frm→s.word≠[]
def RWd:Rd Wd:=fun _ cs x=>cs=ze8 x∧(Lit.int .i64 x.1).wf=true∧x.2.length≤maxLen
def RLn:Rd Ln:=fun w cs x=>∃ v,cs = [.int .i64 x.1,v]∧zb8 2 RWd w [v] x.2∧(Lit.int .i64 x.1).wf=true
abbrev RLns:Rd (List Ln):=zb8 2 RLn
theorem zp7:zgg RWd:=fun _ _ _ _ h _=>h
theorem stays_ln:zgg RLn:=fun _ _ _ _ ⟨v,h1,h2,h3⟩ hb=>⟨v,h1,zam zp7 _ _ _ _ h2 hb,h3⟩
theorem stays_lns:zgg RLns:=zam stays_ln
theorem zgk {α:Type} {w:World} {B:Nat} {e:TypeId} {sz:Nat} {v:Value} {l:List α} (f:α→List Value) (R:Rd α) (hsz:∀ x∈l,(f x).length=sz) (hR:∀ x∈l,R w (f x) x) (h:w.ownsRow B e sz v l.length (l.flatMap f)):zb8 sz R w [v] l:=by
 have hget:∀ (i:Nat) x,l[i]? = some x→∀ j u,(f x)[j]? = some u→(l.flatMap f)[i * sz+j]? = some u:=by
  clear h hR
  induction l with
  | nil=>intro i x hi;simp at hi
  | cons a l ih =>
   intro i x hi j u hu
   rw[List.flatMap_cons]
   have ha:=hsz a (by simp)
   have hj:j < sz:=by
    have hx:=hsz x (List.mem_of_getElem? hi)
    have:=(List.getElem?_eq_some_iff.1 hu).1
    omega
   match i,hi with
   | 0,hi =>
    simp at hi
    subst hi
    rw[List.getElem?_append_left (by omega)]
    simpa using hu
   | i+1,hi =>
    have hge:sz≤(i+1) * sz+j:=by rw[Nat.succ_mul];omega
    rw[List.getElem?_append_right (by omega),ha,show (i+1) * sz+j - sz=i * sz+j by rw[Nat.succ_mul];omega]
    exact ih (fun y hy=>hsz y (by simp[hy])) i x (by simpa using hi) j u hu
 rcases h.2 with⟨rfl,h0⟩ | ⟨g,cap,cur,rfl,hg,hh,hn,hm,hs,ht⟩
 ·exact⟨none,0,by rw[h0],by omega,Nat.zero_le _,fun i x hi=>by have:=(List.getElem?_eq_some_iff.1 hi).1;omega⟩
 refine⟨some ⟨g,0,none⟩,cap,rfl,hn,hm,fun i x hi=>⟨g,0,f x,rfl,hsz x (List.mem_of_getElem? hi),fun j u hu=>?_,hR x (List.mem_of_getElem? hi)⟩⟩
 have:=h.cells (g:=g) rfl (i * sz+j) u (hget i x hi j u hu)
 rw[Addr.add_lit] at this
 simpa [Nat.add_assoc] using this
end

section
open Go.RowKit Go.Shelf
open LexM (Wd)
attribute [local go_sem ↓] Go.wp_at_zero Go.wp_at_succ
abbrev RBox (r:Nat) (v:Value) (i:Nat) (fin:Int) (W:World):Prop:=W.heap[r]? = some (.cells #[v,.int .i64 i,.int .i64 fin] 137 (0,0))
abbrev rp (r:Nat):Value:=.pointer (some ⟨r,0,none⟩)
abbrev RWds:Rd (List Wd):=zb8 2 RWd
theorem zba {r:Nat} {v:Value} {i:Nat} {fin:Int} {W:World} (h:RBox r v i fin W):W.cell? ⟨r,0,none⟩=some v∧W.cell? ⟨r,1,none⟩=some (.int .i64 i)∧W.cell? ⟨r,2,none⟩=some (.int .i64 fin)∧W.frozen? ⟨r,1,none⟩=false :=
 ⟨za2 h 0,za2 h 1,za2 h 2,za5 h 1⟩
theorem wds_shape {w:World} {v:Value} {ws:List Wd} (h:RWds w [v] ws):∃ a c,v = .slice a ws.length c:=by
 obtain⟨a,cap,hv,_⟩:=h
 simp only[List.cons.injEq,and_true] at hv
 exact⟨a,cap,hv⟩
theorem zp1 {w:World} {a:Option Addr} {n c:Nat} {ws:List Wd} (h:RWds w [.slice a n c] ws):n=ws.length∧n≤9223372036854775807∧∀ i x,ws[i]? = some x→∃ b off,a=some ⟨b,off,none⟩∧w.cell? ⟨b,off+i * 2,none⟩=some (.int .i64 x.1)∧w.cell? ⟨b,off+i * 2+1,none⟩=some (.string ⟨x.2.toArray⟩)∧x.2.length≤9223372036854775807:=by
 obtain⟨a',cap,hv,hcap,hmax,hel⟩:=h
 simp only[List.cons.injEq,and_true,Value.slice.injEq] at hv
 obtain⟨rfl,hn,_⟩:=hv
 unfold maxLen at hmax
 refine⟨hn,by omega,fun i x hi=>?_⟩
 obtain⟨b,off,ecs,h1,h2,h3,h4,_,h5⟩:=hel i x hi
 subst h4
 unfold maxLen at h5
 exact⟨b,off,h1,by simpa [ze8] using h3 0 _ rfl,by simpa [ze8] using h3 1 _ rfl,by omega⟩
theorem zbj {w:World} {r:Nat} {a:Option Addr} {n c i:Nat} {fin:Int} (h:RBox r (.slice a n c) i fin w):Calls Tryz.prog 159 #[rp r] w fun e w'=>e = .returned (.bool (decide (i < n)))∧∃ q,w'=w.drewN q:=by
 obtain⟨c0,c1,_,_⟩:=zba h
 have k1:decide ((i:Int) < (n:Int))=decide (i < n):=decide_eq_decide.2 (by omega)
 have Hh:=hd h;clear h
 go_enter Tryz.func159,Tryz.ntmps159
 go_wp2_with fail
 go_quiet (fail)
 go_wp2_with fail
 go_ret
 exact⟨rfl,_,rfl⟩
abbrev zea (c:Int):Ending:=.panicked [{ v:=.iface 206 (.agg #[.int .i64 c]),recovered:=false }]
theorem peek_any {w:World} {r:Nat} {a:Option Addr} {n c i:Nat} {fin:Int} {ws:List Wd} (h:RBox r (.slice a n c) i fin w) (hw:RWds w [.slice a n c] ws):Calls Tryz.prog 151 #[rp r] w fun e w'=>e = .returned (.string (zan ws i))∧∃ q,w'=w.drewN q:=by
 obtain⟨c0,c1,_,_⟩:=zba h
 have hM:=zbj h
 obtain⟨hn,hz,hat⟩:=zp1 hw
 by_cases hi:i < n
 ·have hi2:i < ws.length:=by omega
  obtain⟨b,off,rfl,_,d1,_⟩:=hat i _ (List.getElem?_eq_getElem hi2)
  rw[zh9 hi2]
  obtain⟨s,hs⟩ : ∃ s:ByteArray,s=⟨ws[i].2.toArray⟩:=⟨_,rfl⟩
  rw[← hs] at d1 ⊢
  rw[decide_eq_true hi] at hM
  have k5:(0:Int)≤(i:Int):=by omega
  have k6:(i:Int) < (n:Int):=by omega
  clear hs hat
  obtain⟨Hh,HM,Hw,Hn⟩:=hd4 h hM hw hn;clear h hM hw hn
  go_enter Tryz.func151,Tryz.ntmps151
  go_wp2_with fail
  refine HM.out.mono ?_
  rintro e w1 ⟨rfl,q,rfl⟩
  go_wp2_with fail
  go_quiet (fail)
  go_wp2_with fail
  go_ret
  exact⟨rfl,_,World.drewN_drewN _ _ _⟩
 rw[zeg (by omega)]
 rw[decide_eq_false hi] at hM
 clear hat
 obtain⟨Hh,HM,Hw,Hn⟩:=hd4 h hM hw hn;clear h hM hw hn
 go_enter Tryz.func151,Tryz.ntmps151
 go_wp2_with fail
 refine HM.out.mono ?_
 rintro e w1 ⟨rfl,q,rfl⟩
 go_wp2_with fail
 go_ret
 exact⟨rfl,_,rfl⟩
theorem zlv {w:World} {r:Nat} {a:Option Addr} {n c i:Nat} {fin:Int} {ws:List Wd} (h:RBox r (.slice a n c) i fin w) (hw:RWds w [.slice a n c] ws):Calls Tryz.prog 157 #[rp r] w fun e w'=>e=zea (zf6 ws fin i)∧∃ q,w'=w.drewN q:=by
 obtain⟨c0,c1,c2,_⟩:=zba h
 have hM:=zbj h
 obtain⟨hn,hz,hat⟩:=zp1 hw
 by_cases hi:i < n
 ·have hi2:i < ws.length:=by omega
  obtain⟨b,off,rfl,d0,_,_⟩:=hat i _ (List.getElem?_eq_getElem hi2)
  rw[col_some hi2]
  obtain⟨s,hs⟩ : ∃ s,s=ws[i].1:=⟨_,rfl⟩
  rw[← hs] at d0 ⊢
  rw[decide_eq_true hi] at hM
  have k5:(0:Int)≤(i:Int):=by omega
  have k6:(i:Int) < (n:Int):=by omega
  clear hs hat
  obtain⟨Hh,HM,Hw,Hn⟩:=hd4 h hM hw hn;clear h hM hw hn
  go_enter Tryz.func157,Tryz.ntmps157
  go_wp2_with fail
  refine HM.out.mono ?_
  rintro e w1 ⟨rfl,q,rfl⟩
  go_wp2_with fail
  refine wp_region_held_drew (S:=fun w'=>w'.cell? ⟨r,0,none⟩=some (.slice (some ⟨b,off,none⟩) n c)∧w'.cell? ⟨r,1,none⟩=some (.int .i64 i)∧w'.cell? ⟨b,off+i * 2,none⟩=some (.int .i64 s)) (by kernel_rfl) (by exact⟨c0,c1,d0⟩) (fun hHeld=>?_)
  refine wpAnyH_take (i:=0) (v:=?_) rfl (by kernel_rfl) (by kernel_rfl) (by kernel_rfl) (fun _ _ _ h=>h) (Or.inl ⟨by kernel_rfl,?_⟩) (by assumption) ?_
  rotate_left
  ·(intro w hSw;(try dsimp only at hSw);(try obtain⟨e0,e1,e2⟩:=hSw);go_simp;try with_reducible rfl)
  try simp only[Act.put,lA,lB,lC]
  refine wpAnyH_take (i:=1) (v:=?_) rfl (by kernel_rfl) (by kernel_rfl) (by kernel_rfl) (fun _ _ _ h=>h) (Or.inl ⟨by kernel_rfl,?_⟩) (by assumption) ?_
  rotate_left
  ·(intro w hSw;(try dsimp only at hSw);(try obtain⟨e0,e1,e2⟩:=hSw);go_simp;try with_reducible rfl)
  try simp only[Act.put,lA,lB,lC]
  refine wpAnyH_take (i:=2) (v:=?_) rfl (by kernel_rfl) (by kernel_rfl) (by kernel_rfl) (fun _ _ _ h=>h) (Or.inl ⟨by kernel_rfl,?_⟩) (by assumption) ?_
  rotate_left
  ·(intro w hSw;(try dsimp only at hSw);(try obtain⟨e0,e1,e2⟩:=hSw);go_simp;try with_reducible rfl)
  try simp only[Act.put,lA,lB,lC]
  refine wpAnyH_take (i:=3) (v:=?_) rfl (by kernel_rfl) (by kernel_rfl) (by kernel_rfl) (fun _ _ _ h=>h) (Or.inl ⟨by kernel_rfl,?_⟩) (by assumption) ?_
  rotate_left
  ·(intro w hSw;(try dsimp only at hSw);(try obtain⟨e0,e1,e2⟩:=hSw);go_simp;try with_reducible rfl)
  try simp only[Act.put,lA,lB,lC]
  refine wpAnyH_take (i:=4) (v:=?_) rfl (by kernel_rfl) (by kernel_rfl) (by kernel_rfl) (fun _ _ _ h=>h) (Or.inl ⟨by kernel_rfl,?_⟩) (by assumption) ?_
  rotate_left
  ·(intro w hSw;(try dsimp only at hSw);(try obtain⟨e0,e1,e2⟩:=hSw);go_simp;try with_reducible rfl)
  try simp only[Act.put,lA,lB,lC]
  refine wpAnyH_take (i:=5) (v:=?_) rfl (by kernel_rfl) (by kernel_rfl) (by kernel_rfl) (fun _ _ _ h=>h) (Or.inl ⟨by kernel_rfl,?_⟩) (by assumption) ?_
  rotate_left
  ·(intro w hSw;(try dsimp only at hSw);(try obtain⟨e0,e1,e2⟩:=hSw);go_simp;try with_reducible rfl)
  try simp only[Act.put,lA,lB,lC]
  refine wpAnyH_take (i:=6) (v:=?_) rfl (by kernel_rfl) (by kernel_rfl) (by kernel_rfl) (fun _ _ _ h=>h) (Or.inl ⟨by kernel_rfl,?_⟩) (by assumption) ?_
  rotate_left
  ·(intro w hSw;(try dsimp only at hSw);(try obtain⟨e0,e1,e2⟩:=hSw);go_simp;try with_reducible rfl)
  try simp only[Act.put,lA,lB,lC]
  refine wpAnyH_take (i:=7) (v:=?_) rfl (by kernel_rfl) (by kernel_rfl) (by kernel_rfl) (fun _ _ _ h=>h) (Or.inl ⟨by kernel_rfl,?_⟩) (by assumption) ?_
  rotate_left
  ·(intro w hSw;(try dsimp only at hSw);(try obtain⟨e0,e1,e2⟩:=hSw);go_simp;try with_reducible rfl)
  try simp only[Act.put,lA,lB,lC]
  refine wpAnyH_take (i:=8) (v:=?_) rfl (by kernel_rfl) (by kernel_rfl) (by kernel_rfl) (fun _ _ _ h=>h) (Or.inl ⟨by kernel_rfl,?_⟩) (by assumption) ?_
  rotate_left
  ·(intro w hSw;(try dsimp only at hSw);(try obtain⟨e0,e1,e2⟩:=hSw);go_simp;try with_reducible rfl)
  try simp only[Act.put,lA,lB,lC]
  refine wpAnyH_take (i:=9) (v:=?_) rfl (by kernel_rfl) (by kernel_rfl) (by kernel_rfl) (fun _ _ _ h=>h) (Or.inl ⟨by kernel_rfl,?_⟩) (by assumption) ?_
  rotate_left
  ·(intro w hSw;(try dsimp only at hSw);(try obtain⟨e0,e1,e2⟩:=hSw);go_simp;try with_reducible rfl)
  try simp only[Act.put,lA,lB,lC]
  refine wpAnyH_take (i:=10) (v:=?_) rfl (by kernel_rfl) (by kernel_rfl) (by kernel_rfl) (fun _ _ _ h=>h) (Or.inl ⟨by kernel_rfl,?_⟩) (by assumption) ?_
  rotate_left
  ·(intro w hSw;(try dsimp only at hSw);(try obtain⟨e0,e1,e2⟩:=hSw);go_simp;try with_reducible rfl)
  try simp only[Act.put,lA,lB,lC]
  refine wpAnyH_take (i:=11) (v:=?_) rfl (by kernel_rfl) (by kernel_rfl) (by kernel_rfl) (fun _ _ _ h=>h) (Or.inl ⟨by kernel_rfl,?_⟩) (by assumption) ?_
  rotate_left
  ·(intro w hSw;(try dsimp only at hSw);(try obtain⟨e0,e1,e2⟩:=hSw);go_simp;try with_reducible rfl)
  try simp only[Act.put,lA,lB,lC]
  refine wpAnyH_take (i:=12) (v:=?_) rfl (by kernel_rfl) (by kernel_rfl) (by kernel_rfl) (fun _ _ _ h=>h) (Or.inl ⟨by kernel_rfl,?_⟩) (by assumption) ?_
  rotate_left
  ·(intro w hSw;(try dsimp only at hSw);(try obtain⟨e0,e1,e2⟩:=hSw);go_simp;try with_reducible rfl)
  try simp only[Act.put,lA,lB,lC]
  refine wpAnyH_ready (rs:=[13]) (by kernel_rfl) (by simp) ?_
  refine AllReadyH.cons rfl (fun K hK=>?_) AllReadyH.nil
  go_simp
  exact⟨rfl,rfl,_,rfl⟩
 rw[col_none (by omega)]
 rw[decide_eq_false hi] at hM
 clear hat
 obtain⟨Hh,HM,Hw,Hn⟩:=hd4 h hM hw hn;clear h hM hw hn
 go_enter Tryz.func157,Tryz.ntmps157
 go_wp2_with fail
 refine HM.out.mono ?_
 rintro e w1 ⟨rfl,q,rfl⟩
 go_wp2_with fail
 exact⟨rfl,rfl,_,rfl⟩
theorem zbv (w:World) (r:Nat):Calls Tryz.prog 158 #[rp r,.bool true] w fun e w'=>e = .returned (.tuple #[])∧w'=w:=by
 go_enter Tryz.func158,Tryz.ntmps158
 go_wp2_with fail
 go_end0
 exact⟨rfl,rfl⟩
theorem zf1 {w:World} {r:Nat} {a:Option Addr} {n c i:Nat} {fin:Int} {ws:List Wd} (h:RBox r (.slice a n c) i fin w) (hw:RWds w [.slice a n c] ws):Calls Tryz.prog 158 #[rp r,.bool false] w fun e w'=>e=zea (zf6 ws fin i)∧∃ q,w'=w.drewN q:=by
 have hT:=zlv h hw
 obtain⟨HT,Hh,Hw⟩:=hd3 hT h hw;clear hT h hw
 go_enter Tryz.func158,Tryz.ntmps158
 go_wp2_with fail
 refine HT.out.mono ?_
 rintro e w1 ⟨rfl,q,rfl⟩
 go_wp2_with fail
 exact⟨rfl,rfl,_,rfl⟩
end

section
open Go.Shelf Go.RowKit Go.Lib VerN
open LexM (Wd)
attribute [local go_sem ↓] Go.wp_at_zero Go.wp_at_succ
structure RdC (w0:World) (r:Nat) (a:Option Addr) (n c:Nat) (fin:Int) (ws:List Wd):Prop where
 words:RWds w0 [.slice a n c] ws
 doors:zbz w0
 low:w0.heap.size≤r
 n1000:n≤1000
 sz:∀ x∈ws,x.2.length≤70000
structure RdS (w0:World) (r:Nat) (a:Option Addr) (n c:Nat) (fin:Int) (i:Nat) (W:World):Prop where
 box:RBox r (.slice a n c) i fin W
 bel:Below w0.heap.size w0 W
section
variable {w0 W W' : World} {r : Nat} {a : Option Addr} {n c : Nat} {fin : Int} {ws : List Wd} {i : Nat}
theorem RdC.len (C:RdC w0 r a n c fin ws):n=ws.length:=(zp1 C.words).1
theorem RdC.wds (C:RdC w0 r a n c fin ws) (S:RdS w0 r a n c fin i W):RWds W [.slice a n c] ws:=zam zp7 _ _ _ _ C.words S.bel
theorem RdS.to (S:RdS w0 r a n c fin i W) (h:Below W.heap.size W W'):RdS w0 r a n c fin i W':=⟨za0 h S.box,S.bel.trans (h.mono S.bel.size)⟩
theorem RdS.drewN (S:RdS w0 r a n c fin i W) (q:Nat):RdS w0 r a n c fin i (W.drewN q):=S.to (zac (Below.refl _ _) q)
theorem RdC.dr (C:RdC w0 r a n c fin ws) (S:RdS w0 r a n c fin i W):zbz W:=C.doors.below S.bel
theorem RdC.peek (C:RdC w0 r a n c fin ws) (S:RdS w0 r a n c fin i W):Calls Tryz.prog 151 #[rp r] W fun e w'=>e = .returned (.string (zan ws i))∧∃ q,w'=W.drewN q:=peek_any S.box (C.wds S)
theorem RdC.more (_:RdC w0 r a n c fin ws) (S:RdS w0 r a n c fin i W):Calls Tryz.prog 159 #[rp r] W fun e w'=>e = .returned (.bool (decide (i < n)))∧∃ q,w'=W.drewN q:=zbj S.box
theorem RdC.want (C:RdC w0 r a n c fin ws) (S:RdS w0 r a n c fin i W):Calls Tryz.prog 158 #[rp r,.bool false] W fun e w'=>e=zea (zf6 ws fin i)∧∃ q,w'=W.drewN q:=zf1 S.box (C.wds S)
theorem RdC.peek_size (C:RdC w0 r a n c fin ws) (i:Nat):(zan ws i).size≤70000:=by
 by_cases h:i < ws.length
 ·rw[zh9 h]
  show (ws[i].2.toArray).size≤_
  rw[List.size_toArray]
  exact C.sz _ (List.getElem_mem h)
 rw[zeg (by omega)]
 decide
theorem RdS.on (S:RdS w0 r a n c fin i W) (hlow:w0.heap.size≤r):RdS w0 r a n c fin (i+1) (W.setCell ⟨r,1,none⟩ (.int .i64 ((i:Int)+1))) :=
 ⟨heap_setCell_same _ r 1 _ _ _ S.box,S.bel.setCell (p:=⟨r,1,none⟩) hlow _⟩
end
theorem zn3 (c:UInt8) (s:ByteArray):(cutB c s).1.size≤s.size∧(cutB c s).2.1.size≤s.size:=by
 have e:∀ l:List UInt8,(⟨l.toArray⟩ : ByteArray).size=l.length:=fun l=>rfl
 have h1:(cut s.data.toList [c]).1.length≤s.size∧(cut s.data.toList [c]).2.1.length≤s.size:=by
  rw[← Txt.len]
  unfold cut
  split
  ·exact⟨by simp;omega,by simp⟩
  exact⟨by simp,by simp⟩
 unfold cutB
 exact⟨by rw[e];exact h1.1,by rw[e];exact h1.2⟩
def atOf (r:Nat) (W:World):Nat:=match W.cell? ⟨r,1,none⟩ with
 | some u=>(RowKit.intOf u).toNat
 | none=>0
theorem zil {r:Nat} {v:Value} {i:Nat} {fin:Int} {W:World} (h:RBox r v i fin W):atOf r W=i:=by
 unfold atOf
 rw[(zba h).2.1]
 simp[RowKit.intOf]
theorem zm3 (out:List Setg) (x:Setg):(out ++ [x]).flatMap setCells=out.flatMap setCells ++ [.string x.1,.string x.2]:=by simp[setCells]
def SetsPost (r:Nat) (a:Option Addr) (n c:Nat) (fin:Int) (ws:List Wd) (i:Nat) (w:World) (e:Ending) (w':World):Prop :=
 ((∃ l j v,zb7 ws i []=(some l,j)∧e = .returned v∧zel w' v l∧RBox r (.slice a n c) j fin w')∨(∃ j,zb7 ws i []=(none,j)∧e=zea (zf6 ws fin j)))∧Frm (fun k=>k=r) w w'
structure StI (w0:World) (r:Nat) (a:Option Addr) (n c:Nat) (fin:Int) (ws:List Wd) (i:Nat) (w:World) (k:Nat) (out:List Setg) (v:Value) (W:World):Prop where
 st:RdS w0 r a n c fin (i+k) W
 row:W.ownsRow w.heap.size 109 2 v k (out.flatMap setCells)
 len:out.length=k
 same:zb7 ws i []=zb7 ws (i+k) out
 frm:Frm (fun x=>x=r) w W
 sz:∀ x∈out,x.1.size≤70000∧x.2.size≤70000
 k1000:k≤1000
theorem StI.reads {w0:World} {r:Nat} {a:Option Addr} {n c:Nat} {fin:Int} {ws:List Wd} {i:Nat} {w:World} {k:Nat} {out:List Setg} {v:Value} {W:World} (h:StI w0 r a n c fin ws i w k out v W):zel W v out :=
 ⟨zkc (B:=w.heap.size) (fun x hx=>by have:=h.sz x hx;unfold maxLen;omega) (by rw[h.len];exact h.row),fun _=>zp4 h.row⟩
theorem StI.to {w0:World} {r:Nat} {a:Option Addr} {n c:Nat} {fin:Int} {ws:List Wd} {i:Nat} {w:World} {k:Nat} {out:List Setg} {v:Value} {W W':World} (h:StI w0 r a n c fin ws i w k out v W) (hb:Below W.heap.size W W'):StI w0 r a n c fin ws i w k out v W' :=
 ⟨h.st.to hb,za6 h.row hb,h.len,h.same,h.frm.trans (Frm.of_below (S:=fun _=>False) hb) (fun _ _ h=>h.elim),h.sz,h.k1000⟩
theorem StI.push {w0:World} {r:Nat} {a:Option Addr} {n c:Nat} {fin:Int} {ws:List Wd} {i:Nat} {w:World} {k:Nat} {out:List Setg} {v v9:Value} {W w9:World} (h:StI w0 r a n c fin ws i w k out v W) (hlow:w0.heap.size≤r) (hrw:r < w.heap.size) {x:Setg} (hx:x.1.size≤70000∧x.2.size≤70000)
  (hg:W.grownBy w9 v.ownBlock) (ho:w9.ownsRow w.heap.size 109 2 v9 (k+1) (out.flatMap setCells ++ [.string x.1,.string x.2])) :
  RdS w0 r a n c fin (i+k) w9∧Frm (fun x=>x=r) w w9∧zfj w9 [v9] (out ++ [x])∧(∀ y∈out ++ [x],y.1.size≤70000∧y.2.size≤70000):=by
 have hne:∀ j,v.ownBlock=some j→w.heap.size≤j:=fun j e=>(h.row.lt j e).1
 have hrW:r < W.heap.size:=(Array.getElem?_eq_some_iff.1 h.st.box).1
 have hsz:∀ y∈out ++ [x],y.1.size≤70000∧y.2.size≤70000:=fun y hy=>by
  rcases List.mem_append.1 hy with hy | hy
  ·exact h.sz y hy
  rw[List.mem_singleton] at hy;rw[hy];exact hx
 refine⟨⟨(hg.block r hrW (fun e=>by have:=hne r e.symm;omega)).trans h.st.box,zai h.st.bel h.row (by omega) hg h.st.bel.size⟩,h.frm.grown hg (fun j e=>.inl (hne j e)),?_,hsz⟩
 refine zkc (B:=w.heap.size) (fun y hy=>by have:=hsz y hy;unfold maxLen;omega) ?_
 rw[List.length_append,h.len,zm3]
 exact ho
theorem StI.next {w0:World} {r:Nat} {a:Option Addr} {n c:Nat} {fin:Int} {ws:List Wd} {i:Nat} {w:World} {k:Nat} {out:List Setg} {v9:Value} {w10:World} (hS:RdS w0 r a n c fin (i+k) w10) (hF:Frm (fun x=>x=r) w w10) {x:Setg} (hsz:∀ y∈out ++ [x],y.1.size≤70000∧y.2.size≤70000) (hlen:out.length=k) (hlow:w0.heap.size≤r) (hrw:r < w.heap.size) (hk:k+1≤1000)
  (ho:w10.ownsRow w.heap.size 109 2 v9 (k+1) (out.flatMap setCells ++ [.string x.1,.string x.2])) (hs:zb7 ws i []=zb7 ws (i+k+1) (out ++ [x])) :
  StI w0 r a n c fin ws i w (k+1) (out ++ [x]) v9 (w10.setCell ⟨r,1,none⟩ (.int .i64 (((i+k:Nat):Int)+1))) :=
 ⟨hS.on hlow,by rw[zm3];exact zeh ho hrw 1 _,by rw[List.length_append,hlen];rfl,hs,zad hF 1 _,hsz,hk⟩
theorem zes {w0 w:World} {r:Nat} {a:Option Addr} {n c:Nat} {fin:Int} {ws:List Wd} {i:Nat} (C:RdC w0 r a n c fin ws) (S:RdS w0 r a n c fin i w):Calls Tryz.prog 183 #[rp r] w (SetsPost r a n c fin ws i w):=by
 have hrw:r < w.heap.size:=(Array.getElem?_eq_some_iff.1 S.box).1
 have hst:StI w0 r a n c fin ws i w 0 [] (.slice none 0 0) w:=⟨S,World.ownsRow_nil _ _ _ _,rfl,rfl,Frm.refl _ _,(fun x hx=>by simp at hx),Nat.zero_le _⟩
 have hn1:=C.n1000
 obtain⟨HC,HS,Hst⟩:=hd3 C S hst;clear C S hst
 go_enter Tryz.func183,Tryz.ntmps183
 go_wp2_with fail
 go_loopw [3] (fun v wr=>∃ (k:Nat) (out:List Setg),StI w0 r a n c fin ws i w k out v wr) (fun _ wr=>n - atOf r wr)
 case atStart=>exact⟨0,[],Hst.out⟩
 case round =>
  obtain⟨k,out,hI⟩:=hrel
  obtain⟨a1,c1,rfl⟩:=za9 hI.row
  have hP:=HC.out.peek hI.st
  have hmeas:atOf r wr=i+k:=zil hI.st.box
  obtain⟨s,hs⟩ : ∃ s,s=zan ws (i+k):=⟨_,rfl⟩
  have hsz:s.size≤70000:=by rw[hs];exact HC.out.peek_size _
  rw[← hs] at hP
  have hCo:=fun (W:World)=>Tryz.strings_Contains_one s 61 W
  obtain⟨hb,hhb⟩ : ∃ b,b=hasB 61 s:=⟨_,rfl⟩
  rw[show decide (0≤indexByte s.data.toList 61)=hb from hhb.symm] at hCo
  obtain⟨wo,hwo⟩ : ∃ W,W=wr:=⟨_,rfl⟩
  rw[← hwo] at hI hP hmeas ⊢
  clear hwo wr
  obtain⟨HI,HP,HCo,Hs,Hhb,Hmeas⟩:=hd6 hI hP hCo hs hhb hmeas;clear hI hP hCo hs hhb hmeas
  go_wp2_with fail
  refine HP.out.mono ?_
  rintro e w1 ⟨rfl,q1,rfl⟩
  have hI1:=HI.out.to (zac (Below.refl _ _) q1)
  generalize wo.drewN q1=W1 at hI1 ⊢
  have HI1:=hd hI1;clear hI1
  go_wp2_with fail
  refine (HCo.out _).mono ?_
  rintro e w1 ⟨rfl,rfl⟩
  cases hb with
  | false =>
   go_wp2_with fail
   go_ret
   exact⟨.inl ⟨out,i+k,_,by rw[HI1.out.same];exact zkd (by rw[← Hs.out];exact Hhb.out.symm),rfl,HI1.out.reads,HI1.out.st.box⟩,HI1.out.frm⟩
  | true =>
   have hP2:=HC.out.peek HI1.out.st
   rw[← Hs.out] at hP2
   have HP2:=hd hP2;clear hP2
   go_wp2_with fail
   refine HP2.out.mono ?_
   rintro e w1 ⟨rfl,q2,rfl⟩
   have hI2:=HI1.out.to (zac (Below.refl _ _) q2)
   generalize w1.drewN q2=W2 at hI2 ⊢
   obtain⟨mx,hmx⟩:=(HC.out.dr hI2.st).max
   have hCut:=Tryz.strings_Cut s ⟨#[61]⟩ mx W2 (by omega) hmx
   clear hmx
   obtain⟨nm,hnm⟩ : ∃ x:ByteArray,x=⟨(cut s.data.toList [61]).1.toArray⟩:=⟨_,rfl⟩
   obtain⟨vl,hvl⟩ : ∃ x:ByteArray,x=⟨(cut s.data.toList [61]).2.1.toArray⟩:=⟨_,rfl⟩
   obtain⟨fl,hfl⟩ : ∃ x:Bool,x=(cut s.data.toList [61]).2.2:=⟨_,rfl⟩
   simp only[← hnm,← hvl,← hfl] at hCut
   have hsg:zfu s=(nm,vl):=by unfold zfu cutB;rw[hnm,hvl]
   have hsgz:nm.size≤70000∧vl.size≤70000:=by
    have:=zn3 61 s
    have e1:nm=(cutB 61 s).1:=hnm
    have e2:vl=(cutB 61 s).2.1:=hvl
    rw[e1,e2]
    omega
   have hlt:i+k < n:=by rw[HC.out.len];exact zps (by rw[← Hs.out];exact Hhb.out.symm)
   obtain⟨HCut,HI2,Hnm,Hvl,Hfl,Hsg,Hsgz⟩:=hd7 hCut hI2 hnm hvl hfl hsg hsgz;clear hCut hI2 hnm hvl hfl hsg hsgz
   go_wp2_with fail
   refine HCut.out.mono ?_
   rintro e w1 ⟨rfl,q3,rfl⟩
   have hI3:=HI2.out.to (zac (Below.refl _ _) q3)
   generalize W2.drewN q3=W3 at hI3 ⊢
   have hrow3:=hI3.row
   have hbW3:w.heap.size≤W3.heap.size:=hI3.frm.size
   have hk1:=hI3.k1000
   obtain⟨N,hN⟩ : ∃ N,N=out.flatMap setCells:=⟨_,rfl⟩
   rw[← hN] at hrow3
   obtain⟨HI3,Hrow3,HN⟩:=hd3 hI3 hrow3 hN;clear hI3 hrow3 hN
   go_wp2_with (at_builtin;(refine zcm elem_set rfl (.tmp 18) (.tmp 22) rfl w.heap.size (.slice a1 k c1) k N rfl Hrow3.out 1 #[.string nm,.string vl] rfl rfl (by simp[Value.oneCell']) (by omega) (by unfold maxLen;omega) hbW3 ?_;intro v9 w9 hown9 hg9 hm9;obtain⟨a9,c9,rfl⟩:=za9 hown9;obtain⟨Hown9,Hg9⟩:=hd2 hown9 hg9;clear hown9 hg9 hm9))
   have ho9:=Hown9.out
   rw[HN.out] at ho9
   obtain⟨hS9,hF9,hR9,hZ9⟩:=HI3.out.push HC.out.low hrw (x:=(nm,vl)) Hsgz.out Hg9.out ho9
   have hW:=zq8 hR9
   obtain⟨b,hb⟩ : ∃ b,b=ze7 (out ++ [(nm,vl)]):=⟨_,rfl⟩
   rw[← hb] at hW
   obtain⟨Ho9,HS9,HF9,HR9,HZ9,HW,Hb⟩:=hd7 ho9 hS9 hF9 hR9 hZ9 hW hb;clear ho9 hS9 hF9 hR9 hZ9 hW hb
   refine HW.out.mono ?_
   rintro e w10 ⟨rfl,hb10⟩
   have hS10:=HS9.out.to hb10
   have hF10:=HF9.out.trans (Frm.of_below (S:=fun _=>False) hb10) (fun _ _ h=>h.elim)
   have ho10:=za6 Ho9.out hb10
   cases b with
   | false =>
    have hWn:=HC.out.want hS10
    obtain⟨HS10,HF10,Ho10,HWn,Hb10⟩:=hd5 hS10 hF10 ho10 hWn hb10;clear hS10 hF10 ho10 hWn hb10
    go_wp2_with fail
    refine HWn.out.mono ?_
    rintro e w11 ⟨rfl,q4,rfl⟩
    go_wp2_with fail
    refine⟨rfl,.inr ⟨i+k,?_,rfl⟩,HF10.out.drewN q4⟩
    rw[HI3.out.same]
    exact zj2 (by rw[← Hs.out];exact Hhb.out.symm) (by rw[← Hs.out,Hsg.out];exact Hb.out.symm)
   | true =>
    obtain⟨m,hm⟩ : ∃ m,m=i+k:=⟨_,rfl⟩
    have hsm:zb7 ws i []=zb7 ws (i+k+1) (out ++ [(nm,vl)]):=by
     rw[HI3.out.same,zj1 (by rw[← Hs.out];exact Hhb.out.symm) (by rw[← Hs.out,Hsg.out];exact Hb.out.symm),← Hs.out,Hsg.out]
    have hnx:=StI.next hS10 hF10 HZ9.out HI3.out.len HC.out.low hrw (by omega) ho10 hsm
    rw[← hm] at hS10 hnx hlt
    obtain⟨_,c1',_,c3'⟩:=zba hS10.box
    have hme:=Hmeas.out
    rw[← hm] at hme
    obtain⟨HS10,HF10,Ho10,Hb10,Hm,Hsm,Hnx⟩:=hd7 hS10 hF10 ho10 hb10 hm hsm hnx;clear hS10 hF10 ho10 hb10 hm hsm hnx
    go_wp2_with fail
    refine (zbv w10 r).mono ?_
    rintro e w11 ⟨rfl,hw11⟩
    subst hw11
    go_wp2_with fail
    go_roundw
    case rel=>exact⟨k+1,_,Hnx.out⟩
    case measure =>
     rw[zil (i:=m+1) (fin:=fin) (v:=.slice a n c) ?_,hme]
     ·omega
     have:=Hnx.out.st.box
     rw[show i+(k+1)=m+1 by rw[Hm.out];rfl] at this
     exact this
end

section
open Go.Lib VerN VarM
open LexM (Wd Ln)
def wtx (x:Wd):ByteArray:=⟨x.2.toArray⟩
def zap (ws:List Wd) (i:Nat):List ByteArray:=(ws.drop i).map wtx
theorem zaz {ws:List Wd} {i:Nat} (h:ws.length≤i):zap ws i = []:=by unfold zap;rw[List.drop_eq_nil_of_le h];rfl
theorem zaj {ws:List Wd} {i:Nat} (h:i < ws.length):zap ws i=zan ws i :: zap ws (i+1):=by
 unfold zap
 rw[List.drop_eq_getElem_cons h,zh9 h]
 rfl
theorem zcu (ws:List Wd) (i:Nat):(zap ws i).length=ws.length - i:=by unfold zap;simp
def zj0:List ByteArray→List Setg→Option (List Setg × List ByteArray)
 | [],out=>some (out,[])
 | x :: r,out=>if hasB 61 x=true then (if ze7 (out ++ [zfu x])=true then zj0 r (out ++ [zfu x]) else none) else some (out,x :: r)
noncomputable def zng:List ByteArray→Option (Spc3 × List ByteArray)
 | [] => none
 | x :: r=>if zho x=true then (zj0 r []).map fun q=>(((cutB 64 x).1,zhx x,q.1),q.2) else none
def ziv:ByteArray:=⟨#[42]⟩
def noT:ByteArray:=⟨#[]⟩
def zfm (s:ByteArray):Bool:=decide (s.data.toList.head? = some 64)
def zgq (s:ByteArray):ByteArray:=⟨(s.data.toList.drop 1).toArray⟩
noncomputable def zd4 (ws:List Wd) (i:Nat):Option Spc3 × Nat :=
 if zan ws i=ziv then (some (noT,allV,[]),i+1)
 else if zfm (zan ws i)=true then
  (if zed (zgq (zan ws i))=true then ((zb7 ws (i+1) []).1.map fun l=>(noT,rdV (zgq (zan ws i)),l),(zb7 ws (i+1) []).2) else (none,i))
 else if hasB 61 (zan ws i)=true then ((zb7 ws i []).1.map fun l=>(noT,allV,l),(zb7 ws i []).2)
 else (none,i)
noncomputable def zon:List ByteArray→Option (Spc3 × List ByteArray)
 | [] => none
 | x :: r=>if x=ziv then some ((noT,allV,[]),r)
  else if zfm x=true then (if zed (zgq x)=true then (zj0 r []).map fun q=>((noT,rdV (zgq x),q.1),q.2) else none)
  else if hasB 61 x=true then (zj0 (x :: r) []).map fun q=>((noT,allV,q.1),q.2)
  else none
def zjr {α:Type} (ws:List Wd):Option α × Nat→Option (α × List ByteArray)
 | (some l,j)=>some (l,zap ws j)
 | (none,_)=>none
theorem zpe (ws:List Wd):∀ (f i:Nat) (out:List Setg),ws.length - i=f→zj0 (zap ws i) out=zjr ws (zk0 ws f i out)
 | 0,i,out,h=>by
  rw[zaz (by omega)]
  show some (out,[])=some (out,zap ws i)
  rw[zaz (by omega)]
 | f+1,i,out,h=>by
  rw[zaj (by omega)]
  show (if _ then _ else _)=zjr ws (if _ then _ else _)
  by_cases h1:hasB 61 (zan ws i)=true
  ·rw[if_pos h1,if_pos h1]
   by_cases h2:ze7 (out ++ [zfu (zan ws i)])=true
   ·rw[if_pos h2,if_pos h2]
    exact zpe ws f (i+1) _ (by omega)
   rw[if_neg h2,if_neg h2]
   rfl
  rw[if_neg h1,if_neg h1,← zaj (by omega)]
  rfl
theorem zgt (ws:List Wd) (i:Nat) (out:List Setg):zj0 (zap ws i) out=zjr ws (zb7 ws i out):=zpe ws _ i out rfl
theorem zpd (ws:List Wd):∀ (f i:Nat) (out:List Setg),i≤(zk0 ws f i out).2∧(zk0 ws f i out).2≤max i ws.length
 | 0,i,out=>⟨Nat.le_refl _,Nat.le_max_left _ _⟩
 | f+1,i,out=>by
  by_cases h1:hasB 61 (zan ws i)=true
  ·have hl:=zps h1
   by_cases h2:ze7 (out ++ [zfu (zan ws i)])=true
   ·have e:zk0 ws (f+1) i out=zk0 ws f (i+1) (out ++ [zfu (zan ws i)]):=by
     show (if _ then _ else _)=_
     rw[if_pos h1,if_pos h2]
    rw[e]
    have:=zpd ws f (i+1) (out ++ [zfu (zan ws i)])
    omega
   have e:zk0 ws (f+1) i out=(none,i):=by
    show (if _ then _ else _)=_
    rw[if_pos h1,if_neg h2]
   rw[e]
   exact⟨Nat.le_refl _,Nat.le_max_left _ _⟩
  have e:zk0 ws (f+1) i out=(some out,i):=by
   show (if _ then _ else _)=_
   rw[if_neg h1]
  rw[e]
  exact⟨Nat.le_refl _,Nat.le_max_left _ _⟩
theorem zf4 (ws:List Wd) (i:Nat) (out:List Setg):i≤(zb7 ws i out).2∧(zb7 ws i out).2≤max i ws.length:=zpd ws _ i out
theorem zml:zho ⟨#[]⟩=false:=by
 unfold zho
 rw[show (cutB 64 (⟨#[]⟩ : ByteArray))=(⟨#[]⟩,⟨#[]⟩,false) from by kernel_rfl]
 rfl
theorem zin (ws:List Wd) (i:Nat):zng (zap ws i)=zjr ws (ze0 ws i):=by
 by_cases h:i < ws.length
 ·rw[zaj h]
  show (if _ then _ else _)=_
  unfold ze0
  by_cases h1:zho (zan ws i)=true
  ·rw[if_pos h1,if_pos h1,zgt]
   rcases zb7 ws (i+1) [] with⟨_ | l,j⟩ <;> rfl
  rw[if_neg h1,if_neg h1]
  rfl
 rw[zaz (by omega)]
 unfold ze0
 rw[zeg (by omega),if_neg (by rw[zml];simp)]
 rfl
theorem zoz {ws:List Wd} {i j:Nat} {s:Spc3} (h:ze0 ws i=(some s,j)):i < j∧j≤ws.length:=by
 have hi:i < ws.length:=by
  apply Nat.lt_of_not_le
  intro hk
  unfold ze0 at h
  rw[zeg hk,if_neg (by rw[zml];simp)] at h
  cases h
 unfold ze0 at h
 by_cases h1:zho (zan ws i)=true
 ·rw[if_pos h1] at h
  have h2:=zf4 ws (i+1) []
  have h3:(zb7 ws (i+1) []).2=j:=congrArg Prod.snd h
  omega
 rw[if_neg h1] at h
 cases h
theorem zjn (ws:List Wd) (i:Nat):zon (zap ws i)=zjr ws (zd4 ws i):=by
 by_cases h:i < ws.length
 ·rw[zaj h]
  show (if _ then _ else _)=_
  unfold zd4
  by_cases h1:zan ws i=ziv
  ·rw[if_pos h1,if_pos h1]
   rfl
  rw[if_neg h1,if_neg h1]
  by_cases h2:zfm (zan ws i)=true
  ·rw[if_pos h2,if_pos h2]
   by_cases h3:zed (zgq (zan ws i))=true
   ·rw[if_pos h3,if_pos h3,zgt]
    rcases zb7 ws (i+1) [] with⟨_ | l,j⟩ <;> rfl
   rw[if_neg h3,if_neg h3]
   rfl
  rw[if_neg h2,if_neg h2]
  by_cases h3:hasB 61 (zan ws i)=true
  ·rw[if_pos h3,if_pos h3,← zaj h,zgt]
   rcases zb7 ws i [] with⟨_ | l,j⟩ <;> rfl
  rw[if_neg h3,if_neg h3]
  rfl
 rw[zaz (by omega)]
 unfold zd4
 rw[zeg (by omega),if_neg (by decide),if_neg (by decide),if_neg (by rw[zle];simp)]
 rfl
theorem cut_parts (c:UInt8) (s:ByteArray):(∃ k:Nat,indexByte s.data.toList c=k∧k < s.data.toList.length∧s.data.toList[k]? = some c∧hasB c s=true∧cutB c s=(⟨(s.data.toList.take k).toArray⟩,⟨(s.data.toList.drop (k+1)).toArray⟩,true)) ∨
  (hasB c s=false∧cutB c s=(s,⟨#[]⟩,false)):=by
 obtain⟨l,hl⟩ : ∃ l,l=s.data.toList:=⟨_,rfl⟩
 have hs:s=⟨l.toArray⟩:=Txt.ext (by rw[hl])
 unfold hasB cutB cut
 rw[← hl,index_one]
 have hge:=indexByte_ge l c
 by_cases h:0≤indexByte l c
 ·left
  obtain⟨k,hk⟩ : ∃ k:Nat,indexByte l c=k:=⟨(indexByte l c).toNat,by omega⟩
  have h1:=(indexByte_some hk).1
  refine⟨k,hk,(List.getElem?_eq_some_iff.1 h1).1,h1,decide_eq_true h,?_⟩
  rw[if_pos h,hk]
  rfl
 right
 refine⟨decide_eq_false h,?_⟩
 rw[if_neg h,hs]
theorem cut_none {c:UInt8} {s:ByteArray} (h:(cutB c s).2.2=false):(cutB c s).1=s:=by
 rcases cut_parts c s with⟨k,_,_,_,_,e⟩ | ⟨_,e⟩
 ·rw[e] at h
  cases h
 rw[e]
def Stop (r:List ByteArray):Prop:=∀ x,r.head? = some x→hasB 61 x=false
end
end Go.Proofs.YteailgjiifdgcaaGreatDoor
