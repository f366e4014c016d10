/- Walks and plain facts. Texts merged: SpsT, SpnRm, SpsW, SpsB, Ins, SpsX. Condition: none beyond what each says. -/
import Derived.Lib.Join
import Derived.Test.YteailgjiifdgcaaGreatDoorRequestParsesAll6
set_option linter.unusedVariables false
set_option linter.unusedSimpArgs false
set_option maxRecDepth 10000
set_option maxHeartbeats 4000000
namespace Go.Proofs.YteailgjiifdgcaaGreatDoor
section
open Go.Shelf Go.RowKit Go.Lib Go.Sort SortM VerN
theorem elem_txts:Elem Tryz.prog 88 9 (.string ⟨#[]⟩) 1 16:=⟨Tryz.underlying88,by kernel_rfl,rfl,by decide⟩
def zcv (s:BSp):ByteArray:=txS s.1 s.2
theorem znt {s:BSp} (h:s.1.size≤9000∧s.2.size≤9000):(zcv s).size≤18001:=by
 unfold zcv txS
 split
 ·have:=zk8 s.1 s.2;omega
 decide
def zob (F:List BSp):ByteArray:=⟨(Lib.join ((F.map zcv).map (·.data.toList)) [44]).toArray⟩
theorem zo9 (B:Nat):∀ (L:List (List UInt8)),(∀ x∈L,x.length≤B)→Lib.lens L≤B * L.length
 | [],_=>by simp[Lib.lens]
 | x :: L,h=>by
  have h1:=zo9 B L fun y hy=>h y (by simp[hy])
  have h2:=h x (by simp)
  simp only[Lib.lens,List.map_cons,List.sum_cons,List.length_cons] at *
  rw[Nat.mul_add]
  omega
theorem zra {F:List BSp} (h:ze1 F) (hl:F.length≤80000):(Lib.join ((F.map zcv).map (·.data.toList)) [44]).length≤140737488355328:=by
 have hb:∀ x∈(F.map zcv).map (·.data.toList),x.length≤18001:=by
  intro x hx
  obtain⟨y,hy,rfl⟩:=List.mem_map.1 hx
  obtain⟨z,hz,rfl⟩:=List.mem_map.1 hy
  rw[Txt.len]
  exact znt (h z hz)
 have h1:=zo9 18001 _ hb
 have h2:((F.map zcv).map (·.data.toList)).length≤80000:=by simpa using hl
 obtain⟨L,hL⟩ : ∃ L,L=(F.map zcv).map (·.data.toList):=⟨_,rfl⟩
 rw[← hL] at h1 h2 ⊢
 cases L with
 | nil=>simp[Lib.join_nil]
 | cons x r =>
  rw[Lib.join_length]
  simp only[List.length_cons,List.length_nil] at *
  omega
def zcx (l:List Tp):ByteArray:=if zbv l=false then ⟨#[]⟩ else if (zcr l).length=0 then ⟨#[33]⟩ else zob (zcr l)
theorem zfs (l:List Tp):ze1 (zcr l):=zft _ _ (fun z hz=>by simp at hz) (zev _)
theorem znr {F:List BSp} {k:Nat} (h:k < F.length):((F.take (k+1)).map fun s=>Value.string (zcv s))=((F.take k).map fun s=>Value.string (zcv s)) ++ [Value.string (zcv F[k])]:=by
 rw[List.take_succ_eq_append_getElem h,List.map_append];rfl
theorem znc {w:World} {v:Value} {l:List Tp} (h:RSps w [v] (tB l)) (hl:l.length≤80000) (hD:zbi w):Calls Tryz.prog 19 #[v] w fun e w'=>e = .returned (.string (zcx l))∧Below w.heap.size w w':=by
 have hF:=form_any h hl hD
 unfold zld at hF
 obtain⟨a,cap,rfl⟩:=zc8 h
 obtain⟨ok,hok⟩ : ∃ b,b=zbv l:=⟨_,rfl⟩
 obtain⟨n,hn⟩ : ∃ n,n=(tB l).length:=⟨_,rfl⟩
 obtain⟨F,hFF⟩ : ∃ F,F=zcr l:=⟨_,rfl⟩
 rw[← hok,← hFF] at hF
 rw[← hn] at hF h ⊢
 cases ok with
 | false =>
  have ht:zcx l=⟨#[]⟩:=by unfold zcx;rw[if_pos hok.symm]
  rw[ht]
  obtain⟨Hh,HF,Hok,Hn,HFF,HD,Ht⟩:=hd7 h hF hok hn hFF hD ht;clear h hF hok hn hFF hD ht
  go_enter Tryz.func19,Tryz.ntmps19
  go_wp2_with fail
  refine HF.out.mono ?_
  rintro e w1 ⟨o,rfl,_,ho,hb1⟩
  obtain⟨Ho,Hb1⟩:=hd2 ho hb1;clear ho hb1
  go_wp2_with fail
  go_ret
  exact⟨rfl,Hb1.out⟩
 | true =>
  have hlen:F.length≤80000:=by rw[hFF];have:=form_len l;omega
  have hFs:ze1 F:=by rw[hFF];exact zfs l
  obtain⟨Hh,HF,Hok,Hn,HFF,HD,HFs⟩:=hd7 h hF hok hn hFF hD hFs;clear h hF hok hn hFF hD hFs
  go_enter Tryz.func19,Tryz.ntmps19
  go_wp2_with fail
  refine HF.out.mono ?_
  rintro e w1 ⟨o,rfl,ho,_,hb1⟩
  have ho:=ho trivial
  obtain⟨oa,oc,rfl⟩:=zai ho
  have hrd:RSps w1 [.slice oa F.length oc] F:=zdn (fun x hx=>by have:=HFs.out x hx;unfold maxLen;omega) ho
  have hat:=zh7 hrd
  obtain⟨q,hq⟩ : ∃ q,q=F.length:=⟨_,rfl⟩
  rw[← hq] at hlen ⊢
  by_cases h0:q=0
  ·subst h0
   have ht:zcx l=⟨#[33]⟩:=by unfold zcx;rw[if_neg (by rw[← Hok.out];simp),← HFF.out,if_pos hq.symm]
   obtain⟨Ho,Hb1,Hrd,Hat,Hq,Ht⟩:=hd6 ho hb1 hrd hat hq ht;clear ho hb1 hrd hat hq ht
   go_wp2_with fail
   go_ret
   exact⟨by rw[Ht.out];rfl,Hb1.out⟩
  have k0:((q:Int) == 0)=false:=by rw[beq_eq_false_iff_ne];omega
  have ht:zcx l=zob F:=by unfold zcx;rw[if_neg (by rw[← Hok.out];simp),← HFF.out,if_neg (by rw[← hq];exact h0)]
  have hr0:w1.ownsRow w1.heap.size 9 1 (.slice none 0 0) 0 ((F.take 0).map fun s=>Value.string (zcv s)):=World.ownsRow_nil _ _ _ _
  obtain⟨Ho,Hb1,Hrd,Hat,Hq,Ht,Hr0⟩:=hd7 ho hb1 hrd hat hq ht hr0;clear ho hb1 hrd hat hq ht hr0
  go_wp2_with fail
  go_loopw [5,22] (fun v i wr=>∃ k:Nat,k≤q∧i = .int .i64 k∧wr.ownsRow w1.heap.size 9 1 v k ((F.take k).map fun s=>Value.string (zcv s))∧Below w1.heap.size w1 wr) (fun _ i _=>q - (RowKit.intOf i).toNat)
  case atStart=>exact⟨0,Nat.zero_le _,rfl,Hr0.out,Below.refl _ _⟩
  case round =>
   obtain⟨k,hk,rfl,hrow,hbr⟩:=hrel
   obtain⟨ra,rc,rfl⟩:=zai hrow
   by_cases hlt:k < q
   ·have hkF:k < F.length:=by have:=Hq.out;omega
    obtain⟨y,hy⟩ : ∃ y,y=F[k]:=⟨_,rfl⟩
    obtain⟨b,off,rfl,c0,c1⟩:=Hat.out k y (by rw[hy];exact List.getElem?_eq_getElem hkF)
    have d0:=cell_later hbr c0
    have d1:=cell_later hbr c1
    have hys:=HFs.out y (by rw[hy];exact List.getElem_mem hkF)
    have hnext:=znr hkF
    rw[← hy] at hnext
    obtain⟨N,hN⟩ : ∃ N,N=(F.take k).map fun s=>Value.string (zcv s):=⟨_,rfl⟩
    rw[← hN] at hrow hnext
    obtain⟨y1,y2⟩:=y
    have hba:Below wr.heap.size wr (wr.alloc (.cells #[.string y1,.string y2] 34)):=za2 _ _
    have hbw:=Hb1.out.trans ((hbr.trans (hba.mono hbr.size)).mono Hb1.out.size)
    have hT:=zes y1 y2 (by have:=hys.1;simp only at this;omega) (by have:=hys.2;simp only at this;omega) (HD.out.below hbw)
    obtain⟨P,hP⟩ : ∃ P,P=txS y1 y2:=⟨_,rfl⟩
    rw[← hP] at hT
    have hPp:zcv (y1,y2)=P:=hP.symm
    rw[hPp] at hnext
    have k5:(0:Int)≤(k:Int):=by omega
    have k6:(k:Int) < (q:Int):=by omega
    clear c0 c1
    obtain⟨Hrow,Hbr,Hy,Hys,Hnext,HN,Hba,Hbw,HT,HP,HPp⟩:=hd11 hrow hbr hy hys hnext hN hba hbw hT hP hPp;clear hrow hbr hy hys hnext hN hba hbw hT hP hPp
    go_wp2_with fail
    refine HT.out.mono ?_
    rintro e w5 ⟨rfl,hb5⟩
    have hb15:=Hbr.out.trans ((Hba.out.trans (hb5.mono Hba.out.size)).mono Hbr.out.size)
    have hrow5:=zae (zae Hrow.out Hba.out) hb5
    have hz5:=hb15.size
    obtain⟨Hb5,Hb15,Hrow5⟩:=hd3 hb5 hb15 hrow5;clear hb5 hb15 hrow5
    go_wp2_with (at_builtin;(refine zaw elem_txts rfl (.tmp 26) (.tmp 29) rfl w1.heap.size (.slice ra k rc) k N rfl Hrow5.out 1 #[.string P] rfl rfl (by simp[Value.oneCell']) (by omega) (by unfold maxLen;omega) (by omega) ?_;intro v9 w9 hown9 hg9 hm9;obtain⟨a9,c9,rfl⟩:=zai hown9;have hb9:=(zbt Hb15.out Hrow5.out (Nat.le_refl _) hg9 (by omega):Below w1.heap.size w1 w9);obtain⟨Hown9,Hb9⟩:=hd2 hown9 hb9;clear hown9 hg9 hm9 hb9))
    go_roundw
    case rel=>exact⟨k+1,by omega,by go_num,by rw[Hnext.out];exact Hown9.out,Hb9.out⟩
    case measure=>(simp[RowKit.intOf]) <;> omega
   obtain rfl:k=q:=by omega
   rw[List.take_of_length_le (Nat.le_of_eq Hq.out.symm)] at hrow
   obtain⟨gr,rc2,hra⟩ : ∃ g c,Value.slice ra k rc = .slice (some ⟨g,0,none⟩) k c:=by
    rcases hrow.2 with⟨h1,h2⟩ | ⟨g,cap,_,h1,_⟩
    ·omega
    exact⟨_,cap,h1⟩
   injection hra with hra _ hrc
   subst hra hrc
   have hJ:=Tryz.strings_Join gr 0 rc (F.map zcv) ⟨#[44]⟩ wr (fun j x hj=>by
    have hjl:=(List.getElem?_eq_some_iff.1 hj).1
    have:=hrow.cells (g:=gr) rfl j (.string x) (by
     rw[List.getElem?_map] at hj ⊢
     obtain⟨z,hz,rfl⟩:=Option.map_eq_some_iff.1 hj
     rw[hz];rfl)
    rw[Addr.add_lit] at this
    exact this) (hrow.lt gr rfl).2 (by rw[List.length_map];have:=Hq.out;omega) (by
     rw[List.length_map,← Hq.out]
     rcases hrow.2 with⟨e0,_⟩ | ⟨g',cap',cur,e0,_,_,hn9,_⟩
     ·cases e0
     injection e0 with _ _ e3
     omega) (zra HFs.out (by have:=Hq.out;omega))
   rw[List.length_map,← Hq.out] at hJ
   have hbw:=Hb1.out.trans (hbr.mono Hb1.out.size)
   obtain⟨T,hT⟩ : ∃ T,T=zob F:=⟨_,rfl⟩
   have hJ2:Calls Tryz.prog 58 #[.slice (some ⟨gr,0,none⟩) k rc,.string ⟨#[44]⟩] wr fun e w'=>e = .returned (.string T)∧Below wr.heap.size wr w':=by rw[hT];exact hJ
   clear hJ
   obtain⟨Hrow,Hbr,Hbw,HT,HJ2⟩:=hd5 hrow hbr hbw hT hJ2;clear hrow hbr hbw hT hJ2
   go_wp2_with fail
   refine HJ2.out.mono ?_
   rintro e w6 ⟨rfl,hb6⟩
   have Hb6:=hd hb6;clear hb6
   go_wp2_with fail
   go_ret
   exact⟨by rw[Ht.out,← HT.out];rfl,Hbw.out.trans (Hb6.out.mono Hbw.out.size)⟩
end

section
open Go.RowKit Go.Lib VerN
set_option linter.unusedSimpArgs false
theorem refMt_val (lo hi lp hj:ByteArray):(if lp.size≠0∧(lo.size=0∨ze8 lo.data.toList lp.data.toList=true) then lp else lo)=zck lo lp∧(if hj.size≠0∧(hi.size=0∨ze8 hj.data.toList hi.data.toList=true) then hj else hi)=zbk hi hj:=by
 have h:=zqq (lo.data.toList,hi.data.toList) (lp.data.toList,hj.data.toList)
 have h1:=congrArg Prod.fst h
 have h2:=congrArg Prod.snd h
 refine⟨Txt.ext ?_,Txt.ext ?_⟩
 ·rw[zek,zl0]
  simp only[← zb5,ne_eq]
  exact h1
 rw[zdu,zl0]
 simp only[← zb5,ne_eq]
 exact h2
theorem znn (lo hi lp hj:ByteArray) (hl:lo.size≤1000000) (hh:hi.size≤1000000) (hl2:lp.size≤1000000) (hh2:hj.size≤1000000) (w:World):Calls Tryz.prog 118 #[.agg #[.string lo,.string hi],.agg #[.string lp,.string hj]] w fun e w'=>e = .returned (.tuple #[.agg #[.string (mtV lo hi lp hj).1,.string (mtV lo hi lp hj).2],.bool (zby (lo.data.toList,hi.data.toList) (lp.data.toList,hj.data.toList))])∧Below w.heap.size w w':=by
 obtain⟨w0,hW0⟩ : ∃ W0,W0=((w.alloc (.cells #[.string lo,.string hi] 34)).alloc (.cells #[.string lp,.string hj] 34)).alloc (.cells #[.string ⟨#[]⟩,.string ⟨#[]⟩] 34):=⟨_,rfl⟩
 obtain⟨nb,hnb⟩ : ∃ nb,nb=w.heap.size:=⟨_,rfl⟩
 have hw:Below w.heap.size w w0:=by rw[hW0];exact ((za2 _ _).alloc (za2 _ _).size _).alloc ((za2 _ _).alloc (za2 _ _).size _).size _
 have hb0:Below w0.heap.size w0 w0:=Below.refl _ _
 have ha:w0.heap[nb]? = some (.cells #[.string lo,.string hi] 34 (0,0)):=by rw[hW0,hnb];exact zkm _ _ _ _ _ _ _
 obtain⟨a0,a1,a2,a3⟩:=za1 ha
 have hb:w0.heap[nb+1]? = some (.cells #[.string lp,.string hj] 34 (0,0)):=by rw[hW0,hnb];exact zkl _ _ _ _ _ _ _
 obtain⟨b0,b1,b2,b3⟩:=za1 hb
 have hr:w0.heap[nb+1+1]? = some (.cells #[.string ⟨#[]⟩,.string ⟨#[]⟩] 34 (0,0)):=by rw[hW0,hnb];exact zkk _ _ _ _ _ _ _
 obtain⟨r0,r1,r2,r3⟩:=za1 hr
 have hA:=fun (W:World) (_:Below w0.heap.size w0 W)=>zdr lo hi hl hh W
 have hB:=fun (W:World) (_:Below w0.heap.size w0 W)=>zdr lp hj hl2 hh2 W
 have hX:=fun (W:World) (_:Below w0.heap.size w0 W)=>ze9 lo lp hl hl2 W
 have hY:=fun (W:World) (_:Below w0.heap.size w0 W)=>ze9 hj hi hh2 hh W
 have hO:=fun (x y:ByteArray) (hx:x.size≤1000000) (hy:y.size≤1000000) (W:World) (_:Below w0.heap.size w0 W)=>zdr x y hx hy W
 have hvv:=refMt_val lo hi lp hj
 obtain⟨p,hp⟩ : ∃ x,x=mayS (lo.data.toList,hi.data.toList):=⟨_,rfl⟩
 obtain⟨q,hq⟩ : ∃ x,x=mayS (lp.data.toList,hj.data.toList):=⟨_,rfl⟩
 obtain⟨rx,hrx⟩ : ∃ x,x=ze8 lo.data.toList lp.data.toList:=⟨_,rfl⟩
 obtain⟨ry,hry⟩ : ∃ x,x=ze8 hj.data.toList hi.data.toList:=⟨_,rfl⟩
 obtain⟨d1,k1⟩ : ∃ x,lp.toList.isEmpty=x:=⟨_,rfl⟩
 obtain⟨d2,k2⟩ : ∃ x,lo.toList.isEmpty=x:=⟨_,rfl⟩
 obtain⟨d3,k3⟩ : ∃ x,hj.toList.isEmpty=x:=⟨_,rfl⟩
 obtain⟨d4,k4⟩ : ∃ x,hi.toList.isEmpty=x:=⟨_,rfl⟩
 rw[← hrx,← hry] at hvv
 have hlv:zck lo lp=if d1=false∧(d2=true∨rx=true) then lp else lo:=by rw[← hvv.1,← k1,← k2];simp only[Txt.no_dec,decide_eq_false_iff_not,ne_eq,decide_eq_true_eq]
 have hsv:zbk hi hj=if d3=false∧(d4=true∨ry=true) then hj else hi:=by rw[← hvv.2,← k3,← k4];simp only[Txt.no_dec,decide_eq_false_iff_not,ne_eq,decide_eq_true_eq]
 have hok:zby (lo.data.toList,hi.data.toList) (lp.data.toList,hj.data.toList)=(p && q && mayS ((zck lo lp).data.toList,(zbk hi hj).data.toList)):=by
  unfold zby zo4
  rw[hp,hq,zek,zdu]
 have hval:mtV lo hi lp hj=if (p && q && mayS ((zck lo lp).data.toList,(zbk hi hj).data.toList))=true then (zck lo lp,zbk hi hj) else (⟨#[]⟩,⟨#[]⟩):=by unfold mtV;rw[hok]
 have hle:w.heap.size≤nb+1+1:=by omega
 rw[← hp] at hA
 rw[← hq] at hB
 rw[← hrx] at hX
 rw[← hry] at hY
 rw[hlv,hsv] at hok hval
 clear hp hq hrx hry hvv hlv hsv
 obtain⟨HA,HB,HO,HX,HY,Hok,Hval,Hle,Hw,Hb0,Ha,Hb,Hr⟩:=hd13 hA hB hO hX hY hok hval hle hw hb0 ha hb hr;clear hA hB hO hX hY hok hval hle hw hb0 ha hb hr
 go_enter Tryz.func118,Tryz.ntmps118
 go_upto_region 1 with (fail)
 rw[← hW0,← hnb]
 clear hW0 hnb
 go_wp2_with fail
 refine (HA.out _ Hb0.out).mono ?_
 rintro e w1 ⟨rfl,hs⟩
 have hb1:=Hb0.out.trans (hs.mono Hb0.out.size)
 have ha:=za0 hs Ha.out
 clear Ha a0 a1 a2 a3
 obtain⟨a0,a1,a2,a3⟩:=za1 ha
 have hb:=za0 hs Hb.out
 clear Hb b0 b1 b2 b3
 obtain⟨b0,b1,b2,b3⟩:=za1 hb
 have hr:=za0 hs Hr.out
 clear Hr r0 r1 r2 r3
 obtain⟨r0,r1,r2,r3⟩:=za1 hr
 obtain⟨Hs,Hb1,Ha,Hb,Hr⟩:=hd5 hs hb1 ha hb hr;clear hs hb1 ha hb hr
 cases p with
 | false =>
  go_wp2_with fail
  refine za7 rfl rfl rfl (zab _ _ Hr.out) rfl ?_
  exact⟨zam (by rw[Hval.out];rfl) (by rw[Hval.out];rfl) (by rw[Hok.out] <;> rfl),zaa _ _ (za5 Hw.out Hb1.out) Hle.out⟩
 | true =>
  go_wp2_with fail
  refine (HB.out _ Hb1.out).mono ?_
  rintro e w2 ⟨rfl,hs⟩
  have hb2:=Hb1.out.trans (hs.mono Hb1.out.size)
  have ha:=za0 hs Ha.out
  clear Ha a0 a1 a2 a3
  obtain⟨a0,a1,a2,a3⟩:=za1 ha
  have hb:=za0 hs Hb.out
  clear Hb b0 b1 b2 b3
  obtain⟨b0,b1,b2,b3⟩:=za1 hb
  have hr:=za0 hs Hr.out
  clear Hr r0 r1 r2 r3
  obtain⟨r0,r1,r2,r3⟩:=za1 hr
  obtain⟨Hs,Hb2,Ha,Hb,Hr⟩:=hd5 hs hb2 ha hb hr;clear hs hb2 ha hb hr
  cases q with
  | false =>
   go_wp2_with fail
   refine za7 rfl rfl rfl (zab _ _ Hr.out) rfl ?_
   exact⟨zam (by rw[Hval.out];rfl) (by rw[Hval.out];rfl) (by rw[Hok.out] <;> rfl),zaa _ _ (za5 Hw.out Hb2.out) Hle.out⟩
  | true =>
   go_upto_region 4 with (fail)
   obtain⟨w3,hv⟩ : ∃ W,W=w2.alloc (.cells #[.string lo,.string hi] 34):=⟨_,rfl⟩
   obtain⟨go,hg⟩ : ∃ g,g=w2.heap.size:=⟨_,rfl⟩
   have hs:Below w2.heap.size w2 w3:=by rw[hv];exact za2 _ _
   have hb3:=Hb2.out.trans (hs.mono Hb2.out.size)
   have hgeo:w0.heap.size≤go:=by rw[hg];exact Hb2.out.size
   have hneao:nb≠go:=by have:=(Array.getElem?_eq_some_iff.1 Ha.out).1;omega
   have hnebo:nb+1≠go:=by have:=(Array.getElem?_eq_some_iff.1 Hb.out).1;omega
   have hnero:nb+1+1≠go:=by have:=(Array.getElem?_eq_some_iff.1 Hr.out).1;omega
   have ha:=za0 hs Ha.out
   clear Ha a0 a1 a2 a3
   obtain⟨a0,a1,a2,a3⟩:=za1 ha
   have hb:=za0 hs Hb.out
   clear Hb b0 b1 b2 b3
   obtain⟨b0,b1,b2,b3⟩:=za1 hb
   have hr:=za0 hs Hr.out
   clear Hr r0 r1 r2 r3
   obtain⟨r0,r1,r2,r3⟩:=za1 hr
   have ho:w3.heap[go]? = some (.cells #[.string lo,.string hi] 34 (0,0)):=by rw[hv,hg];exact heap_alloc_new _ _
   obtain⟨o0,o1,o2,o3⟩:=za1 ho
   rw[← hv,← hg]
   clear hv hg
   obtain⟨Hs,Hb3,Hgeo,Ha,Hb,Hr,Ho,Hneao,Hnebo,Hnero⟩:=hd10 hs hb3 hgeo ha hb hr ho hneao hnebo hnero;clear hs hb3 hgeo ha hb hr ho hneao hnebo hnero
   cases d1 with
   | false =>
    cases d2 with
    | false =>
     go_wp2_with fail
     refine (HX.out _ Hb3.out).mono ?_
     rintro e w4 ⟨rfl,hs⟩
     have hb4:=Hb3.out.trans (hs.mono Hb3.out.size)
     have ha:=za0 hs Ha.out
     clear Ha a0 a1 a2 a3
     obtain⟨a0,a1,a2,a3⟩:=za1 ha
     have hb:=za0 hs Hb.out
     clear Hb b0 b1 b2 b3
     obtain⟨b0,b1,b2,b3⟩:=za1 hb
     have hr:=za0 hs Hr.out
     clear Hr r0 r1 r2 r3
     obtain⟨r0,r1,r2,r3⟩:=za1 hr
     have ho:=za0 hs Ho.out
     clear Ho o0 o1 o2 o3
     obtain⟨o0,o1,o2,o3⟩:=za1 ho
     obtain⟨Hs,Hb4,Ha,Hb,Hr,Ho⟩:=hd6 hs hb4 ha hb hr ho;clear hs hb4 ha hb hr ho
     cases rx with
     | false =>
      cases d3 with
      | false =>
       cases d4 with
       | false =>
        go_wp2_with fail
        refine (HY.out _ Hb4.out).mono ?_
        rintro e w5 ⟨rfl,hs⟩
        have hb5:=Hb4.out.trans (hs.mono Hb4.out.size)
        have ha:=za0 hs Ha.out
        clear Ha a0 a1 a2 a3
        obtain⟨a0,a1,a2,a3⟩:=za1 ha
        have hb:=za0 hs Hb.out
        clear Hb b0 b1 b2 b3
        obtain⟨b0,b1,b2,b3⟩:=za1 hb
        have hr:=za0 hs Hr.out
        clear Hr r0 r1 r2 r3
        obtain⟨r0,r1,r2,r3⟩:=za1 hr
        have ho:=za0 hs Ho.out
        clear Ho o0 o1 o2 o3
        obtain⟨o0,o1,o2,o3⟩:=za1 ho
        obtain⟨Hs,Hb5,Ha,Hb,Hr,Ho⟩:=hd6 hs hb5 ha hb hr ho;clear hs hb5 ha hb hr ho
        cases ry with
        | false =>
         have hZ:=HO.out lo hi hl hh
         obtain⟨s,hs⟩ : ∃ z,z=mayS (lo.data.toList,hi.data.toList):=⟨_,rfl⟩
         rw[← hs] at hZ
         have hok:=Hok.out
         have hval:=Hval.out
         simp only[reduceCtorEq,eq_self,and_self,true_and,and_true,false_and,and_false,or_true,true_or,or_false,false_or,or_self,if_true,if_false,ite_true,ite_false,Bool.true_and,Bool.and_true,← hs] at hok hval
         clear hs Hok Hval
         obtain⟨HZ,Hok,Hval⟩:=hd3 hZ hok hval;clear hZ hok hval
         go_wp2_with fail
         refine (HZ.out _ Hb5.out).mono ?_
         rintro e w6 ⟨rfl,hs⟩
         have hb6:=Hb5.out.trans (hs.mono Hb5.out.size)
         have ha:=za0 hs Ha.out
         clear Ha a0 a1 a2 a3
         obtain⟨a0,a1,a2,a3⟩:=za1 ha
         have hb:=za0 hs Hb.out
         clear Hb b0 b1 b2 b3
         obtain⟨b0,b1,b2,b3⟩:=za1 hb
         have hr:=za0 hs Hr.out
         clear Hr r0 r1 r2 r3
         obtain⟨r0,r1,r2,r3⟩:=za1 hr
         have ho:=za0 hs Ho.out
         clear Ho o0 o1 o2 o3
         obtain⟨o0,o1,o2,o3⟩:=za1 ho
         obtain⟨Hs,Hb6,Ha,Hb,Hr,Ho⟩:=hd6 hs hb6 ha hb hr ho;clear hs hb6 ha hb hr ho
         cases s with
         | false =>
          go_wp2_with fail
          refine za7 rfl rfl rfl (zab _ _ Hr.out) rfl ?_
          exact⟨zam (by rw[Hval.out];rfl) (by rw[Hval.out];rfl) (by rw[Hok.out] <;> rfl),zaa _ _ (za5 Hw.out Hb6.out) Hle.out⟩
         | true =>
          go_wp2_with fail
          refine za7 rfl rfl rfl (zab _ _ Hr.out) rfl ?_
          exact⟨zam (by rw[Hval.out];rfl) (by rw[Hval.out];rfl) (by rw[Hok.out] <;> rfl),zaa _ _ (za5 Hw.out Hb6.out) Hle.out⟩
        | true =>
         go_upto_region 8 with (fail)
         obtain⟨w6,hv⟩ : ∃ W,W=w5.setCell ⟨go,1,none⟩ (.string hj):=⟨_,rfl⟩
         have hb6:Below w0.heap.size w0 w6:=by rw[hv];exact Hb5.out.setCell (p:=⟨go,1,none⟩) Hgeo.out _
         have ha:w6.heap[nb]? = some (.cells #[.string lo,.string hi] 34 (0,0)):=by rw[hv,Below.heap_setCell _ _ _ _ Hneao.out];exact Ha.out
         clear Ha a0 a1 a2 a3
         obtain⟨a0,a1,a2,a3⟩:=za1 ha
         have hb:w6.heap[nb+1]? = some (.cells #[.string lp,.string hj] 34 (0,0)):=by rw[hv,Below.heap_setCell _ _ _ _ Hnebo.out];exact Hb.out
         clear Hb b0 b1 b2 b3
         obtain⟨b0,b1,b2,b3⟩:=za1 hb
         have hr:w6.heap[nb+1+1]? = some (.cells #[.string ⟨#[]⟩,.string ⟨#[]⟩] 34 (0,0)):=by rw[hv,Below.heap_setCell _ _ _ _ Hnero.out];exact Hr.out
         clear Hr r0 r1 r2 r3
         obtain⟨r0,r1,r2,r3⟩:=za1 hr
         have ho:w6.heap[go]? = some (.cells #[.string lo,.string hj] 34 (0,0)):=by rw[hv];exact heap_setCell_same _ go 1 _ _ _ Ho.out
         clear Ho o0 o1 o2 o3
         obtain⟨o0,o1,o2,o3⟩:=za1 ho
         rw[← hv]
         clear hv
         obtain⟨Hb6,Ha,Hb,Hr,Ho⟩:=hd5 hb6 ha hb hr ho;clear hb6 ha hb hr ho
         have hZ:=HO.out lo hj hl hh2
         obtain⟨s,hs⟩ : ∃ z,z=mayS (lo.data.toList,hj.data.toList):=⟨_,rfl⟩
         rw[← hs] at hZ
         have hok:=Hok.out
         have hval:=Hval.out
         simp only[reduceCtorEq,eq_self,and_self,true_and,and_true,false_and,and_false,or_true,true_or,or_false,false_or,or_self,if_true,if_false,ite_true,ite_false,Bool.true_and,Bool.and_true,← hs] at hok hval
         clear hs Hok Hval
         obtain⟨HZ,Hok,Hval⟩:=hd3 hZ hok hval;clear hZ hok hval
         go_wp2_with fail
         refine (HZ.out _ Hb6.out).mono ?_
         rintro e w7 ⟨rfl,hs⟩
         have hb7:=Hb6.out.trans (hs.mono Hb6.out.size)
         have ha:=za0 hs Ha.out
         clear Ha a0 a1 a2 a3
         obtain⟨a0,a1,a2,a3⟩:=za1 ha
         have hb:=za0 hs Hb.out
         clear Hb b0 b1 b2 b3
         obtain⟨b0,b1,b2,b3⟩:=za1 hb
         have hr:=za0 hs Hr.out
         clear Hr r0 r1 r2 r3
         obtain⟨r0,r1,r2,r3⟩:=za1 hr
         have ho:=za0 hs Ho.out
         clear Ho o0 o1 o2 o3
         obtain⟨o0,o1,o2,o3⟩:=za1 ho
         obtain⟨Hs,Hb7,Ha,Hb,Hr,Ho⟩:=hd6 hs hb7 ha hb hr ho;clear hs hb7 ha hb hr ho
         cases s with
         | false =>
          go_wp2_with fail
          refine za7 rfl rfl rfl (zab _ _ Hr.out) rfl ?_
          exact⟨zam (by rw[Hval.out];rfl) (by rw[Hval.out];rfl) (by rw[Hok.out] <;> rfl),zaa _ _ (za5 Hw.out Hb7.out) Hle.out⟩
         | true =>
          go_wp2_with fail
          refine za7 rfl rfl rfl (zab _ _ Hr.out) rfl ?_
          exact⟨zam (by rw[Hval.out];rfl) (by rw[Hval.out];rfl) (by rw[Hok.out] <;> rfl),zaa _ _ (za5 Hw.out Hb7.out) Hle.out⟩
       | true =>
        go_upto_region 8 with (fail)
        obtain⟨w5,hv⟩ : ∃ W,W=w4.setCell ⟨go,1,none⟩ (.string hj):=⟨_,rfl⟩
        have hb5:Below w0.heap.size w0 w5:=by rw[hv];exact Hb4.out.setCell (p:=⟨go,1,none⟩) Hgeo.out _
        have ha:w5.heap[nb]? = some (.cells #[.string lo,.string hi] 34 (0,0)):=by rw[hv,Below.heap_setCell _ _ _ _ Hneao.out];exact Ha.out
        clear Ha a0 a1 a2 a3
        obtain⟨a0,a1,a2,a3⟩:=za1 ha
        have hb:w5.heap[nb+1]? = some (.cells #[.string lp,.string hj] 34 (0,0)):=by rw[hv,Below.heap_setCell _ _ _ _ Hnebo.out];exact Hb.out
        clear Hb b0 b1 b2 b3
        obtain⟨b0,b1,b2,b3⟩:=za1 hb
        have hr:w5.heap[nb+1+1]? = some (.cells #[.string ⟨#[]⟩,.string ⟨#[]⟩] 34 (0,0)):=by rw[hv,Below.heap_setCell _ _ _ _ Hnero.out];exact Hr.out
        clear Hr r0 r1 r2 r3
        obtain⟨r0,r1,r2,r3⟩:=za1 hr
        have ho:w5.heap[go]? = some (.cells #[.string lo,.string hj] 34 (0,0)):=by rw[hv];exact heap_setCell_same _ go 1 _ _ _ Ho.out
        clear Ho o0 o1 o2 o3
        obtain⟨o0,o1,o2,o3⟩:=za1 ho
        rw[← hv]
        clear hv
        obtain⟨Hb5,Ha,Hb,Hr,Ho⟩:=hd5 hb5 ha hb hr ho;clear hb5 ha hb hr ho
        have hZ:=HO.out lo hj hl hh2
        obtain⟨s,hs⟩ : ∃ z,z=mayS (lo.data.toList,hj.data.toList):=⟨_,rfl⟩
        rw[← hs] at hZ
        have hok:=Hok.out
        have hval:=Hval.out
        simp only[reduceCtorEq,eq_self,and_self,true_and,and_true,false_and,and_false,or_true,true_or,or_false,false_or,or_self,if_true,if_false,ite_true,ite_false,Bool.true_and,Bool.and_true,← hs] at hok hval
        clear hs Hok Hval
        obtain⟨HZ,Hok,Hval⟩:=hd3 hZ hok hval;clear hZ hok hval
        go_wp2_with fail
        refine (HZ.out _ Hb5.out).mono ?_
        rintro e w6 ⟨rfl,hs⟩
        have hb6:=Hb5.out.trans (hs.mono Hb5.out.size)
        have ha:=za0 hs Ha.out
        clear Ha a0 a1 a2 a3
        obtain⟨a0,a1,a2,a3⟩:=za1 ha
        have hb:=za0 hs Hb.out
        clear Hb b0 b1 b2 b3
        obtain⟨b0,b1,b2,b3⟩:=za1 hb
        have hr:=za0 hs Hr.out
        clear Hr r0 r1 r2 r3
        obtain⟨r0,r1,r2,r3⟩:=za1 hr
        have ho:=za0 hs Ho.out
        clear Ho o0 o1 o2 o3
        obtain⟨o0,o1,o2,o3⟩:=za1 ho
        obtain⟨Hs,Hb6,Ha,Hb,Hr,Ho⟩:=hd6 hs hb6 ha hb hr ho;clear hs hb6 ha hb hr ho
        cases s with
        | false =>
         go_wp2_with fail
         refine za7 rfl rfl rfl (zab _ _ Hr.out) rfl ?_
         exact⟨zam (by rw[Hval.out];rfl) (by rw[Hval.out];rfl) (by rw[Hok.out] <;> rfl),zaa _ _ (za5 Hw.out Hb6.out) Hle.out⟩
        | true =>
         go_wp2_with fail
         refine za7 rfl rfl rfl (zab _ _ Hr.out) rfl ?_
         exact⟨zam (by rw[Hval.out];rfl) (by rw[Hval.out];rfl) (by rw[Hok.out] <;> rfl),zaa _ _ (za5 Hw.out Hb6.out) Hle.out⟩
      | true =>
       have hZ:=HO.out lo hi hl hh
       obtain⟨s,hs⟩ : ∃ z,z=mayS (lo.data.toList,hi.data.toList):=⟨_,rfl⟩
       rw[← hs] at hZ
       have hok:=Hok.out
       have hval:=Hval.out
       simp only[reduceCtorEq,eq_self,and_self,true_and,and_true,false_and,and_false,or_true,true_or,or_false,false_or,or_self,if_true,if_false,ite_true,ite_false,Bool.true_and,Bool.and_true,← hs] at hok hval
       clear hs Hok Hval
       obtain⟨HZ,Hok,Hval⟩:=hd3 hZ hok hval;clear hZ hok hval
       go_wp2_with fail
       refine (HZ.out _ Hb4.out).mono ?_
       rintro e w5 ⟨rfl,hs⟩
       have hb5:=Hb4.out.trans (hs.mono Hb4.out.size)
       have ha:=za0 hs Ha.out
       clear Ha a0 a1 a2 a3
       obtain⟨a0,a1,a2,a3⟩:=za1 ha
       have hb:=za0 hs Hb.out
       clear Hb b0 b1 b2 b3
       obtain⟨b0,b1,b2,b3⟩:=za1 hb
       have hr:=za0 hs Hr.out
       clear Hr r0 r1 r2 r3
       obtain⟨r0,r1,r2,r3⟩:=za1 hr
       have ho:=za0 hs Ho.out
       clear Ho o0 o1 o2 o3
       obtain⟨o0,o1,o2,o3⟩:=za1 ho
       obtain⟨Hs,Hb5,Ha,Hb,Hr,Ho⟩:=hd6 hs hb5 ha hb hr ho;clear hs hb5 ha hb hr ho
       cases s with
       | false =>
        go_wp2_with fail
        refine za7 rfl rfl rfl (zab _ _ Hr.out) rfl ?_
        exact⟨zam (by rw[Hval.out];rfl) (by rw[Hval.out];rfl) (by rw[Hok.out] <;> rfl),zaa _ _ (za5 Hw.out Hb5.out) Hle.out⟩
       | true =>
        go_wp2_with fail
        refine za7 rfl rfl rfl (zab _ _ Hr.out) rfl ?_
        exact⟨zam (by rw[Hval.out];rfl) (by rw[Hval.out];rfl) (by rw[Hok.out] <;> rfl),zaa _ _ (za5 Hw.out Hb5.out) Hle.out⟩
     | true =>
      go_upto_region 6 with (fail)
      obtain⟨w5,hv⟩ : ∃ W,W=w4.setCell ⟨go,0,none⟩ (.string lp):=⟨_,rfl⟩
      have hb5:Below w0.heap.size w0 w5:=by rw[hv];exact Hb4.out.setCell (p:=⟨go,0,none⟩) Hgeo.out _
      have ha:w5.heap[nb]? = some (.cells #[.string lo,.string hi] 34 (0,0)):=by rw[hv,Below.heap_setCell _ _ _ _ Hneao.out];exact Ha.out
      clear Ha a0 a1 a2 a3
      obtain⟨a0,a1,a2,a3⟩:=za1 ha
      have hb:w5.heap[nb+1]? = some (.cells #[.string lp,.string hj] 34 (0,0)):=by rw[hv,Below.heap_setCell _ _ _ _ Hnebo.out];exact Hb.out
      clear Hb b0 b1 b2 b3
      obtain⟨b0,b1,b2,b3⟩:=za1 hb
      have hr:w5.heap[nb+1+1]? = some (.cells #[.string ⟨#[]⟩,.string ⟨#[]⟩] 34 (0,0)):=by rw[hv,Below.heap_setCell _ _ _ _ Hnero.out];exact Hr.out
      clear Hr r0 r1 r2 r3
      obtain⟨r0,r1,r2,r3⟩:=za1 hr
      have ho:w5.heap[go]? = some (.cells #[.string lp,.string hi] 34 (0,0)):=by rw[hv];exact heap_setCell_same _ go 0 _ _ _ Ho.out
      clear Ho o0 o1 o2 o3
      obtain⟨o0,o1,o2,o3⟩:=za1 ho
      rw[← hv]
      clear hv
      obtain⟨Hb5,Ha,Hb,Hr,Ho⟩:=hd5 hb5 ha hb hr ho;clear hb5 ha hb hr ho
      cases d3 with
      | false =>
       cases d4 with
       | false =>
        go_wp2_with fail
        refine (HY.out _ Hb5.out).mono ?_
        rintro e w6 ⟨rfl,hs⟩
        have hb6:=Hb5.out.trans (hs.mono Hb5.out.size)
        have ha:=za0 hs Ha.out
        clear Ha a0 a1 a2 a3
        obtain⟨a0,a1,a2,a3⟩:=za1 ha
        have hb:=za0 hs Hb.out
        clear Hb b0 b1 b2 b3
        obtain⟨b0,b1,b2,b3⟩:=za1 hb
        have hr:=za0 hs Hr.out
        clear Hr r0 r1 r2 r3
        obtain⟨r0,r1,r2,r3⟩:=za1 hr
        have ho:=za0 hs Ho.out
        clear Ho o0 o1 o2 o3
        obtain⟨o0,o1,o2,o3⟩:=za1 ho
        obtain⟨Hs,Hb6,Ha,Hb,Hr,Ho⟩:=hd6 hs hb6 ha hb hr ho;clear hs hb6 ha hb hr ho
        cases ry with
        | false =>
         have hZ:=HO.out lp hi hl2 hh
         obtain⟨s,hs⟩ : ∃ z,z=mayS (lp.data.toList,hi.data.toList):=⟨_,rfl⟩
         rw[← hs] at hZ
         have hok:=Hok.out
         have hval:=Hval.out
         simp only[reduceCtorEq,eq_self,and_self,true_and,and_true,false_and,and_false,or_true,true_or,or_false,false_or,or_self,if_true,if_false,ite_true,ite_false,Bool.true_and,Bool.and_true,← hs] at hok hval
         clear hs Hok Hval
         obtain⟨HZ,Hok,Hval⟩:=hd3 hZ hok hval;clear hZ hok hval
         go_wp2_with fail
         refine (HZ.out _ Hb6.out).mono ?_
         rintro e w7 ⟨rfl,hs⟩
         have hb7:=Hb6.out.trans (hs.mono Hb6.out.size)
         have ha:=za0 hs Ha.out
         clear Ha a0 a1 a2 a3
         obtain⟨a0,a1,a2,a3⟩:=za1 ha
         have hb:=za0 hs Hb.out
         clear Hb b0 b1 b2 b3
         obtain⟨b0,b1,b2,b3⟩:=za1 hb
         have hr:=za0 hs Hr.out
         clear Hr r0 r1 r2 r3
         obtain⟨r0,r1,r2,r3⟩:=za1 hr
         have ho:=za0 hs Ho.out
         clear Ho o0 o1 o2 o3
         obtain⟨o0,o1,o2,o3⟩:=za1 ho
         obtain⟨Hs,Hb7,Ha,Hb,Hr,Ho⟩:=hd6 hs hb7 ha hb hr ho;clear hs hb7 ha hb hr ho
         cases s with
         | false =>
          go_wp2_with fail
          refine za7 rfl rfl rfl (zab _ _ Hr.out) rfl ?_
          exact⟨zam (by rw[Hval.out];rfl) (by rw[Hval.out];rfl) (by rw[Hok.out] <;> rfl),zaa _ _ (za5 Hw.out Hb7.out) Hle.out⟩
         | true =>
          go_wp2_with fail
          refine za7 rfl rfl rfl (zab _ _ Hr.out) rfl ?_
          exact⟨zam (by rw[Hval.out];rfl) (by rw[Hval.out];rfl) (by rw[Hok.out] <;> rfl),zaa _ _ (za5 Hw.out Hb7.out) Hle.out⟩
        | true =>
         go_upto_region 8 with (fail)
         obtain⟨w7,hv⟩ : ∃ W,W=w6.setCell ⟨go,1,none⟩ (.string hj):=⟨_,rfl⟩
         have hb7:Below w0.heap.size w0 w7:=by rw[hv];exact Hb6.out.setCell (p:=⟨go,1,none⟩) Hgeo.out _
         have ha:w7.heap[nb]? = some (.cells #[.string lo,.string hi] 34 (0,0)):=by rw[hv,Below.heap_setCell _ _ _ _ Hneao.out];exact Ha.out
         clear Ha a0 a1 a2 a3
         obtain⟨a0,a1,a2,a3⟩:=za1 ha
         have hb:w7.heap[nb+1]? = some (.cells #[.string lp,.string hj] 34 (0,0)):=by rw[hv,Below.heap_setCell _ _ _ _ Hnebo.out];exact Hb.out
         clear Hb b0 b1 b2 b3
         obtain⟨b0,b1,b2,b3⟩:=za1 hb
         have hr:w7.heap[nb+1+1]? = some (.cells #[.string ⟨#[]⟩,.string ⟨#[]⟩] 34 (0,0)):=by rw[hv,Below.heap_setCell _ _ _ _ Hnero.out];exact Hr.out
         clear Hr r0 r1 r2 r3
         obtain⟨r0,r1,r2,r3⟩:=za1 hr
         have ho:w7.heap[go]? = some (.cells #[.string lp,.string hj] 34 (0,0)):=by rw[hv];exact heap_setCell_same _ go 1 _ _ _ Ho.out
         clear Ho o0 o1 o2 o3
         obtain⟨o0,o1,o2,o3⟩:=za1 ho
         rw[← hv]
         clear hv
         obtain⟨Hb7,Ha,Hb,Hr,Ho⟩:=hd5 hb7 ha hb hr ho;clear hb7 ha hb hr ho
         have hZ:=HO.out lp hj hl2 hh2
         obtain⟨s,hs⟩ : ∃ z,z=mayS (lp.data.toList,hj.data.toList):=⟨_,rfl⟩
         rw[← hs] at hZ
         have hok:=Hok.out
         have hval:=Hval.out
         simp only[reduceCtorEq,eq_self,and_self,true_and,and_true,false_and,and_false,or_true,true_or,or_false,false_or,or_self,if_true,if_false,ite_true,ite_false,Bool.true_and,Bool.and_true,← hs] at hok hval
         clear hs Hok Hval
         obtain⟨HZ,Hok,Hval⟩:=hd3 hZ hok hval;clear hZ hok hval
         go_wp2_with fail
         refine (HZ.out _ Hb7.out).mono ?_
         rintro e w8 ⟨rfl,hs⟩
         have hb8:=Hb7.out.trans (hs.mono Hb7.out.size)
         have ha:=za0 hs Ha.out
         clear Ha a0 a1 a2 a3
         obtain⟨a0,a1,a2,a3⟩:=za1 ha
         have hb:=za0 hs Hb.out
         clear Hb b0 b1 b2 b3
         obtain⟨b0,b1,b2,b3⟩:=za1 hb
         have hr:=za0 hs Hr.out
         clear Hr r0 r1 r2 r3
         obtain⟨r0,r1,r2,r3⟩:=za1 hr
         have ho:=za0 hs Ho.out
         clear Ho o0 o1 o2 o3
         obtain⟨o0,o1,o2,o3⟩:=za1 ho
         obtain⟨Hs,Hb8,Ha,Hb,Hr,Ho⟩:=hd6 hs hb8 ha hb hr ho;clear hs hb8 ha hb hr ho
         cases s with
         | false =>
          go_wp2_with fail
          refine za7 rfl rfl rfl (zab _ _ Hr.out) rfl ?_
          exact⟨zam (by rw[Hval.out];rfl) (by rw[Hval.out];rfl) (by rw[Hok.out] <;> rfl),zaa _ _ (za5 Hw.out Hb8.out) Hle.out⟩
         | true =>
          go_wp2_with fail
          refine za7 rfl rfl rfl (zab _ _ Hr.out) rfl ?_
          exact⟨zam (by rw[Hval.out];rfl) (by rw[Hval.out];rfl) (by rw[Hok.out] <;> rfl),zaa _ _ (za5 Hw.out Hb8.out) Hle.out⟩
       | true =>
        go_upto_region 8 with (fail)
        obtain⟨w6,hv⟩ : ∃ W,W=w5.setCell ⟨go,1,none⟩ (.string hj):=⟨_,rfl⟩
        have hb6:Below w0.heap.size w0 w6:=by rw[hv];exact Hb5.out.setCell (p:=⟨go,1,none⟩) Hgeo.out _
        have ha:w6.heap[nb]? = some (.cells #[.string lo,.string hi] 34 (0,0)):=by rw[hv,Below.heap_setCell _ _ _ _ Hneao.out];exact Ha.out
        clear Ha a0 a1 a2 a3
        obtain⟨a0,a1,a2,a3⟩:=za1 ha
        have hb:w6.heap[nb+1]? = some (.cells #[.string lp,.string hj] 34 (0,0)):=by rw[hv,Below.heap_setCell _ _ _ _ Hnebo.out];exact Hb.out
        clear Hb b0 b1 b2 b3
        obtain⟨b0,b1,b2,b3⟩:=za1 hb
        have hr:w6.heap[nb+1+1]? = some (.cells #[.string ⟨#[]⟩,.string ⟨#[]⟩] 34 (0,0)):=by rw[hv,Below.heap_setCell _ _ _ _ Hnero.out];exact Hr.out
        clear Hr r0 r1 r2 r3
        obtain⟨r0,r1,r2,r3⟩:=za1 hr
        have ho:w6.heap[go]? = some (.cells #[.string lp,.string hj] 34 (0,0)):=by rw[hv];exact heap_setCell_same _ go 1 _ _ _ Ho.out
        clear Ho o0 o1 o2 o3
        obtain⟨o0,o1,o2,o3⟩:=za1 ho
        rw[← hv]
        clear hv
        obtain⟨Hb6,Ha,Hb,Hr,Ho⟩:=hd5 hb6 ha hb hr ho;clear hb6 ha hb hr ho
        have hZ:=HO.out lp hj hl2 hh2
        obtain⟨s,hs⟩ : ∃ z,z=mayS (lp.data.toList,hj.data.toList):=⟨_,rfl⟩
        rw[← hs] at hZ
        have hok:=Hok.out
        have hval:=Hval.out
        simp only[reduceCtorEq,eq_self,and_self,true_and,and_true,false_and,and_false,or_true,true_or,or_false,false_or,or_self,if_true,if_false,ite_true,ite_false,Bool.true_and,Bool.and_true,← hs] at hok hval
        clear hs Hok Hval
        obtain⟨HZ,Hok,Hval⟩:=hd3 hZ hok hval;clear hZ hok hval
        go_wp2_with fail
        refine (HZ.out _ Hb6.out).mono ?_
        rintro e w7 ⟨rfl,hs⟩
        have hb7:=Hb6.out.trans (hs.mono Hb6.out.size)
        have ha:=za0 hs Ha.out
        clear Ha a0 a1 a2 a3
        obtain⟨a0,a1,a2,a3⟩:=za1 ha
        have hb:=za0 hs Hb.out
        clear Hb b0 b1 b2 b3
        obtain⟨b0,b1,b2,b3⟩:=za1 hb
        have hr:=za0 hs Hr.out
        clear Hr r0 r1 r2 r3
        obtain⟨r0,r1,r2,r3⟩:=za1 hr
        have ho:=za0 hs Ho.out
        clear Ho o0 o1 o2 o3
        obtain⟨o0,o1,o2,o3⟩:=za1 ho
        obtain⟨Hs,Hb7,Ha,Hb,Hr,Ho⟩:=hd6 hs hb7 ha hb hr ho;clear hs hb7 ha hb hr ho
        cases s with
        | false =>
         go_wp2_with fail
         refine za7 rfl rfl rfl (zab _ _ Hr.out) rfl ?_
         exact⟨zam (by rw[Hval.out];rfl) (by rw[Hval.out];rfl) (by rw[Hok.out] <;> rfl),zaa _ _ (za5 Hw.out Hb7.out) Hle.out⟩
        | true =>
         go_wp2_with fail
         refine za7 rfl rfl rfl (zab _ _ Hr.out) rfl ?_
         exact⟨zam (by rw[Hval.out];rfl) (by rw[Hval.out];rfl) (by rw[Hok.out] <;> rfl),zaa _ _ (za5 Hw.out Hb7.out) Hle.out⟩
      | true =>
       have hZ:=HO.out lp hi hl2 hh
       obtain⟨s,hs⟩ : ∃ z,z=mayS (lp.data.toList,hi.data.toList):=⟨_,rfl⟩
       rw[← hs] at hZ
       have hok:=Hok.out
       have hval:=Hval.out
       simp only[reduceCtorEq,eq_self,and_self,true_and,and_true,false_and,and_false,or_true,true_or,or_false,false_or,or_self,if_true,if_false,ite_true,ite_false,Bool.true_and,Bool.and_true,← hs] at hok hval
       clear hs Hok Hval
       obtain⟨HZ,Hok,Hval⟩:=hd3 hZ hok hval;clear hZ hok hval
       go_wp2_with fail
       refine (HZ.out _ Hb5.out).mono ?_
       rintro e w6 ⟨rfl,hs⟩
       have hb6:=Hb5.out.trans (hs.mono Hb5.out.size)
       have ha:=za0 hs Ha.out
       clear Ha a0 a1 a2 a3
       obtain⟨a0,a1,a2,a3⟩:=za1 ha
       have hb:=za0 hs Hb.out
       clear Hb b0 b1 b2 b3
       obtain⟨b0,b1,b2,b3⟩:=za1 hb
       have hr:=za0 hs Hr.out
       clear Hr r0 r1 r2 r3
       obtain⟨r0,r1,r2,r3⟩:=za1 hr
       have ho:=za0 hs Ho.out
       clear Ho o0 o1 o2 o3
       obtain⟨o0,o1,o2,o3⟩:=za1 ho
       obtain⟨Hs,Hb6,Ha,Hb,Hr,Ho⟩:=hd6 hs hb6 ha hb hr ho;clear hs hb6 ha hb hr ho
       cases s with
       | false =>
        go_wp2_with fail
        refine za7 rfl rfl rfl (zab _ _ Hr.out) rfl ?_
        exact⟨zam (by rw[Hval.out];rfl) (by rw[Hval.out];rfl) (by rw[Hok.out] <;> rfl),zaa _ _ (za5 Hw.out Hb6.out) Hle.out⟩
       | true =>
        go_wp2_with fail
        refine za7 rfl rfl rfl (zab _ _ Hr.out) rfl ?_
        exact⟨zam (by rw[Hval.out];rfl) (by rw[Hval.out];rfl) (by rw[Hok.out] <;> rfl),zaa _ _ (za5 Hw.out Hb6.out) Hle.out⟩
    | true =>
     go_upto_region 6 with (fail)
     obtain⟨w4,hv⟩ : ∃ W,W=w3.setCell ⟨go,0,none⟩ (.string lp):=⟨_,rfl⟩
     have hb4:Below w0.heap.size w0 w4:=by rw[hv];exact Hb3.out.setCell (p:=⟨go,0,none⟩) Hgeo.out _
     have ha:w4.heap[nb]? = some (.cells #[.string lo,.string hi] 34 (0,0)):=by rw[hv,Below.heap_setCell _ _ _ _ Hneao.out];exact Ha.out
     clear Ha a0 a1 a2 a3
     obtain⟨a0,a1,a2,a3⟩:=za1 ha
     have hb:w4.heap[nb+1]? = some (.cells #[.string lp,.string hj] 34 (0,0)):=by rw[hv,Below.heap_setCell _ _ _ _ Hnebo.out];exact Hb.out
     clear Hb b0 b1 b2 b3
     obtain⟨b0,b1,b2,b3⟩:=za1 hb
     have hr:w4.heap[nb+1+1]? = some (.cells #[.string ⟨#[]⟩,.string ⟨#[]⟩] 34 (0,0)):=by rw[hv,Below.heap_setCell _ _ _ _ Hnero.out];exact Hr.out
     clear Hr r0 r1 r2 r3
     obtain⟨r0,r1,r2,r3⟩:=za1 hr
     have ho:w4.heap[go]? = some (.cells #[.string lp,.string hi] 34 (0,0)):=by rw[hv];exact heap_setCell_same _ go 0 _ _ _ Ho.out
     clear Ho o0 o1 o2 o3
     obtain⟨o0,o1,o2,o3⟩:=za1 ho
     rw[← hv]
     clear hv
     obtain⟨Hb4,Ha,Hb,Hr,Ho⟩:=hd5 hb4 ha hb hr ho;clear hb4 ha hb hr ho
     cases d3 with
     | false =>
      cases d4 with
      | false =>
       go_wp2_with fail
       refine (HY.out _ Hb4.out).mono ?_
       rintro e w5 ⟨rfl,hs⟩
       have hb5:=Hb4.out.trans (hs.mono Hb4.out.size)
       have ha:=za0 hs Ha.out
       clear Ha a0 a1 a2 a3
       obtain⟨a0,a1,a2,a3⟩:=za1 ha
       have hb:=za0 hs Hb.out
       clear Hb b0 b1 b2 b3
       obtain⟨b0,b1,b2,b3⟩:=za1 hb
       have hr:=za0 hs Hr.out
       clear Hr r0 r1 r2 r3
       obtain⟨r0,r1,r2,r3⟩:=za1 hr
       have ho:=za0 hs Ho.out
       clear Ho o0 o1 o2 o3
       obtain⟨o0,o1,o2,o3⟩:=za1 ho
       obtain⟨Hs,Hb5,Ha,Hb,Hr,Ho⟩:=hd6 hs hb5 ha hb hr ho;clear hs hb5 ha hb hr ho
       cases ry with
       | false =>
        have hZ:=HO.out lp hi hl2 hh
        obtain⟨s,hs⟩ : ∃ z,z=mayS (lp.data.toList,hi.data.toList):=⟨_,rfl⟩
        rw[← hs] at hZ
        have hok:=Hok.out
        have hval:=Hval.out
        simp only[reduceCtorEq,eq_self,and_self,true_and,and_true,false_and,and_false,or_true,true_or,or_false,false_or,or_self,if_true,if_false,ite_true,ite_false,Bool.true_and,Bool.and_true,← hs] at hok hval
        clear hs Hok Hval
        obtain⟨HZ,Hok,Hval⟩:=hd3 hZ hok hval;clear hZ hok hval
        go_wp2_with fail
        refine (HZ.out _ Hb5.out).mono ?_
        rintro e w6 ⟨rfl,hs⟩
        have hb6:=Hb5.out.trans (hs.mono Hb5.out.size)
        have ha:=za0 hs Ha.out
        clear Ha a0 a1 a2 a3
        obtain⟨a0,a1,a2,a3⟩:=za1 ha
        have hb:=za0 hs Hb.out
        clear Hb b0 b1 b2 b3
        obtain⟨b0,b1,b2,b3⟩:=za1 hb
        have hr:=za0 hs Hr.out
        clear Hr r0 r1 r2 r3
        obtain⟨r0,r1,r2,r3⟩:=za1 hr
        have ho:=za0 hs Ho.out
        clear Ho o0 o1 o2 o3
        obtain⟨o0,o1,o2,o3⟩:=za1 ho
        obtain⟨Hs,Hb6,Ha,Hb,Hr,Ho⟩:=hd6 hs hb6 ha hb hr ho;clear hs hb6 ha hb hr ho
        cases s with
        | false =>
         go_wp2_with fail
         refine za7 rfl rfl rfl (zab _ _ Hr.out) rfl ?_
         exact⟨zam (by rw[Hval.out];rfl) (by rw[Hval.out];rfl) (by rw[Hok.out] <;> rfl),zaa _ _ (za5 Hw.out Hb6.out) Hle.out⟩
        | true =>
         go_wp2_with fail
         refine za7 rfl rfl rfl (zab _ _ Hr.out) rfl ?_
         exact⟨zam (by rw[Hval.out];rfl) (by rw[Hval.out];rfl) (by rw[Hok.out] <;> rfl),zaa _ _ (za5 Hw.out Hb6.out) Hle.out⟩
       | true =>
        go_upto_region 8 with (fail)
        obtain⟨w6,hv⟩ : ∃ W,W=w5.setCell ⟨go,1,none⟩ (.string hj):=⟨_,rfl⟩
        have hb6:Below w0.heap.size w0 w6:=by rw[hv];exact Hb5.out.setCell (p:=⟨go,1,none⟩) Hgeo.out _
        have ha:w6.heap[nb]? = some (.cells #[.string lo,.string hi] 34 (0,0)):=by rw[hv,Below.heap_setCell _ _ _ _ Hneao.out];exact Ha.out
        clear Ha a0 a1 a2 a3
        obtain⟨a0,a1,a2,a3⟩:=za1 ha
        have hb:w6.heap[nb+1]? = some (.cells #[.string lp,.string hj] 34 (0,0)):=by rw[hv,Below.heap_setCell _ _ _ _ Hnebo.out];exact Hb.out
        clear Hb b0 b1 b2 b3
        obtain⟨b0,b1,b2,b3⟩:=za1 hb
        have hr:w6.heap[nb+1+1]? = some (.cells #[.string ⟨#[]⟩,.string ⟨#[]⟩] 34 (0,0)):=by rw[hv,Below.heap_setCell _ _ _ _ Hnero.out];exact Hr.out
        clear Hr r0 r1 r2 r3
        obtain⟨r0,r1,r2,r3⟩:=za1 hr
        have ho:w6.heap[go]? = some (.cells #[.string lp,.string hj] 34 (0,0)):=by rw[hv];exact heap_setCell_same _ go 1 _ _ _ Ho.out
        clear Ho o0 o1 o2 o3
        obtain⟨o0,o1,o2,o3⟩:=za1 ho
        rw[← hv]
        clear hv
        obtain⟨Hb6,Ha,Hb,Hr,Ho⟩:=hd5 hb6 ha hb hr ho;clear hb6 ha hb hr ho
        have hZ:=HO.out lp hj hl2 hh2
        obtain⟨s,hs⟩ : ∃ z,z=mayS (lp.data.toList,hj.data.toList):=⟨_,rfl⟩
        rw[← hs] at hZ
        have hok:=Hok.out
        have hval:=Hval.out
        simp only[reduceCtorEq,eq_self,and_self,true_and,and_true,false_and,and_false,or_true,true_or,or_false,false_or,or_self,if_true,if_false,ite_true,ite_false,Bool.true_and,Bool.and_true,← hs] at hok hval
        clear hs Hok Hval
        obtain⟨HZ,Hok,Hval⟩:=hd3 hZ hok hval;clear hZ hok hval
        go_wp2_with fail
        refine (HZ.out _ Hb6.out).mono ?_
        rintro e w7 ⟨rfl,hs⟩
        have hb7:=Hb6.out.trans (hs.mono Hb6.out.size)
        have ha:=za0 hs Ha.out
        clear Ha a0 a1 a2 a3
        obtain⟨a0,a1,a2,a3⟩:=za1 ha
        have hb:=za0 hs Hb.out
        clear Hb b0 b1 b2 b3
        obtain⟨b0,b1,b2,b3⟩:=za1 hb
        have hr:=za0 hs Hr.out
        clear Hr r0 r1 r2 r3
        obtain⟨r0,r1,r2,r3⟩:=za1 hr
        have ho:=za0 hs Ho.out
        clear Ho o0 o1 o2 o3
        obtain⟨o0,o1,o2,o3⟩:=za1 ho
        obtain⟨Hs,Hb7,Ha,Hb,Hr,Ho⟩:=hd6 hs hb7 ha hb hr ho;clear hs hb7 ha hb hr ho
        cases s with
        | false =>
         go_wp2_with fail
         refine za7 rfl rfl rfl (zab _ _ Hr.out) rfl ?_
         exact⟨zam (by rw[Hval.out];rfl) (by rw[Hval.out];rfl) (by rw[Hok.out] <;> rfl),zaa _ _ (za5 Hw.out Hb7.out) Hle.out⟩
        | true =>
         go_wp2_with fail
         refine za7 rfl rfl rfl (zab _ _ Hr.out) rfl ?_
         exact⟨zam (by rw[Hval.out];rfl) (by rw[Hval.out];rfl) (by rw[Hok.out] <;> rfl),zaa _ _ (za5 Hw.out Hb7.out) Hle.out⟩
      | true =>
       go_upto_region 8 with (fail)
       obtain⟨w5,hv⟩ : ∃ W,W=w4.setCell ⟨go,1,none⟩ (.string hj):=⟨_,rfl⟩
       have hb5:Below w0.heap.size w0 w5:=by rw[hv];exact Hb4.out.setCell (p:=⟨go,1,none⟩) Hgeo.out _
       have ha:w5.heap[nb]? = some (.cells #[.string lo,.string hi] 34 (0,0)):=by rw[hv,Below.heap_setCell _ _ _ _ Hneao.out];exact Ha.out
       clear Ha a0 a1 a2 a3
       obtain⟨a0,a1,a2,a3⟩:=za1 ha
       have hb:w5.heap[nb+1]? = some (.cells #[.string lp,.string hj] 34 (0,0)):=by rw[hv,Below.heap_setCell _ _ _ _ Hnebo.out];exact Hb.out
       clear Hb b0 b1 b2 b3
       obtain⟨b0,b1,b2,b3⟩:=za1 hb
       have hr:w5.heap[nb+1+1]? = some (.cells #[.string ⟨#[]⟩,.string ⟨#[]⟩] 34 (0,0)):=by rw[hv,Below.heap_setCell _ _ _ _ Hnero.out];exact Hr.out
       clear Hr r0 r1 r2 r3
       obtain⟨r0,r1,r2,r3⟩:=za1 hr
       have ho:w5.heap[go]? = some (.cells #[.string lp,.string hj] 34 (0,0)):=by rw[hv];exact heap_setCell_same _ go 1 _ _ _ Ho.out
       clear Ho o0 o1 o2 o3
       obtain⟨o0,o1,o2,o3⟩:=za1 ho
       rw[← hv]
       clear hv
       obtain⟨Hb5,Ha,Hb,Hr,Ho⟩:=hd5 hb5 ha hb hr ho;clear hb5 ha hb hr ho
       have hZ:=HO.out lp hj hl2 hh2
       obtain⟨s,hs⟩ : ∃ z,z=mayS (lp.data.toList,hj.data.toList):=⟨_,rfl⟩
       rw[← hs] at hZ
       have hok:=Hok.out
       have hval:=Hval.out
       simp only[reduceCtorEq,eq_self,and_self,true_and,and_true,false_and,and_false,or_true,true_or,or_false,false_or,or_self,if_true,if_false,ite_true,ite_false,Bool.true_and,Bool.and_true,← hs] at hok hval
       clear hs Hok Hval
       obtain⟨HZ,Hok,Hval⟩:=hd3 hZ hok hval;clear hZ hok hval
       go_wp2_with fail
       refine (HZ.out _ Hb5.out).mono ?_
       rintro e w6 ⟨rfl,hs⟩
       have hb6:=Hb5.out.trans (hs.mono Hb5.out.size)
       have ha:=za0 hs Ha.out
       clear Ha a0 a1 a2 a3
       obtain⟨a0,a1,a2,a3⟩:=za1 ha
       have hb:=za0 hs Hb.out
       clear Hb b0 b1 b2 b3
       obtain⟨b0,b1,b2,b3⟩:=za1 hb
       have hr:=za0 hs Hr.out
       clear Hr r0 r1 r2 r3
       obtain⟨r0,r1,r2,r3⟩:=za1 hr
       have ho:=za0 hs Ho.out
       clear Ho o0 o1 o2 o3
       obtain⟨o0,o1,o2,o3⟩:=za1 ho
       obtain⟨Hs,Hb6,Ha,Hb,Hr,Ho⟩:=hd6 hs hb6 ha hb hr ho;clear hs hb6 ha hb hr ho
       cases s with
       | false =>
        go_wp2_with fail
        refine za7 rfl rfl rfl (zab _ _ Hr.out) rfl ?_
        exact⟨zam (by rw[Hval.out];rfl) (by rw[Hval.out];rfl) (by rw[Hok.out] <;> rfl),zaa _ _ (za5 Hw.out Hb6.out) Hle.out⟩
       | true =>
        go_wp2_with fail
        refine za7 rfl rfl rfl (zab _ _ Hr.out) rfl ?_
        exact⟨zam (by rw[Hval.out];rfl) (by rw[Hval.out];rfl) (by rw[Hok.out] <;> rfl),zaa _ _ (za5 Hw.out Hb6.out) Hle.out⟩
     | true =>
      have hZ:=HO.out lp hi hl2 hh
      obtain⟨s,hs⟩ : ∃ z,z=mayS (lp.data.toList,hi.data.toList):=⟨_,rfl⟩
      rw[← hs] at hZ
      have hok:=Hok.out
      have hval:=Hval.out
      simp only[reduceCtorEq,eq_self,and_self,true_and,and_true,false_and,and_false,or_true,true_or,or_false,false_or,or_self,if_true,if_false,ite_true,ite_false,Bool.true_and,Bool.and_true,← hs] at hok hval
      clear hs Hok Hval
      obtain⟨HZ,Hok,Hval⟩:=hd3 hZ hok hval;clear hZ hok hval
      go_wp2_with fail
      refine (HZ.out _ Hb4.out).mono ?_
      rintro e w5 ⟨rfl,hs⟩
      have hb5:=Hb4.out.trans (hs.mono Hb4.out.size)
      have ha:=za0 hs Ha.out
      clear Ha a0 a1 a2 a3
      obtain⟨a0,a1,a2,a3⟩:=za1 ha
      have hb:=za0 hs Hb.out
      clear Hb b0 b1 b2 b3
      obtain⟨b0,b1,b2,b3⟩:=za1 hb
      have hr:=za0 hs Hr.out
      clear Hr r0 r1 r2 r3
      obtain⟨r0,r1,r2,r3⟩:=za1 hr
      have ho:=za0 hs Ho.out
      clear Ho o0 o1 o2 o3
      obtain⟨o0,o1,o2,o3⟩:=za1 ho
      obtain⟨Hs,Hb5,Ha,Hb,Hr,Ho⟩:=hd6 hs hb5 ha hb hr ho;clear hs hb5 ha hb hr ho
      cases s with
      | false =>
       go_wp2_with fail
       refine za7 rfl rfl rfl (zab _ _ Hr.out) rfl ?_
       exact⟨zam (by rw[Hval.out];rfl) (by rw[Hval.out];rfl) (by rw[Hok.out] <;> rfl),zaa _ _ (za5 Hw.out Hb5.out) Hle.out⟩
      | true =>
       go_wp2_with fail
       refine za7 rfl rfl rfl (zab _ _ Hr.out) rfl ?_
       exact⟨zam (by rw[Hval.out];rfl) (by rw[Hval.out];rfl) (by rw[Hok.out] <;> rfl),zaa _ _ (za5 Hw.out Hb5.out) Hle.out⟩
   | true =>
    cases d3 with
    | false =>
     cases d4 with
     | false =>
      go_wp2_with fail
      refine (HY.out _ Hb3.out).mono ?_
      rintro e w4 ⟨rfl,hs⟩
      have hb4:=Hb3.out.trans (hs.mono Hb3.out.size)
      have ha:=za0 hs Ha.out
      clear Ha a0 a1 a2 a3
      obtain⟨a0,a1,a2,a3⟩:=za1 ha
      have hb:=za0 hs Hb.out
      clear Hb b0 b1 b2 b3
      obtain⟨b0,b1,b2,b3⟩:=za1 hb
      have hr:=za0 hs Hr.out
      clear Hr r0 r1 r2 r3
      obtain⟨r0,r1,r2,r3⟩:=za1 hr
      have ho:=za0 hs Ho.out
      clear Ho o0 o1 o2 o3
      obtain⟨o0,o1,o2,o3⟩:=za1 ho
      obtain⟨Hs,Hb4,Ha,Hb,Hr,Ho⟩:=hd6 hs hb4 ha hb hr ho;clear hs hb4 ha hb hr ho
      cases ry with
      | false =>
       have hZ:=HO.out lo hi hl hh
       obtain⟨s,hs⟩ : ∃ z,z=mayS (lo.data.toList,hi.data.toList):=⟨_,rfl⟩
       rw[← hs] at hZ
       have hok:=Hok.out
       have hval:=Hval.out
       simp only[reduceCtorEq,eq_self,and_self,true_and,and_true,false_and,and_false,or_true,true_or,or_false,false_or,or_self,if_true,if_false,ite_true,ite_false,Bool.true_and,Bool.and_true,← hs] at hok hval
       clear hs Hok Hval
       obtain⟨HZ,Hok,Hval⟩:=hd3 hZ hok hval;clear hZ hok hval
       go_wp2_with fail
       refine (HZ.out _ Hb4.out).mono ?_
       rintro e w5 ⟨rfl,hs⟩
       have hb5:=Hb4.out.trans (hs.mono Hb4.out.size)
       have ha:=za0 hs Ha.out
       clear Ha a0 a1 a2 a3
       obtain⟨a0,a1,a2,a3⟩:=za1 ha
       have hb:=za0 hs Hb.out
       clear Hb b0 b1 b2 b3
       obtain⟨b0,b1,b2,b3⟩:=za1 hb
       have hr:=za0 hs Hr.out
       clear Hr r0 r1 r2 r3
       obtain⟨r0,r1,r2,r3⟩:=za1 hr
       have ho:=za0 hs Ho.out
       clear Ho o0 o1 o2 o3
       obtain⟨o0,o1,o2,o3⟩:=za1 ho
       obtain⟨Hs,Hb5,Ha,Hb,Hr,Ho⟩:=hd6 hs hb5 ha hb hr ho;clear hs hb5 ha hb hr ho
       cases s with
       | false =>
        go_wp2_with fail
        refine za7 rfl rfl rfl (zab _ _ Hr.out) rfl ?_
        exact⟨zam (by rw[Hval.out];rfl) (by rw[Hval.out];rfl) (by rw[Hok.out] <;> rfl),zaa _ _ (za5 Hw.out Hb5.out) Hle.out⟩
       | true =>
        go_wp2_with fail
        refine za7 rfl rfl rfl (zab _ _ Hr.out) rfl ?_
        exact⟨zam (by rw[Hval.out];rfl) (by rw[Hval.out];rfl) (by rw[Hok.out] <;> rfl),zaa _ _ (za5 Hw.out Hb5.out) Hle.out⟩
      | true =>
       go_upto_region 8 with (fail)
       obtain⟨w5,hv⟩ : ∃ W,W=w4.setCell ⟨go,1,none⟩ (.string hj):=⟨_,rfl⟩
       have hb5:Below w0.heap.size w0 w5:=by rw[hv];exact Hb4.out.setCell (p:=⟨go,1,none⟩) Hgeo.out _
       have ha:w5.heap[nb]? = some (.cells #[.string lo,.string hi] 34 (0,0)):=by rw[hv,Below.heap_setCell _ _ _ _ Hneao.out];exact Ha.out
       clear Ha a0 a1 a2 a3
       obtain⟨a0,a1,a2,a3⟩:=za1 ha
       have hb:w5.heap[nb+1]? = some (.cells #[.string lp,.string hj] 34 (0,0)):=by rw[hv,Below.heap_setCell _ _ _ _ Hnebo.out];exact Hb.out
       clear Hb b0 b1 b2 b3
       obtain⟨b0,b1,b2,b3⟩:=za1 hb
       have hr:w5.heap[nb+1+1]? = some (.cells #[.string ⟨#[]⟩,.string ⟨#[]⟩] 34 (0,0)):=by rw[hv,Below.heap_setCell _ _ _ _ Hnero.out];exact Hr.out
       clear Hr r0 r1 r2 r3
       obtain⟨r0,r1,r2,r3⟩:=za1 hr
       have ho:w5.heap[go]? = some (.cells #[.string lo,.string hj] 34 (0,0)):=by rw[hv];exact heap_setCell_same _ go 1 _ _ _ Ho.out
       clear Ho o0 o1 o2 o3
       obtain⟨o0,o1,o2,o3⟩:=za1 ho
       rw[← hv]
       clear hv
       obtain⟨Hb5,Ha,Hb,Hr,Ho⟩:=hd5 hb5 ha hb hr ho;clear hb5 ha hb hr ho
       have hZ:=HO.out lo hj hl hh2
       obtain⟨s,hs⟩ : ∃ z,z=mayS (lo.data.toList,hj.data.toList):=⟨_,rfl⟩
       rw[← hs] at hZ
       have hok:=Hok.out
       have hval:=Hval.out
       simp only[reduceCtorEq,eq_self,and_self,true_and,and_true,false_and,and_false,or_true,true_or,or_false,false_or,or_self,if_true,if_false,ite_true,ite_false,Bool.true_and,Bool.and_true,← hs] at hok hval
       clear hs Hok Hval
       obtain⟨HZ,Hok,Hval⟩:=hd3 hZ hok hval;clear hZ hok hval
       go_wp2_with fail
       refine (HZ.out _ Hb5.out).mono ?_
       rintro e w6 ⟨rfl,hs⟩
       have hb6:=Hb5.out.trans (hs.mono Hb5.out.size)
       have ha:=za0 hs Ha.out
       clear Ha a0 a1 a2 a3
       obtain⟨a0,a1,a2,a3⟩:=za1 ha
       have hb:=za0 hs Hb.out
       clear Hb b0 b1 b2 b3
       obtain⟨b0,b1,b2,b3⟩:=za1 hb
       have hr:=za0 hs Hr.out
       clear Hr r0 r1 r2 r3
       obtain⟨r0,r1,r2,r3⟩:=za1 hr
       have ho:=za0 hs Ho.out
       clear Ho o0 o1 o2 o3
       obtain⟨o0,o1,o2,o3⟩:=za1 ho
       obtain⟨Hs,Hb6,Ha,Hb,Hr,Ho⟩:=hd6 hs hb6 ha hb hr ho;clear hs hb6 ha hb hr ho
       cases s with
       | false =>
        go_wp2_with fail
        refine za7 rfl rfl rfl (zab _ _ Hr.out) rfl ?_
        exact⟨zam (by rw[Hval.out];rfl) (by rw[Hval.out];rfl) (by rw[Hok.out] <;> rfl),zaa _ _ (za5 Hw.out Hb6.out) Hle.out⟩
       | true =>
        go_wp2_with fail
        refine za7 rfl rfl rfl (zab _ _ Hr.out) rfl ?_
        exact⟨zam (by rw[Hval.out];rfl) (by rw[Hval.out];rfl) (by rw[Hok.out] <;> rfl),zaa _ _ (za5 Hw.out Hb6.out) Hle.out⟩
     | true =>
      go_upto_region 8 with (fail)
      obtain⟨w4,hv⟩ : ∃ W,W=w3.setCell ⟨go,1,none⟩ (.string hj):=⟨_,rfl⟩
      have hb4:Below w0.heap.size w0 w4:=by rw[hv];exact Hb3.out.setCell (p:=⟨go,1,none⟩) Hgeo.out _
      have ha:w4.heap[nb]? = some (.cells #[.string lo,.string hi] 34 (0,0)):=by rw[hv,Below.heap_setCell _ _ _ _ Hneao.out];exact Ha.out
      clear Ha a0 a1 a2 a3
      obtain⟨a0,a1,a2,a3⟩:=za1 ha
      have hb:w4.heap[nb+1]? = some (.cells #[.string lp,.string hj] 34 (0,0)):=by rw[hv,Below.heap_setCell _ _ _ _ Hnebo.out];exact Hb.out
      clear Hb b0 b1 b2 b3
      obtain⟨b0,b1,b2,b3⟩:=za1 hb
      have hr:w4.heap[nb+1+1]? = some (.cells #[.string ⟨#[]⟩,.string ⟨#[]⟩] 34 (0,0)):=by rw[hv,Below.heap_setCell _ _ _ _ Hnero.out];exact Hr.out
      clear Hr r0 r1 r2 r3
      obtain⟨r0,r1,r2,r3⟩:=za1 hr
      have ho:w4.heap[go]? = some (.cells #[.string lo,.string hj] 34 (0,0)):=by rw[hv];exact heap_setCell_same _ go 1 _ _ _ Ho.out
      clear Ho o0 o1 o2 o3
      obtain⟨o0,o1,o2,o3⟩:=za1 ho
      rw[← hv]
      clear hv
      obtain⟨Hb4,Ha,Hb,Hr,Ho⟩:=hd5 hb4 ha hb hr ho;clear hb4 ha hb hr ho
      have hZ:=HO.out lo hj hl hh2
      obtain⟨s,hs⟩ : ∃ z,z=mayS (lo.data.toList,hj.data.toList):=⟨_,rfl⟩
      rw[← hs] at hZ
      have hok:=Hok.out
      have hval:=Hval.out
      simp only[reduceCtorEq,eq_self,and_self,true_and,and_true,false_and,and_false,or_true,true_or,or_false,false_or,or_self,if_true,if_false,ite_true,ite_false,Bool.true_and,Bool.and_true,← hs] at hok hval
      clear hs Hok Hval
      obtain⟨HZ,Hok,Hval⟩:=hd3 hZ hok hval;clear hZ hok hval
      go_wp2_with fail
      refine (HZ.out _ Hb4.out).mono ?_
      rintro e w5 ⟨rfl,hs⟩
      have hb5:=Hb4.out.trans (hs.mono Hb4.out.size)
      have ha:=za0 hs Ha.out
      clear Ha a0 a1 a2 a3
      obtain⟨a0,a1,a2,a3⟩:=za1 ha
      have hb:=za0 hs Hb.out
      clear Hb b0 b1 b2 b3
      obtain⟨b0,b1,b2,b3⟩:=za1 hb
      have hr:=za0 hs Hr.out
      clear Hr r0 r1 r2 r3
      obtain⟨r0,r1,r2,r3⟩:=za1 hr
      have ho:=za0 hs Ho.out
      clear Ho o0 o1 o2 o3
      obtain⟨o0,o1,o2,o3⟩:=za1 ho
      obtain⟨Hs,Hb5,Ha,Hb,Hr,Ho⟩:=hd6 hs hb5 ha hb hr ho;clear hs hb5 ha hb hr ho
      cases s with
      | false =>
       go_wp2_with fail
       refine za7 rfl rfl rfl (zab _ _ Hr.out) rfl ?_
       exact⟨zam (by rw[Hval.out];rfl) (by rw[Hval.out];rfl) (by rw[Hok.out] <;> rfl),zaa _ _ (za5 Hw.out Hb5.out) Hle.out⟩
      | true =>
       go_wp2_with fail
       refine za7 rfl rfl rfl (zab _ _ Hr.out) rfl ?_
       exact⟨zam (by rw[Hval.out];rfl) (by rw[Hval.out];rfl) (by rw[Hok.out] <;> rfl),zaa _ _ (za5 Hw.out Hb5.out) Hle.out⟩
    | true =>
     have hZ:=HO.out lo hi hl hh
     obtain⟨s,hs⟩ : ∃ z,z=mayS (lo.data.toList,hi.data.toList):=⟨_,rfl⟩
     rw[← hs] at hZ
     have hok:=Hok.out
     have hval:=Hval.out
     simp only[reduceCtorEq,eq_self,and_self,true_and,and_true,false_and,and_false,or_true,true_or,or_false,false_or,or_self,if_true,if_false,ite_true,ite_false,Bool.true_and,Bool.and_true,← hs] at hok hval
     clear hs Hok Hval
     obtain⟨HZ,Hok,Hval⟩:=hd3 hZ hok hval;clear hZ hok hval
     go_wp2_with fail
     refine (HZ.out _ Hb3.out).mono ?_
     rintro e w4 ⟨rfl,hs⟩
     have hb4:=Hb3.out.trans (hs.mono Hb3.out.size)
     have ha:=za0 hs Ha.out
     clear Ha a0 a1 a2 a3
     obtain⟨a0,a1,a2,a3⟩:=za1 ha
     have hb:=za0 hs Hb.out
     clear Hb b0 b1 b2 b3
     obtain⟨b0,b1,b2,b3⟩:=za1 hb
     have hr:=za0 hs Hr.out
     clear Hr r0 r1 r2 r3
     obtain⟨r0,r1,r2,r3⟩:=za1 hr
     have ho:=za0 hs Ho.out
     clear Ho o0 o1 o2 o3
     obtain⟨o0,o1,o2,o3⟩:=za1 ho
     obtain⟨Hs,Hb4,Ha,Hb,Hr,Ho⟩:=hd6 hs hb4 ha hb hr ho;clear hs hb4 ha hb hr ho
     cases s with
     | false =>
      go_wp2_with fail
      refine za7 rfl rfl rfl (zab _ _ Hr.out) rfl ?_
      exact⟨zam (by rw[Hval.out];rfl) (by rw[Hval.out];rfl) (by rw[Hok.out] <;> rfl),zaa _ _ (za5 Hw.out Hb4.out) Hle.out⟩
     | true =>
      go_wp2_with fail
      refine za7 rfl rfl rfl (zab _ _ Hr.out) rfl ?_
      exact⟨zam (by rw[Hval.out];rfl) (by rw[Hval.out];rfl) (by rw[Hok.out] <;> rfl),zaa _ _ (za5 Hw.out Hb4.out) Hle.out⟩
end

section
open Go.Shelf Go.RowKit Go.Lib Go.Sort SortM VerN
instance:Inhabited Tp:=⟨⟨(⟨#[]⟩,⟨#[]⟩),by decide⟩⟩
def zrs (l:List Tp) (v:Value) (w:World) (e:Ending) (w':World):Prop :=
 Below w.heap.size w w'∧((∃ o l',e = .returned (.tuple #[o,.bool true])∧MStep l l'∧w'.ownsRow w.heap.size 34 2 o l'.length ((tB l').flatMap zal))∨(e = .returned (.tuple #[v,.bool false])∧zk3 l))
def NoneUp (l:List Tp) (k:Nat):Prop:=∀ i j (hi:i < l.length) (hj:j < l.length),i < k→i < j→mtT l[i] l[j]=false
def zq7 (l:List Tp) (x:Tp) (i k:Nat):Prop:=∀ j (hj:j < l.length),j < k→i < j→mtT x l[j]=false
theorem zny {l:List Tp} {i:Nat} (hi:i < l.length) (h:NoneUp l i) (h2:zq7 l l[i] i l.length):NoneUp l (i+1):=fun a j ha hj hai haj=>by
 by_cases e:a=i
 ·subst e;exact h2 j hj hj haj
 exact h a j ha hj (by omega) haj
theorem zo1 {l:List Tp} {x:Tp} {i k:Nat} (h:zq7 l x i k) (h2:∀ hk:k < l.length,i < k→mtT x l[k]=false):zq7 l x i (k+1):=fun j hj hjk hij=>by
 by_cases e:j=k
 ·subst e;exact h2 hj hij
 exact h j hj (by omega) hij
theorem tB_pick {l:List Tp} {i k n:Nat} (hn:n < l.length) (h:n≠i∧n≠k):(tB (zce l i k (n+1))).flatMap zal=(tB (zce l i k n)).flatMap zal ++ [.string l[n].1.1,.string l[n].1.2]:=by
 have e:zce l i k (n+1)=zce l i k n ++ [l[n]]:=by
  show (if n≠i∧n≠k then zce l i k n ++ [l[n]!] else zce l i k n)=_
  rw[if_pos h,getElem!_pos l n hn]
 rw[e,tB,List.map_append,List.flatMap_append]
 rfl
theorem pick_skip {l:List Tp} {i k n:Nat} (h:¬ (n≠i∧n≠k)):zce l i k (n+1)=zce l i k n:=by
 show (if n≠i∧n≠k then zce l i k n ++ [l[n]!] else zce l i k n)=_
 rw[if_neg h]
theorem zkh {w:World} {v:Value} {l:List Tp} (h:RSps w [v] (tB l)) (hm:mayT l) (hl:l.length≤2000):Calls Tryz.prog 60 #[v] w (zrs l v w):=by
 have hat0:=fun a c (e:v = .slice a (tB l).length c)=>zh7 (by rw[← e];exact h)
 obtain⟨a,cap,rfl⟩:=zc8 h
 have hat:=hat0 a cap rfl
 clear hat0
 obtain⟨n,hn⟩ : ∃ n,n=(tB l).length:=⟨_,rfl⟩
 have hnl:n=l.length:=by rw[hn,List.length_map]
 rw[← hn] at h ⊢
 have hn1:n≤2000:=by omega
 obtain⟨Hh,Hm,Hn,Hnl,Hat⟩:=hd5 h hm hn hnl hat;clear h hm hn hnl hat
 go_enter Tryz.func60,Tryz.ntmps60
 go_wp2_with fail
 go_loopw [12] (fun i wr=>∃ k:Nat,k≤n∧i = .int .i64 k∧NoneUp l k∧Below w.heap.size w wr) (fun i _=>n - (RowKit.intOf i).toNat)
 case atStart=>exact⟨0,Nat.zero_le _,rfl,fun _ _ _ _ h _=>absurd h (Nat.not_lt_zero _),Below.refl _ _⟩
 case round =>
  obtain⟨i,hi,rfl,hno,hbr⟩:=hrel
  by_cases hlt:i < n
  ·have hil:i < l.length:=by have:=Hnl.out;omega
   obtain⟨x,hx⟩ : ∃ x,x=l[i]:=⟨_,rfl⟩
   obtain⟨b,off,rfl,c0,c1⟩:=Hat.out i x.1 (by rw[hx,List.getElem?_map,List.getElem?_eq_getElem hil];rfl)
   have k5:(0:Int)≤(i:Int):=by omega
   have k6:(i:Int) < (n:Int):=by omega
   have d0:=cell_later hbr c0
   have d1:=cell_later hbr c1
   obtain⟨Hno,Hbr,Hx,Hc0,Hc1⟩:=hd5 hno hbr hx c0 c1;clear hno hbr hx c0 c1
   go_wp2_with fail
   go_loopw [17] (fun j wq=>∃ k:Nat,k≤n∧j = .int .i64 k∧zq7 l x i k∧Below w.heap.size w wq) (fun j _=>n - (RowKit.intOf j).toNat)
   case atStart=>exact⟨0,Nat.zero_le _,rfl,fun _ _ h _=>absurd h (Nat.not_lt_zero _),Hbr.out⟩
   case round =>
    obtain⟨k,hk,rfl,hna,hbq⟩:=hrel
    by_cases hlk:k < n
    ·have hkl:k < l.length:=by have:=Hnl.out;omega
     obtain⟨y,hy⟩ : ∃ y,y=l[k]:=⟨_,rfl⟩
     obtain⟨b2,off2,e2,d2,d3⟩:=Hat.out k y.1 (by rw[hy,List.getElem?_map,List.getElem?_eq_getElem hkl];rfl)
     injection e2 with e2
     injection e2 with e2 e3 _
     subst e2 e3
     have hxs:=x.2
     have hys:=y.2
     have hxm:=Hm.out x (by rw[Hx.out];exact List.getElem_mem _)
     have hym:=Hm.out y (by rw[hy];exact List.getElem_mem _)
     have hM:=fun (W:World) (_:Below w.heap.size w W)=>znn x.1.1 x.1.2 y.1.1 y.1.2 (by omega) (by omega) (by omega) (by omega) W
     have hJ:=fun (W:World) (_:Below w.heap.size w W)=>zno x.1.1 x.1.2 y.1.1 y.1.2 (by omega) (by omega) (by omega) (by omega) hxm hym W
     have hcf:∀ W,Below w.heap.size w W→W.cell? ⟨b,off+i * 2,none⟩=some (.string x.1.1)∧W.cell? ⟨b,off+i * 2+1,none⟩=some (.string x.1.2)∧W.cell? ⟨b,off+k * 2,none⟩=some (.string y.1.1)∧W.cell? ⟨b,off+k * 2+1,none⟩=some (.string y.1.2) :=
      fun W hW=>⟨cell_later hW Hc0.out,cell_later hW Hc1.out,cell_later hW d2,cell_later hW d3⟩
     have hnx:=fun (ho:¬ (i < k∧mtT x y=true))=>zo1 hna fun hk2 hik=>by
      have:mtT x y=false:=by cases hmt:mtT x y with
       | false=>rfl
       | true=>exact absurd ⟨hik,hmt⟩ ho
      rw[hy] at this
      exact this
     obtain⟨m1,m2,hmv⟩ : ∃ p q,(p,q)=mtV x.1.1 x.1.2 y.1.1 y.1.2:=⟨_,_,rfl⟩
     obtain⟨j1,j2,hjv⟩ : ∃ p q,(p,q)=jnV x.1.1 x.1.2 y.1.1 y.1.2:=⟨_,_,rfl⟩
     obtain⟨ok,hok⟩ : ∃ b,b=mtT x y:=⟨_,rfl⟩
     have hok2:zby (x.1.1.data.toList,x.1.2.data.toList) (y.1.1.data.toList,y.1.2.data.toList)=ok:=hok.symm
     rw[← hmv,hok2] at hM
     rw[← hjv] at hJ
     rw[← hok] at hnx
     obtain⟨x1,hx1⟩ : ∃ s,s=x.1.1:=⟨_,rfl⟩
     obtain⟨x2,hx2⟩ : ∃ s,s=x.1.2:=⟨_,rfl⟩
     obtain⟨y1,hy1⟩ : ∃ s,s=y.1.1:=⟨_,rfl⟩
     obtain⟨y2,hy2⟩ : ∃ s,s=y.1.2:=⟨_,rfl⟩
     rw[← hx1,← hx2,← hy1,← hy2] at hM hJ
     simp only[← hx1,← hx2,← hy1,← hy2] at hcf
     have k7:(0:Int)≤(k:Int):=by omega
     have k8:(k:Int) < (n:Int):=by omega
     have hbz:=zak (Below.refl wr.heap.size wr) 1
     have hcz:=hcf _ (hbq.trans (hbz.mono hbq.size))
     obtain⟨e0,e1,e4,e5⟩:=hcf _ hbq
     clear d0 d1 d2 d3 hok2
     obtain⟨Hna,Hbq,Hy,Hxs,Hys,Hxm,Hym,HM,HJ,Hnx,Hmv,Hjv,Hok,Hx1,Hx2,Hy1⟩:=hd16 hna hbq hy hxs hys hxm hym hM hJ hnx hmv hjv hok hx1 hx2 hy1;have Hy2:=hd hy2;clear hna hbq hy hxs hys hxm hym hM hJ hnx hmv hjv hok hx1 hx2 hy1 hy2
     have Hcz:=Lib.hid hcf
     clear hcf
     go_upto_region 7 with (fail)
     go_cut [7] (fun v W=>v = .bool ok∧Below w.heap.size w W)
     case first =>
      have hbz2:∀ o,Below wr.heap.size wr ((wr.alloc o).drew):=fun o=>((Below.refl _ _).alloc (Nat.le_refl _) o).drew
      go_region_held3 (fun w'=>w'.cell? ⟨b,off+i * 2,none⟩=some (.string x1)∧w'.cell? ⟨b,off+i * 2+1,none⟩=some (.string x2)∧w'.cell? ⟨b,off+k * 2,none⟩=some (.string y1)∧w'.cell? ⟨b,off+k * 2+1,none⟩=some (.string y2)) (first | exact hcz | exact Hcz.out _ (Hbq.out.trans ((hbz2 _).mono Hbq.out.size)) | exact Hcz.out _ (Hbq.out.trans ((hbz.alloc hbz.size _).mono Hbq.out.size)) | exact Hcz.out _ (Hbq.out.trans ((zaa _ _ hbz hbz.size).mono Hbq.out.size)) | exact Hcz.out _ (Hbq.out.trans ((zaa _ _ hbz (Nat.le_refl _)).mono Hbq.out.size)) | go_keep) (first | (go_at_call 118;refine (HM.out _ (by exact Hbq.out.trans (hbz.mono Hbq.out.size))).mono ?_;rintro e wz ⟨rfl,hsz⟩;replace hbz:=hbz.trans (hsz.mono hbz.size);replace hcz:=Hcz.out _ (Hbq.out.trans (hbz.mono Hbq.out.size))) | (go_at_call 118;refine (HM.out _ (by exact Hbq.out.trans ((hbz2 _).mono Hbq.out.size))).mono ?_;rintro e wz ⟨rfl,hsz⟩;obtain⟨zz0,zz1,zz2,zz3⟩:=za1 (za0 hsz (heap_alloc_new _ _));replace hbz:=(hbz2 _).trans (hsz.mono (hbz2 _).size);replace hcz:=Hcz.out _ (Hbq.out.trans (hbz.mono Hbq.out.size))))
      all_goals
       go_wp2_with fail
       go_meet
       exact⟨rfl,Hbq.out.trans (Below.mono (by first | exact hbz.alloc hbz.size _ | exact zaa _ _ hbz (Nat.le_refl _) | exact zaa _ _ (hbz.alloc hbz.size _) hbz.size) Hbq.out.size)⟩
     case rest =>
      obtain⟨rfl,hbc⟩:=hcut
      by_cases hik:i < k∧ok=true
      ·obtain⟨hik,rfl⟩:=hik
       have q1:decide ((k:Int)≤(i:Int))=false:=decide_eq_false (by omega)
       have hcf:=Hcz.out _ hbc
       obtain⟨g0,g1,g2,g3⟩:=hcf
       clear e0 e1 e4 e5
       have Hbc:=hd hbc;clear hbc
       go_upto_region 9 with (fail)
       have hbz:=zak (Below.refl wc.heap.size wc) 1
       have hcz:=Hcz.out _ (Hbc.out.trans (hbz.mono Hbc.out.size))
       go_region_held3 (fun w'=>w'.cell? ⟨b,off+i * 2,none⟩=some (.string x1)∧w'.cell? ⟨b,off+i * 2+1,none⟩=some (.string x2)∧w'.cell? ⟨b,off+k * 2,none⟩=some (.string y1)∧w'.cell? ⟨b,off+k * 2+1,none⟩=some (.string y2)) (first | exact hcz | exact Hcz.out _ (Hbc.out.trans ((hbz.alloc hbz.size _).mono Hbc.out.size)) | go_keep) (first | (go_at_call 119;refine (HJ.out _ (by exact Hbc.out.trans (hbz.mono Hbc.out.size))).mono ?_;rintro e wz ⟨rfl,hsz⟩;replace hbz:=hbz.trans (hsz.mono hbz.size);replace hcz:=Hcz.out _ (Hbc.out.trans (hbz.mono Hbc.out.size))))
       have hbw:=Hbc.out.trans (hbz.mono Hbc.out.size)
       have hown:(wz.alloc (.cells #[.string j1,.string j2] 34)).ownsRow w.heap.size 34 2 (.slice (some ⟨wz.heap.size,0,none⟩) 1 1) 1 [.string j1,.string j2]:=World.ownsRow_lit (base:=w.heap.size) (e:=34) (size:=2) wz #[.string j1,.string j2] 1 hbw.size (by decide) rfl
       have hbw2:=hbw.alloc hbw.size (.cells #[.string j1,.string j2] 34)
       obtain⟨Hown,Hbw,Hbw2⟩:=hd3 hown hbw hbw2;clear hown hbw hbw2
       have hj0:(tB (jnT x y :: zce l i k 0)).flatMap zal = [.string j1,.string j2]:=by
        show zal (jnV x.1.1 x.1.2 y.1.1 y.1.2) ++ []=_
        rw[← Hjv.out]
        rfl
       have hst:MStep l (jnT x y :: zce l i k l.length):=by
        have h9:=step_of (l:=l) hik hkl (by rw[← Hx.out,← Hy.out];exact Hok.out.symm)
        rw[← Hx.out,← Hy.out] at h9
        exact h9
       obtain⟨Hj0,Hst⟩:=hd2 hj0 hst;clear hj0 hst
       go_wp2_with fail
       go_loopw [8,51] (fun v m wr=>∃ q:Nat,q≤n∧m = .int .i64 q∧wr.ownsRow w.heap.size 34 2 v (jnT x y :: zce l i k q).length ((tB (jnT x y :: zce l i k q)).flatMap zal)∧Below w.heap.size w wr) (fun _ m _=>n - (RowKit.intOf m).toNat)
       case atStart=>exact⟨0,Nat.zero_le _,rfl,by rw[Hj0.out];exact Hown.out,Hbw2.out⟩
       case round =>
        obtain⟨q,hq,rfl,hrow,hbz⟩:=hrel
        obtain⟨ra,rc,rfl⟩:=zai hrow
        by_cases hlq:q < n
        ·by_cases hqk:q≠i∧q≠k
         ·have hql:q < l.length:=by have:=Hnl.out;omega
          obtain⟨z,hz⟩ : ∃ z,z=l[q]:=⟨_,rfl⟩
          obtain⟨b3,off3,e3,f0,f1⟩:=Hat.out q z.1 (by rw[hz,List.getElem?_map,List.getElem?_eq_getElem hql];rfl)
          injection e3 with e3
          injection e3 with e3 e4 _
          subst e3 e4
          have f2:=cell_later hbz f0
          have f3:=cell_later hbz f1
          have hpk:=tB_pick (l:=l) (i:=i) (k:=k) hql hqk
          have hpl:zce l i k (q+1)=zce l i k q ++ [z]:=by
           show (if q≠i∧q≠k then zce l i k q ++ [l[q]!] else zce l i k q)=_
           rw[if_pos hqk,getElem!_pos l q hql,hz]
          have hpn:=zpe l i k q
          rw[← hz] at hpk
          obtain⟨N,hN⟩ : ∃ N,N=(tB (jnT x y :: zce l i k q)).flatMap zal:=⟨_,rfl⟩
          obtain⟨m,hm⟩ : ∃ m,m=(jnT x y :: zce l i k q).length:=⟨_,rfl⟩
          obtain⟨z1,hz1⟩ : ∃ s,s=z.1.1:=⟨_,rfl⟩
          obtain⟨z2,hz2⟩ : ∃ s,s=z.1.2:=⟨_,rfl⟩
          have hN':(tB (jnT x y :: zce l i k (q+1))).flatMap zal=N ++ [.string z1,.string z2]:=by
           rw[hN,hz1,hz2]
           show zal _ ++ (tB (zce l i k (q+1))).flatMap zal=(zal _ ++ (tB (zce l i k q)).flatMap zal) ++ _
           rw[hpk,List.append_assoc]
          have hm':(jnT x y :: zce l i k (q+1)).length=m+1:=by rw[hm,hpl];simp
          have hmq:m≤2001:=by rw[hm];simp only[List.length_cons];omega
          rw[← hN,← hm] at hrow
          rw[← hz1] at f2
          rw[← hz2] at f3
          have t1:((q:Int) != (i:Int))=true:=by rw[bne_iff_ne];omega
          have t2:((q:Int) != (k:Int))=true:=by rw[bne_iff_ne];omega
          have t3:(0:Int)≤(q:Int):=by omega
          have t4:(q:Int) < (n:Int):=by omega
          have t5:=hbz.size
          clear f0 f1 hqk
          rw[← hm]
          obtain⟨Hrow,Hbz,Hz,Hpk,Hpl,Hpn,HN,Hm,Hz1,Hz2,HN',Hm'⟩:=hd12 hrow hbz hz hpk hpl hpn hN hm hz1 hz2 hN' hm';clear hrow hbz hz hpk hpl hpn hN hm hz1 hz2 hN' hm'
          go_wp2_with (at_builtin;(refine zaw zcf rfl (.tmp 62) (.tmp 67) rfl w.heap.size (.slice ra m rc) m N rfl Hrow.out 1 #[.string z1,.string z2] rfl rfl (by simp[Value.oneCell']) (by omega) (by unfold maxLen;omega) (by omega) ?_;intro v9 w9 hown9 hg9 hm9;obtain⟨a9,c9,rfl⟩:=zai hown9;have hb9:=(zbt Hbz.out Hrow.out (Nat.le_refl _) hg9 (by omega):Below w.heap.size w w9);obtain⟨Hown9,Hb9⟩:=hd2 hown9 hb9;clear hown9 hg9 hm9 hb9))
          go_roundw
          case rel=>exact⟨q+1,by omega,by go_num,by rw[HN'.out,Hm'.out];exact Hown9.out,Hb9.out⟩
          case measure=>(simp[RowKit.intOf]) <;> omega
         have hsk:=pick_skip (l:=l) hqk
         rw[← hsk] at hrow ⊢
         obtain⟨Hsk,Hrow,Hbz⟩:=hd3 hsk hrow hbz;clear hsk hrow hbz
         by_cases hqi:q=i
         ·have t1:((q:Int) != (i:Int))=false:=by rw[bne_eq_false_iff_eq];omega
          go_wp2_with fail
          go_roundw
          case rel=>exact⟨q+1,by omega,by go_num,Hrow.out,Hbz.out⟩
          case measure=>(simp[RowKit.intOf]) <;> omega
         have t1:((q:Int) != (i:Int))=true:=by rw[bne_iff_ne];omega
         have t2:((q:Int) != (k:Int))=false:=by rw[bne_eq_false_iff_eq];omega
         go_wp2_with fail
         go_roundw
         case rel=>exact⟨q+1,by omega,by go_num,Hrow.out,Hbz.out⟩
         case measure=>(simp[RowKit.intOf]) <;> omega
        obtain rfl:q=n:=by omega
        have hrow2:=hrow
        rw[Hnl.out] at hrow2
        obtain⟨Hrow,Hrow2,Hbz⟩:=hd3 hrow hrow2 hbz;clear hrow hrow2 hbz
        go_wp2_with fail
        go_ret2
        exact⟨Hbz.out,.inl ⟨_,_,rfl,Hst.out,by have:=Hrow.out;rw[Hnl.out] at this ⊢;exact this⟩⟩
      have q1:i < k→ok=false:=fun h=>by cases ok with
       | false=>rfl
       | true=>exact absurd ⟨h,rfl⟩ hik
      have hnx2:=Hnx.out (by rw[← Hok.out] at *;exact hik)
      obtain⟨Hbc,Hnx2⟩:=hd2 hbc hnx2;clear hbc hnx2
      by_cases h2:i < k
      ·obtain rfl:=q1 h2
       have q2:decide ((k:Int)≤(i:Int))=false:=decide_eq_false (by omega)
       go_wp2_with fail
       go_roundw
       case rel=>exact⟨k+1,by omega,by go_num,Hnx2.out,Hbc.out⟩
       case measure=>(simp[RowKit.intOf]) <;> omega
      have q2:decide ((k:Int)≤(i:Int))=true:=decide_eq_true (by omega)
      clear q1
      go_wp2_with fail
      go_roundw
      case rel=>exact⟨k+1,by omega,by go_num,Hnx2.out,Hbc.out⟩
      case measure=>(simp[RowKit.intOf]) <;> omega
    obtain rfl:k=n:=by omega
    have hnext:=zny hil Hno.out (by rw[← Hx.out,← Hnl.out];exact hna)
    obtain⟨Hna,Hbq,Hnext⟩:=hd3 hna hbq hnext;clear hna hbq hnext
    go_wp2_with fail
    go_roundw
    case rel=>exact⟨i+1,by omega,by go_num,Hnext.out,Hbq.out⟩
    case measure=>(simp[RowKit.intOf]) <;> omega
  obtain rfl:i=n:=by omega
  have hnm:zk3 l:=zqx fun a b ha hb hab=>hno a b ha hb (by have:=Hnl.out;omega) hab
  obtain⟨Hno,Hbr,Hnm⟩:=hd3 hno hbr hnm;clear hno hbr hnm
  go_wp2_with fail
  go_ret2
  exact⟨Hbr.out,.inr ⟨rfl,Hnm.out⟩⟩
end

section
open Go.RowKit Go.Lib VerN
theorem less_lt (a b:List UInt8):ze8 a b=decide (zb6 a b < 0):=by
 rw[less_is]
 have:=zbr.tri a b
 exact decide_eq_decide.2 ⟨fun h=>by omega,fun h=>by omega⟩
theorem zrm (lo hi lp hj:ByteArray) (hl:lo.size≤1000000) (hl2:lp.size≤1000000) (w:World):Calls Tryz.prog 61 #[.agg #[.string lo,.string hi],.agg #[.string lp,.string hj]] w fun e w'=>e = .returned (.bool (ltLo lp.data.toList lo.data.toList))∧Below w.heap.size w w':=by
 obtain⟨W0,hW0⟩ : ∃ W0,W0=(w.alloc (.cells #[.string lo,.string hi] 34)).alloc (.cells #[.string lp,.string hj] 34):=⟨_,rfl⟩
 obtain⟨nb,hnb⟩ : ∃ nb,nb=w.heap.size:=⟨_,rfl⟩
 have hw:Below w.heap.size w W0:=by rw[hW0];exact (za2 _ _).alloc (by simp) _
 have c0:W0.cell? ⟨nb,0,none⟩=some (.string lo):=by rw[hW0,hnb];exact (za1 (zko _ _ _ _ _)).1
 have d0:W0.cell? ⟨nb+1,0,none⟩=some (.string lp):=by rw[hW0,hnb];exact (za1 (zkn _ _ _ _ _)).1
 have k2:lo.toList.isEmpty=decide (lo.data.toList = []):=zdl lo
 have k3:lp.toList.isEmpty=decide (lp.data.toList = []):=zdl lp
 have hP:=zcb hw (ze9 lp lo hl2 hl W0)
 rw[less_lt] at hP
 obtain⟨q,hq⟩ : ∃ p,p=decide (lo.data.toList = []):=⟨_,rfl⟩
 obtain⟨r,hr⟩ : ∃ p,p=decide (lp.data.toList = []):=⟨_,rfl⟩
 obtain⟨s,hs⟩ : ∃ p,p=decide (zb6 lp.data.toList lo.data.toList < 0):=⟨_,rfl⟩
 have hv:ltLo lp.data.toList lo.data.toList=(!q && (r || s)):=by
  unfold ltLo
  rw[hq,hr,hs]
  congr 1
  by_cases h:lo.data.toList = [] <;> simp[h]
 rw[← hq] at k2
 rw[← hr] at k3
 rw[← hs] at hP
 clear hq hr hs
 obtain⟨HP,Hw,Hv⟩:=hd3 hP hw hv;clear hP hw hv
 go_enter Tryz.func61,Tryz.ntmps61
 go_upto_region 1 with (fail)
 rw[← hW0,← hnb]
 clear hW0 hnb
 cases q with
 | true =>
  go_wp2_with fail
  go_ret
  exact⟨by rw[Hv.out];rfl,Hw.out⟩
 | false =>
  cases r with
  | true =>
   go_wp2_with fail
   go_ret
   exact⟨by rw[Hv.out];rfl,Hw.out⟩
  | false =>
   go_wp2_with fail
   refine HP.out.mono ?_
   rintro e w1 ⟨rfl,hb1⟩
   have Hb1:=hd hb1;clear hb1
   go_wp2_with fail
   go_ret
   exact⟨by rw[Hv.out];rfl,Hb1.out⟩
end

section
open SortM
theorem zmg {α:Type} {lt:α→α→Bool} (x:α):∀ (p q:List α),(∀ y∈p,lt x y=false)→(∀ y∈q,lt x y=true)→ins lt x (p ++ q)=p ++ x :: q
 | [],[],_,_=>rfl
 | [],y :: r,_,hq=>by
  show ins lt x (y :: r)=x :: y :: r
  unfold ins
  rw[if_pos (hq y (by simp))]
 | y :: p,q,hp,hq=>by
  show ins lt x (y :: (p ++ q))=y :: (p ++ x :: q)
  unfold ins
  rw[if_neg (by rw[hp y (by simp)];simp),zmg x p q (fun z hz=>hp z (by simp[hz])) hq]
theorem zmh {α:Type} {lt:α→α→Bool} (h:Swo lt) {x:α} {l:List α} (hl:zb8 lt l) {at_:Nat} (hat:at_≤l.length) (hq:∀ i (hi:i < l.length),at_≤i→lt x l[i]=true) (hp:∀ h0:0 < at_,lt x (l[at_ - 1]'(by omega))=false) :
  ins lt x l=l.take at_ ++ x :: l.drop at_:=by
 have e:=zmg (lt:=lt) x (l.take at_) (l.drop at_) ?_ ?_
 ·rw[List.take_append_drop] at e
  exact e
 ·intro y hy
  obtain⟨i,hi,rfl⟩:=List.mem_iff_getElem.1 hy
  rw[List.length_take] at hi
  rw[List.getElem_take]
  have hpos:0 < at_:=by omega
  have h1:=hp hpos
  by_cases he:i=at_ - 1
  ·subst he;exact h1
  have h2:=List.pairwise_iff_getElem.1 hl i (at_ - 1) (by omega) (by omega) (by omega)
  exact h.ntrans _ _ _ h2 h1
 intro y hy
 obtain⟨i,hi,rfl⟩:=List.mem_iff_getElem.1 hy
 rw[List.length_drop] at hi
 rw[List.getElem_drop]
 exact hq _ (by omega) (by omega)
end

section
open Go.Shelf Go.RowKit Go.Lib Go.Sort SortM VerN
theorem zhs {w:World} {B:Nat} {e:TypeId} {size g n cap:Nat} {xs:List Value} (h:w.ownsRow B e size (.slice (some ⟨g,0,none⟩) n cap) n xs):n≤cap:=by
 rcases h.2 with⟨e0,_⟩ | ⟨g',cap',cur,e0,_,_,hn,_⟩
 ·cases e0
 injection e0 with _ _ e3
 omega
theorem zdi {w:World} {B:Nat} {e:TypeId} {size:Nat} {v:Value} {n:Nat} {xs:List Value} (h:w.ownsRow B e size v n xs) (hn:0 < n):∃ g cap,v = .slice (some ⟨g,0,none⟩) n cap:=by
 rcases h.2 with⟨h1,h2⟩ | ⟨g,cap,_,h1,_⟩
 ·omega
 exact⟨_,cap,h1⟩
theorem ins_span (l:List Tp) (x:Tp):zcn (l ++ [x])=ins (Go.Proofs.ltOf cfSp) x (zcn l):=zqf l x
theorem zne (l:List Tp):zb8 (Go.Proofs.ltOf cfSp) (zcn l):=zbd zna l
def InsI (w2:World) (l:List Tp) (k:Nat) (v:Value) (W:World):Prop:=∃ g c,v = .slice (some ⟨g,0,none⟩) k c∧W.ownsRow w2.heap.size 34 2 v k ((tB (zcn (l.take k))).flatMap zal)∧Below w2.heap.size w2 W
theorem zgn {w2 wr W V:World} {l:List Tp} {k M g n c:Nat} {P:List Tp} {x:Tp} {x1 x2:ByteArray} {T1 T2:List Value} (hk:k < l.length) (hx:x=l[k]) (hP:P=zcn (l.take k)) (hR:ins (Go.Proofs.ltOf cfSp) x P=P.take M ++ x :: P.drop M) (hx1:x1=x.1.1) (hx2:x2=x.1.2) (hT1:T1=(tB (P.take M)).flatMap zal) (hT2:T2=(tB (P.drop M)).flatMap zal) (hbr:Below w2.heap.size w2 wr) (hb9:Below wr.heap.size wr W) (hb11:Below W.heap.size W V) (hown:V.ownsRow W.heap.size 34 2 (.slice (some ⟨g,0,none⟩) n c) n (T1 ++ [.string x1,.string x2] ++ T2)) (hn:n=k+1):InsI w2 l (k+1) (.slice (some ⟨g,0,none⟩) n c) V:=by
 subst hn
 have hrW:Below w2.heap.size w2 W:=hbr.trans (hb9.mono hbr.size)
 refine⟨g,c,rfl,?_,hrW.trans (hb11.mono hrW.size)⟩
 have e:l.take (k+1)=l.take k ++ [x]:=by rw[hx];exact (List.take_append_getElem hk).symm
 rw[e,ins_span,← hP,hR]
 have h:=zcc hown hrW.size
 have e2:(tB (P.take M ++ x :: P.drop M)).flatMap zal=T1 ++ [.string x1,.string x2] ++ T2:=by
  rw[hT1,hT2,hx1,hx2]
  unfold tB
  rw[List.map_append,List.flatMap_append,List.map_cons,List.flatMap_cons,List.append_assoc]
  rfl
 rw[e2]
 exact h
def slLen:Value→Nat
 | .slice _ n _=>n
 | _=>0
def boN:Value→Nat
 | .bool true=>1
 | _=>0
def zg5 (l:List Tp) (w:World) (e:Ending) (w':World):Prop :=
 ∃ o,e = .returned (.tuple #[o,.bool (zbv l)])∧(zbv l=true→w'.ownsRow w.heap.size 34 2 o (zcr l).length ((zcr l).flatMap zal))∧Below w.heap.size w w'
theorem zjn {l:List Tp} {w w':World} {o:Value} (h:zbv l=false) (hb:Below w.heap.size w w'):zg5 l w (.returned (.tuple #[o,.bool false])) w' :=
 ⟨_,by rw[h],(fun k=>by rw[h] at k;cases k),hb⟩
structure Left (l L:List Tp):Prop where
 may:mayT L
 cov:∀ p,covT L p↔covT l p
 len:L.length≤l.length
theorem Left.step {l L M:List Tp} (h:Left l L) (hs:MStep L M):Left l M∧M.length < L.length:=by
 obtain⟨h1,h2,h3⟩:=zqd h.may hs
 exact⟨⟨h1,fun p=>(h2 p).trans (h.cov p),by have:=h.len;omega⟩,by omega⟩
theorem formOk_of {l:List Tp} (h:zds (tB l)=true) {L:List Tp} (hf:zcr l=tB (zcn L)):zbv l=decide (L.length≤16):=by
 unfold zbv
 rw[h,hf,List.length_map,(zc4 L).length_eq]
 rfl
theorem zo6 (x y:Tp):ltLo x.1.1.data.toList y.1.1.data.toList=Go.Proofs.ltOf cfSp x y:=(ltSp x y).symm
theorem znp {w:World} {v:Value} {l:List Tp} (h:RSps w [v] (tB l)) (hl:l.length≤2000):Calls Tryz.prog 21 #[v] w (zg5 l w):=by
 have hat0:=fun a c (e:v = .slice a (tB l).length c)=>zh7 (by rw[← e];exact h)
 obtain⟨a,cap,rfl⟩:=zc8 h
 have hat:=hat0 a cap rfl
 clear hat0
 obtain⟨n,hn⟩ : ∃ n,n=(tB l).length:=⟨_,rfl⟩
 have hnl:n=l.length:=by rw[hn,List.length_map]
 rw[← hn] at h ⊢
 have hn1:n≤2000:=by omega
 obtain⟨Hh,Hn,Hnl,Hat⟩:=hd4 h hn hnl hat;clear h hn hnl hat
 go_enter Tryz.func21,Tryz.ntmps21
 go_wp2_with fail
 go_loopw [12] (fun i wr=>∃ k:Nat,k≤n∧i = .int .i64 k∧mayT (l.take k)∧Below w.heap.size w wr) (fun i _=>n - (RowKit.intOf i).toNat)
 case atStart=>exact⟨0,Nat.zero_le _,rfl,(fun s hs=>by simp at hs),Below.refl _ _⟩
 case round =>
  obtain⟨k,hk,rfl,hmay,hbr⟩:=hrel
  by_cases hlt:k < n
  ·have hkl:k < l.length:=by have:=Hnl.out;omega
   obtain⟨y,hy⟩ : ∃ y,y=l[k]:=⟨_,rfl⟩
   obtain⟨b,off,rfl,c0,c1⟩:=Hat.out k y.1 (by rw[hy,List.getElem?_map,List.getElem?_eq_getElem hkl];rfl)
   have d0:=cell_later hbr c0
   have d1:=cell_later hbr c1
   have hys:=y.2
   have hM:=zdr y.1.1 y.1.2 (by omega) (by omega) wr
   obtain⟨r,hr⟩ : ∃ b,b=mayS (dS y.1):=⟨_,rfl⟩
   have hr2:mayS (y.1.1.data.toList,y.1.2.data.toList)=r:=hr.symm
   rw[hr2] at hM
   have hnx:r=true→mayT (l.take (k+1)):=fun h s hs=>by
    rw[List.take_succ_eq_append_getElem hkl] at hs
    rcases List.mem_append.1 hs with hs | hs
    ·exact hmay s hs
    rw[List.mem_singleton.1 hs,← hy,← hr];exact h
   have hno:r=false→zbv l=false:=fun h=>by
    unfold zbv
    cases ha:zds (tB l) with
    | false=>rfl
    | true =>
     have h9:=zkv.2 ha y (by rw[hy];exact List.getElem_mem _)
     rw[← hr,h] at h9
     cases h9
   obtain⟨y1,hy1⟩ : ∃ s,s=y.1.1:=⟨_,rfl⟩
   obtain⟨y2,hy2⟩ : ∃ s,s=y.1.2:=⟨_,rfl⟩
   rw[← hy1] at d0
   rw[← hy2] at d1
   rw[← hy1,← hy2] at hM
   have k5:(0:Int)≤(k:Int):=by omega
   have k6:(k:Int) < (n:Int):=by omega
   clear c0 c1 hr2
   cases r with
   | true =>
    have hnx:=hnx rfl
    obtain⟨Hmay,Hbr,Hy,Hys,HM,Hr,Hnx,Hno,Hy1,Hy2⟩:=hd10 hmay hbr hy hys hM hr hnx hno hy1 hy2;clear hmay hbr hy hys hM hr hnx hno hy1 hy2
    go_wp2_with fail
    refine HM.out.mono ?_
    rintro e w5 ⟨rfl,hb5⟩
    have hbw:=Hbr.out.trans (hb5.mono Hbr.out.size)
    obtain⟨Hb5,Hbw⟩:=hd2 hb5 hbw;clear hb5 hbw
    go_wp2_with fail
    go_roundw
    case rel=>exact⟨k+1,by omega,by go_num,Hnx.out,Hbw.out⟩
    case measure=>(simp[RowKit.intOf]) <;> omega
   | false =>
    have hno:=hno rfl
    obtain⟨Hmay,Hbr,Hy,Hys,HM,Hr,Hnx,Hno,Hy1,Hy2⟩:=hd10 hmay hbr hy hys hM hr hnx hno hy1 hy2;clear hmay hbr hy hys hM hr hnx hno hy1 hy2
    go_wp2_with fail
    refine HM.out.mono ?_
    rintro e w5 ⟨rfl,hb5⟩
    have hbw:=Hbr.out.trans (hb5.mono Hbr.out.size)
    have hbw2:=hbw.alloc hbw.size (.cells #[] 34)
    obtain⟨Hb5,Hbw,Hbw2⟩:=hd3 hb5 hbw hbw2;clear hb5 hbw hbw2
    go_wp2_with fail
    go_ret2
    exact zjn Hno.out Hbw2.out
  obtain rfl:k=n:=by omega
  rw[List.take_of_length_le (Nat.le_of_eq Hnl.out.symm)] at hmay
  have hal:zds (tB l)=true:=zkv.1 hmay
  have hrd:=zaf zc7 _ _ _ _ Hh.out hbr
  have hl0:Left l l:=⟨hmay,fun _=>Iff.rfl,Nat.le_refl _⟩
  obtain⟨Hmay,Hbr,Hal,Hrd,Hl0⟩:=hd5 hmay hbr hal hrd hl0;clear hmay hbr hal hrd hl0
  go_wp2_with fail
  go_loopw [0,5] (fun v m wq=>∃ (L:List Tp) (b:Bool),m = .bool b∧RSps wq [v] (tB L)∧Left l L∧(b=false→zk3 L)∧Below w.heap.size w wq) (fun v m _=>2 * slLen v+boN m)
  case atStart=>exact⟨l,true,rfl,Hrd.out,Hl0.out,(fun h=>by cases h),Hbr.out⟩
  case round =>
   obtain⟨L,b,rfl,hrd,hleft,hnm,hbq⟩:=hrel
   obtain⟨La,Lc,rfl⟩:=zc8 hrd
   have hLl:L.length≤2000:=by have:=hleft.len;omega
   cases b with
   | true =>
    have hME:=zkh hrd hleft.may hLl
    have hln:(tB L).length=L.length:=List.length_map _
    obtain⟨M,hM⟩ : ∃ M,M=(tB L).length:=⟨_,rfl⟩
    rw[← hM] at hrd hME hln ⊢
    obtain⟨Hrd,Hleft,Hnm,Hbq,HME,Hln,HM⟩:=hd7 hrd hleft hnm hbq hME hln hM;clear hrd hleft hnm hbq hME hln hM
    go_wp2_with fail
    refine HME.out.mono ?_
    intro e w5 hpost
    obtain⟨hb5,hpost⟩:=hpost
    rcases hpost with⟨o,L',rfl,hst,ho⟩ | ⟨rfl,hnm2⟩
    ·obtain⟨hl2,hlt2⟩:=Hleft.out.step hst
     have hbw:=Hbq.out.trans (hb5.mono Hbq.out.size)
     have hrd2:RSps w5 [o] (tB L'):=zdn (fun x hx=>by have:=zev L' x hx;unfold maxLen;omega) (by rw[List.length_map];exact ho)
     obtain⟨oa,oc,rfl⟩:=zai ho
     obtain⟨Hst,Ho,Hb5,Hl2,Hlt2,Hbw,Hrd2⟩:=hd7 hst ho hb5 hl2 hlt2 hbw hrd2;clear hst ho hb5 hl2 hlt2 hbw hrd2
     go_wp2_with fail
     go_roundw
     case rel=>exact⟨L',true,rfl,Hrd2.out,Hl2.out,(fun h=>by cases h),Hbw.out⟩
     case measure=>have:=Hln.out;have:=Hlt2.out;simp[slLen,boN];omega
    have hbw:=Hbq.out.trans (hb5.mono Hbq.out.size)
    have hrd2:=zaf zc7 _ _ _ _ Hrd.out hb5
    obtain⟨Hnm2,Hb5,Hbw,Hrd2⟩:=hd4 hnm2 hb5 hbw hrd2;clear hnm2 hb5 hbw hrd2
    go_wp2_with fail
    go_roundw
    case rel=>exact⟨L,false,rfl,Hrd2.out,Hleft.out,(fun _=>Hnm2.out),Hbw.out⟩
    case measure=>simp[slLen,boN]
   | false =>
    have hf:=zqr Hmay.out hleft.may hleft.cov (hnm rfl)
    have hfo:=formOk_of Hal.out hf
    have hatL:=zh7 hrd
    obtain⟨w2,hw2⟩ : ∃ w2,w2=wr:=⟨_,rfl⟩
    obtain⟨m,hm⟩ : ∃ m,m=(tB L).length:=⟨_,rfl⟩
    have hml:m=L.length:=by rw[hm,List.length_map]
    have hm1:m≤2000:=by omega
    rw[← hm] at hrd ⊢
    rw[← hw2] at hatL hbq hrd ⊢
    have hst:InsI w2 L 0 (.slice (some ⟨w2.heap.size,0,none⟩) 0 0) (w2.alloc (.cells #[] 34)):=⟨_,_,rfl,zim (Nat.le_refl _),za2 _ _⟩
    obtain⟨Hrd,Hleft,Hnm,Hbq,Hf,Hfo,HatL,Hm,Hml,Hst⟩:=hd10 hrd hleft hnm hbq hf hfo hatL hm hml hst;clear hrd hleft hnm hbq hf hfo hatL hm hml hst
    clear hw2
    go_wp2_with fail
    go_loopw [6,32] (fun v i wr=>∃ k:Nat,k≤m∧i = .int .i64 k∧InsI w2 L k v wr) (fun _ i _=>m - (RowKit.intOf i).toNat)
    case atStart=>exact⟨0,Nat.zero_le _,rfl,Hst.out⟩
    case round =>
     obtain⟨k,hk,rfl,gw,cw,rfl,hrow,hbr⟩:=hrel
     obtain⟨wo,hwo⟩ : ∃ W,W=wr:=⟨_,rfl⟩
     rw[← hwo] at hrow hbr ⊢
     clear hwo
     by_cases hlt:k < m
     ·have hkl:k < L.length:=by have:=Hml.out;omega
      obtain⟨x,hx⟩ : ∃ x,x=L[k]:=⟨_,rfl⟩
      obtain⟨b,off,rfl,f0,f1⟩:=HatL.out k x.1 (by rw[hx,List.getElem?_map,List.getElem?_eq_getElem hkl];rfl)
      have f0:=cell_later hbr f0
      have f1:=cell_later hbr f1
      obtain⟨P,hP⟩ : ∃ P,P=zcn (L.take k):=⟨_,rfl⟩
      have hPl:P.length=k:=by rw[hP,(zc4 _).length_eq,List.length_take];omega
      have hPs:zb8 (Go.Proofs.ltOf cfSp) P:=by rw[hP];exact zne _
      rw[← hP] at hrow
      have k5:(0:Int)≤(k:Int):=by omega
      have k6:(k:Int) < (m:Int):=by omega
      have hcell:∀ j u,((tB P).flatMap zal)[j]? = some u→wo.cell? ⟨gw,j,none⟩=some u:=fun j u hu=>by
       have:=hrow.cells (g:=gw) rfl j u hu
       rw[Addr.add_lit,Nat.zero_add] at this
       exact this
      have hxs:=x.2
      obtain⟨x1,hx1⟩ : ∃ s,s=x.1.1:=⟨_,rfl⟩
      obtain⟨x2,hx2⟩ : ∃ s,s=x.1.2:=⟨_,rfl⟩
      rw[← hx1] at f0
      rw[← hx2] at f1
      obtain⟨Hx,HP,HPl,HPs,Hrow,Hbr,Hcell,Hxs,Hx1,Hx2,Hf0,Hf1⟩:=hd12 hx hP hPl hPs hrow hbr hcell hxs hx1 hx2 f0 f1;clear hx hP hPl hPs hrow hbr hcell hxs hx1 hx2 f0 f1
      go_wp2_with fail
      go_loopw [8] (fun v wq=>∃ q:Nat,q≤k∧v = .int .i64 q∧(∀ i (hi:i < P.length),q≤i→Go.Proofs.ltOf cfSp x P[i]=true)∧Below wo.heap.size wo wq) (fun v _=>(RowKit.intOf v).toNat)
      case atStart=>exact⟨k,Nat.le_refl _,rfl,(fun i hi h=>by have:=HPl.out;omega),Below.refl _ _⟩
      case round =>
       obtain⟨q,hq,rfl,hall,hbq⟩:=hrel
       by_cases hq0:0 < q
       ·obtain⟨p,rfl⟩ : ∃ p,q=p+1:=⟨q - 1,by omega⟩
        have hpl:p < P.length:=by have:=HPl.out;omega
        obtain⟨y,hy⟩ : ∃ y,y=P[p]:=⟨_,rfl⟩
        have hyt:(tB P)[p]'(by rw[List.length_map];exact hpl)=y.1:=by rw[hy];exact List.getElem_map _
        have hyc:=zgc (tB P) p (by rw[List.length_map];exact hpl)
        rw[hyt] at hyc
        have d2:=Hcell.out _ _ ((hyc 0 (by decide)).trans (show (zal y.1)[0]? = some (Value.string y.1.1) from rfl))
        have d3:=Hcell.out _ _ ((hyc 1 (by decide)).trans (show (zal y.1)[1]? = some (Value.string y.1.2) from rfl))
        have hys:=y.2
        have hcf:∀ W,Below wo.heap.size wo W→W.cell? ⟨gw,p * 2,none⟩=some (.string y.1.1)∧W.cell? ⟨gw,p * 2+1,none⟩=some (.string y.1.2)∧W.cell? ⟨b,off+k * 2,none⟩=some (.string x1)∧W.cell? ⟨b,off+k * 2+1,none⟩=some (.string x2) :=
         fun W hW=>⟨cell_later hW d2,cell_later hW d3,cell_later hW Hf0.out,cell_later hW Hf1.out⟩
        have hL:=fun (W:World) (_:Below wo.heap.size wo W)=>zrm y.1.1 y.1.2 x1 x2 (by omega) (by rw[Hx1.out];have:=Hxs.out;omega) W
        have hle:ltLo x1.data.toList y.1.1.data.toList=Go.Proofs.ltOf cfSp x y:=by rw[Hx1.out];exact zo6 x y
        rw[hle] at hL
        obtain⟨y1,hy1⟩ : ∃ s,s=y.1.1:=⟨_,rfl⟩
        obtain⟨y2,hy2⟩ : ∃ s,s=y.1.2:=⟨_,rfl⟩
        rw[← hy1,← hy2] at hL
        simp only[← hy1,← hy2] at hcf
        have u2:IntKind.i64.wrap ((p:Int)+1 - 1)=(p:Int):=by rw[IntWalk.i64_in _ (by omega)];omega
        have u3:IntKind.i64.wrap (p:Int)=(p:Int):=IntWalk.i64_in _ (by omega)
        have v1:decide ((0:Int) < (p:Int)+1)=true:=decide_eq_true (by omega)
        have v2:(0:Int) < (p:Int)+1:=by omega
        have v3:(p:Int) < (k:Int):=by omega
        have v4:(0:Int)≤(p:Int):=by omega
        obtain⟨r,hr⟩ : ∃ r,r=Go.Proofs.ltOf cfSp x y:=⟨_,rfl⟩
        rw[← hr] at hL
        have hbz:=zak (Below.refl wr.heap.size wr) 1
        have hcz:=hcf _ (hbq.trans (hbz.mono hbq.size))
        clear hle d2 d3 hyc hyt
        have hnx:r=true→∀ i (hi:i < P.length),p≤i→Go.Proofs.ltOf cfSp x P[i]=true:=fun h i hi hpi=>by
         by_cases e:i=p
         ·subst e;rw[← hy,← hr];exact h
         exact hall i hi (by omega)
        have hR:r=false→_:=fun h=>zmh zna (x:=x) HPs.out (at_:=p+1) (by have:=HPl.out;omega) hall (fun _=>by rw[show P[p+1 - 1]'(by have:=HPl.out;omega)=y by rw[hy];rfl,← hr];exact h)
        obtain⟨Hall,Hbq,HL,Hy,Hys,Hr,Hy1,Hy2,Hnx,HR⟩:=hd10 hall hbq hL hy hys hr hy1 hy2 hnx hR;clear hall hbq hL hy hys hr hy1 hy2 hnx hR
        have Hcz:=Lib.hid hcf
        clear hcf
        go_upto_region 15 with (fail)
        go_region_held3 (fun w'=>w'.cell? ⟨gw,p * 2,none⟩=some (.string y1)∧w'.cell? ⟨gw,p * 2+1,none⟩=some (.string y2)∧w'.cell? ⟨b,off+k * 2,none⟩=some (.string x1)∧w'.cell? ⟨b,off+k * 2+1,none⟩=some (.string x2)) (first | exact hcz | go_keep) (first | (go_at_call 61;refine (HL.out _ (by exact Hbq.out.trans (hbz.mono Hbq.out.size))).mono ?_;rintro e wz ⟨rfl,hsz⟩;replace hbz:=hbz.trans (hsz.mono hbz.size);replace hcz:=Hcz.out _ (Hbq.out.trans (hbz.mono Hbq.out.size))))
        have hb9:=Hbq.out.trans (hbz.mono Hbq.out.size)
        cases r with
        | true =>
         have hnx2:=Hnx.out rfl
         obtain⟨Hb9,Hnx2⟩:=hd2 hb9 hnx2;clear hb9 hnx2
         go_wp2_with fail
         go_roundw
         case rel=>exact⟨p,by omega,by go_num,Hnx2.out,Hb9.out⟩
         case measure=>(simp[RowKit.intOf]) <;> omega
        | false =>
         have hR:=HR.out rfl
         clear HR
         obtain⟨Hb9,HR⟩:=hd2 hb9 hR;clear hb9 hR
         go_upto_region 18 with (fail)
         obtain⟨T1,hT1⟩ : ∃ T,T=(tB (P.take (p+1))).flatMap zal:=⟨_,rfl⟩
         obtain⟨T2,hT2⟩ : ∃ T,T=(tB (P.drop (p+1))).flatMap zal:=⟨_,rfl⟩
         have hM:p+1≤P.length:=by have:=HPl.out;omega
         have hl1:T1.length=(p+1) * 2:=by have:=HPl.out;rw[hT1,zcp,List.length_map,List.length_take];omega
         have hl2:T2.length=(k - (p+1)) * 2:=by have:=HPl.out;rw[hT2,zcp,List.length_map,List.length_drop];omega
         have hN12:(tB P).flatMap zal=T1 ++ T2:=by rw[hT1,hT2,← List.flatMap_append,tB,tB,← List.map_append,List.take_append_drop]
         have hone1:∀ u∈T1,u.oneCell'=true:=by rw[hT1];exact zi5 _
         have hone2:∀ u∈T2,u.oneCell'=true:=by rw[hT2];exact zi5 _
         have hc1:∀ V,Below wz.heap.size wz V→∀ j u,T1[j]? = some u→∃ b off,some (⟨gw,0,none⟩ : Addr)=some ⟨b,off,none⟩∧V.cell? ⟨b,off+j,none⟩=some u:=fun V hV j u hu=>by
          have hj:=(List.getElem?_eq_some_iff.1 hu).1
          exact⟨gw,0,rfl,by rw[Nat.zero_add];exact cell_later hV (cell_later Hb9.out (Hcell.out j u (by rw[hN12,List.getElem?_append_left hj];exact hu)))⟩
         have hc2:∀ V,Below wz.heap.size wz V→∀ j u,T2[j]? = some u→∃ b off,some (⟨gw,(p+1) * 2,none⟩ : Addr)=some ⟨b,off,none⟩∧V.cell? ⟨b,off+j,none⟩=some u:=fun V hV j u hu =>
          ⟨gw,(p+1) * 2,rfl,cell_later hV (cell_later Hb9.out (Hcell.out _ u (by rw[hN12,List.getElem?_append_right (by omega),show (p+1) * 2+j - T1.length=j by omega];exact hu)))⟩
         have hlit1:=zim (w:=wz) (B:=wz.heap.size) (Nat.le_refl _)
         have hba1:Below wz.heap.size wz (wz.alloc (.cells #[] 34)):=za2 _ _
         have hc10:=hc1 _ hba1
         have hMk:p+1≤k:=by have:=HPl.out;omega
         have hMi:(p:Int)+1≤(cw:Int):=by have:=zhs Hrow.out;omega
         have hMt:((p:Int)+1).toNat=p+1:=by omega
         have hM0:(0:Int)≤(p:Int)+1:=by omega
         obtain⟨HT1,HT2,HM,Hl1,Hl2,HN12,Hone1,Hone2,Hc1,Hc2,Hlit1,Hba1,Hc10⟩:=hd13 hT1 hT2 hM hl1 hl2 hN12 hone1 hone2 hc1 hc2 hlit1 hba1 hc10;clear hT1 hT2 hM hl1 hl2 hN12 hone1 hone2 hc1 hc2 hlit1 hba1 hc10
         go_upto_region 19 with (at_builtin;(refine zb3 zcf rfl (.tmp 54) (.tmp 57) rfl wz.heap.size (.slice (some ⟨wz.heap.size,0,none⟩) 0 0) 0 [] rfl Hlit1.out (some ⟨gw,0,none⟩) (p+1) cw T1 rfl Hl1.out Hc10.out Hone1.out (by omega) (by unfold maxLen;omega) (by simp) ?_;intro v7 w7 hown7 hg7 hm7;obtain⟨a7,c7,rfl⟩:=zai hown7;have hb7:=(zbt Hba1.out Hlit1.out (Nat.le_refl _) hg7 (by have:=Hba1.out.size;omega):Below wz.heap.size wz w7);obtain⟨Hown7,Hb7⟩:=hd2 hown7 hb7;clear hown7 hg7 hm7 hb7))
         have hown8:w7.ownsRow wz.heap.size 34 2 (.slice a7 (p+1) c7) (p+1) T1:=by simpa using Hown7.out
         obtain⟨N8,hN8⟩ : ∃ x,x=p+1:=⟨_,rfl⟩
         rw[← hN8] at hown8
         rw[← hN8]
         have hN8':N8≤2000:=by omega
         clear Hown7
         have hz7:=Hb7.out.size
         have f2:=cell_later (Hb9.out.trans (Hb7.out.mono Hb9.out.size)) Hf0.out
         have f3:=cell_later (Hb9.out.trans (Hb7.out.mono Hb9.out.size)) Hf1.out
         obtain⟨Hown8,HN8⟩:=hd2 hown8 hN8;clear hown8 hN8
         go_upto_region 20 with (at_builtin;(refine zaw zcf rfl (.tmp 59) (.tmp 64) rfl wz.heap.size (.slice a7 N8 c7) N8 T1 rfl Hown8.out 1 #[.string x1,.string x2] rfl rfl (by simp[Value.oneCell']) (by omega) (by unfold maxLen;omega) (by omega) ?_;intro v9 w9 hown9 hg9 hm9;obtain⟨a9,c9,rfl⟩:=zai hown9;have hb19:=(zbt Hb7.out Hown8.out (Nat.le_refl _) hg9 (by have:=Hb7.out.size;omega):Below wz.heap.size wz w9);obtain⟨Hown9,Hb19⟩:=hd2 hown9 hb19;clear hown9 hg9 hm9 hb19))
         by_cases hcc:p+1 < cw
         ·have hcd:decide ((p:Int)+1 < (cw:Int))=true:=decide_eq_true (by omega)
          have hcd2:(p:Int)+1≤(k:Int):=by omega
          go_upto_region 21 with (at_builtin;(refine zb3 zcf rfl (.tmp 66) (.tmp 69) rfl wz.heap.size (.slice a9 (N8+1) c9) (N8+1) (T1 ++ [.string x1,.string x2]) rfl Hown9.out (some ⟨gw,(p+1) * 2,none⟩) (k - (p+1)) (cw - (p+1)) T2 rfl Hl2.out (Hc2.out _ Hb19.out) Hone2.out (by omega) (by unfold maxLen;omega) (by have:=Hb19.out.size;omega) ?_;intro v11 w11 hown11 hg11 hm11;obtain⟨a11,c11,rfl⟩:=zdi hown11 (by omega);have hb11:=(zbt Hb19.out Hown9.out (Nat.le_refl _) hg11 (by have:=Hb19.out.size;omega):Below wz.heap.size wz w11);obtain⟨Hown11,Hb11⟩:=hd2 hown11 hb11;clear hown11 hg11 hm11 hb11))
          go_wp2_with fail
          go_roundw
          case rel=>exact⟨k+1,by omega,by go_num,zgn hkl Hx.out HP.out HR.out Hx1.out Hx2.out HT1.out HT2.out Hbr.out Hb9.out Hb11.out Hown11.out (by have:=HN8.out;omega)⟩
          case measure=>(simp[RowKit.intOf]) <;> omega
         have hcd:decide ((p:Int)+1 < (cw:Int))=false:=decide_eq_false (by omega)
         have hcd2:(p:Int)+1≤(k:Int):=by omega
         have hkc:=zhs Hrow.out
         have hT0:T2 = []:=List.eq_nil_of_length_eq_zero (by have:=Hl2.out;omega)
         have hc3:∀ V:World,∀ j u,T2[j]? = some u→∃ b off,some (⟨gw,0,none⟩ : Addr)=some ⟨b,off,none⟩∧V.cell? ⟨b,off+j,none⟩=some u:=fun V j u hu=>by rw[hT0] at hu;simp at hu
         obtain⟨HT0,Hc3⟩:=hd2 hT0 hc3;clear hT0 hc3
         go_upto_region 21 with (at_builtin;(refine zb3 zcf rfl (.tmp 66) (.tmp 69) rfl wz.heap.size (.slice a9 (N8+1) c9) (N8+1) (T1 ++ [.string x1,.string x2]) rfl Hown9.out (some ⟨gw,0,none⟩) (k - (p+1)) (cw - (p+1)) T2 rfl Hl2.out (Hc3.out w9) Hone2.out (by omega) (by unfold maxLen;omega) (by have:=Hb19.out.size;omega) ?_;intro v11 w11 hown11 hg11 hm11;obtain⟨a11,c11,rfl⟩:=zdi hown11 (by omega);have hb11:=(zbt Hb19.out Hown9.out (Nat.le_refl _) hg11 (by have:=Hb19.out.size;omega):Below wz.heap.size wz w11);obtain⟨Hown11,Hb11⟩:=hd2 hown11 hb11;clear hown11 hg11 hm11 hb11))
         go_wp2_with fail
         go_roundw
         case rel=>exact⟨k+1,by omega,by go_num,zgn hkl Hx.out HP.out HR.out Hx1.out Hx2.out HT1.out HT2.out Hbr.out Hb9.out Hb11.out Hown11.out (by have:=HN8.out;omega)⟩
         case measure=>(simp[RowKit.intOf]) <;> omega
       obtain rfl:q=0:=by omega
       have hR:=zmh zna (x:=x) HPs.out (at_:=0) (Nat.zero_le _) hall (fun h=>absurd h (Nat.lt_irrefl 0))
       have v1:decide ((0:Int) < ((0:Nat):Int))=false:=by simp
       obtain⟨Hall,Hbq,HR⟩:=hd3 hall hbq hR;clear hall hbq hR
       go_upto_region 15 with (fail)
       go_quiet (fail)
       obtain⟨wz,hwz⟩ : ∃ W,W=wr.drewN nq:=⟨_,rfl⟩
       have hb9:Below wo.heap.size wo wz:=by rw[hwz];exact zak Hbq.out nq
       rw[← hwz]
       have Hb9:=hd hb9;clear hb9
       clear hwz
       go_upto_region 18 with (fail)
       obtain⟨T1,hT1⟩ : ∃ T,T=(tB (P.take (0))).flatMap zal:=⟨_,rfl⟩
       obtain⟨T2,hT2⟩ : ∃ T,T=(tB (P.drop (0))).flatMap zal:=⟨_,rfl⟩
       have hM:0≤P.length:=by have:=HPl.out;omega
       have hl1:T1.length=(0) * 2:=by have:=HPl.out;rw[hT1,zcp,List.length_map,List.length_take];omega
       have hl2:T2.length=(k - (0)) * 2:=by have:=HPl.out;rw[hT2,zcp,List.length_map,List.length_drop];omega
       have hN12:(tB P).flatMap zal=T1 ++ T2:=by rw[hT1,hT2,← List.flatMap_append,tB,tB,← List.map_append,List.take_append_drop]
       have hone1:∀ u∈T1,u.oneCell'=true:=by rw[hT1];exact zi5 _
       have hone2:∀ u∈T2,u.oneCell'=true:=by rw[hT2];exact zi5 _
       have hc1:∀ V,Below wz.heap.size wz V→∀ j u,T1[j]? = some u→∃ b off,some (⟨gw,0,none⟩ : Addr)=some ⟨b,off,none⟩∧V.cell? ⟨b,off+j,none⟩=some u:=fun V hV j u hu=>by
        have hj:=(List.getElem?_eq_some_iff.1 hu).1
        exact⟨gw,0,rfl,by rw[Nat.zero_add];exact cell_later hV (cell_later Hb9.out (Hcell.out j u (by rw[hN12,List.getElem?_append_left hj];exact hu)))⟩
       have hc2:∀ V,Below wz.heap.size wz V→∀ j u,T2[j]? = some u→∃ b off,some (⟨gw,(0) * 2,none⟩ : Addr)=some ⟨b,off,none⟩∧V.cell? ⟨b,off+j,none⟩=some u:=fun V hV j u hu =>
        ⟨gw,(0) * 2,rfl,cell_later hV (cell_later Hb9.out (Hcell.out _ u (by rw[hN12,List.getElem?_append_right (by omega),show (0) * 2+j - T1.length=j by omega];exact hu)))⟩
       have hlit1:=zim (w:=wz) (B:=wz.heap.size) (Nat.le_refl _)
       have hba1:Below wz.heap.size wz (wz.alloc (.cells #[] 34)):=za2 _ _
       have hc10:=hc1 _ hba1
       have hMk:0≤k:=by have:=HPl.out;omega
       have hMi:(0:Int)≤(cw:Int):=by have:=zhs Hrow.out;omega
       obtain⟨HT1,HT2,HM,Hl1,Hl2,HN12,Hone1,Hone2,Hc1,Hc2,Hlit1,Hba1,Hc10⟩:=hd13 hT1 hT2 hM hl1 hl2 hN12 hone1 hone2 hc1 hc2 hlit1 hba1 hc10;clear hT1 hT2 hM hl1 hl2 hN12 hone1 hone2 hc1 hc2 hlit1 hba1 hc10
       go_upto_region 19 with (at_builtin;(refine zb3 zcf rfl (.tmp 54) (.tmp 57) rfl wz.heap.size (.slice (some ⟨wz.heap.size,0,none⟩) 0 0) 0 [] rfl Hlit1.out (some ⟨gw,0,none⟩) (0) cw T1 rfl Hl1.out Hc10.out Hone1.out (by omega) (by unfold maxLen;omega) (by simp) ?_;intro v7 w7 hown7 hg7 hm7;obtain⟨a7,c7,rfl⟩:=zai hown7;have hb7:=(zbt Hba1.out Hlit1.out (Nat.le_refl _) hg7 (by have:=Hba1.out.size;omega):Below wz.heap.size wz w7);obtain⟨Hown7,Hb7⟩:=hd2 hown7 hb7;clear hown7 hg7 hm7 hb7))
       have hown8:w7.ownsRow wz.heap.size 34 2 (.slice a7 (0) c7) (0) T1:=by simpa using Hown7.out
       obtain⟨N8,hN8⟩ : ∃ x,x=0:=⟨_,rfl⟩
       rw[← hN8] at hown8
       obtain rfl:=hN8
       have hN8:(0:Nat)=0:=rfl
       have hN8':0≤2000:=by omega
       clear Hown7
       have hz7:=Hb7.out.size
       have f2:=cell_later (Hb9.out.trans (Hb7.out.mono Hb9.out.size)) Hf0.out
       have f3:=cell_later (Hb9.out.trans (Hb7.out.mono Hb9.out.size)) Hf1.out
       obtain⟨Hown8,HN8⟩:=hd2 hown8 hN8;clear hown8 hN8
       go_upto_region 20 with (at_builtin;(refine zaw zcf rfl (.tmp 59) (.tmp 64) rfl wz.heap.size (.slice a7 0 c7) 0 T1 rfl Hown8.out 1 #[.string x1,.string x2] rfl rfl (by simp[Value.oneCell']) (by omega) (by unfold maxLen;omega) (by omega) ?_;intro v9 w9 hown9 hg9 hm9;obtain⟨a9,c9,rfl⟩:=zai hown9;have hb19:=(zbt Hb7.out Hown8.out (Nat.le_refl _) hg9 (by have:=Hb7.out.size;omega):Below wz.heap.size wz w9);obtain⟨Hown9,Hb19⟩:=hd2 hown9 hb19;clear hown9 hg9 hm9 hb19))
       by_cases hcc:0 < cw
       ·have hcd:decide ((0:Int) < (cw:Int))=true:=decide_eq_true (by omega)
        have hcd2:(0:Int)≤(k:Int):=by omega
        go_upto_region 21 with (at_builtin;(refine zb3 zcf rfl (.tmp 66) (.tmp 69) rfl wz.heap.size (.slice a9 (0+1) c9) (0+1) (T1 ++ [.string x1,.string x2]) rfl Hown9.out (some ⟨gw,(0) * 2,none⟩) (k) (cw) T2 rfl Hl2.out (Hc2.out _ Hb19.out) Hone2.out (by omega) (by unfold maxLen;omega) (by have:=Hb19.out.size;omega) ?_;intro v11 w11 hown11 hg11 hm11;obtain⟨a11,c11,rfl⟩:=zdi hown11 (by omega);have hb11:=(zbt Hb19.out Hown9.out (Nat.le_refl _) hg11 (by have:=Hb19.out.size;omega):Below wz.heap.size wz w11);obtain⟨Hown11,Hb11⟩:=hd2 hown11 hb11;clear hown11 hg11 hm11 hb11))
        go_wp2_with fail
        go_roundw
        case rel=>exact⟨k+1,by omega,by go_num,zgn hkl Hx.out HP.out HR.out Hx1.out Hx2.out HT1.out HT2.out Hbr.out Hb9.out Hb11.out Hown11.out (by have:=HN8.out;omega)⟩
        case measure=>(simp[RowKit.intOf]) <;> omega
       have hcd:decide ((0:Int) < (cw:Int))=false:=decide_eq_false (by omega)
       have hcd2:(0:Int)≤(k:Int):=by omega
       have hkc:=zhs Hrow.out
       have hT0:T2 = []:=List.eq_nil_of_length_eq_zero (by have:=Hl2.out;omega)
       have hc3:∀ V:World,∀ j u,T2[j]? = some u→∃ b off,some (⟨gw,0,none⟩ : Addr)=some ⟨b,off,none⟩∧V.cell? ⟨b,off+j,none⟩=some u:=fun V j u hu=>by rw[hT0] at hu;simp at hu
       obtain⟨HT0,Hc3⟩:=hd2 hT0 hc3;clear hT0 hc3
       go_upto_region 21 with (at_builtin;(refine zb3 zcf rfl (.tmp 66) (.tmp 69) rfl wz.heap.size (.slice a9 (0+1) c9) (0+1) (T1 ++ [.string x1,.string x2]) rfl Hown9.out (some ⟨gw,0,none⟩) (k) (cw) T2 rfl Hl2.out (Hc3.out w9) Hone2.out (by omega) (by unfold maxLen;omega) (by have:=Hb19.out.size;omega) ?_;intro v11 w11 hown11 hg11 hm11;obtain⟨a11,c11,rfl⟩:=zdi hown11 (by omega);have hb11:=(zbt Hb19.out Hown9.out (Nat.le_refl _) hg11 (by have:=Hb19.out.size;omega):Below wz.heap.size wz w11);obtain⟨Hown11,Hb11⟩:=hd2 hown11 hb11;clear hown11 hg11 hm11 hb11))
       go_wp2_with fail
       go_roundw
       case rel=>exact⟨k+1,by omega,by go_num,zgn hkl Hx.out HP.out HR.out Hx1.out Hx2.out HT1.out HT2.out Hbr.out Hb9.out Hb11.out Hown11.out (by have:=HN8.out;omega)⟩
       case measure=>(simp[RowKit.intOf]) <;> omega
     obtain rfl:k=m:=by omega
     have htk:L.take k=L:=List.take_of_length_le (Nat.le_of_eq Hml.out.symm)
     rw[htk] at hrow
     have hw2:=Hbq.out.trans (hbr.mono Hbq.out.size)
     have hb2:=hw2.alloc hw2.size (.cells #[] 34)
     have hown:=zcc hrow Hbq.out.size
     rw[show tB (zcn L)=zcr l from Hf.out.symm] at hown
     have hml2:(zcr l).length=k:=by rw[Hf.out,List.length_map,(zc4 L).length_eq];exact Hml.out.symm
     by_cases h16:16 < k
     ·have kk:decide ((16:Int) < (k:Int))=true:=decide_eq_true (by omega)
      have hno:zbv l=false:=by rw[Hfo.out,decide_eq_false];have:=Hml.out;omega
      obtain⟨Hrow,Hbr,Hw2,Hb2,Hown,Hml2,Hno⟩:=hd7 hrow hbr hw2 hb2 hown hml2 hno;clear hrow hbr hw2 hb2 hown hml2 hno
      go_wp2_with fail
      go_ret2
      exact zjn Hno.out Hb2.out
     have kk:decide ((16:Int) < (k:Int))=false:=decide_eq_false (by omega)
     have hyes:zbv l=true:=by rw[Hfo.out,decide_eq_true];have:=Hml.out;omega
     obtain⟨Hrow,Hbr,Hw2,Hb2,Hown,Hml2,Hyes⟩:=hd7 hrow hbr hw2 hb2 hown hml2 hyes;clear hrow hbr hw2 hb2 hown hml2 hyes
     go_wp2_with fail
     go_ret2
     exact⟨.slice (some ⟨gw,0,none⟩) k cw,(by rw[Hyes.out];rfl),(fun _=>by have h9:=Hown.out;rw[Hml2.out];exact h9),Hw2.out⟩
end
end Go.Proofs.YteailgjiifdgcaaGreatDoor
