/- Walks and plain facts. Texts merged: App, SortA, SpsC, SpsA, StbB, SortR, SpsG, SpsH, IdxM, IdxSpan, StbSpanK, StbSpanR, StbSpanM, StbSpanN1, StbSpanN2, StbSpanN3. Condition: none beyond what each says. -/
import Derived.Laws.IdiomCopy
import Derived.Shelf.SlSortCmp.QuietGrown
import Derived.Deep.LoopGhost
import Derived.BigRegion
import Derived.Test.YthgibhhbmmkjmaaGreatDoorPrintApartAll4
set_option linter.unusedVariables false
set_option linter.unusedSimpArgs false
set_option maxRecDepth 10000
set_option maxHeartbeats 4000000
namespace Go.Proofs.YthgibhhbmmkjmaaGreatDoor
section
open Go.RowKit
theorem zk9 {P:Program} {t e:TypeId} {z:Value} {size bytes:Nat} (E:Elem P t e z size bytes) (w:World) (base:Nat) (ty:TypeId)
  (v:Value) (n:Nat) (xs:List Value) (hown:w.ownsRow base e size v n xs)
  (ao:Option Addr) (m c:Nat) (news:List Value) (hl:news.length=m * size) (hnews:∀ j u,news[j]? = some u→∃ b off,ao=some ⟨b,off,none⟩∧w.cell? ⟨b,off+j,none⟩=some u) (h1:∀ u∈news,u.oneCell'=true)
  (h63:n+m≤maxLen) (hbytes:(n+m) * bytes≤140737488355328) (hbase:base≤w.heap.size) :
  ∃ v' w',(Builtin.append_ #[t,t] ty #[v,.slice ao m c]).run P w = .ok v' w'∧w'.ownsRow base e size v' (n+m) (xs ++ news)∧w.grownBy w' v.ownBlock∧zgy w v v':=by
 obtain⟨i,hi,hz,hsz,hby⟩:=info_parts E.info
 cases ao with
 | some a =>
  obtain⟨v',w',hr,h2,h3,h4⟩:=zg7 (P:=P) w base t ty e i z size bytes E.slice hi hz hsz hby E.zero E.pos v n xs hown a m c news hl (by
   intro j u hu
   obtain⟨b,off,e1,e2⟩:=hnews j u hu
   cases e1
   rw[Addr.add_lit]
   exact e2) h1 h63 hbytes hbase
  refine⟨v',w',hr,h2,h3,fun k hk=>?_⟩
  rcases h4 with h4 | h4
  ·exact .inl (by rw[← h4];exact hk)
  right;rw[h4] at hk;simp at hk;omega
 | none =>
  have hn:news = []:=by
   cases news with
   | nil=>rfl
   | cons x r=>obtain⟨b,off,e1,_⟩:=hnews 0 x rfl;cases e1
  subst hn
  have hm:m=0:=by
   have hp:=E.pos
   rcases Nat.eq_zero_or_pos m with h | h
   ·exact h
   have:=Nat.mul_pos h hp;simp at hl;omega
  subst hm
  refine⟨v,w,?_,by simpa using hown,World.grownBy.refl _ _,fun k hk=>.inl hk⟩
  rcases hown.2 with⟨rfl,rfl⟩ | ⟨g,cap,cur,rfl,_,_,hnc,_⟩
  ·simp[Builtin.append_,run_underlying E.slice,sizeOf,typeInfo,hi,Builtin.lenOf,Builtin.firstCells]
  simp[Builtin.append_,run_underlying E.slice,sizeOf,typeInfo,hi,Builtin.lenOf,Builtin.firstCells,hnc,storeCells]
theorem zhd {P:Program} {t e:TypeId} {z:Value} {size bytes:Nat} (E:Elem P t e z size bytes) {w:World} {o:Oper} {a:Act} {K:Act→World→Prop} {Q:Exit→Act→World→Prop}
  (s x:Operand) (ho:o.op = .call { callee:=.builtin .append,args:=#[s,x],argTypes:=#[t,t] })
  (base:Nat) (v:Value) (n:Nat) (xs:List Value) (hs:a.eval s=v) (hown:w.ownsRow base e size v n xs)
  (ao:Option Addr) (m c:Nat) (news:List Value) (hx:a.eval x = .slice ao m c) (hl:news.length=m * size) (hnews:∀ j u,news[j]? = some u→∃ b off,ao=some ⟨b,off,none⟩∧w.cell? ⟨b,off+j,none⟩=some u) (h1:∀ u∈news,u.oneCell'=true)
  (hb:(n+m) * bytes≤140737488355328) (hb1:n+m≤maxLen) (hbase:base≤w.heap.size)
  (h:∀ v' w',w'.ownsRow base e size v' (n+m) (xs ++ news)→w.grownBy w' v.ownBlock→zgy w v v'→K (a.put o.dst v') w') :
  o.wp P a w K Q:=by
 obtain⟨v',w',hr,h2,h3,h4⟩:=zk9 E w base o.type v n xs hown ao m c news hl hnews h1 hb1 hb hbase
 unfold Oper.wp execOp
 simp only[ho,resolve,invoke,builtin,Sem.run_bind,Sem.run_pure,Result.andThen_ok,List.map_toArray,List.map_cons,List.map_nil,hs,hx,hr]
 exact h v' w' h2 h3 h4
theorem zbm {P:Program} {t e:TypeId} {z:Value} {size bytes:Nat} (E:Elem P t e z size bytes) {w:World} {ops:Array Oper} {rest:List Oper} {o:Oper} {a:Act} {Q:Exit→Act→World→Prop}
  (hgd:o.guard=none) (s x:Operand) (ho:o.op = .call { callee:=.builtin .append,args:=#[s,x],argTypes:=#[t,t] })
  (base:Nat) (v:Value) (n:Nat) (xs:List Value) (hs:a.eval s=v) (hown:w.ownsRow base e size v n xs)
  (ao:Option Addr) (m c:Nat) (news:List Value) (hx:a.eval x = .slice ao m c) (hl:news.length=m * size) (hnews:∀ j u,news[j]? = some u→∃ b off,ao=some ⟨b,off,none⟩∧w.cell? ⟨b,off+j,none⟩=some u) (h1:∀ u∈news,u.oneCell'=true)
  (hb:(n+m) * bytes≤140737488355328) (hb1:n+m≤maxLen) (hbase:base≤w.heap.size)
  (h:∀ v' w',w'.ownsRow base e size v' (n+m) (xs ++ news)→w.grownBy w' v.ownBlock→zgy w v v'→wpList P ops Q rest (a.put o.dst v') w') :
  wpList P ops Q (o :: rest) a w :=
 wpList_plain hgd fun _ hK=>zhd E s x ho base v n xs hs hown ao m c news hx hl hnews h1 hb hb1 hbase fun v' w' h2 h3 h4=>hK _ _ (h v' w' h2 h3 h4)
end

section
open Go.RowKit
open SortM
def wr (xs:List Value):Nat→List Value→List Value
 | _,[] => xs
 | o,v :: vs=>wr (xs.set o v) (o+1) vs
theorem zjn {α:Type} (f:α→List Value) (k:Nat) (hk:∀ x,(f x).length=k) (l:List α) (i:Nat) (h:i < l.length) (j:Nat) (hj:j < k):(l.flatMap f)[i * k+j]? = (f l[i])[j]?:=by
 induction l generalizing i with
 | nil=>simp at h
 | cons a l ih =>
  rw[List.flatMap_cons]
  match i,h with
  | 0,_ =>
   rw[List.getElem?_append_left (by rw[hk];omega)]
   simp
  | i+1,h =>
   have hge:(f a).length≤(i+1) * k+j:=by rw[hk,Nat.succ_mul];omega
   rw[List.getElem?_append_right hge,hk,show (i+1) * k+j - k=i * k+j by rw[Nat.succ_mul];omega]
   exact ih i (by simpa using h)
end

section
open Go.RowKit Go.Shelf
def zax (x:BSp):List Value:=[.string x.1,.string x.2]
theorem znh:Elem Tryz.prog 52 51 (.agg #[.string ⟨#[]⟩,.string ⟨#[]⟩]) 2 32:=⟨Tryz.underlying52,by kernel_rfl,rfl,by decide⟩
def RSpn:Rd BSp:=fun _ cs x=>cs = [.string x.1,.string x.2]∧x.1.size≤maxLen∧x.2.size≤maxLen
theorem zan:zfi RSpn:=fun _ _ _ _ h _=>h
abbrev RSps:Rd (List BSp):=zal 2 RSpn
theorem zer (x:BSp):(zax x).length=2:=rfl
theorem zhp:∀ (l:List BSp),(l.flatMap zax).length=l.length * 2
 | [] => rfl
 | x :: l=>by rw[List.flatMap_cons,List.length_append,zhp l,zer,List.length_cons];omega
theorem sps_one (l:List BSp):∀ u∈l.flatMap zax,u.oneCell'=true:=by
 intro u hu
 obtain⟨x,_,h⟩:=List.mem_flatMap.1 hu
 simp[zax] at h
 rcases h with rfl | rfl <;> rfl
theorem zji (f:List BSp) (i:Nat) (h:i < f.length) (j:Nat) (hj:j < 2):(f.flatMap zax)[i * 2+j]? = (zax f[i])[j]?:=zjn zax 2 zer f i h j hj
theorem sps_news {w:World} {o:Option Addr} {n c:Nat} {f:List BSp} (h:RSps w [.slice o n c] f):∀ j u,(f.flatMap zax)[j]? = some u→∃ b off,o=some ⟨b,off,none⟩∧w.cell? ⟨b,off+j,none⟩=some u:=by
 obtain⟨a,cap,hv,_,_,hel⟩:=h
 simp only[List.cons.injEq,and_true,Value.slice.injEq] at hv
 obtain⟨rfl,_,_⟩:=hv
 intro j u hu
 have hj:=(List.getElem?_eq_some_iff.1 hu).1
 rw[zhp] at hj
 have hi:j / 2 < f.length:=by omega
 have e:=zji f (j / 2) hi (j % 2) (by omega)
 have ej:j / 2 * 2+j % 2=j:=by omega
 rw[ej,hu] at e
 obtain⟨b,off,ecs,h1,h2,h3,h4,_⟩:=hel (j / 2) f[j / 2] (List.getElem?_eq_getElem hi)
 subst h4
 refine⟨b,off,h1,?_⟩
 have:=h3 (j % 2) u e.symm
 rwa [Nat.add_assoc,ej] at this
theorem zcq {w:World} {v:Value} {f:List BSp} (h:RSps w [v] f):∃ a c,v = .slice a f.length c:=by
 obtain⟨a,cap,hv,_⟩:=h
 simp only[List.cons.injEq,and_true] at hv
 exact⟨a,cap,hv⟩
theorem lit_sps {w:World} {B:Nat} (h:B≤w.heap.size):(w.alloc (.cells #[] 51)).ownsRow B 51 2 (.slice (some ⟨w.heap.size,0,none⟩) 0 0) 0 []:=World.ownsRow_lit (base:=B) (e:=51) (size:=2) w #[] 0 h (by decide) rfl
def zld (w:World) (n:Nat) (N:List Value) (e:Ending) (w':World):Prop:=∃ o,e = .returned o∧w'.ownsRow w.heap.size 51 2 o n N∧Below w.heap.size w w'
theorem zpm {w:World} {v:Value} {l:List BSp} (h:RSps w [v] l) (hl:l.length≤1000000):Calls Tryz.prog 125 #[v] w (zld w l.length (l.flatMap zax)):=by
 obtain⟨a,c,rfl⟩:=zcq h
 have hN:∀ j u,(l.flatMap zax)[j]? = some u→∃ b off,a=some ⟨b,off,none⟩∧(w.alloc (.cells #[] 51)).cell? ⟨b,off+j,none⟩=some u:=fun j u hu=>by
  obtain⟨b,off,h1,h2⟩:=sps_news h j u hu
  exact⟨b,off,h1,cell_later (za2 _ _) h2⟩
 have h1:=sps_one l
 have hfl:=zhp l
 have hlit:=lit_sps (w:=w) (B:=w.heap.size) (Nat.le_refl _)
 obtain⟨n,hn⟩ : ∃ n,n=l.length:=⟨_,rfl⟩
 obtain⟨N,hNN⟩ : ∃ N,N=l.flatMap zax:=⟨_,rfl⟩
 rw[← hNN] at hN h1 hfl
 rw[← hn] at hfl hl h ⊢
 rw[← hNN]
 cases a with
 | none =>
  have hl0:l = []:=by
   cases l with
   | nil=>rfl
   | cons x r =>
    obtain⟨_,_,hv,_,_,hel⟩:=h
    simp only[List.cons.injEq,and_true,Value.slice.injEq] at hv
    obtain⟨rfl,_,_⟩:=hv
    obtain⟨b,off,ecs,h1,_⟩:=hel 0 x rfl
    cases h1
  have hn0:n=0:=by rw[hn,hl0];rfl
  have hN0:N = []:=by rw[hNN,hl0];rfl
  subst hn0
  have hnil:∀ W,(binOp .eql 52 (.slice none 0 c) (.slice none 0 0)).run Tryz.prog W = .ok (.bool true) W:=fun W=>Lib.run_eql_slice_nil W 52 51 none 0 c 0 0 Tryz.underlying52
  obtain⟨Hh,HN,H1,Hfl,Hlit,Hn,HNN,Hl0,HN0⟩:=hd9 h hN h1 hfl hlit hn hNN hl0 hN0;clear h hN h1 hfl hlit hn hNN hl0 hN0
  go_enter Tryz.func125,Tryz.ntmps125
  go_wp2_with fail
  go_ret
  exact⟨_,rfl,by rw[HN0.out];exact World.ownsRow_nil _ _ _ _,Below.refl _ _⟩
 | some p =>
  have hnil:∀ W,(binOp .eql 52 (.slice (some p) n c) (.slice none 0 0)).run Tryz.prog W = .ok (.bool false) W:=fun W=>Lib.run_eql_slice_nil W 52 51 (some p) n c 0 0 Tryz.underlying52
  obtain⟨Hh,HN,H1,Hfl,Hlit,Hn,HNN⟩:=hd7 h hN h1 hfl hlit hn hNN;clear h hN h1 hfl hlit hn hNN
  go_enter Tryz.func125,Tryz.ntmps125
  go_wp2_with (at_builtin;(refine zbm znh rfl (.tmp 5) (.tmp 6) rfl w.heap.size (.slice (some ⟨w.heap.size,0,none⟩) 0 0) 0 [] rfl Hlit.out (some p) n c N rfl Hfl.out HN.out H1.out (by omega) (by unfold maxLen;omega) (by simp) ?_;intro v1 w1 hown1 hg1 hm1;obtain⟨oa,oc,rfl⟩:=zaa hown1;generalize hN7:0+n=N7 at hown1 ⊢;obtain⟨Hown1,Hg1,HN7⟩:=hd3 hown1 hg1 hN7;clear hown1 hg1 hm1 hN7))
  go_ret
  have hb1:Below w.heap.size w w1:=zch (za2 w _) Hlit.out (Nat.le_refl _) Hg1.out (by simp)
  refine⟨_,rfl,?_,hb1⟩
  have h9:=Hown1.out
  have e:N7=n:=by have:=HN7.out;omega
  rw[List.nil_append] at h9
  rw[e] at h9 ⊢
  exact h9
theorem zi4 {w:World} {B:Nat} {v:Value} {f:List BSp} (hw:∀ x∈f,x.1.size≤maxLen∧x.2.size≤maxLen) (h:w.ownsRow B 51 2 v f.length (f.flatMap zax)):RSps w [v] f:=by
 obtain⟨a,cap,rfl,h1,h2,h3⟩:=Sl.of_owns h
 refine⟨a,cap,rfl,h1,h2,fun i x hi=>?_⟩
 have hil:=(List.getElem?_eq_some_iff.1 hi).1
 have hx:=(List.getElem?_eq_some_iff.1 hi).2
 have hc:∀ c,c < 2→∀ u,(zax x)[c]? = some u→∃ b off,a=some ⟨b,off,none⟩∧w.cell? ⟨b,off+(i * 2+c),none⟩=some u:=fun c hc u hu=>h3 (i * 2+c) u (by rw[zji f i hil c hc,hx];exact hu)
 obtain⟨b,off,ha,h4⟩:=hc 0 (by omega) _ rfl
 obtain⟨b',off',ha',h5⟩:=hc 1 (by omega) _ rfl
 rw[ha] at ha'
 cases ha'
 refine⟨b,off,zax x,ha,rfl,fun j u hu=>?_,rfl,(hw x (List.mem_of_getElem? hi)).1,(hw x (List.mem_of_getElem? hi)).2⟩
 match j,hu with
 | 0,hu=>simp[zax] at hu;subst hu;rw[← Nat.add_assoc] at h4;exact h4
 | 1,hu=>simp[zax] at hu;subst hu;rw[← Nat.add_assoc] at h5;exact h5
theorem zc5 {w:World} {v:Value} {l:List BSp} (h:RSps w [v] l):∃ a cap,v = .slice a l.length cap∧l.length≤9223372036854775807∧∀ i x,l[i]? = some x→∃ b off,a=some ⟨b,off,none⟩∧w.cell? ⟨b,off+i * 2,none⟩=some (.string x.1)∧w.cell? ⟨b,off+i * 2+1,none⟩=some (.string x.2)∧x.1.size≤9223372036854775807∧x.2.size≤9223372036854775807:=by
 obtain⟨a,cap,hv,hcap,hmax,hel⟩:=h
 simp only[List.cons.injEq,and_true] at hv
 unfold maxLen at hmax
 refine⟨a,cap,hv,by omega,fun i x hi=>?_⟩
 obtain⟨b,off,ecs,h1,h2,h3,h4,h5,h6⟩:=hel i x hi
 subst h4
 unfold maxLen at h5 h6
 exact⟨b,off,h1,by simpa using h3 0 _ rfl,by simpa using h3 1 _ rfl,by omega,by omega⟩
theorem sps_size {w:World} {v:Value} {l:List BSp} (h:RSps w [v] l):∀ x∈l,x.1.size≤maxLen∧x.2.size≤maxLen:=by
 obtain⟨a,cap,_,_,g⟩:=zc5 h
 intro x hx
 obtain⟨i,hi,rfl⟩:=List.getElem_of_mem hx
 obtain⟨b,off,_,_,_,h1,h2⟩:=g i _ (List.getElem?_eq_getElem hi)
 exact⟨h1,h2⟩
theorem zkp (cv:Value) (w:World):Calls Tryz.prog 165 #[.slice none 0 0,.int .i64 0,.int .i64 0,cv] w fun e w'=>e = .returned (.tuple #[])∧w=w':=by
 go_enter Tryz.func165,Tryz.ntmps165
 go_wp2_with fail
 refine wp_loop_rounds 1 ?_
 rw[rounds_succ]
 go_wp2_with fail
 go_end0
 exact⟨rfl,rfl⟩
theorem zo0 (cv:Value) (w:World):Calls Tryz.prog 151 #[.slice none 0 0,.int .i64 0,cv] w fun e w'=>e = .returned (.tuple #[])∧w=w':=by
 have h:=zkp cv
 have Hh:=hd h;clear h
 go_enter Tryz.func151,Tryz.ntmps151
 go_wp2_with fail
 refine wp_loop_rounds 1 ?_
 rw[rounds_succ]
 go_wp2_with fail
 refine (Hh.out _).mono ?_
 rintro e w2 ⟨rfl,rfl⟩
 go_wp2_with fail
 refine wp_loop_rounds 1 ?_
 rw[rounds_succ]
 go_wp2_with fail
 go_end0
 exact⟨rfl,rfl⟩
theorem zja (cv:Value) (w:World):Calls Tryz.prog 126 #[.slice none 0 0,cv] w fun e w'=>e = .returned (.tuple #[])∧w=w':=by
 have h:=zo0 cv
 have Hh:=hd h;clear h
 go_enter Tryz.func126,Tryz.ntmps126
 go_wp2_with fail
 refine (Hh.out _).mono ?_
 rintro e w2 ⟨rfl,rfl⟩
 go_wp2_with fail
 go_end0
 exact⟨rfl,rfl⟩
end

section
open Go.RowKit Go.Lib VerN
theorem ret_i {a b:Int} (h:a=b):Ending.returned (.int .i64 a) = .returned (.int .i64 b):=by rw[h]
theorem zlg (lo hi lp hj:ByteArray) (hl:lo.size≤1000000) (hl2:lp.size≤1000000) {w:World} (hD:zbl w):Calls Tryz.prog 127 #[.agg #[.string lo,.string hi],.agg #[.string lp,.string hj]] w fun e w'=>e = .returned (.int .i64 (zpl lo.data.toList lp.data.toList))∧Below w.heap.size w w':=by
 obtain⟨W0,hW0⟩ : ∃ W0,W0=(w.alloc (.cells #[.string lo,.string hi] 51)).alloc (.cells #[.string lp,.string hj] 51):=⟨_,rfl⟩
 obtain⟨nb,hnb⟩ : ∃ nb,nb=w.heap.size:=⟨_,rfl⟩
 have hw:Below w.heap.size w W0:=by rw[hW0];exact (za2 _ _).alloc (by simp) _
 have c0:W0.cell? ⟨nb,0,none⟩=some (.string lo):=by rw[hW0,hnb];exact (za7 (zql _ _ _ _ _)).1
 have d0:W0.cell? ⟨nb+1,0,none⟩=some (.string lp):=by rw[hW0,hnb];exact (za7 (zqk _ _ _ _ _)).1
 have k1:(lo.toList == lp.toList)=decide (lo.data.toList=lp.data.toList):=by rw[Txt.eq_dec];exact decide_eq_decide.2 ba_eq
 have k2:lo.toList.isEmpty=decide (lo.data.toList = []):=zmc lo
 have k3:lp.toList.isEmpty=decide (lp.data.toList = []):=zmc lp
 have hP:=ze3 hw (zhg lo lp hl hl2 (hD.below hw))
 obtain⟨p,hp⟩ : ∃ p,p=decide (lo.data.toList=lp.data.toList):=⟨_,rfl⟩
 obtain⟨q,hq⟩ : ∃ p,p=decide (lo.data.toList = []):=⟨_,rfl⟩
 obtain⟨r,hr⟩ : ∃ p,p=decide (lp.data.toList = []):=⟨_,rfl⟩
 have hv:zpl lo.data.toList lp.data.toList=if p=true then 0 else if q=true then -1 else if r=true then 1 else zc6 lo.data.toList lp.data.toList:=by
  rw[hp,hq,hr];simp only[decide_eq_true_eq];rfl
 rw[← hp] at k1
 rw[← hq] at k2
 rw[← hr] at k3
 clear hp hq hr
 obtain⟨HP,Hw,HD,Hv⟩:=hd4 hP hw hD hv;clear hP hw hD hv
 go_enter Tryz.func127,Tryz.ntmps127
 go_upto_region 1 with (fail)
 rw[← hW0,← hnb]
 clear hW0 hnb
 cases p with
 | true =>
  go_wp2_with fail
  go_ret
  exact⟨ret_i (by rw[Hv.out];rfl),Hw.out⟩
 | false =>
  cases q with
  | true =>
   go_wp2_with fail
   go_ret
   exact⟨ret_i (by rw[Hv.out];rfl),Hw.out⟩
  | false =>
   cases r with
   | true =>
    go_wp2_with fail
    go_ret
    exact⟨ret_i (by rw[Hv.out];rfl),Hw.out⟩
   | false =>
    go_wp2_with fail
    refine HP.out.mono ?_
    rintro e w1 ⟨rfl,hb1⟩
    have Hb1:=hd hb1;clear hb1
    go_wp2_with fail
    go_ret
    exact⟨ret_i (by rw[Hv.out];rfl),Hb1.out⟩
end

namespace StbB
open Go.Sort Go.Proofs.YthgibhhbmmkjmaaGreatDoor.SortM Go.Proofs.YthgibhhbmmkjmaaGreatDoor.StbA
variable {α : Type} {lt : α → α → Bool}
def P1 (lt:α→α→Bool) (l0:List α) (bs a:Nat) (d:Array α):Prop:=∃ (cs:List (List α)) (rest:List α),l0=cs.flatten ++ rest∧d.toList=(cs.map (zb7 lt)).flatten ++ rest∧(∀ c∈cs,c.length=bs)∧a=cs.flatten.length
def P2 (lt:α→α→Bool) (l0:List α) (bs:Nat) (d:Array α):Prop:=∃ (cs:List (List α)) (rest:List α),l0=cs.flatten ++ rest∧d.toList=(cs.map (zb7 lt)).flatten ++ zb7 lt rest∧(∀ c∈cs,c.length=bs)∧rest.length < bs
def P3 (lt:α→α→Bool) (l0:List α) (bs a:Nat) (d:Array α):Prop:=∃ (ds cs:List (List α)) (rest:List α),l0=ds.flatten ++ (cs.flatten ++ rest)∧d.toList=(ds.map (zb7 lt)).flatten ++ ((cs.map (zb7 lt)).flatten ++ zb7 lt rest)∧(∀ c∈ds,c.length=2 * bs)∧(∀ c∈cs,c.length=bs)∧rest.length < bs∧a=ds.flatten.length
theorem flat_len (h:Swo lt) (cs:List (List α)):((cs.map (zb7 lt)).flatten).length=cs.flatten.length:=by
 induction cs with
 | nil=>rfl
 | cons c cs ih=>simp only[List.map_cons,List.flatten_cons,List.length_append,zd4 h,ih]
theorem zo1:zb7 lt ([] : List α) = []:=rfl
theorem P1.start (l0:List α) (bs:Nat) {d:Array α} (hd:d.toList=l0):P1 lt l0 bs 0 d:=⟨[],l0,rfl,hd,by simp,rfl⟩
theorem P1.size (h:Swo lt) {l0:List α} {bs a:Nat} {d:Array α} (hP:P1 lt l0 bs a d):d.size=l0.length:=by
 obtain⟨cs,rest,h1,h2,_,_⟩:=hP
 rw[← Array.length_toList,h2,h1,List.length_append,List.length_append,flat_len h]
theorem P1.step [Inhabited α] (h:Swo lt) {l0:List α} {bs a:Nat} {d:Array α} (hP:P1 lt l0 bs a d) (hb:a+bs≤l0.length):P1 lt l0 bs (a+bs) (insertionSort lt d a (a+bs)):=by
 obtain⟨cs,rest,h1,h2,h3,h4⟩:=hP
 have hl:rest=rest.take bs ++ rest.drop bs:=(List.take_append_drop _ _).symm
 have hx:(rest.take bs).length=bs:=by simp;rw[h1] at hb;simp at hb;simp at h4;omega
 generalize rest.take bs=x at hl hx
 generalize rest.drop bs=y at hl
 subst hl
 refine⟨cs ++ [x],y,by rw[h1];simp,?_,fun c hc=>?_,by simp only[List.flatten_append,List.length_append,List.flatten_cons,List.flatten_nil,List.append_nil];omega⟩
 ·rw[zj5 h (d:=d) (p:=(cs.map (zb7 lt)).flatten) (x:=x) (q:=y) (by rw[h2];simp) (by rw[flat_len h];exact h4) (by rw[flat_len h];omega)]
  simp
 rcases List.mem_append.1 hc with hc | hc
 ·exact h3 c hc
 simp at hc;subst hc;exact hx
theorem P1.last [Inhabited α] (h:Swo lt) {l0:List α} {bs a n:Nat} {d:Array α} (hP:P1 lt l0 bs a d) (hn:n=l0.length) (hb:n < a+bs):P2 lt l0 bs (insertionSort lt d a n):=by
 obtain⟨cs,rest,h1,h2,h3,h4⟩:=hP
 have hr:n=a+rest.length:=by rw[hn,h1,List.length_append];omega
 refine⟨cs,rest,h1,?_,h3,by omega⟩
 rw[zj5 h (d:=d) (p:=(cs.map (zb7 lt)).flatten) (x:=rest) (q:=[]) (by rw[h2];simp) (by rw[flat_len h];exact h4) (by rw[flat_len h];omega)]
 simp
theorem P1.le {l0:List α} {bs a:Nat} {d:Array α} (hP:P1 lt l0 bs a d):a≤l0.length:=by
 obtain⟨cs,rest,h1,h2,h3,h4⟩:=hP
 rw[h1,List.length_append];omega
theorem P2.size (h:Swo lt) {l0:List α} {bs:Nat} {d:Array α} (hP:P2 lt l0 bs d):d.size=l0.length:=by
 obtain⟨cs,rest,h1,h2,_,_⟩:=hP
 rw[← Array.length_toList,h2,h1,List.length_append,List.length_append,flat_len h,zd4 h]
theorem P3.start {l0:List α} {bs:Nat} {d:Array α} (hP:P2 lt l0 bs d):P3 lt l0 bs 0 d:=by
 obtain⟨cs,rest,h1,h2,h3,h4⟩:=hP
 exact⟨[],cs,rest,h1,h2,by simp,h3,h4,rfl⟩
theorem P3.size (h:Swo lt) {l0:List α} {bs a:Nat} {d:Array α} (hP:P3 lt l0 bs a d):d.size=l0.length∧a≤d.size:=by
 obtain⟨ds,cs,rest,h1,h2,_,_,_,h3⟩:=hP
 have e1:d.size=ds.flatten.length+(cs.flatten.length+rest.length):=by rw[← Array.length_toList,h2,List.length_append,List.length_append,flat_len h,flat_len h,zd4 h]
 have e2:l0.length=ds.flatten.length+(cs.flatten.length+rest.length):=by rw[h1,List.length_append,List.length_append]
 omega
theorem P3.step (h:Swo lt) {l0:List α} {bs a:Nat} {d:Array α} (hP:P3 lt l0 bs a d) (hb:a+2 * bs≤l0.length) (h0:0 < bs) :
  ∃ p u v q,d.toList=p ++ u ++ v ++ q∧zbt lt u∧zbt lt v∧a=p.length∧u.length=bs∧v.length=bs∧∀ d':Array α,d'.toList=p ++ zb7 lt (u ++ v) ++ q→P3 lt l0 bs (a+2 * bs) d':=by
 obtain⟨ds,cs,rest,h1,h2,h3,h4,h5,h6⟩:=hP
 have hl:l0.length=a+(cs.flatten.length+rest.length):=by rw[h1,List.length_append,List.length_append,h6]
 match cs with
 | [] => simp at hl;omega
 | [c] => have:=h4 c (by simp);simp at hl;omega
 | c1 :: c2 :: cs =>
  have k1:=h4 c1 (by simp)
  have k2:=h4 c2 (by simp)
  refine⟨(ds.map (zb7 lt)).flatten,zb7 lt c1,zb7 lt c2,(cs.map (zb7 lt)).flatten ++ zb7 lt rest,by rw[h2];simp,zcd h _,zcd h _,by rw[flat_len h];exact h6,by rw[zd4 h];exact k1,by rw[zd4 h];exact k2,fun d' hd'=>?_⟩
  refine⟨ds ++ [c1 ++ c2],cs,rest,by rw[h1];simp,?_,fun c hc=>?_,fun c hc=>h4 c (by simp[hc]),h5,by simp only[List.flatten_append,List.length_append,List.flatten_cons,List.flatten_nil,List.append_nil];omega⟩
  ·rw[hd',zo2 h];simp
  rcases List.mem_append.1 hc with hc | hc
  ·exact h3 c hc
  simp at hc;subst hc;rw[List.length_append];omega
theorem P3.last1 (h:Swo lt) {l0:List α} {bs a n:Nat} {d:Array α} (hP:P3 lt l0 bs a d) (hn:n=l0.length) (hb:n < a+2 * bs) (hm:a+bs < n) :
  ∃ p u v,d.toList=p ++ u ++ v ++ []∧zbt lt u∧zbt lt v∧a=p.length∧u.length=bs∧a+bs+v.length=n∧∀ d':Array α,d'.toList=p ++ zb7 lt (u ++ v) ++ []→P2 lt l0 (2 * bs) d':=by
 obtain⟨ds,cs,rest,h1,h2,h3,h4,h5,h6⟩:=hP
 have hl:n=a+(cs.flatten.length+rest.length):=by rw[hn,h1,List.length_append,List.length_append,h6]
 match cs with
 | [] => simp at hl;omega
 | c1 :: c2 :: cs =>
  have k1:=h4 c1 (by simp)
  have k2:=h4 c2 (by simp)
  simp at hl;omega
 | [c] =>
  have k1:=h4 c (by simp)
  have hl':n=a+(c.length+rest.length):=by simpa using hl
  refine⟨(ds.map (zb7 lt)).flatten,zb7 lt c,zb7 lt rest,by rw[h2];simp,zcd h _,zcd h _,by rw[flat_len h];exact h6,by rw[zd4 h];exact k1,by rw[zd4 h];omega,fun d' hd'=>?_⟩
  refine⟨ds,c ++ rest,by rw[h1];simp,?_,h3,by rw[List.length_append];omega⟩
  rw[hd',zo2 h];simp
theorem P3.last2 {l0:List α} {bs a n:Nat} {d:Array α} (hP:P3 lt l0 bs a d) (hn:n=l0.length) (hb:n < a+2 * bs) (hm:¬ a+bs < n) (h0:0 < bs):P2 lt l0 (2 * bs) d:=by
 obtain⟨ds,cs,rest,h1,h2,h3,h4,h5,h6⟩:=hP
 have hl:n=a+(cs.flatten.length+rest.length):=by rw[hn,h1,List.length_append,List.length_append,h6]
 match cs with
 | [] => exact⟨ds,rest,by rw[h1];simp,by rw[h2];simp,h3,by omega⟩
 | c1 :: c2 :: cs =>
  have k1:=h4 c1 (by simp)
  have k2:=h4 c2 (by simp)
  simp at hl;omega
 | [c] =>
  have k1:=h4 c (by simp)
  have hl':n=a+(c.length+rest.length):=by simpa using hl
  have hr:rest = []:=List.eq_nil_of_length_eq_zero (by omega)
  subst hr
  exact⟨ds,c,by rw[h1];simp,by rw[h2,zo1];simp,h3,by omega⟩
theorem P2.done {l0:List α} {bs:Nat} {d:Array α} (hP:P2 lt l0 bs d) (hb:¬ bs < l0.length):d.toList=zb7 lt l0:=by
 obtain⟨cs,rest,h1,h2,h3,h4⟩:=hP
 match cs with
 | [] => rw[h2,h1];simp
 | [c] =>
  have k1:=h3 c (by simp)
  have hl:l0.length=c.length+rest.length:=by rw[h1];simp
  have hr:rest = []:=List.eq_nil_of_length_eq_zero (by omega)
  subst hr
  rw[h2,h1,zo1];simp
 | c1 :: c2 :: cs =>
  have k1:=h3 c1 (by simp)
  have k2:=h3 c2 (by simp)
  have hl:l0.length=c1.length+(c2.length+(cs.flatten.length+rest.length)):=by rw[h1];simp
  omega
end StbB

section
open Go.RowKit Go.Lib Go.Sort
namespace SortR
theorem zs1 (g:Nat) (t:TypeId):∀ (vs:List Value) (o:Nat) (w:World) (cs:Array Value),w.heap[g]? = some (.cells cs t (0,0)) →
  ∃ cs':Array Value,(w.setCells g o vs).heap[g]? = some (.cells cs' t (0,0))∧cs'.size=cs.size∧∀ p,p < cs.size→cs'[p]? = if o≤p∧p < o+vs.length then vs[p - o]? else cs[p]?
 | [],o,w,cs,h=>⟨cs,h,rfl,fun p hp=>by rw[if_neg (by simp)]⟩
 | v :: vs,o,w,cs,h=>by
  have h1:=heap_setCell_same w g o cs t v h
  obtain⟨cs',h2,h3,h4⟩:=zs1 g t vs (o+1) _ _ h1
  refine⟨cs',h2,by rw[h3];simp,fun p hp=>?_⟩
  rw[h4 p (by simpa using hp),List.length_cons]
  by_cases e:p=o
  ·subst e
   rw[if_neg (by omega),if_pos (by omega),Nat.sub_self]
   simp[hp]
  by_cases hin:o+1≤p∧p < o+1+vs.length
  ·rw[if_pos hin,if_pos (by omega),show p - o=(p - (o+1))+1 by omega,List.getElem?_cons_succ]
  rw[if_neg hin,if_neg (by omega)]
  exact Array.getElem?_setIfInBounds_ne (fun e'=>e e'.symm)
theorem zs2 (g:Nat) {w0:World}:∀ (vs:List Value) (o:Nat) (w:World),Frm (fun b=>b=g) w0 w→Frm (fun b=>b=g) w0 (w.setCells g o vs)
 | [],_,_,h=>h
 | v :: vs,o,w,h=>zs2 g vs (o+1) _ (zae h o v)
def szOf (w:World) (b:Nat):Nat:=match w.heap[b]? with
 | some (.cells cs _ _)=>cs.size
 | _=>0
theorem szOf_is {w:World} {b:Nat} {cs:Array Value} {t:TypeId} {fr:Nat × Nat} (h:w.heap[b]? = some (.cells cs t fr)):szOf w b=cs.size:=by unfold szOf;rw[h]
variable {α : Type} [Inhabited α] {enc : α → List Value} {k : Nat} {t : TypeId} {blk off : Nat} {w0 : World}
structure SRW (t:TypeId) (enc:α→List Value) (k:Nat) (w0:World) (blk off:Nat) (d:Array α) (W:World):Prop where
 frm:Frm (fun b=>b=blk) w0 W
 row:∃ cs:Array Value,W.heap[blk]? = some (.cells cs t (0,0))∧cs.size=szOf w0 blk∧∀ i,i < d.size→∀ c,c < k→off+(i * k+c) < szOf w0 blk∧cs[off+(i * k+c)]? = (enc d[i]!)[c]?
theorem SRW.below {d:Array α} {W W':World} (h:SRW t enc k w0 blk off d W) (hb:Below W.heap.size W W'):SRW t enc k w0 blk off d W':=by
 obtain⟨cs,h1,h2,h3⟩:=h.row
 exact⟨h.frm.trans (Frm.of_below (S:=fun b=>b=blk) hb) (fun _ _ e=>e),cs,za1 hb h1,h2,h3⟩
theorem SRW.drew {d:Array α} {W:World} (h:SRW t enc k w0 blk off d W):SRW t enc k w0 blk off d W.drew:=by
 obtain⟨cs,h1,h2,h3⟩:=h.row
 exact⟨h.frm.drew,cs,h1,h2,h3⟩
theorem SRW.cell {d:Array α} {W:World} (h:SRW t enc k w0 blk off d W) {i:Nat} (hi:i < d.size) {c:Nat} (hc:c < k) {v:Value} (hv:(enc d[i]!)[c]? = some v):W.cell? ⟨blk,off+(i * k+c),none⟩=some v∧W.frozen? ⟨blk,off+(i * k+c),none⟩=false:=by
 obtain⟨cs,h1,h2,h3⟩:=h.row
 exact⟨by rw[za0 h1,(h3 i hi c hc).2,hv],za8 h1 _⟩
theorem mul_apart {i j k c:Nat} (h:i≠j) (hc:c < k):i * k+c < j * k∨j * k+k≤i * k+c:=by
 rcases Nat.lt_or_gt_of_ne h with h | h
 ·have:=Nat.mul_le_mul_right k (show i+1≤j by omega)
  rw[Nat.succ_mul] at this
  exact .inl (by omega)
 have:=Nat.mul_le_mul_right k (show j+1≤i by omega)
 rw[Nat.succ_mul] at this
 exact .inr (by omega)
theorem SRW.put {d:Array α} {W:World} (h:SRW t enc k w0 blk off d W) (hk:∀ x,(enc x).length=k) {i:Nat} (hi:i < d.size) (x:α):SRW t enc k w0 blk off (d.setIfInBounds i x) (W.setCells blk (off+i * k) (enc x)):=by
 obtain⟨cs,h1,h2,h3⟩:=h.row
 obtain⟨cs',g1,g2,g3⟩:=zs1 blk t (enc x) (off+i * k) W cs h1
 refine⟨zs2 blk _ _ _ h.frm,cs',g1,by rw[g2,h2],fun j hj c hc=>?_⟩
 have hj':j < d.size:=by simpa using hj
 have h4:=h3 j hj' c hc
 refine⟨h4.1,?_⟩
 rw[g3 _ (by rw[h2];exact h4.1),hk]
 by_cases e:j=i
 ·subst e
  rw[if_pos (by omega),show off+(j * k+c) - (off+j * k)=c by omega]
  have:(d.setIfInBounds j x)[j]! = x:=by rw[getElem!_pos _ j (by simpa using hj')];simp
  rw[this]
 have ha:=mul_apart e hc
 rw[if_neg (by omega),h4.2]
 have:(d.setIfInBounds i x)[j]! = d[j]!:=by
  rw[getElem!_pos _ j (by simpa using hj'),getElem!_pos d j hj']
  exact Array.getElem_setIfInBounds_ne hj' (fun e'=>e e'.symm)
 rw[this]
theorem SRW.exch {d:Array α} {W:World} (h:SRW t enc k w0 blk off d W) (hk:∀ x,(enc x).length=k) {i j:Nat} (hi:i < d.size) (hj:j < d.size) :
  SRW t enc k w0 blk off (swp d i j) ((W.setCells blk (off+i * k) (enc d[j]!)).setCells blk (off+j * k) (enc d[i]!)) :=
 (h.put hk hi d[j]!).put hk (by simpa using hj) d[i]!
theorem srw_of_owns (hk:∀ x,(enc x).length=k) {w:World} {base g n cap:Nat} {e:TypeId} {l:List α} (h:w.ownsRow base e k (.slice (some ⟨g,0,none⟩) n cap) n (l.flatMap enc)) (hn:l.length=n):SRW e enc k w g 0 l.toArray w:=by
 rcases h.2 with⟨e0,_⟩ | ⟨g',cap',cur,e0,hb,hg,hn',hm,hcs,ht⟩
 ·cases e0
 injection e0 with e1 _ e3
 injection e1 with e1
 injection e1 with e1
 subst e1;subst e3
 have hz:=szOf_is hg
 refine⟨Frm.refl _ _,cur,hg,hz.symm,fun i hi c hc=>?_⟩
 have hi':i < l.length:=by simpa using hi
 have h1:=Nat.mul_le_mul_right k (show i+1≤n by omega)
 rw[Nat.succ_mul] at h1
 have h2:=Nat.mul_le_mul_right k hn'
 refine⟨by rw[hz,hcs];omega,?_⟩
 have h3:=zjn enc k hk l i hi' c hc
 rw[← ht,List.getElem?_take,if_pos (by omega),Array.getElem?_toList] at h3
 rw[Nat.zero_add,h3]
 have:l.toArray[i]! = l[i]:=by rw[getElem!_pos l.toArray i hi];simp
 rw[this]
theorem owns_of_srw (hk:∀ x,(enc x).length=k) (k0:0 < k) {w W:World} {base g n cap:Nat} {e:TypeId} {xs:List Value} {d:Array α} (h:w.ownsRow base e k (.slice (some ⟨g,0,none⟩) n cap) n xs) (S:SRW e enc k w g 0 d W) (hs:d.size=n) :
  W.ownsRow base e k (.slice (some ⟨g,0,none⟩) n cap) n (d.toList.flatMap enc)∧∀ w0,Below base w0 w→base≤w.heap.size→Below base w0 W:=by
 rcases h.2 with⟨e0,_⟩ | ⟨g',cap',cur,e0,hb,hg,hn',hm,hcs,ht⟩
 ·cases e0
 injection e0 with e1 _ e3
 injection e1 with e1
 injection e1 with e1
 subst e1;subst e3
 obtain⟨cs,h1,h2,h3⟩:=S.row
 have hz:=szOf_is hg
 have hlen:∀ l:List α,(l.flatMap enc).length=l.length * k:=fun l=>by
  induction l with
  | nil=>simp
  | cons x l ih=>rw[List.flatMap_cons,List.length_append,ih,hk,List.length_cons,Nat.succ_mul];omega
 have hd:(d.toList.flatMap enc).length=n * k:=by rw[hlen];simp[hs]
 refine⟨⟨hd,.inr ⟨g,cap,cs,rfl,hb,h1,hn',hm,by rw[h2,hz,hcs],?_⟩⟩,fun w0 hB hbs=>hB.trans (S.frm.below hbs (fun k e=>by rw[e];exact hb))⟩
 apply List.ext_getElem?
 intro p
 rw[List.getElem?_take]
 by_cases hp:p < n * k
 ·rw[if_pos hp,Array.getElem?_toList]
  have hi:p / k < d.size:=by rw[hs];exact Nat.div_lt_of_lt_mul (by rwa [Nat.mul_comm])
  have hc:p % k < k:=Nat.mod_lt _ k0
  have e5:=(h3 (p / k) hi (p % k) hc).2
  have e6:=zjn enc k hk d.toList (p / k) (by simpa using hi) (p % k) hc
  rw[Nat.zero_add,Nat.div_add_mod'] at e5
  rw[Nat.div_add_mod'] at e6
  rw[e5,e6,getElem!_pos d _ hi,Array.getElem_toList]
 rw[if_neg hp,List.getElem?_eq_none (by omega)]
end SortR
end

section
open Go.RowKit Go.Lib VerN
def Mrg (w0:World) (x:Nat) (O:List BSp) (w:World):Prop:=∃ v,w.heap[x]? = some (.cells #[v,.func (.func 128) #[] #[],.func (.func 129) #[] #[]] 186 (0,0))∧w.ownsRow w0.heap.size 51 2 v O.length (O.flatMap zax)∧Below w0.heap.size w0 w∧w0.heap.size≤x
theorem own_sp {w:World} {B g n cap:Nat} {O:List BSp} (h:w.ownsRow B 51 2 (.slice (some ⟨g,0,none⟩) n cap) n (O.flatMap zax)) (i:Nat) (hi:i < O.length):w.cell? ⟨g,i * 2,none⟩=some (.string O[i].1)∧w.cell? ⟨g,i * 2+1,none⟩=some (.string O[i].2):=by
 have h0:=h.cells (g:=g) rfl (i * 2+0) (.string O[i].1) (by rw[zji O i hi 0 (by omega)];rfl)
 have h1:=h.cells (g:=g) rfl (i * 2+1) (.string O[i].2) (by rw[zji O i hi 1 (by omega)];rfl)
 rw[Addr.add_lit,Nat.zero_add] at h0 h1
 exact⟨h0,h1⟩
theorem zjl {w:World} {B g n cap size:Nat} {e:TypeId} {xs:List Value} (h:w.ownsRow B e size (.slice (some ⟨g,0,none⟩) n cap) n xs) (i:Nat):w.frozen? ⟨g,i,none⟩=false:=by
 rcases h.2 with⟨e0,_⟩ | ⟨g',cap',cur,e0,_,hg,_⟩
 ·cases e0
 injection e0 with e1 _ _
 injection e1 with e1
 injection e1 with e1
 subst e1
 exact za8 hg i
theorem ztu {w:World} {B g n cap:Nat} {O:List BSp} (h:w.ownsRow B 51 2 (.slice (some ⟨g,0,none⟩) n cap) n (O.flatMap zax)) (hn:O.length=n) {i:Nat} (hi:i < n) (x:BSp) :
  ((w.setCell ⟨g,i * 2,none⟩ (.string x.1)).setCell ⟨g,i * 2+1,none⟩ (.string x.2)).ownsRow B 51 2 (.slice (some ⟨g,0,none⟩) n cap) n ((O.set i x).flatMap zax):=by
 have S:=SortR.srw_of_owns zer h hn
 have S2:=S.put zer (i:=i) (by simp;omega) x
 have h2:=SortR.owns_of_srw zer (by decide) h S2 (by simp;omega)
 have e:(O.toArray.setIfInBounds i x).toList=O.set i x:=by simp
 rw[e] at h2
 have h3:=h2.1
 rw[Nat.zero_add] at h3
 exact h3
theorem mrg_end {w0 w8:World} {x g8 c8 n:Nat} {v:Value} {O':List BSp} (hc8:w8.heap[x]? = some (.cells #[v,.func (.func 128) #[] #[],.func (.func 129) #[] #[]] 186 (0,0)))
  (hown8:w8.ownsRow w0.heap.size 51 2 (.slice (some ⟨g8,0,none⟩) n c8) n (O'.flatMap zax)) (hn:O'.length=n) (hb:Below w0.heap.size w0 w8) (hxB:w0.heap.size≤x):Mrg w0 x O' (w8.setCell ⟨x,0,none⟩ (.slice (some ⟨g8,0,none⟩) n c8)):=by
 subst hn
 have f8:Frm (fun k=>k=x) w8 (w8.setCell ⟨x,0,none⟩ (.slice (some ⟨g8,0,none⟩) O'.length c8)):=zae (Frm.refl _ w8) 0 _
 refine⟨_,heap_setCell_same _ x 0 _ _ _ hc8,f8.owns hown8 (fun k hk e=>zaf hown8 hc8 (by decide) (by rw[hk,e])),hb.trans (f8.below hb.size (fun k hk=>by rw[hk];exact hxB)),hxB⟩
theorem zn3 {w0 w:World} {x:Nat} (h:Mrg w0 x [] w) (s:BSp) (hs:s.1.size≤9000∧s.2.size≤9000) (hD:zbl w0) :
  Calls Tryz.prog 130 #[.pointer (some ⟨x,0,none⟩),.agg #[.string s.1,.string s.2]] w fun e w'=>e = .returned (.tuple #[])∧Mrg w0 x (addB [] s) w':=by
 obtain⟨O,hOO⟩ : ∃ O:List BSp,O = []:=⟨_,rfl⟩
 rw[← hOO] at h
 have hO:∀ z∈O,z.1.size≤9000∧z.2.size≤9000:=by rw[hOO];simp
 have hl:O.length≤100000:=by rw[hOO];simp
 obtain⟨v,hx,hown,hbel,hxB⟩:=h
 obtain⟨s1,s2⟩:=s
 have hs1:s1.size≤9000:=hs.1
 have hs2:s2.size≤9000:=hs.2
 obtain⟨W0,hW0⟩ : ∃ W0,W0=w.alloc (.cells #[.string s1,.string s2] 51):=⟨_,rfl⟩
 obtain⟨nb,hnb⟩ : ∃ nb,nb=w.heap.size:=⟨_,rfl⟩
 have hw:Below w.heap.size w W0:=by rw[hW0];exact za2 _ _
 have hx0:=za1 hw hx
 have hn0:W0.heap[nb]? = some (.cells #[.string s1,.string s2] 51 (0,0)):=by rw[hW0,hnb];exact za9 rfl
 have hown0:=zab hown hw
 have hbel0:=hbel.trans (hw.mono hbel.size)
 obtain⟨m,hm⟩ : ∃ m,m=O.length:=⟨_,rfl⟩
 obtain⟨c0,c1,c2,f0,_,_⟩:=zc8 hx0
 obtain⟨b0,b1,_,_⟩:=za7 hn0
 have hne:=zaf hown0 hx0 (by decide)
 rw[← hm] at hown0 hl
 have hlow:∀ j,v.ownBlock=some j→j < nb:=fun j e=>by rw[hnb];exact (hown.lt j e).2
 clear hx hown hbel
 subst hOO
 obtain⟨a,cap,rfl⟩:=zaa hown0
 simp only[List.length_nil] at hm
 subst hm
 obtain⟨Hw,Hx0,Hn0,Hown0,Hbel0,Hne,HD,HO,Hlow⟩:=hd9 hw hx0 hn0 hown0 hbel0 hne hD hO hlow;clear hw hx0 hn0 hown0 hbel0 hne hD hO hlow
 go_enter Tryz.func130,Tryz.ntmps130
 go_upto_region 1 with (fail)
 rw[← hW0,← hnb]
 clear hW0 hnb
 go_upto_region 2 with (fail)
 go_quiet (fail)
 go_upto_region 4 with (fail)
 have hbd:Below W0.heap.size W0 (W0.drewN (nq+1)):=za6 (Below.refl _ _) (nq+1)
 have hba:Below W0.heap.size W0 ((W0.drewN (nq+1)).alloc (.cells #[.string s1,.string s2] 51)):=hbd.alloc hbd.size _
 have ca0:=cell_later hba c0
 have hownd:=zab Hown0.out hbd
 have hxd:=za1 hbd Hx0.out
 have hbeld:=Hbel0.out.trans (hbd.mono Hbel0.out.size)
 have hBd:=hbeld.size
 have bb0:=cell_later hbd b0
 have bb1:=cell_later hbd b1
 have cc0:=cell_later hbd c0
 obtain⟨Hownd,Hxd,Hbeld,Hbd,Hba⟩:=hd5 hownd hxd hbeld hbd hba;clear hownd hxd hbeld hbd hba
 go_region_law (refine zb2 znh (w:=W0.drewN (nq+1)) rfl (.tmp 53) (.tmp 55) rfl w0.heap.size (.slice a 0 cap) 0 [] rfl Hownd.out 1 (by decide) #[.string s1,.string s2] rfl rfl (by simp[Value.oneCell']) (by omega) (by unfold maxLen;omega) hBd ?_;intro g8 c8 w8 hown8 hg8 hm8;have hc8:=zav Hxd.out (zap hg8) Hne.out;have d0:=za0 hc8 0;have e0:=za8 hc8 0;simp only[List.getElem?_toArray,List.getElem?_cons_zero] at d0)
 all_goals
  go_end0
  exact⟨rfl,mrg_end (O':=addB [] (s1,s2)) hc8 hown8 rfl (zch Hbeld.out Hownd.out (Nat.le_refl _) hg8 hBd) hxB⟩
theorem zox {w0 w:World} {x:Nat} {Q:List BSp} {z1 z2:ByteArray} (h:Mrg w0 x (Q ++ [(z1,z2)]) w) (hO:∀ z∈Q ++ [(z1,z2)],z.1.size≤9000∧z.2.size≤9000) (hl:(Q ++ [(z1,z2)]).length≤100000) (s:BSp) (hs:s.1.size≤9000∧s.2.size≤9000) (hok:ze9 (dS (z1,z2)) (dS s)=false) (hD:zbl w0) :
  Calls Tryz.prog 130 #[.pointer (some ⟨x,0,none⟩),.agg #[.string s.1,.string s.2]] w fun e w'=>e = .returned (.tuple #[])∧Mrg w0 x (Q ++ [(z1,z2)] ++ [s]) w':=by
 obtain⟨v,hx,hown,hbel,hxB⟩:=h
 obtain⟨s1,s2⟩:=s
 have hs1:s1.size≤9000:=hs.1
 have hs2:s2.size≤9000:=hs.2
 obtain⟨W0,hW0⟩ : ∃ W0,W0=w.alloc (.cells #[.string s1,.string s2] 51):=⟨_,rfl⟩
 obtain⟨nb,hnb⟩ : ∃ nb,nb=w.heap.size:=⟨_,rfl⟩
 have hw:Below w.heap.size w W0:=by rw[hW0];exact za2 _ _
 have hx0:=za1 hw hx
 have hn0:W0.heap[nb]? = some (.cells #[.string s1,.string s2] 51 (0,0)):=by rw[hW0,hnb];exact za9 rfl
 have hown0:=zab hown hw
 have hbel0:=hbel.trans (hw.mono hbel.size)
 obtain⟨m,hm⟩ : ∃ m,m=(Q ++ [(z1,z2)]).length:=⟨_,rfl⟩
 obtain⟨c0,c1,c2,f0,_,_⟩:=zc8 hx0
 obtain⟨b0,b1,_,_⟩:=za7 hn0
 have hne:=zaf hown0 hx0 (by decide)
 rw[← hm] at hown0 hl
 have hlow:∀ j,v.ownBlock=some j→j < nb:=fun j e=>by rw[hnb];exact (hown.lt j e).2
 clear hx hown hbel
 obtain⟨k,hk⟩ : ∃ k,k=Q.length:=⟨_,rfl⟩
 have hmk:m=k+1:=by rw[hm,hk];simp
 obtain⟨g,cap,rfl⟩ : ∃ g cap,v = .slice (some ⟨g,0,none⟩) m cap:=by
  rcases hown0.2 with⟨h1,h2⟩ | ⟨g,cap,_,h1,_⟩
  ·omega
  exact⟨_,cap,h1⟩
 have hz0:=own_sp hown0 k (by rw[hk];simp)
 have ez:(Q ++ [(z1,z2)])[k]'(by rw[hk];simp)=(z1,z2):=by simp[hk]
 rw[ez] at hz0
 have hzz:=hO (z1,z2) (by simp)
 have hz1:z1.size≤9000:=hzz.1
 have hz2:z2.size≤9000:=hzz.2
 have hS:∀ W,Below W0.heap.size W0 W→W.cell? ⟨x,0,none⟩=some (.slice (some ⟨g,0,none⟩) m cap)∧W.cell? ⟨x,1,none⟩=some (.func (.func 128) #[] #[])∧W.cell? ⟨x,2,none⟩=some (.func (.func 129) #[] #[])∧W.cell? ⟨nb,0,none⟩=some (.string s1)∧W.cell? ⟨nb,1,none⟩=some (.string s2)∧W.cell? ⟨g,k * 2,none⟩=some (.string z1)∧W.cell? ⟨g,k * 2+1,none⟩=some (.string z2):=fun W hW =>
  ⟨cell_later hW c0,cell_later hW c1,cell_later hW c2,cell_later hW b0,cell_later hW b1,cell_later hW hz0.1,cell_later hW hz0.2⟩
 have hgx:x≠g:=fun e=>hne (by rw[e];rfl)
 have hgn:nb≠g:=fun e=>by have:=hlow g rfl;omega
 have hSt:∀ W,Below W0.heap.size W0 W→∀ p q,((W.setCell ⟨g,k * 2,none⟩ p).setCell ⟨g,k * 2+1,none⟩ q).cell? ⟨x,0,none⟩=some (.slice (some ⟨g,0,none⟩) m cap)∧((W.setCell ⟨g,k * 2,none⟩ p).setCell ⟨g,k * 2+1,none⟩ q).cell? ⟨x,2,none⟩=some (.func (.func 129) #[] #[])∧((W.setCell ⟨g,k * 2,none⟩ p).setCell ⟨g,k * 2+1,none⟩ q).cell? ⟨nb,0,none⟩=some (.string s1)∧((W.setCell ⟨g,k * 2,none⟩ p).setCell ⟨g,k * 2+1,none⟩ q).cell? ⟨nb,1,none⟩=some (.string s2):=fun W hW p q=>by
  have hf:=zae (zae (Frm.refl (fun b=>b=g) W) (k * 2) p) (k * 2+1) q
  obtain⟨t0,_,t2,_⟩:=zc8 (zav (za1 hW hx0) hf hgx)
  obtain⟨u0,u1,_⟩:=za7 (zav (za1 hW hn0) hf hgn)
  exact⟨t0,t2,u0,u1⟩
 have hFz:∀ W,Below W0.heap.size W0 W→W.frozen? ⟨g,k * 2,none⟩=false∧W.frozen? ⟨g,k * 2+1,none⟩=false:=fun W hW=>⟨zjl (zab hown0 hW) _,zjl (zab hown0 hW) _⟩
 have hJ:=fun (W:World) (k:Below W0.heap.size W0 W)=>zp2 z1 z2 s1 s2 (by omega) (by omega) (by omega) (by omega) ((hD.from (Nat.le_refl _) hbel0).below k)
 have hK:=fun (W:World) (k:Below W0.heap.size W0 W)=>zsn z1 z2 s1 s2 (by omega) (by omega) (by omega) (by omega) ((hD.from (Nat.le_refl _) hbel0).below k)
 have hok2:ze9 (z1.data.toList,z2.data.toList) (s1.data.toList,s2.data.toList)=false:=hok
 rw[hok2] at hJ
 have hkl:(k:Int) < (m:Int):=by omega
 have k00:(0:Int)≤(k:Int):=by omega
 have kw:IntKind.i64.wrap ((m:Int) - 1)=(k:Int):=by rw[IntWalk.i64_in _ (by omega)];omega
 have kp:(0:Int) < (m:Int):=by omega
 have kn:0 < m:=by omega
 have kln:k < m:=by omega
 have kt:decide ((0:Int) < (m:Int))=true:=decide_eq_true kp
 clear hok hok2 hz0 ez
 obtain⟨Hw,Hx0,Hn0,Hown0,Hbel0,Hne,HD,HO,Hlow,Hgx,Hgn,HS,HSt,HFz,HJ,HK⟩:=hd16 hw hx0 hn0 hown0 hbel0 hne hD hO hlow hgx hgn hS hSt hFz hJ hK;obtain⟨Hm,Hk,Hzz,Hmk⟩:=hd4 hm hk hzz hmk;clear hw hx0 hn0 hown0 hbel0 hne hD hO hlow hgx hgn hS hSt hFz hJ hK hm hk hzz hmk
 go_enter Tryz.func130,Tryz.ntmps130
 go_upto_region 1 with (fail)
 rw[← hW0,← hnb]
 clear hW0 hnb
 go_upto_region 2 with (fail)
 have mixed:Tryz.prog.follows .mixedOrders=true:=by kernel_rfl
 have hbz:=za6 (Below.refl W0.heap.size W0) 1
 have hcz:=HS.out _ hbz
 go_region_held3 (fun w'=>w'.cell? ⟨x,0,none⟩=some (.slice (some ⟨g,0,none⟩) m cap)∧w'.cell? ⟨x,1,none⟩=some (.func (.func 128) #[] #[])∧w'.cell? ⟨x,2,none⟩=some (.func (.func 129) #[] #[])∧w'.cell? ⟨nb,0,none⟩=some (.string s1)∧w'.cell? ⟨nb,1,none⟩=some (.string s2)∧w'.cell? ⟨g,k * 2,none⟩=some (.string z1)∧w'.cell? ⟨g,k * 2+1,none⟩=some (.string z2)) (first | exact hcz | go_keep) (first | (go_at_call 128;refine (HJ.out _ (by exact hbz)).mono ?_;rintro e wz ⟨rfl,hsz⟩;replace hbz:=hbz.trans (hsz.mono hbz.size);replace hcz:=HS.out _ hbz))
 go_upto_region 4 with (fail)
 have hbd:Below W0.heap.size W0 wz.drew:=Below.drew hbz
 have hba:Below W0.heap.size W0 (wz.drew.alloc (.cells #[.string s1,.string s2] 51)):=hbd.alloc hbd.size _
 have hba2:Below W0.heap.size W0 (wz.alloc (.cells #[.string s1,.string s2] 51)):=hbz.alloc hbz.size _
 have ca0:=cell_later hba2 c0
 have hownd:=zab Hown0.out hbd
 have hxd:=za1 hbd Hx0.out
 have hbeld:=Hbel0.out.trans (hbd.mono Hbel0.out.size)
 have hBd:=hbeld.size
 obtain⟨q0,q1,q2,q3,q4,q5,q6⟩:=HS.out _ hbz
 have hm1:m+1≤100001:=by omega
 clear hcz
 obtain⟨Hownd,Hxd,Hbeld,Hbd,Hba,Hba2⟩:=hd6 hownd hxd hbeld hbd hba hba2;clear hownd hxd hbeld hbd hba hba2
 go_region_law (refine zb2 znh (w:=wz.drew) rfl (.tmp 53) (.tmp 55) rfl w0.heap.size (.slice (some ⟨g,0,none⟩) m cap) m ((Q ++ [(z1,z2)]).flatMap zax) rfl Hownd.out 1 (by decide) #[.string s1,.string s2] rfl rfl (by simp[Value.oneCell']) (by omega) (by unfold maxLen;omega) hBd ?_;intro g8 c8 w8 hown8 hg8 hm8;have hc8:=zav Hxd.out (zap hg8) Hne.out;have d0:=za0 hc8 0;have e0:=za8 hc8 0;simp only[List.getElem?_toArray,List.getElem?_cons_zero] at d0)
 all_goals
  go_end0
  exact⟨rfl,mrg_end (O':=Q ++ [(z1,z2)] ++ [(s1,s2)]) hc8 (by rw[List.flatMap_append];exact hown8) (by rw[List.length_append,← Hm.out];rfl) (zch Hbeld.out Hownd.out (Nat.le_refl _) hg8 hBd) hxB⟩
end

section
open Go.RowKit Go.Lib VerN
theorem mrg_put {w0 W:World} {x g m k cap:Nat} {Q:List BSp} {z j:BSp} (hp:((W.setCell ⟨g,k * 2,none⟩ (.string j.1)).setCell ⟨g,k * 2+1,none⟩ (.string j.2)).ownsRow w0.heap.size 51 2 (.slice (some ⟨g,0,none⟩) m cap) m (((Q ++ [z]).set k j).flatMap zax))
  (hx:W.heap[x]? = some (.cells #[.slice (some ⟨g,0,none⟩) m cap,.func (.func 128) #[] #[],.func (.func 129) #[] #[]] 186 (0,0))) (hgx:x≠g) (hb:Below w0.heap.size w0 W) (hm:m=(Q ++ [z]).length) (hk:k=Q.length) (hown:W.ownsRow w0.heap.size 51 2 (.slice (some ⟨g,0,none⟩) m cap) m ((Q ++ [z]).flatMap zax)) (hxB:w0.heap.size≤x) :
  Mrg w0 x (Q ++ [j]) ((W.setCell ⟨g,k * 2,none⟩ (.string j.1)).setCell ⟨g,k * 2+1,none⟩ (.string j.2)):=by
 have hf:=zae (zae (Frm.refl (fun b=>b=g) W) (k * 2) (.string j.1)) (k * 2+1) (.string j.2)
 have e:(Q ++ [z]).set k j=Q ++ [j]:=by rw[hk,List.set_append_right _ _ (Nat.le_refl _)];simp
 rw[e] at hp
 have hl:(Q ++ [j]).length=m:=by rw[hm];simp
 have hg:=(hown.lt g rfl).1
 refine⟨_,zav hx hf hgx,by rw[hl];exact hp,hb.trans (hf.below hb.size fun k hk=>by rw[hk];exact hg),hxB⟩
theorem zn2 {w0 w:World} {x:Nat} {Q:List BSp} {z1 z2:ByteArray} (h:Mrg w0 x (Q ++ [(z1,z2)]) w) (hO:∀ z∈Q ++ [(z1,z2)],z.1.size≤9000∧z.2.size≤9000) (hl:(Q ++ [(z1,z2)]).length≤100000) (s:BSp) (hs:s.1.size≤9000∧s.2.size≤9000) (hok:ze9 (dS (z1,z2)) (dS s)=true) (hD:zbl w0) :
  Calls Tryz.prog 130 #[.pointer (some ⟨x,0,none⟩),.agg #[.string s.1,.string s.2]] w fun e w'=>e = .returned (.tuple #[])∧Mrg w0 x (Q ++ [jnV z1 z2 s.1 s.2]) w':=by
 obtain⟨v,hx,hown,hbel,hxB⟩:=h
 obtain⟨s1,s2⟩:=s
 have hs1:s1.size≤9000:=hs.1
 have hs2:s2.size≤9000:=hs.2
 obtain⟨W0,hW0⟩ : ∃ W0,W0=w.alloc (.cells #[.string s1,.string s2] 51):=⟨_,rfl⟩
 obtain⟨nb,hnb⟩ : ∃ nb,nb=w.heap.size:=⟨_,rfl⟩
 have hw:Below w.heap.size w W0:=by rw[hW0];exact za2 _ _
 have hx0:=za1 hw hx
 have hn0:W0.heap[nb]? = some (.cells #[.string s1,.string s2] 51 (0,0)):=by rw[hW0,hnb];exact za9 rfl
 have hown0:=zab hown hw
 have hbel0:=hbel.trans (hw.mono hbel.size)
 obtain⟨m,hm⟩ : ∃ m,m=(Q ++ [(z1,z2)]).length:=⟨_,rfl⟩
 obtain⟨c0,c1,c2,f0,_,_⟩:=zc8 hx0
 obtain⟨b0,b1,_,_⟩:=za7 hn0
 have hne:=zaf hown0 hx0 (by decide)
 rw[← hm] at hown0 hl
 have hlow:∀ j,v.ownBlock=some j→j < nb:=fun j e=>by rw[hnb];exact (hown.lt j e).2
 clear hx hown hbel
 obtain⟨k,hk⟩ : ∃ k,k=Q.length:=⟨_,rfl⟩
 have hmk:m=k+1:=by rw[hm,hk];simp
 obtain⟨g,cap,rfl⟩ : ∃ g cap,v = .slice (some ⟨g,0,none⟩) m cap:=by
  rcases hown0.2 with⟨h1,h2⟩ | ⟨g,cap,_,h1,_⟩
  ·omega
  exact⟨_,cap,h1⟩
 have hz0:=own_sp hown0 k (by rw[hk];simp)
 have ez:(Q ++ [(z1,z2)])[k]'(by rw[hk];simp)=(z1,z2):=by simp[hk]
 rw[ez] at hz0
 have hzz:=hO (z1,z2) (by simp)
 have hz1:z1.size≤9000:=hzz.1
 have hz2:z2.size≤9000:=hzz.2
 have hS:∀ W,Below W0.heap.size W0 W→W.cell? ⟨x,0,none⟩=some (.slice (some ⟨g,0,none⟩) m cap)∧W.cell? ⟨x,1,none⟩=some (.func (.func 128) #[] #[])∧W.cell? ⟨x,2,none⟩=some (.func (.func 129) #[] #[])∧W.cell? ⟨nb,0,none⟩=some (.string s1)∧W.cell? ⟨nb,1,none⟩=some (.string s2)∧W.cell? ⟨g,k * 2,none⟩=some (.string z1)∧W.cell? ⟨g,k * 2+1,none⟩=some (.string z2):=fun W hW =>
  ⟨cell_later hW c0,cell_later hW c1,cell_later hW c2,cell_later hW b0,cell_later hW b1,cell_later hW hz0.1,cell_later hW hz0.2⟩
 have hgx:x≠g:=fun e=>hne (by rw[e];rfl)
 have hgn:nb≠g:=fun e=>by have:=hlow g rfl;omega
 have hSt:∀ W,Below W0.heap.size W0 W→∀ p q,((W.setCell ⟨g,k * 2,none⟩ p).setCell ⟨g,k * 2+1,none⟩ q).cell? ⟨x,0,none⟩=some (.slice (some ⟨g,0,none⟩) m cap)∧((W.setCell ⟨g,k * 2,none⟩ p).setCell ⟨g,k * 2+1,none⟩ q).cell? ⟨x,2,none⟩=some (.func (.func 129) #[] #[])∧((W.setCell ⟨g,k * 2,none⟩ p).setCell ⟨g,k * 2+1,none⟩ q).cell? ⟨nb,0,none⟩=some (.string s1)∧((W.setCell ⟨g,k * 2,none⟩ p).setCell ⟨g,k * 2+1,none⟩ q).cell? ⟨nb,1,none⟩=some (.string s2):=fun W hW p q=>by
  have hf:=zae (zae (Frm.refl (fun b=>b=g) W) (k * 2) p) (k * 2+1) q
  obtain⟨t0,_,t2,_⟩:=zc8 (zav (za1 hW hx0) hf hgx)
  obtain⟨u0,u1,_⟩:=za7 (zav (za1 hW hn0) hf hgn)
  exact⟨t0,t2,u0,u1⟩
 have hFz:∀ W,Below W0.heap.size W0 W→W.frozen? ⟨g,k * 2,none⟩=false∧W.frozen? ⟨g,k * 2+1,none⟩=false:=fun W hW=>⟨zjl (zab hown0 hW) _,zjl (zab hown0 hW) _⟩
 have hJ:=fun (W:World) (k:Below W0.heap.size W0 W)=>zp2 z1 z2 s1 s2 (by omega) (by omega) (by omega) (by omega) ((hD.from (Nat.le_refl _) hbel0).below k)
 have hK:=fun (W:World) (k:Below W0.heap.size W0 W)=>zsn z1 z2 s1 s2 (by omega) (by omega) (by omega) (by omega) ((hD.from (Nat.le_refl _) hbel0).below k)
 have hok2:ze9 (z1.data.toList,z2.data.toList) (s1.data.toList,s2.data.toList)=true:=hok
 rw[hok2] at hJ
 have hkl:(k:Int) < (m:Int):=by omega
 have k00:(0:Int)≤(k:Int):=by omega
 have kw:IntKind.i64.wrap ((m:Int) - 1)=(k:Int):=by rw[IntWalk.i64_in _ (by omega)];omega
 have kp:(0:Int) < (m:Int):=by omega
 have kn:0 < m:=by omega
 have kln:k < m:=by omega
 have kt:decide ((0:Int) < (m:Int))=true:=decide_eq_true kp
 clear hok hok2 hz0 ez
 obtain⟨Hw,Hx0,Hn0,Hown0,Hbel0,Hne,HD,HO,Hlow,Hgx,Hgn,HS,HSt,HFz,HJ,HK⟩:=hd16 hw hx0 hn0 hown0 hbel0 hne hD hO hlow hgx hgn hS hSt hFz hJ hK;obtain⟨Hm,Hk,Hzz,Hmk⟩:=hd4 hm hk hzz hmk;clear hw hx0 hn0 hown0 hbel0 hne hD hO hlow hgx hgn hS hSt hFz hJ hK hm hk hzz hmk
 go_enter Tryz.func130,Tryz.ntmps130
 go_upto_region 1 with (fail)
 rw[← hW0,← hnb]
 clear hW0 hnb
 go_upto_region 2 with (fail)
 have mixed:Tryz.prog.follows .mixedOrders=true:=by kernel_rfl
 have hbz:=za6 (Below.refl W0.heap.size W0) 1
 have hcz:=HS.out _ hbz
 go_region_held3 (fun w'=>w'.cell? ⟨x,0,none⟩=some (.slice (some ⟨g,0,none⟩) m cap)∧w'.cell? ⟨x,1,none⟩=some (.func (.func 128) #[] #[])∧w'.cell? ⟨x,2,none⟩=some (.func (.func 129) #[] #[])∧w'.cell? ⟨nb,0,none⟩=some (.string s1)∧w'.cell? ⟨nb,1,none⟩=some (.string s2)∧w'.cell? ⟨g,k * 2,none⟩=some (.string z1)∧w'.cell? ⟨g,k * 2+1,none⟩=some (.string z2)) (first | exact hcz | go_keep) (first | (go_at_call 128;refine (HJ.out _ (by exact hbz)).mono ?_;rintro e wz ⟨rfl,hsz⟩;replace hbz:=hbz.trans (hsz.mono hbz.size);replace hcz:=HS.out _ hbz))
 go_upto_region 3 with (fail)
 have hbz0:=hbz
 replace hbz:=Below.drew hbz
 obtain⟨_,_,_,_,_,q5,q6⟩:=HS.out _ hbz0
 obtain⟨_,_,_,_,_,q7,q8⟩:=HS.out _ hbz
 replace hcz:_∧_∧_∧_:=⟨(HS.out _ hbz).1,(HS.out _ hbz).2.2.1,(HS.out _ hbz).2.2.2.1,(HS.out _ hbz).2.2.2.2.1⟩
 refine wp_region_held_drew (S:=fun w'=>w'.cell? ⟨x,0,none⟩=some (.slice (some ⟨g,0,none⟩) m cap)∧w'.cell? ⟨x,2,none⟩=some (.func (.func 129) #[] #[])∧w'.cell? ⟨nb,0,none⟩=some (.string s1)∧w'.cell? ⟨nb,1,none⟩=some (.string s2)) (by kernel_rfl) (by exact hcz) (fun hHeld=>?_)
 refine wpAnyH_take (i:=0) (v:=?_) rfl (by kernel_rfl) (by kernel_rfl) (by kernel_rfl) (fun _ _ _ h=>h) (Or.inl ⟨by kernel_rfl,?_⟩) (by assumption) ?_
 rotate_left
 ·(intro w hSw;(try dsimp only at hSw);go_simp;try with_reducible rfl)
 try simp only[Act.put,lA,lB,lC]
 refine wpAnyH_take (i:=1) (v:=?_) rfl (by kernel_rfl) (by kernel_rfl) (by kernel_rfl) (fun _ _ _ h=>h) (Or.inl ⟨by kernel_rfl,?_⟩) (by assumption) ?_
 rotate_left
 ·(intro w hSw;(try dsimp only at hSw);go_simp;try with_reducible rfl)
 try simp only[Act.put,lA,lB,lC]
 refine wpAnyH_take (i:=2) (v:=?_) rfl (by kernel_rfl) (by kernel_rfl) (by kernel_rfl) (fun _ _ _ h=>h) (Or.inl ⟨by kernel_rfl,?_⟩) (by assumption) ?_
 rotate_left
 ·(intro w hSw;(try dsimp only at hSw);go_simp;try with_reducible rfl)
 try simp only[Act.put,lA,lB,lC]
 refine wpAnyH_take (i:=3) (v:=?_) rfl (by kernel_rfl) (by kernel_rfl) (by kernel_rfl) (fun _ _ _ h=>h) (Or.inl ⟨by kernel_rfl,?_⟩) (by assumption) ?_
 rotate_left
 ·(intro w hSw;(try dsimp only at hSw);go_simp;try with_reducible rfl)
 try simp only[Act.put,lA,lB,lC]
 refine wpAnyH_take (i:=4) (v:=?_) rfl (by kernel_rfl) (by kernel_rfl) (by kernel_rfl) (fun _ _ _ h=>h) (Or.inl ⟨by kernel_rfl,?_⟩) (by assumption) ?_
 rotate_left
 ·(intro w hSw;(try dsimp only at hSw);go_simp;try with_reducible rfl)
 try simp only[Act.put,lA,lB,lC]
 refine wpAnyH_take (i:=5) (v:=?_) rfl (by kernel_rfl) (by kernel_rfl) (by kernel_rfl) (fun _ _ _ h=>h) (Or.inl ⟨by kernel_rfl,?_⟩) (by assumption) ?_
 rotate_left
 ·(intro w hSw;(try dsimp only at hSw);go_simp;try with_reducible rfl)
 try simp only[Act.put,lA,lB,lC]
 refine wpAnyH_take (i:=6) (v:=?_) rfl (by kernel_rfl) (by kernel_rfl) (by kernel_rfl) (fun _ _ _ h=>h) (Or.inl ⟨by kernel_rfl,?_⟩) (by assumption) ?_
 rotate_left
 ·(intro w hSw;(try dsimp only at hSw);go_simp;try with_reducible rfl)
 try simp only[Act.put,lA,lB,lC]
 refine wpAnyH_take (i:=7) (v:=?_) rfl (by kernel_rfl) (by kernel_rfl) (by kernel_rfl) (fun _ _ _ h=>h) (Or.inl ⟨by kernel_rfl,?_⟩) (by assumption) ?_
 rotate_left
 ·(intro w hSw;(try dsimp only at hSw);go_simp;try with_reducible rfl)
 try simp only[Act.put,lA,lB,lC]
 refine wpAnyH_take (i:=8) (v:=?_) rfl (by kernel_rfl) (by kernel_rfl) (by kernel_rfl) (fun _ _ _ h=>h) (Or.inl ⟨by kernel_rfl,?_⟩) (by assumption) ?_
 rotate_left
 ·(intro w hSw;(try dsimp only at hSw);go_simp;try with_reducible rfl)
 try simp only[Act.put,lA,lB,lC]
 refine wpAnyH_take (i:=9) (v:=?_) rfl (by kernel_rfl) (by kernel_rfl) (by kernel_rfl) (fun _ _ _ h=>h) (Or.inl ⟨by kernel_rfl,?_⟩) (by assumption) ?_
 rotate_left
 ·(intro w hSw;(try dsimp only at hSw);go_simp;try with_reducible rfl)
 try simp only[Act.put,lA,lB,lC]
 refine wpAnyH_take (i:=10) (v:=?_) rfl (by kernel_rfl) (by kernel_rfl) (by kernel_rfl) (fun _ _ _ h=>h) (Or.inl ⟨by kernel_rfl,?_⟩) (by assumption) ?_
 rotate_left
 ·(intro w hSw;(try dsimp only at hSw);go_simp;try with_reducible rfl)
 try simp only[Act.put,lA,lB,lC]
 refine wpAnyH_take (i:=11) (v:=?_) rfl (by kernel_rfl) (by kernel_rfl) (by kernel_rfl) (fun _ _ _ h=>h) (Or.inl ⟨by kernel_rfl,?_⟩) (by assumption) ?_
 rotate_left
 ·(intro w hSw;(try dsimp only at hSw);go_simp;try with_reducible rfl)
 try simp only[Act.put,lA,lB,lC]
 refine wpAnyH_take (i:=12) (v:=?_) rfl (by kernel_rfl) (by kernel_rfl) (by kernel_rfl) (fun _ _ _ h=>h) (Or.inl ⟨by kernel_rfl,?_⟩) (by assumption) ?_
 rotate_left
 ·(intro w hSw;(try dsimp only at hSw);go_simp;try with_reducible rfl)
 try simp only[Act.put,lA,lB,lC]
 refine wpAnyH_take (i:=13) (v:=?_) rfl (by kernel_rfl) (by kernel_rfl) (by kernel_rfl) (fun _ _ _ h=>h) (Or.inl ⟨by kernel_rfl,?_⟩) (by assumption) ?_
 rotate_left
 ·(intro w hSw;(try dsimp only at hSw);go_simp;try with_reducible rfl)
 try simp only[Act.put,lA,lB,lC]
 refine wpAnyH_take (i:=14) (v:=?_) rfl (by kernel_rfl) (by kernel_rfl) (by kernel_rfl) (fun _ _ _ h=>h) (Or.inl ⟨by kernel_rfl,?_⟩) (by assumption) ?_
 rotate_left
 ·(intro w hSw;(try dsimp only at hSw);go_simp;try with_reducible rfl)
 try simp only[Act.put,lA,lB,lC]
 refine wpAnyH_take (i:=15) (v:=?_) rfl (by kernel_rfl) (by kernel_rfl) (by kernel_rfl) (fun _ _ _ h=>h) (Or.inl ⟨by kernel_rfl,?_⟩) (by assumption) ?_
 rotate_left
 ·(intro w hSw;(try dsimp only at hSw);go_simp;try with_reducible rfl)
 try simp only[Act.put,lA,lB,lC]
 refine wpAnyH_take (i:=16) (v:=?_) rfl (by kernel_rfl) (by kernel_rfl) (by kernel_rfl) (fun _ _ _ h=>h) (Or.inl ⟨by kernel_rfl,?_⟩) (by assumption) ?_
 rotate_left
 ·(intro w hSw;(try dsimp only at hSw);go_simp;try with_reducible rfl)
 try simp only[Act.put,lA,lB,lC]
 refine wpAnyH_take (i:=18) (v:=?_) rfl (by kernel_rfl) (by kernel_rfl) (by kernel_rfl) (fun _ _ _ h=>h) (Or.inl ⟨by kernel_rfl,?_⟩) (by assumption) ?_
 rotate_left
 ·(intro w hSw;(try dsimp only at hSw);go_simp;try with_reducible rfl)
 try simp only[Act.put,lA,lB,lC]
 refine wpAnyH_ready (rs:=[17]) (by kernel_rfl) (by simp) ?_
 refine AllReadyH.cons rfl (fun K hK=>?_) AllReadyH.nil
 go_simp
 refine hK.out _ _ (by exact hcz) (fun hHeld=>?_)
 clear hK K
 try simp only[Act.put,lA,lB,lC]
 refine wpAnyH_ready (rs:=[19]) (by kernel_rfl) (by simp) ?_
 refine AllReadyH.cons rfl (fun K hK=>?_) AllReadyH.nil
 go_simp
 refine (HK.out _ (by exact hbz)).mono ?_
 rintro e wy ⟨rfl,hsz2⟩
 replace hbz:=hbz.trans (hsz2.mono hbz.size)
 replace hcz:_∧_∧_∧_:=⟨(HS.out _ hbz).1,(HS.out _ hbz).2.2.1,(HS.out _ hbz).2.2.2.1,(HS.out _ hbz).2.2.2.2.1⟩
 have fz0:=(HFz.out _ hbz).1
 have fz1:=(HFz.out _ hbz).2
 have r5:=(HS.out _ hbz).2.2.2.2.2.1
 have r6:=(HS.out _ hbz).2.2.2.2.2.2
 clear hHeld
 go_wp2_with fail
 refine hK.out _ _ (by exact hcz) (fun hHeld=>?_)
 clear hK K
 try simp only[Act.put,lA,lB,lC]
 refine wpAnyH_take (i:=20) (v:=?_) rfl (by kernel_rfl) (by kernel_rfl) (by kernel_rfl) (fun _ _ _ h=>h) (Or.inl ⟨by kernel_rfl,?_⟩) (by assumption) ?_
 rotate_left
 ·(intro w hSw;(try dsimp only at hSw);go_simp;try with_reducible rfl)
 try simp only[Act.put,lA,lB,lC]
 refine wpAnyH_ready (rs:=[21]) (by kernel_rfl) (by simp) ?_
 refine AllReadyH.cons rfl (fun K hK=>?_) AllReadyH.nil
 go_simp
 refine hK.out _ _ (by exact HSt.out _ hbz _ _) (fun hHeld=>?_)
 clear hK K
 try simp only[Act.put,lA,lB,lC]
 refine wpAnyH_done (by kernel_rfl) ?_ _
 go_simp
 go_wp2_with fail
 refine bodyPost_ret (v:=.tuple #[]) (results_none rfl _ _ _) rfl ?_
 have hp:=ztu (zab Hown0.out hbz) (by rw[← Hm.out]) (i:=k) kln (jnV z1 z2 s1 s2)
 exact⟨rfl,mrg_put hp (za1 hbz Hx0.out) Hgx.out (Hbel0.out.trans (hbz.mono Hbel0.out.size)) Hm.out Hk.out (zab Hown0.out hbz) hxB⟩
theorem zn4 {w0 w:World} {x:Nat} {O:List BSp} (h:Mrg w0 x O w) (hO:∀ z∈O,z.1.size≤9000∧z.2.size≤9000) (hl:O.length≤100000) (s:BSp) (hs:s.1.size≤9000∧s.2.size≤9000) (hD:zbl w0) :
  Calls Tryz.prog 130 #[.pointer (some ⟨x,0,none⟩),.agg #[.string s.1,.string s.2]] w fun e w'=>e = .returned (.tuple #[])∧Mrg w0 x (addB O s) w':=by
 rcases List.eq_nil_or_concat O with rfl | ⟨Q,z,rfl⟩
 ·exact zn3 h s hs hD
 rw[List.concat_eq_append] at *
 rw[zl9]
 obtain⟨z1,z2⟩:=z
 cases hok:ze9 (dS (z1,z2)) (dS s) with
 | true=>rw[if_pos rfl];exact zn2 h hO hl s hs hok hD
 | false=>rw[if_neg (by simp)];exact zox h hO hl s hs hok hD
end

section
def zlq {α:Type} (p:α→Bool) (l:List α):Int:=match l.findIdx? p with
 | some i=>i
 | none=>-1
def zmk {α:Type} (p:α→Bool) (l:List α) (k:Nat):Prop:=∀ i (h:i < l.length),i < k→p l[i]=false
theorem zqt {α:Type} (p:α→Bool) (l:List α):zmk p l 0:=fun _ _ h=>by omega
theorem zqu {α:Type} {p:α→Bool} {l:List α} {k:Nat} (h:k < l.length) (hn:zmk p l k) (hk:p l[k]=false):zmk p l (k+1):=fun i hi hik=>by
 by_cases e:i=k
 ·subst e;exact hk
 exact hn i hi (by omega)
theorem idxOf_at {α:Type} {p:α→Bool} {l:List α} {k:Nat} (h:k < l.length) (hn:zmk p l k) (hk:p l[k]=true):zlq p l=k:=by
 have:l.findIdx? p=some k:=by
  rw[List.findIdx?_eq_some_iff_getElem]
  exact⟨h,hk,fun j hj=>by simpa using hn j (by omega) hj⟩
 unfold zlq;rw[this]
theorem zuj {α:Type} {p:α→Bool} {l:List α} {k:Nat} (h:l.length≤k) (hn:zmk p l k):zlq p l = -1:=by
 have:l.findIdx? p=none:=by
  rw[List.findIdx?_eq_none_iff]
  intro x hx
  obtain⟨i,hi,e⟩:=List.mem_iff_getElem.1 hx
  rw[← e];exact hn i hi (by omega)
 unfold zlq;rw[this]
theorem idxOf_any {α:Type} (p:α→Bool) (l:List α):l.any p=true↔0≤zlq p l:=by
 unfold zlq
 cases h:l.findIdx? p with
 | none =>
  rw[List.findIdx?_eq_none_iff] at h
  simp only[List.any_eq_true]
  constructor
  ·rintro⟨x,hx,hp⟩;rw[h x hx] at hp;cases hp
  intro h2;omega
 | some i =>
  rw[List.findIdx?_eq_some_iff_getElem] at h
  obtain⟨hi,hp,_⟩:=h
  simp only[List.any_eq_true]
  exact⟨fun _=>by omega,fun _=>⟨l[i],List.getElem_mem hi,hp⟩⟩
end

section
open Go.RowKit
namespace IdxSpan
theorem cells_2 {ecs:List Value} (h:ecs.length=2):∃ u0 u1,ecs = [u0,u1]:=by
 match ecs,h with
 | [u0,u1],_=>exact⟨u0,u1,rfl⟩
def Pred {α:Type} (R:Rd α) (p:α→Bool) (g:Nat) (cb:Array Value) (l:List α) (w:World):Prop :=
 ∀ W u0 u1 x,Below w.heap.size w W→x∈l→R W [u0,u1] x→Calls Tryz.prog g (#[.agg #[u0,u1]] ++ cb) W fun e w'=>e = .returned (.bool (p x))∧Below W.heap.size W w'
theorem idx_any {α:Type} {R:Rd α} (hR:zfi R) (p:α→Bool) (g:Nat) (cb:Array Value) (eg:∀ args w,(callFunc g args).run Tryz.prog w = .ok (.enter g args) w) {w:World} {v:Value} {l:List α} (hl:zal 2 R w [v] l) (hp:Pred R p g cb l w) :
  Calls Tryz.prog 148 #[v,.func (.func g) #[] cb] w fun e w'=>e = .returned (.int .i64 (zlq p l))∧Below w.heap.size w w':=by
 obtain⟨a,cap,hv,hcap,hmax,hel⟩:=hl
 simp only[List.cons.injEq,and_true] at hv
 subst hv
 unfold maxLen at hmax
 obtain⟨n,hn⟩ : ∃ n,n=l.length:=⟨_,rfl⟩
 rw[← hn] at hcap ⊢
 have hn63:n≤9223372036854775807:=by omega
 obtain⟨Hn,Hel,Hp⟩:=hd3 hn hel hp;clear hn hel hp
 go_enter Tryz.func148,Tryz.ntmps148
 go_wp2_with fail
 go_loopw [8] (fun i wr=>∃ k:Nat,k≤n∧i = .int .i64 k∧zmk p l k∧Below w.heap.size w wr) (fun i _=>n - (intOf i).toNat)
 case atStart=>exact⟨0,Nat.zero_le _,rfl,zqt p l,Below.refl _ _⟩
 case round =>
  obtain⟨k,hk,rfl,hno,hb⟩:=hrel
  by_cases hlt:k < n
  ·have hkl:k < l.length:=by have:=Hn.out;omega
   obtain⟨x,hx⟩ : ∃ x,x=l[k]'hkl:=⟨_,rfl⟩
   obtain⟨b,off,ecs,rfl,h4,h5,h6⟩:=Hel.out k x (by rw[hx];exact List.getElem?_eq_getElem hkl)
   obtain⟨u0,u1,rfl⟩ : ∃ u0 u1,ecs = [u0,u1]:=cells_2 h4
   have hxl:x∈l:=by rw[hx];exact List.getElem_mem hkl
   have c0:wr.cell? ⟨b,off+k * 2,none⟩=some u0:=cell_later hb (by simpa using h5 0 u0 rfl)
   have c1:wr.cell? ⟨b,off+k * 2+1,none⟩=some u1:=cell_later hb (by simpa using h5 1 u1 rfl)
   have hcall:=Hp.out wr u0 u1 x hb hxl (hR _ _ _ _ h6 hb)
   have q0:(0:Int)≤(k:Int):=by omega
   have q1:(k:Int) < (n:Int):=by omega
   by_cases hpx:p x=true
   ·rw[hpx] at hcall
    have hi:zlq p l=k:=idxOf_at hkl hno (by rw[← hx];exact hpx)
    obtain⟨Hx,Hno,Hcall,H5,H6,Hpx,Hi,Hb,Hxl⟩:=hd9 hx hno hcall h5 h6 hpx hi hb hxl;clear hx hno hcall h5 h6 hpx hi hb hxl
    clear h4
    go_wp2_with fail
    refine Hcall.out.mono ?_
    rintro e w2 ⟨rfl,hb2⟩
    have hb3:=Hb.out.trans (hb2.mono Hb.out.size)
    obtain⟨Hb2,Hb3⟩:=hd2 hb2 hb3;clear hb2 hb3
    go_wp2_with fail
    go_ret
    exact⟨zfu Hi.out.symm,Hb3.out⟩
   have hpx':p x=false:=by simpa using hpx
   rw[hpx'] at hcall
   have hno2:=zqu hkl hno (by rw[← hx];exact hpx')
   obtain⟨Hx,Hno,Hcall,H5,H6,Hpx,Hpx',Hno2,Hb,Hxl⟩:=hd10 hx hno hcall h5 h6 hpx hpx' hno2 hb hxl;clear hx hno hcall h5 h6 hpx hpx' hno2 hb hxl
   clear h4
   go_wp2_with fail
   refine Hcall.out.mono ?_
   rintro e w2 ⟨rfl,hb2⟩
   have hb3:=Hb.out.trans (hb2.mono Hb.out.size)
   obtain⟨Hb2,Hb3⟩:=hd2 hb2 hb3;clear hb2 hb3
   go_wp2_with fail
   go_roundw
   case rel=>exact⟨k+1,by omega,by go_num,Hno2.out,Hb3.out⟩
   case measure=>simp[intOf];omega
  have hi:zlq p l = -1:=zuj (by have:=Hn.out;omega) hno
  obtain⟨Hno,Hi,Hb⟩:=hd3 hno hi hb;clear hno hi hb
  go_wp2_with fail
  go_ret
  exact⟨zfu Hi.out.symm,Hb.out⟩
theorem has_any {α:Type} {R:Rd α} (hR:zfi R) (p:α→Bool) (g:Nat) (cb:Array Value) (eg:∀ args w,(callFunc g args).run Tryz.prog w = .ok (.enter g args) w) {w:World} {v:Value} {l:List α} (hl:zal 2 R w [v] l) (hp:Pred R p g cb l w) :
  Calls Tryz.prog 122 #[v,.func (.func g) #[] cb] w fun e w'=>e = .returned (.bool (l.any p))∧Below w.heap.size w w':=by
 have hI:=idx_any hR p g cb eg hl hp
 have hab:=idxOf_any p l
 obtain⟨i,hi⟩ : ∃ i,i=zlq p l:=⟨_,rfl⟩
 rw[← hi] at hI hab
 obtain⟨Hl,Hp,HI,Hi,HR⟩:=hd5 hl hp hI hi hR;clear hl hp hI hi hR
 cases hq:l.any p with
 | true =>
  have hpos:0≤i:=hab.1 hq
  obtain⟨Hq,Hab⟩:=hd2 hq hab;clear hq hab
  go_enter Tryz.func122,Tryz.ntmps122
  go_wp2_with fail
  refine HI.out.mono ?_
  rintro e w2 ⟨rfl,hb2⟩
  have Hb2:=hd hb2;clear hb2
  go_wp2_with fail
  go_ret
  exact⟨rfl,Hb2.out⟩
 | false =>
  have hneg:i < 0:=by
   rcases Int.lt_or_le i 0 with h | h
   ·exact h
   have:=hab.2 h;rw[hq] at this;cases this
  obtain⟨Hq,Hab⟩:=hd2 hq hab;clear hq hab
  go_enter Tryz.func122,Tryz.ntmps122
  go_wp2_with fail
  refine HI.out.mono ?_
  rintro e w2 ⟨rfl,hb2⟩
  have Hb2:=hd hb2;clear hb2
  go_wp2_with fail
  go_ret
  exact⟨zai (by simpa using hneg),Hb2.out⟩
end IdxSpan
end

section
open Go.Shelf Go.RowKit Go.Lib Go.Sort SortM StbA StbB
namespace StbSpan
variable {α : Type} {f0 : α → ByteArray} {f1 : α → ByteArray} {w0 : World} {blk off : Nat} {d0 : Array α}
def enc (f0:α→ByteArray) (f1:α→ByteArray) (x:α):List Value:=[.string (f0 x),.string (f1 x)]
theorem enc_len:∀ x,(enc f0 f1 x).length=2:=fun _=>rfl
def CmpLays (P:Program) (g:Nat) (cb:Array Value) (f:α→List Value) (_k:Nat) (cf:α→α→Int) (blk _off _size:Nat) (w:World):Prop :=
 ∀ W,Frm (fun b=>b=blk) w W→∀ x y:α,Calls P g (#[.agg (f x).toArray,.agg (f y).toArray] ++ cb) W fun e w'=>e = .returned (.int .i64 (cf x y))∧Below W.heap.size W w'
variable [Inhabited α]
abbrev SWK (f:α→List Value) (k:Nat) (w0:World) (blk off:Nat) (d:Array α) (W:World):Prop:=SortR.SRW 51 f k w0 blk off d W
abbrev RowK (f:α→List Value) (k:Nat) (w0:World) (blk off:Nat) (d:Array α):Prop:=SWK f k w0 blk off d w0
theorem cells {dk:Array α} {W:World} (S:SWK (enc f0 f1) 2 w0 blk off dk W) (_R:RowK (enc f0 f1) 2 w0 blk off d0) (_hs:dk.size=d0.size) (i:Nat) (hi:i < dk.size) :
  W.cell? ⟨blk,off+i * 2,none⟩=some (.string (f0 dk[i]!))∧W.frozen? ⟨blk,off+i * 2,none⟩=false∧W.cell? ⟨blk,off+i * 2+1,none⟩=some (.string (f1 dk[i]!))∧W.frozen? ⟨blk,off+i * 2+1,none⟩=false:=by
 have h0:=S.cell hi (show 0 < 2 by decide) rfl
 rw[Nat.add_zero] at h0
 have h1:=S.cell hi (show 1 < 2 by decide) rfl
 rw[← Nat.add_assoc] at h1
 exact⟨h0.1,h0.2,h1.1,h1.2⟩
theorem exch {dk:Array α} {W:World} (S:SWK (enc f0 f1) 2 w0 blk off dk W) (_R:RowK (enc f0 f1) 2 w0 blk off d0) (i j:Nat) (hi:i < dk.size) (hj:j < dk.size) :
  SWK (enc f0 f1) 2 w0 blk off (swp dk i j) (((((W).setCell ⟨blk,off+i * 2,none⟩ (.string (f0 dk[j]!))).setCell ⟨blk,off+i * 2+1,none⟩ (.string (f1 dk[j]!))).setCell ⟨blk,off+j * 2,none⟩ (.string (f0 dk[i]!))).setCell ⟨blk,off+j * 2+1,none⟩ (.string (f1 dk[i]!))).drew:=by
 have h:=(SortR.SRW.exch S enc_len hi hj).drew
 exact h
end StbSpan
end

section
open Go.Shelf Go.RowKit Go.Lib Go.Sort SortM StbA StbB
namespace StbSpan
variable {α : Type} [Inhabited α] {f0 : α → ByteArray} {f1 : α → ByteArray} {w0 : World} {blk off : Nat} {d0 : Array α}
theorem zmn {d:Array α} {w:World} (R:RowK (enc f0 f1) 2 w0 blk off d0) (hs:d.size=d0.size) (S:SWK (enc f0 f1) 2 w0 blk off d w) (a b m cap:Nat) (hab:a+m≤b) (hb:b+m≤d0.size) (hn:d0.size≤1000000) (cv:Value) :
  Calls Tryz.prog 193 #[.slice (some ⟨blk,off,none⟩) d0.size cap,.int .i64 a,.int .i64 b,.int .i64 m,cv] w fun e w'=>e = .returned (.tuple #[])∧SWK (enc f0 f1) 2 w0 blk off (swr d a b m) w':=by
 have hlen:=size_swr d a b
 obtain⟨N,hN⟩ : ∃ N,N=d0.size:=⟨_,rfl⟩
 rw[← hN] at hb hn hs ⊢
 obtain⟨HS,Hlen⟩:=hd2 S hlen;clear S hlen
 go_enter Tryz.func193,Tryz.ntmps193
 go_wp2_with fail
 go_loopw [10] (fun i wr=>∃ k:Nat,k≤m∧i = .int .i64 k∧SWK (enc f0 f1) 2 w0 blk off (swr d a b k) wr) (fun i _=>m - (intOf i).toNat)
 case atStart=>exact⟨0,Nat.zero_le _,rfl,HS.out⟩
 case round =>
  obtain⟨k,hk,rfl,S⟩:=hrel
  by_cases hlt:k < m
  ·have hl:=Hlen.out k
   obtain⟨dk,hdk⟩ : ∃ dk,dk=swr d a b k:=⟨_,rfl⟩
   rw[← hdk] at S hl
   have hnx:swr d a b (k+1)=swp dk (a+k) (b+k):=by rw[swr,← hdk]
   have hEX:=exch S R (a+k) (b+k) (by omega) (by omega)
   obtain⟨p0,pf0,p1,pf1⟩:=cells S R (by omega) (a+k) (by omega)
   obtain⟨q0,qf0,q1,qf1⟩:=cells S R (by omega) (b+k) (by omega)
   obtain⟨x,hx⟩ : ∃ x,x=dk[a+k]!:=⟨_,rfl⟩
   obtain⟨y,hy⟩ : ∃ y,y=dk[b+k]!:=⟨_,rfl⟩
   rw[← hx] at p0 p1 hEX
   rw[← hy] at q0 q1 hEX
   obtain⟨x0,hx0⟩ : ∃ v,v=f0 x:=⟨_,rfl⟩
   obtain⟨y0,hy0⟩ : ∃ v,v=f0 y:=⟨_,rfl⟩
   rw[← hx0] at p0 hEX
   rw[← hy0] at q0 hEX
   obtain⟨x1,hx1⟩ : ∃ v,v=f1 x:=⟨_,rfl⟩
   obtain⟨y1,hy1⟩ : ∃ v,v=f1 y:=⟨_,rfl⟩
   rw[← hx1] at p1 hEX
   rw[← hy1] at q1 hEX
   have na00:¬ off+(a+k) * 2=off+(b+k) * 2:=by omega
   have nb00:¬ off+(b+k) * 2=off+(a+k) * 2:=by omega
   have na01:¬ off+(a+k) * 2=off+(b+k) * 2+1:=by omega
   have nb01:¬ off+(b+k) * 2=off+(a+k) * 2+1:=by omega
   have na10:¬ off+(a+k) * 2+1=off+(b+k) * 2:=by omega
   have nb10:¬ off+(b+k) * 2+1=off+(a+k) * 2:=by omega
   have na11:¬ off+(a+k) * 2+1=off+(b+k) * 2+1:=by omega
   have nb11:¬ off+(b+k) * 2+1=off+(a+k) * 2+1:=by omega
   have w1:IntKind.i64.wrap ((a:Int)+(k:Int))=(a:Int)+(k:Int):=IntWalk.i64_in _ (by omega)
   have w2:IntKind.i64.wrap ((b:Int)+(k:Int))=(b:Int)+(k:Int):=IntWalk.i64_in _ (by omega)
   have n1:((a:Int)+(k:Int)).toNat=a+k:=by omega
   have n2:((b:Int)+(k:Int)).toNat=b+k:=by omega
   have u1:(0:Int)≤(a:Int)+(k:Int):=by omega
   have u2:(0:Int)≤(b:Int)+(k:Int):=by omega
   have v1:(a:Int)+(k:Int) < (N:Int):=by omega
   have v2:(b:Int)+(k:Int) < (N:Int):=by omega
   rw[← hnx] at hEX
   clear S
   obtain⟨Hdk,Hnx,Hl,Hx,Hy,Hx0,Hy0,Hx1,Hy1,HEX⟩:=hd10 hdk hnx hl hx hy hx0 hy0 hx1 hy1 hEX;clear hdk hnx hl hx hy hx0 hy0 hx1 hy1 hEX
   go_wp2_with fail
   go_region
   all_goals
    go_wp2_with fail
    go_roundw
    case rel=>exact⟨k+1,by omega,by go_num,HEX.out⟩
    case measure=>simp[intOf];omega
  obtain rfl:k=m:=by omega
  have HS:=hd S;clear S
  go_wp2_with fail
  go_end0
  exact⟨rfl,HS.out⟩
end StbSpan
end

section
open Go.Shelf Go.RowKit Go.Lib Go.Sort SortM StbA StbB
namespace StbSpan
variable {α : Type} [Inhabited α] {f0 : α → ByteArray} {f1 : α → ByteArray} {w0 : World} {blk off : Nat} {d0 : Array α}
def Now (f:α→List Value) (k:Nat) (w0:World) (blk off:Nat) (l:List α) (e:Ending) (w':World):Prop:=e = .returned (.tuple #[])∧∃ d:Array α,SWK f k w0 blk off d w'∧d.toList=l
theorem zto {d:Array α} {w:World} (R:RowK (enc f0 f1) 2 w0 blk off d0) (S:SWK (enc f0 f1) 2 w0 blk off d w) {p u v q:List α} (hd:d.toList=p ++ u ++ v ++ q) (hs:d.size=d0.size) {a m b:Nat} (ha:a=p.length) (hm:m=a+u.length) (hb:b=m+v.length) (hu:0 < u.length) (hv:0 < v.length) (cap:Nat) (hn:d0.size≤1000000) (cv:Value) :
  Calls Tryz.prog 181 #[.slice (some ⟨blk,off,none⟩) d0.size cap,.int .i64 a,.int .i64 m,.int .i64 b,cv] w (Now (enc f0 f1) 2 w0 blk off (p ++ v ++ u ++ q)):=by
 have hst:=RInv.start hd (m:=m) (i:=u.length) (j:=v.length) rfl rfl (by omega)
 have htl:(p ++ v ++ u ++ q).length=d0.size:=by rw[← hs,← hst.size]
 have hle:=hst.le
 obtain⟨iu,hiu⟩ : ∃ n,n=u.length:=⟨_,rfl⟩
 obtain⟨jv,hjv⟩ : ∃ n,n=v.length:=⟨_,rfl⟩
 obtain⟨tgt,htg⟩ : ∃ l,l=p ++ v ++ u ++ q:=⟨_,rfl⟩
 rw[← htg] at hst htl ⊢
 rw[← hiu] at hst hm hu hle
 rw[← hjv] at hst hb hv hle
 have hC:=fun (dk:Array α) (wr:World) (hs:dk.size=d0.size) (S:SWK (enc f0 f1) 2 w0 blk off dk wr) (a b m:Nat) (h1:a+m≤b) (h2:b+m≤d0.size)=>zmn R hs S a b m cap h1 h2 hn cv
 obtain⟨N,hN⟩ : ∃ N,N=d0.size:=⟨_,rfl⟩
 rw[← hN] at hn htl hs hC ⊢
 have i1:IntKind.i64.wrap ((m:Int) - (a:Int))=(iu:Int):=by rw[IntWalk.i64_in _ (by omega)];omega
 have i2:IntKind.i64.wrap ((b:Int) - (m:Int))=(jv:Int):=by rw[IntWalk.i64_in _ (by omega)];omega
 clear hd ha hm hb hle
 obtain⟨Hst,HS,HC,Htl,Htg,Hiu,Hjv,HN⟩:=hd8 hst S hC htl htg hiu hjv hN;clear hst S hC htl htg hiu hjv hN
 go_enter Tryz.func181,Tryz.ntmps181
 go_wp2_with fail
 go_loopw [10,11] (fun x y wr=>∃ (i j:Nat) (dk:Array α),x = .int .i64 i∧y = .int .i64 j∧0 < i∧0 < j∧RInv tgt m i j dk∧SWK (enc f0 f1) 2 w0 blk off dk wr) (fun x y _=>(intOf x).toNat+(intOf y).toNat)
 case atStart=>exact⟨iu,jv,d,rfl,rfl,hu,hv,Hst.out,HS.out⟩
 case round =>
  clear i1 i2
  obtain⟨i,j,dk,rfl,rfl,hi,hj,hI,S⟩:=hrel
  have hsz:=hI.size
  rw[Htl.out] at hsz
  have hl:=hI.le
  rw[hsz] at hl
  have w1:IntKind.i64.wrap ((m:Int) - (i:Int))=((m - i:Nat):Int):=by rw[IntWalk.i64_in _ (by omega)];omega
  rcases Nat.lt_trichotomy i j with hij | hij | hij
  ·have hne:((i:Int) == (j:Int))=false:=by rw[beq_eq_false_iff_ne];omega
   have hgt:decide ((j:Int) < (i:Int))=false:=decide_eq_false (by omega)
   have w2:IntKind.i64.wrap ((m:Int)+(j:Int))=(m:Int)+(j:Int):=IntWalk.i64_in _ (by omega)
   have w3:IntKind.i64.wrap ((m:Int)+(j:Int) - (i:Int))=((m+j - i:Nat):Int):=by rw[IntWalk.i64_in _ (by omega)];omega
   have w4:IntKind.i64.wrap ((j:Int) - (i:Int))=((j - i:Nat):Int):=by rw[IntWalk.i64_in _ (by omega)];omega
   have hc:=HC.out dk wr hsz S (m - i) (m+j - i) i (by omega) (by omega)
   have hnI:=hI.lt hij
   clear S hI
   obtain⟨Hc,HnI,Hsz⟩:=hd3 hc hnI hsz;clear hc hnI hsz
   go_wp2_with fail
   refine Hc.out.mono ?_
   rintro e w2 ⟨rfl,S⟩
   have HS:=hd S;clear S
   go_wp2_with fail
   go_roundw
   case rel=>exact⟨i,j - i,_,rfl,rfl,hi,by omega,HnI.out,HS.out⟩
   case measure=>simp[intOf];omega
  ·subst hij
   have hne:((i:Int) == (i:Int))=true:=by simp
   have hc:=HC.out dk wr hsz S (m - i) m i (by omega) (by omega)
   have hnI:=hI.eq
   clear S hI
   obtain⟨Hc,HnI,Hsz⟩:=hd3 hc hnI hsz;clear hc hnI hsz
   go_wp2_with fail
   refine Hc.out.mono ?_
   rintro e w2 ⟨rfl,S⟩
   have HS:=hd S;clear S
   go_wp2_with fail
   go_end0
   exact⟨rfl,_,HS.out,HnI.out⟩
  have hne:((i:Int) == (j:Int))=false:=by rw[beq_eq_false_iff_ne];omega
  have hgt:decide ((j:Int) < (i:Int))=true:=decide_eq_true (by omega)
  have w4:IntKind.i64.wrap ((i:Int) - (j:Int))=((i - j:Nat):Int):=by rw[IntWalk.i64_in _ (by omega)];omega
  have hc:=HC.out dk wr hsz S (m - i) m j (by omega) (by omega)
  have hnI:=hI.gt hij
  clear S hI
  obtain⟨Hc,HnI,Hsz⟩:=hd3 hc hnI hsz;clear hc hnI hsz
  go_wp2_with fail
  refine Hc.out.mono ?_
  rintro e w2 ⟨rfl,S⟩
  have HS:=hd S;clear S
  go_wp2_with fail
  go_roundw
  case rel=>exact⟨i - j,j,_,rfl,rfl,by omega,hj,HnI.out,HS.out⟩
  case measure=>simp[intOf];omega
end StbSpan
end

section
open Go.Shelf Go.RowKit Go.Lib Go.Sort SortM StbA StbB
namespace StbSpan
variable {α : Type} [Inhabited α] {f0 : α → ByteArray} {f1 : α → ByteArray} {w0 : World} {blk off : Nat} {d0 : Array α}
variable {cf : α → α → Int} {g : Nat} {cb : Array Value}
theorem zu8 {dk:Array α} {w:World} (R:RowK (enc f0 f1) 2 w0 blk off d0) (S:SWK (enc f0 f1) 2 w0 blk off dk w) (C:CmpLays Tryz.prog g cb (enc f0 f1) 2 cf blk off d0.size w0) (eg:∀ args w,(callFunc g args).run Tryz.prog w = .ok (.enter g args) w) (hO:Swo (ltOf cf))
  {p v q:List α} {x:α} (hd:dk.toList=p ++ x :: (v ++ q)) (hs:dk.size=d0.size) (hv:zbt (ltOf cf) v) {a m b:Nat} (ha:a=p.length) (hm:m=a+1) (hb:b=m+v.length) (cap:Nat) (hn:d0.size≤1000000) :
  Calls Tryz.prog 166 #[.slice (some ⟨blk,off,none⟩) d0.size cap,.int .i64 a,.int .i64 m,.int .i64 b,.func (.func g) #[] cb] w (Now (enc f0 f1) 2 w0 blk off (p ++ zb7 (ltOf cf) (x :: v) ++ q)):=by
 have hbn:b≤d0.size:=by rw[← hs,← Array.length_toList,hd];simp;omega
 have hix:zg5 (ltOf cf) m b dk:=zfq hO (p:=p ++ [x]) (u:=v) (q:=q) (by rw[hd];simp) hv (by simp;omega) (by simp;omega)
 have hM:=mono_left hO (a:=a) hix
 have hend:=fun i (hB:BS (fun c=>ltOf cf dk[c]! dk[a]!) m b i i)=>one_left hO hd hv ha hm hb hB
 have hmb:m≤b:=by omega
 have hB0:=BS.start (fun c=>ltOf cf dk[c]! dk[a]!) hmb
 have hk1:IntKind.i64.wrap ((m:Int) - (a:Int))=1:=by rw[IntWalk.i64_in _ (by omega)];omega
 have hk2:((1:Int) == 1)=true:=by simp
 obtain⟨tgt,htg⟩ : ∃ l,l=p ++ zb7 (ltOf cf) (x :: v) ++ q:=⟨_,rfl⟩
 rw[← htg] at hend ⊢
 obtain⟨N,hN⟩ : ∃ N,N=d0.size:=⟨_,rfl⟩
 rw[← hN] at hn hs hbn ⊢
 have ham:a < m:=by omega
 clear hix hd hv ha hm hb
 obtain⟨HS,HM,HB0,Hend,Htg,Hs,HN,Hmb,HC,HR,HO⟩:=hd11 S hM hB0 hend htg hs hN hmb C R hO;clear S hM hB0 hend htg hs hN hmb C R hO
 go_enter Tryz.func166,Tryz.ntmps166
 go_wp2_with fail
 clear hk1
 go_loopw [10,11] (fun x y wr=>∃ (i j:Nat),x = .int .i64 i∧y = .int .i64 j∧BS (fun c=>ltOf cf dk[c]! dk[a]!) m b i j∧SWK (enc f0 f1) 2 w0 blk off dk wr) (fun x y _=>(intOf y).toNat - (intOf x).toNat)
 case atStart=>exact⟨m,b,rfl,rfl,HB0.out,HS.out⟩
 case round =>
  obtain⟨i,j,rfl,rfl,hB,S⟩:=hrel
  have l1:=hB.l1
  have l2:=hB.l2
  have l3:=hB.l3
  by_cases hlt:i < j
  ·have R:=HR.out
   have C:=HC.out
   have hs:=Hs.out
   rw[HN.out] at hs
   have hN':=HN.out
   obtain⟨h,hh⟩ : ∃ h,h=(i+j) / 2:=⟨_,rfl⟩
   have w1:IntKind.i64.wrap ((i:Int)+(j:Int))=(i:Int)+(j:Int):=IntWalk.i64_in _ (by omega)
   have w2:((i:Int)+(j:Int)) / 2=(h:Int):=by omega
   obtain⟨p0,_,p1,_⟩:=cells S R hs (h) (by omega)
   obtain⟨x,hx⟩ : ∃ v,v=dk[h]!:=⟨_,rfl⟩
   rw[← hx] at p0 p1
   obtain⟨x0,hx0⟩ : ∃ v,v=f0 x:=⟨_,rfl⟩
   rw[← hx0] at p0
   obtain⟨x1,hx1⟩ : ∃ v,v=f1 x:=⟨_,rfl⟩
   rw[← hx1] at p1
   obtain⟨q0,_,q1,_⟩:=cells S R hs (a) (by omega)
   obtain⟨y,hy⟩ : ∃ v,v=dk[a]!:=⟨_,rfl⟩
   rw[← hy] at q0 q1
   obtain⟨y0,hy0⟩ : ∃ v,v=f0 y:=⟨_,rfl⟩
   rw[← hy0] at q0
   obtain⟨y1,hy1⟩ : ∃ v,v=f1 y:=⟨_,rfl⟩
   rw[← hy1] at q1
   have hcg:∀ V,Below wr.heap.size wr V→Calls Tryz.prog g (#[.agg #[.string (x0),.string (x1)],.agg #[.string (y0),.string (y1)]] ++ cb) V fun e w'=>e = .returned (.int .i64 (cf x y))∧Below V.heap.size V w':=fun V hV=>by rw[hx0,hy0,hx1,hy1];exact C V (SortR.SRW.below S hV).frm x y
   have hczf:∀ V,Below wr.heap.size wr V→V.cell? ⟨blk,off+(h) * 2,none⟩=some (.string (x0))∧V.cell? ⟨blk,off+(h) * 2+1,none⟩=some (.string (x1))∧V.cell? ⟨blk,off+(a) * 2,none⟩=some (.string (y0))∧V.cell? ⟨blk,off+(a) * 2+1,none⟩=some (.string (y1)):=fun V hV=>⟨cell_later hV p0,cell_later hV p1,cell_later hV q0,cell_later hV q1⟩
   obtain⟨cv,hcv⟩ : ∃ v,v=cf x y:=⟨_,rfl⟩
   rw[← hcv] at hcg
   have hGR:=S
   have hl:(h:Int) < (N:Int):=by omega
   have al:(a:Int) < (N:Int):=by omega
   have hij1:i≤h:=by omega
   have hij2:h < j:=by omega
   clear S hs R C hN'
   cases hdec:decide (cv < 0) with
   | true =>
    have hB2:=hB.left HM.out hij1 hij2 (by rw[← hx,← hy];unfold ltOf;rw[← hcv];exact hdec)
    have hlv:cv < 0:=of_decide_eq_true hdec
    obtain⟨HB,HB2,Hx,Hy,Hx0,Hy0,Hx1,Hy1,HGR,Hcg,Hczf,Hcv,Hh,Hdec⟩:=hd14 hB hB2 hx hy hx0 hy0 hx1 hy1 hGR hcg hczf hcv hh hdec;clear hB hB2 hx hy hx0 hy0 hx1 hy1 hGR hcg hczf hcv hh hdec
    go_wp2_with fail
    have hbz:=za6 (Below.refl wr.heap.size wr) 1
    have hcz:=Hczf.out _ hbz
    go_region_held3 (fun w'=>w'.cell? ⟨blk,off+(h) * 2,none⟩=some (.string (x0))∧w'.cell? ⟨blk,off+(h) * 2+1,none⟩=some (.string (x1))∧w'.cell? ⟨blk,off+(a) * 2,none⟩=some (.string (y0))∧w'.cell? ⟨blk,off+(a) * 2+1,none⟩=some (.string (y1))) (first | exact hcz | go_keep) (first | (go_at_fn g;refine (Hcg.out _ (by exact hbz)).mono ?_;rintro e wz ⟨rfl,hsz⟩;replace hbz:=hbz.trans (hsz.mono hbz.size);replace hcz:=Hczf.out _ hbz))
    all_goals
     go_wp2_with fail
     go_roundw
     case rel=>exact⟨h+1,j,by go_num,rfl,HB2.out,HGR.out.below hbz⟩
     case measure=>simp[intOf];omega
   | false =>
    have hB2:=hB.right HM.out hij1 hij2 (by rw[← hx,← hy];unfold ltOf;rw[← hcv];exact hdec)
    have hlv:¬ cv < 0:=of_decide_eq_false hdec
    obtain⟨HB,HB2,Hx,Hy,Hx0,Hy0,Hx1,Hy1,HGR,Hcg,Hczf,Hcv,Hh,Hdec⟩:=hd14 hB hB2 hx hy hx0 hy0 hx1 hy1 hGR hcg hczf hcv hh hdec;clear hB hB2 hx hy hx0 hy0 hx1 hy1 hGR hcg hczf hcv hh hdec
    go_wp2_with fail
    have hbz:=za6 (Below.refl wr.heap.size wr) 1
    have hcz:=Hczf.out _ hbz
    go_region_held3 (fun w'=>w'.cell? ⟨blk,off+(h) * 2,none⟩=some (.string (x0))∧w'.cell? ⟨blk,off+(h) * 2+1,none⟩=some (.string (x1))∧w'.cell? ⟨blk,off+(a) * 2,none⟩=some (.string (y0))∧w'.cell? ⟨blk,off+(a) * 2+1,none⟩=some (.string (y1))) (first | exact hcz | go_keep) (first | (go_at_fn g;refine (Hcg.out _ (by exact hbz)).mono ?_;rintro e wz ⟨rfl,hsz⟩;replace hbz:=hbz.trans (hsz.mono hbz.size);replace hcz:=Hczf.out _ hbz))
    all_goals
     go_wp2_with fail
     go_roundw
     case rel=>exact⟨i,h,rfl,rfl,HB2.out,HGR.out.below hbz⟩
     case measure=>simp[intOf];omega
  obtain rfl:i=j:=by omega
  have hE:=Hend.out i hB
  have him:m≤i:=l1
  have hib:i≤b:=l3
  clear l1 l2 l3
  obtain⟨HB,HS,HE⟩:=hd3 hB S hE;clear hB S hE
  have w1:IntKind.i64.wrap ((i:Int) - 1)=(i:Int) - 1:=IntWalk.i64_in _ (by omega)
  go_wp2_with fail
  clear w1
  go_loopw [13] (fun x wr=>∃ kk:Nat,x = .int .i64 kk∧a≤kk∧kk≤i - 1∧SWK (enc f0 f1) 2 w0 blk off (upN dk a (kk - a)) wr) (fun x _=>i - (intOf x).toNat)
  case atStart=>exact⟨a,rfl,Nat.le_refl _,by omega,by rw[Nat.sub_self];exact HS.out⟩
  case round =>
   obtain⟨kk,rfl,k1,k2,S⟩:=hrel
   by_cases hlt:kk < i - 1
   ·obtain⟨ek,hek⟩ : ∃ e,e=upN dk a (kk - a):=⟨_,rfl⟩
    rw[← hek] at S
    have hnx:upN dk a (kk+1 - a)=swp ek kk (kk+1):=by
     rw[show kk+1 - a=(kk - a)+1 by omega,upN,← hek,show a+(kk - a)=kk by omega]
    have R:=HR.out
    have hl:ek.size=d0.size:=by rw[hek,size_upN,Hs.out,HN.out]
    have hN':=HN.out
    have hEX:=exch S R (kk) (kk+1) (by omega) (by omega)
    obtain⟨p0,pf0,p1,pf1⟩:=cells S R hl (kk) (by omega)
    obtain⟨q0,qf0,q1,qf1⟩:=cells S R hl (kk+1) (by omega)
    obtain⟨x,hx⟩ : ∃ x,x=ek[kk]!:=⟨_,rfl⟩
    obtain⟨y,hy⟩ : ∃ y,y=ek[kk+1]!:=⟨_,rfl⟩
    rw[← hx] at p0 p1 hEX
    rw[← hy] at q0 q1 hEX
    obtain⟨x0,hx0⟩ : ∃ v,v=f0 x:=⟨_,rfl⟩
    obtain⟨y0,hy0⟩ : ∃ v,v=f0 y:=⟨_,rfl⟩
    rw[← hx0] at p0 hEX
    rw[← hy0] at q0 hEX
    obtain⟨x1,hx1⟩ : ∃ v,v=f1 x:=⟨_,rfl⟩
    obtain⟨y1,hy1⟩ : ∃ v,v=f1 y:=⟨_,rfl⟩
    rw[← hx1] at p1 hEX
    rw[← hy1] at q1 hEX
    have na00:¬ off+(kk) * 2=off+(kk+1) * 2:=by omega
    have nb00:¬ off+(kk+1) * 2=off+(kk) * 2:=by omega
    have na01:¬ off+(kk) * 2=off+(kk+1) * 2+1:=by omega
    have nb01:¬ off+(kk+1) * 2=off+(kk) * 2+1:=by omega
    have na10:¬ off+(kk) * 2+1=off+(kk+1) * 2:=by omega
    have nb10:¬ off+(kk+1) * 2+1=off+(kk) * 2:=by omega
    have na11:¬ off+(kk) * 2+1=off+(kk+1) * 2+1:=by omega
    have nb11:¬ off+(kk+1) * 2+1=off+(kk) * 2+1:=by omega
    have w1:IntKind.i64.wrap ((kk:Int)+1)=(kk:Int)+1:=IntWalk.i64_in _ (by omega)
    have w2:IntKind.i64.wrap ((i:Int) - 1)=(i:Int) - 1:=IntWalk.i64_in _ (by omega)
    have n2:((kk:Int)+1).toNat=kk+1:=by omega
    have u2:(0:Int)≤(kk:Int)+1:=by omega
    have v1:(kk:Int) < (N:Int):=by omega
    have v2:(kk:Int)+1 < (N:Int):=by omega
    have v3:(kk:Int) < (i:Int) - 1:=by omega
    rw[← hnx] at hEX
    clear S R hN'
    obtain⟨Hek,Hnx,Hl,Hx,Hy,Hx0,Hy0,Hx1,Hy1,HEX⟩:=hd10 hek hnx hl hx hy hx0 hy0 hx1 hy1 hEX;clear hek hnx hl hx hy hx0 hy0 hx1 hy1 hEX
    go_wp2_with fail
    go_region
    all_goals
     go_wp2_with fail
     go_roundw
     case rel=>exact⟨kk+1,by go_num,by omega,by omega,HEX.out⟩
     case measure=>simp[intOf];omega
   obtain rfl:kk=i - 1:=by omega
   have v3:¬ ((i - 1:Nat):Int) < (i:Int) - 1:=by omega
   have w2:IntKind.i64.wrap ((i:Int) - 1)=(i:Int) - 1:=IntWalk.i64_in _ (by omega)
   have HS:=hd S;clear S
   go_wp2_with fail
   go_end0
   exact⟨rfl,_,HS.out,HE.out⟩
end StbSpan
end

section
open Go.Shelf Go.RowKit Go.Lib Go.Sort SortM StbA StbB
namespace StbSpan
variable {α : Type} [Inhabited α] {f0 : α → ByteArray} {f1 : α → ByteArray} {w0 : World} {blk off : Nat} {d0 : Array α}
variable {cf : α → α → Int} {g : Nat} {cb : Array Value}
theorem zqv {dk:Array α} {w:World} (R:RowK (enc f0 f1) 2 w0 blk off d0) (S:SWK (enc f0 f1) 2 w0 blk off dk w) (C:CmpLays Tryz.prog g cb (enc f0 f1) 2 cf blk off d0.size w0) (eg:∀ args w,(callFunc g args).run Tryz.prog w = .ok (.enter g args) w) (hO:Swo (ltOf cf))
  {p u q:List α} {x:α} (hd:dk.toList=p ++ u ++ x :: q) (hs:dk.size=d0.size) (hu:zbt (ltOf cf) u) {a m b:Nat} (ha:a=p.length) (hm:m=a+u.length) (hb:b=m+1) (h2:2≤u.length) (cap:Nat) (hn:d0.size≤1000000) :
  Calls Tryz.prog 166 #[.slice (some ⟨blk,off,none⟩) d0.size cap,.int .i64 a,.int .i64 m,.int .i64 b,.func (.func g) #[] cb] w (Now (enc f0 f1) 2 w0 blk off (p ++ zb7 (ltOf cf) (u ++ [x]) ++ q)):=by
 have hbn:b≤d0.size:=by rw[← hs,← Array.length_toList,hd];simp;omega
 have hix:zg5 (ltOf cf) a m dk:=zfq hO (p:=p) (u:=u) (q:=x :: q) hd hu ha (by omega)
 have hM:=zu6 hO hix
 have hend:=fun i (hB:BS (fun c=>!ltOf cf dk[m]! dk[c]!) a m i i)=>one_right hO hd hu ha hm hB
 have hmb:a≤m:=by omega
 have hB0:=BS.start (fun c=>!ltOf cf dk[m]! dk[c]!) hmb
 have hk1:IntKind.i64.wrap ((m:Int) - (a:Int))=(m:Int) - (a:Int):=IntWalk.i64_in _ (by omega)
 have hk2:((m:Int) - (a:Int) == 1)=false:=by rw[beq_eq_false_iff_ne];omega
 have hk3:IntKind.i64.wrap ((b:Int) - (m:Int))=1:=by rw[IntWalk.i64_in _ (by omega)];omega
 have hk4:((1:Int) == 1)=true:=by simp
 obtain⟨tgt,htg⟩ : ∃ l,l=p ++ zb7 (ltOf cf) (u ++ [x]) ++ q:=⟨_,rfl⟩
 rw[← htg] at hend ⊢
 obtain⟨N,hN⟩ : ∃ N,N=d0.size:=⟨_,rfl⟩
 rw[← hN] at hn hs hbn ⊢
 have hmn:m < N:=by omega
 clear hix hd hu ha hm hb h2
 obtain⟨HS,HM,HB0,Hend,Htg,Hs,HN,Hmb,HC,HR,HO⟩:=hd11 S hM hB0 hend htg hs hN hmb C R hO;clear S hM hB0 hend htg hs hN hmb C R hO
 go_enter Tryz.func166,Tryz.ntmps166
 go_wp2_with fail
 clear hk1 hk2 hk3
 go_loopw [14,15] (fun x y wr=>∃ (i j:Nat),x = .int .i64 i∧y = .int .i64 j∧BS (fun c=>!ltOf cf dk[m]! dk[c]!) a m i j∧SWK (enc f0 f1) 2 w0 blk off dk wr) (fun x y _=>(intOf y).toNat - (intOf x).toNat)
 case atStart=>exact⟨a,m,rfl,rfl,HB0.out,HS.out⟩
 case round =>
  obtain⟨i,j,rfl,rfl,hB,S⟩:=hrel
  have l1:=hB.l1
  have l2:=hB.l2
  have l3:=hB.l3
  by_cases hlt:i < j
  ·have R:=HR.out
   have C:=HC.out
   have hs:=Hs.out
   rw[HN.out] at hs
   have hN':=HN.out
   obtain⟨h,hh⟩ : ∃ h,h=(i+j) / 2:=⟨_,rfl⟩
   have w1:IntKind.i64.wrap ((i:Int)+(j:Int))=(i:Int)+(j:Int):=IntWalk.i64_in _ (by omega)
   have w2:((i:Int)+(j:Int)) / 2=(h:Int):=by omega
   obtain⟨p0,_,p1,_⟩:=cells S R hs (m) (by omega)
   obtain⟨x,hx⟩ : ∃ v,v=dk[m]!:=⟨_,rfl⟩
   rw[← hx] at p0 p1
   obtain⟨x0,hx0⟩ : ∃ v,v=f0 x:=⟨_,rfl⟩
   rw[← hx0] at p0
   obtain⟨x1,hx1⟩ : ∃ v,v=f1 x:=⟨_,rfl⟩
   rw[← hx1] at p1
   obtain⟨q0,_,q1,_⟩:=cells S R hs (h) (by omega)
   obtain⟨y,hy⟩ : ∃ v,v=dk[h]!:=⟨_,rfl⟩
   rw[← hy] at q0 q1
   obtain⟨y0,hy0⟩ : ∃ v,v=f0 y:=⟨_,rfl⟩
   rw[← hy0] at q0
   obtain⟨y1,hy1⟩ : ∃ v,v=f1 y:=⟨_,rfl⟩
   rw[← hy1] at q1
   have hcg:∀ V,Below wr.heap.size wr V→Calls Tryz.prog g (#[.agg #[.string (x0),.string (x1)],.agg #[.string (y0),.string (y1)]] ++ cb) V fun e w'=>e = .returned (.int .i64 (cf x y))∧Below V.heap.size V w':=fun V hV=>by rw[hx0,hy0,hx1,hy1];exact C V (SortR.SRW.below S hV).frm x y
   have hczf:∀ V,Below wr.heap.size wr V→V.cell? ⟨blk,off+(m) * 2,none⟩=some (.string (x0))∧V.cell? ⟨blk,off+(m) * 2+1,none⟩=some (.string (x1))∧V.cell? ⟨blk,off+(h) * 2,none⟩=some (.string (y0))∧V.cell? ⟨blk,off+(h) * 2+1,none⟩=some (.string (y1)):=fun V hV=>⟨cell_later hV p0,cell_later hV p1,cell_later hV q0,cell_later hV q1⟩
   obtain⟨cv,hcv⟩ : ∃ v,v=cf x y:=⟨_,rfl⟩
   rw[← hcv] at hcg
   have hGR:=S
   have hl:(h:Int) < (N:Int):=by omega
   have al:(m:Int) < (N:Int):=by omega
   have hij1:i≤h:=by omega
   have hij2:h < j:=by omega
   clear S hs R C hN'
   cases hdec:decide (cv < 0) with
   | true =>
    have hB2:=hB.right HM.out hij1 hij2 (by show (!ltOf cf dk[m]! dk[h]!)=false;rw[← hx,← hy];unfold ltOf;rw[← hcv,hdec];rfl)
    have hlv:cv < 0:=of_decide_eq_true hdec
    have hlv2:¬ 0≤cv:=by omega
    obtain⟨HB,HB2,Hx,Hy,Hx0,Hy0,Hx1,Hy1,HGR,Hcg,Hczf,Hcv,Hh,Hdec⟩:=hd14 hB hB2 hx hy hx0 hy0 hx1 hy1 hGR hcg hczf hcv hh hdec;clear hB hB2 hx hy hx0 hy0 hx1 hy1 hGR hcg hczf hcv hh hdec
    go_wp2_with fail
    have hbz:=za6 (Below.refl wr.heap.size wr) 1
    have hcz:=Hczf.out _ hbz
    go_region_held3 (fun w'=>w'.cell? ⟨blk,off+(m) * 2,none⟩=some (.string (x0))∧w'.cell? ⟨blk,off+(m) * 2+1,none⟩=some (.string (x1))∧w'.cell? ⟨blk,off+(h) * 2,none⟩=some (.string (y0))∧w'.cell? ⟨blk,off+(h) * 2+1,none⟩=some (.string (y1))) (first | exact hcz | go_keep) (first | (go_at_fn g;refine (Hcg.out _ (by exact hbz)).mono ?_;rintro e wz ⟨rfl,hsz⟩;replace hbz:=hbz.trans (hsz.mono hbz.size);replace hcz:=Hczf.out _ hbz))
    all_goals
     go_wp2_with fail
     go_roundw
     case rel=>exact⟨i,h,rfl,rfl,HB2.out,HGR.out.below hbz⟩
     case measure=>simp[intOf];omega
   | false =>
    have hB2:=hB.left HM.out hij1 hij2 (by show (!ltOf cf dk[m]! dk[h]!)=true;rw[← hx,← hy];unfold ltOf;rw[← hcv,hdec];rfl)
    have hlv:¬ cv < 0:=of_decide_eq_false hdec
    have hlv2:0≤cv:=by omega
    have hdn:(!decide (cv < 0))=true:=by rw[hdec];rfl
    obtain⟨HB,HB2,Hx,Hy,Hx0,Hy0,Hx1,Hy1,HGR,Hcg,Hczf,Hcv,Hh,Hdec⟩:=hd14 hB hB2 hx hy hx0 hy0 hx1 hy1 hGR hcg hczf hcv hh hdec;clear hB hB2 hx hy hx0 hy0 hx1 hy1 hGR hcg hczf hcv hh hdec
    go_wp2_with fail
    have hbz:=za6 (Below.refl wr.heap.size wr) 1
    have hcz:=Hczf.out _ hbz
    go_region_held3 (fun w'=>w'.cell? ⟨blk,off+(m) * 2,none⟩=some (.string (x0))∧w'.cell? ⟨blk,off+(m) * 2+1,none⟩=some (.string (x1))∧w'.cell? ⟨blk,off+(h) * 2,none⟩=some (.string (y0))∧w'.cell? ⟨blk,off+(h) * 2+1,none⟩=some (.string (y1))) (first | exact hcz | go_keep) (first | (go_at_fn g;refine (Hcg.out _ (by exact hbz)).mono ?_;rintro e wz ⟨rfl,hsz⟩;replace hbz:=hbz.trans (hsz.mono hbz.size);replace hcz:=Hczf.out _ hbz))
    all_goals
     go_wp2_with fail
     go_roundw
     case rel=>exact⟨h+1,j,by go_num,rfl,HB2.out,HGR.out.below hbz⟩
     case measure=>simp[intOf];omega
  obtain rfl:i=j:=by omega
  have hE:=Hend.out i hB
  have him:a≤i:=l1
  have hib:i≤m:=l3
  clear l1 l2 l3
  obtain⟨HB,HS,HE⟩:=hd3 hB S hE;clear hB S hE
  go_wp2_with fail
  go_loopw [17] (fun x wr=>∃ kk:Nat,x = .int .i64 kk∧i≤kk∧kk≤m∧SWK (enc f0 f1) 2 w0 blk off (dnN dk m (m - kk)) wr) (fun x _=>(intOf x).toNat)
  case atStart=>exact⟨m,rfl,hib,Nat.le_refl _,by rw[Nat.sub_self];exact HS.out⟩
  case round =>
   obtain⟨kk,rfl,k1,k2,S⟩:=hrel
   by_cases hlt:i < kk
   ·obtain⟨jp,rfl⟩ : ∃ jp,kk=jp+1:=⟨kk - 1,by omega⟩
    obtain⟨ek,hek⟩ : ∃ e,e=dnN dk m (m - (jp+1)):=⟨_,rfl⟩
    rw[← hek] at S
    have hnx:dnN dk m (m - jp)=swp ek (jp+1) jp:=by
     rw[show m - jp=(m - (jp+1))+1 by omega,dnN,← hek,show m - (m - (jp+1))=jp+1 by omega,Nat.add_sub_cancel]
    have R:=HR.out
    have hl:ek.size=d0.size:=by rw[hek,size_dnN,Hs.out,HN.out]
    have hN':=HN.out
    have hEX:=exch S R (jp+1) (jp) (by omega) (by omega)
    obtain⟨p0,pf0,p1,pf1⟩:=cells S R hl (jp+1) (by omega)
    obtain⟨q0,qf0,q1,qf1⟩:=cells S R hl (jp) (by omega)
    obtain⟨x,hx⟩ : ∃ x,x=ek[jp+1]!:=⟨_,rfl⟩
    obtain⟨y,hy⟩ : ∃ y,y=ek[jp]!:=⟨_,rfl⟩
    rw[← hx] at p0 p1 hEX
    rw[← hy] at q0 q1 hEX
    obtain⟨x0,hx0⟩ : ∃ v,v=f0 x:=⟨_,rfl⟩
    obtain⟨y0,hy0⟩ : ∃ v,v=f0 y:=⟨_,rfl⟩
    rw[← hx0] at p0 hEX
    rw[← hy0] at q0 hEX
    obtain⟨x1,hx1⟩ : ∃ v,v=f1 x:=⟨_,rfl⟩
    obtain⟨y1,hy1⟩ : ∃ v,v=f1 y:=⟨_,rfl⟩
    rw[← hx1] at p1 hEX
    rw[← hy1] at q1 hEX
    have na00:¬ off+(jp+1) * 2=off+(jp) * 2:=by omega
    have nb00:¬ off+(jp) * 2=off+(jp+1) * 2:=by omega
    have na01:¬ off+(jp+1) * 2=off+(jp) * 2+1:=by omega
    have nb01:¬ off+(jp) * 2=off+(jp+1) * 2+1:=by omega
    have na10:¬ off+(jp+1) * 2+1=off+(jp) * 2:=by omega
    have nb10:¬ off+(jp) * 2+1=off+(jp+1) * 2:=by omega
    have na11:¬ off+(jp+1) * 2+1=off+(jp) * 2+1:=by omega
    have nb11:¬ off+(jp) * 2+1=off+(jp+1) * 2+1:=by omega
    have w1:IntKind.i64.wrap (jp:Int)=(jp:Int):=IntWalk.i64_in _ (by omega)
    have n2:((jp:Int)+1).toNat=jp+1:=by omega
    have u2:(0:Int)≤(jp:Int)+1:=by omega
    have v1:(jp:Int) < (N:Int):=by omega
    have v2:(jp:Int)+1 < (N:Int):=by omega
    have v3:(i:Int) < (jp:Int)+1:=by omega
    rw[← hnx] at hEX
    clear S R hN'
    obtain⟨Hek,Hnx,Hl,Hx,Hy,Hx0,Hy0,Hx1,Hy1,HEX⟩:=hd10 hek hnx hl hx hy hx0 hy0 hx1 hy1 hEX;clear hek hnx hl hx hy hx0 hy0 hx1 hy1 hEX
    go_wp2_with fail
    go_region
    all_goals
     go_wp2_with fail
     go_roundw
     case rel=>exact⟨jp,rfl,by omega,by omega,HEX.out⟩
     case measure=>simp[intOf] <;> omega
   obtain rfl:i=kk:=by omega
   have v3:¬ (i:Int) < (i:Int):=by omega
   have HS:=hd S;clear S
   go_wp2_with fail
   go_end0
   exact⟨rfl,_,HS.out,HE.out⟩
end StbSpan
end

section
open Go.Shelf Go.RowKit Go.Lib Go.Sort SortM StbA StbB
namespace StbSpan
variable {α : Type} [Inhabited α] {f0 : α → ByteArray} {f1 : α → ByteArray} {w0 : World} {blk off : Nat} {d0 : Array α}
variable {cf : α → α → Int} {g : Nat} {cb : Array Value}
theorem and_no {P Q:Prop} [Decidable P] [Decidable Q] {x y:Bool} (hx:x=decide P) (hy:y=decide Q) (h:(x && y)=false):¬ P∨¬ Q:=by
 subst hx hy
 by_cases hP:P
 ·by_cases hQ:Q
  ·simp[hP,hQ] at h
  exact .inr hQ
 exact .inl hP
theorem ziw {P Q:Prop} [Decidable P] [Decidable Q] {x y:Bool} (hx:x=decide P) (hy:y=decide Q) (h:(x && y)=true):P∧Q:=by
 subst hx hy
 simp only[Bool.and_eq_true,decide_eq_true_eq] at h
 exact h
def znq (cf:α→α→Int) (f:α→List Value) (g:Nat) (cb:Array Value) (w0:World) (blk off cap:Nat) (d0:Array α) (n:Nat):Prop :=
 ∀ (dk:Array α) (w:World) (p u v q:List α) (a m b:Nat),SWK f 2 w0 blk off dk w→dk.toList=p ++ u ++ v ++ q→dk.size=d0.size→zbt (ltOf cf) u→zbt (ltOf cf) v→a=p.length→m=a+u.length→b=m+v.length→0 < u.length→0 < v.length→b - a≤n →
  Calls Tryz.prog 166 #[.slice (some ⟨blk,off,none⟩) d0.size cap,.int .i64 a,.int .i64 m,.int .i64 b,.func (.func g) #[] cb] w (Now f 2 w0 blk off (p ++ zb7 (ltOf cf) (u ++ v) ++ q))
def At (f:α→List Value) (w0:World) (blk off:Nat) (l:List α) (w:World):Prop:=∃ d:Array α,SWK f 2 w0 blk off d w∧d.toList=l
theorem merge_gen {nn:Nat} {dk:Array α} {w:World} (R:RowK (enc f0 f1) 2 w0 blk off d0) (S:SWK (enc f0 f1) 2 w0 blk off dk w) (C:CmpLays Tryz.prog g cb (enc f0 f1) 2 cf blk off d0.size w0) (eg:∀ args w,(callFunc g args).run Tryz.prog w = .ok (.enter g args) w) (hO:Swo (ltOf cf))
  {p u v q:List α} (hd:dk.toList=p ++ u ++ v ++ q) (hs:dk.size=d0.size) (hu:zbt (ltOf cf) u) (hv:zbt (ltOf cf) v) {a m b:Nat} (ha:a=p.length) (hm:m=a+u.length) (hb:b=m+v.length) (h2:2≤u.length) (h3:2≤v.length) (hn1:b - a≤nn+1) (cap:Nat) (hn:d0.size≤1000000)
  (IH:znq cf (enc f0 f1) g cb w0 blk off cap d0 nn) :
  Calls Tryz.prog 166 #[.slice (some ⟨blk,off,none⟩) d0.size cap,.int .i64 a,.int .i64 m,.int .i64 b,.func (.func g) #[] cb] w (Now (enc f0 f1) 2 w0 blk off (p ++ zb7 (ltOf cf) (u ++ v) ++ q)):=by
 have hbn:b≤d0.size:=by rw[← hs,← Array.length_toList,hd];simp;omega
 obtain⟨mid,hmid⟩ : ∃ x,x=(a+b) / 2:=⟨_,rfl⟩
 obtain⟨n,hnn⟩ : ∃ x,x=mid+m:=⟨_,rfl⟩
 obtain⟨pn,hpn⟩ : ∃ x,x=n - 1:=⟨_,rfl⟩
 obtain⟨lo,hi,hlo⟩ : ∃ lo hi,(mid < m→lo=n - b∧hi=mid)∧(¬ mid < m→lo=a∧hi=m):=by
  by_cases h:mid < m
  ·exact⟨n - b,mid,fun _=>⟨rfl,rfl⟩,fun h'=>absurd h h'⟩
  exact⟨a,m,fun h'=>absurd h' h,fun _=>⟨rfl,rfl⟩⟩
 have hb1:a≤lo∧lo≤hi∧hi≤m∧hi≤n∧m≤n - hi∧n - 1 - lo < b∧0 < lo+m:=by
  by_cases h:mid < m
  ·have:=hlo.1 h;omega
  have:=hlo.2 h;omega
 have hM:=mono_sym hO (d:=dk) (a:=a) (m:=m) (b:=b) (n:=n) (lo:=lo) (hi:=hi) (zfq hO (p:=p) (u:=u) (q:=v ++ q) (by rw[hd];simp) hu ha (by omega)) (zfq hO (p:=p ++ u) (u:=v) (q:=q) hd hv (by simp;omega) (by simp;omega)) hb1.1 hb1.2.2.1 hb1.2.2.2.2.1 hb1.2.2.2.2.2.1 hb1.2.2.2.1
 have hend:=fun s (hB:BS (fun c=>!ltOf cf dk[n - 1 - c]! dk[c]!) lo hi s s)=>sym_cut hO hd hu hv ha hm hb hmid hnn (by omega) hlo hB
 rw[← hpn] at hM hend
 have hB0:=BS.start (fun c=>!ltOf cf dk[pn - c]! dk[c]!) hb1.2.1
 obtain⟨tgt,htg⟩ : ∃ l,l=p ++ zb7 (ltOf cf) (u ++ v) ++ q:=⟨_,rfl⟩
 have k1:IntKind.i64.wrap ((m:Int) - (a:Int))=(m:Int) - (a:Int):=IntWalk.i64_in _ (by omega)
 have k2:((m:Int) - (a:Int) == 1)=false:=by rw[beq_eq_false_iff_ne];omega
 have k3:IntKind.i64.wrap ((b:Int) - (m:Int))=(b:Int) - (m:Int):=IntWalk.i64_in _ (by omega)
 have k4:((b:Int) - (m:Int) == 1)=false:=by rw[beq_eq_false_iff_ne];omega
 have k5:IntKind.i64.wrap ((a:Int)+(b:Int))=(a:Int)+(b:Int):=IntWalk.i64_in _ (by omega)
 have k6:((a:Int)+(b:Int)) / 2=(mid:Int):=by omega
 have k7:IntKind.i64.wrap ((mid:Int)+(m:Int))=(n:Int):=by rw[IntWalk.i64_in _ (by omega)];omega
 have k8:IntKind.i64.wrap ((n:Int) - 1)=(pn:Int):=by rw[IntWalk.i64_in _ (by omega)];omega
 have ham:a < m:=by omega
 have hmb:m < b:=by omega
 have amid:a < mid:=by omega
 have midb:mid < b:=by omega
 rw[← htg]
 obtain⟨N,hN⟩ : ∃ N,N=d0.size:=⟨_,rfl⟩
 rw[← hN] at hn hs hbn ⊢
 have IH':znq cf (enc f0 f1) g cb w0 blk off cap d0 nn:=IH
 clear IH
 have hpp:p.length=a:=ha.symm
 obtain⟨HS,HM,HB0,Hend,Htg,Hs,HN,HC,HR,HO,HIH',Hd,Hu,Hv,Ha,Hm⟩:=hd16 S hM hB0 hend htg hs hN C R hO IH' hd hu hv ha hm;obtain⟨Hb,Hpp,Hmid,Hnn,Hpn,Hlo,Hb1,Hn1⟩:=hd8 hb hpp hmid hnn hpn hlo hb1 hn1;clear S hM hB0 hend htg hs hN C R hO IH' hd hu hv ha hm hb hpp hmid hnn hpn hlo hb1 hn1
 go_enter Tryz.func166,Tryz.ntmps166
 go_upto_if 140 with fail
 clear k1 k2 k3 k4 k5 k6
 go_cut [20,21] from 141 to 146 (fun x y wx=>x = .int .i64 lo∧y = .int .i64 hi∧wx=w)
 case first =>
  by_cases hc:mid < m
  ·obtain⟨e1,e2⟩:=Hlo.out.1 hc
   have k9:IntKind.i64.wrap ((n:Int) - (b:Int))=(lo:Int):=by rw[IntWalk.i64_in _ (by have:=Hmid.out;have:=Hnn.out;omega)];have:=Hmid.out;have:=Hnn.out;omega
   have k10:decide ((mid:Int) < (m:Int))=true:=decide_eq_true (by omega)
   obtain⟨He1,He2⟩:=hd2 e1 e2;clear e1 e2
   go_wp2_with fail
   go_meet
   exact⟨by rw[He1.out],by rw[He2.out],rfl⟩
  obtain⟨e1,e2⟩:=Hlo.out.2 hc
  have k10:decide ((mid:Int) < (m:Int))=false:=decide_eq_false (by omega)
  obtain⟨He1,He2⟩:=hd2 e1 e2;clear e1 e2
  go_wp2_with fail
  go_meet
  exact⟨by rw[He1.out],by rw[He2.out],rfl⟩
 case rest =>
  obtain⟨rfl,rfl,rfl⟩:=hcut
  go_wp2_with fail
  clear k8
  go_loopw [20,21] (fun x y wr=>∃ (i j:Nat),x = .int .i64 i∧y = .int .i64 j∧BS (fun c=>!ltOf cf dk[pn - c]! dk[c]!) lo hi i j∧SWK (enc f0 f1) 2 w0 blk off dk wr) (fun x y _=>(intOf y).toNat - (intOf x).toNat)
  case atStart=>exact⟨lo,hi,rfl,rfl,HB0.out,HS.out⟩
  case round =>
   obtain⟨i,j,rfl,rfl,hB,S⟩:=hrel
   have l1:=hB.l1
   have l2:=hB.l2
   have l3:=hB.l3
   by_cases hlt:i < j
   ·have R:=HR.out
    have C:=HC.out
    have hs:=Hs.out
    rw[HN.out] at hs
    have hN':=HN.out
    have hbb:=Hb1.out
    have hpn:=Hpn.out
    have hdks:dk.size=N:=Hs.out
    obtain⟨h,hh⟩ : ∃ h,h=(i+j) / 2:=⟨_,rfl⟩
    have w1:IntKind.i64.wrap ((i:Int)+(j:Int))=(i:Int)+(j:Int):=IntWalk.i64_in _ (by omega)
    have w2:((i:Int)+(j:Int)) / 2=(h:Int):=by omega
    have hpc:pn - h < N:=by omega
    have hhc:h < N:=by omega
    obtain⟨p0,_,p1,_⟩:=cells S R hs (pn - h) (by omega)
    obtain⟨x,hx⟩ : ∃ v,v=dk[pn - h]!:=⟨_,rfl⟩
    rw[← hx] at p0 p1
    obtain⟨x0,hx0⟩ : ∃ v,v=f0 x:=⟨_,rfl⟩
    rw[← hx0] at p0
    obtain⟨x1,hx1⟩ : ∃ v,v=f1 x:=⟨_,rfl⟩
    rw[← hx1] at p1
    obtain⟨q0,_,q1,_⟩:=cells S R hs (h) (by omega)
    obtain⟨y,hy⟩ : ∃ v,v=dk[h]!:=⟨_,rfl⟩
    rw[← hy] at q0 q1
    obtain⟨y0,hy0⟩ : ∃ v,v=f0 y:=⟨_,rfl⟩
    rw[← hy0] at q0
    obtain⟨y1,hy1⟩ : ∃ v,v=f1 y:=⟨_,rfl⟩
    rw[← hy1] at q1
    have hcg:∀ V,Below wr.heap.size wr V→Calls Tryz.prog g (#[.agg #[.string (x0),.string (x1)],.agg #[.string (y0),.string (y1)]] ++ cb) V fun e w'=>e = .returned (.int .i64 (cf x y))∧Below V.heap.size V w':=fun V hV=>by rw[hx0,hy0,hx1,hy1];exact C V (SortR.SRW.below S hV).frm x y
    have hczf:∀ V,Below wr.heap.size wr V→V.cell? ⟨blk,off+(pn - h) * 2,none⟩=some (.string (x0))∧V.cell? ⟨blk,off+(pn - h) * 2+1,none⟩=some (.string (x1))∧V.cell? ⟨blk,off+(h) * 2,none⟩=some (.string (y0))∧V.cell? ⟨blk,off+(h) * 2+1,none⟩=some (.string (y1)):=fun V hV=>⟨cell_later hV p0,cell_later hV p1,cell_later hV q0,cell_later hV q1⟩
    obtain⟨cv,hcv⟩ : ∃ v,v=cf x y:=⟨_,rfl⟩
    rw[← hcv] at hcg
    have hGR:=S
    have hl:(h:Int) < (N:Int):=by omega
    have w3:IntKind.i64.wrap ((pn:Int) - (h:Int))=((pn - h:Nat):Int):=by rw[IntWalk.i64_in _ (by omega)];omega
    obtain⟨ph,hph⟩ : ∃ x,x=pn - h:=⟨_,rfl⟩
    have al:(ph:Int) < (N:Int):=by omega
    rw[← hph] at w3
    rw[← hph] at p0 p1 hczf
    have hij1:i≤h:=by omega
    have hij2:h < j:=by omega
    clear S hs R C hN' hbb hpn hdks hpc hhc
    cases hdec:decide (cv < 0) with
    | true =>
     have hB2:=hB.right HM.out hij1 hij2 (by show (!ltOf cf dk[pn - h]! dk[h]!)=false;rw[← hx,← hy];unfold ltOf;rw[← hcv,hdec];rfl)
     have hlv:cv < 0:=of_decide_eq_true hdec
     have hdn:(!decide (cv < 0))=false:=by rw[hdec];rfl
     obtain⟨HB,HB2,Hx,Hy,Hx0,Hy0,Hx1,Hy1,HGR,Hcg,Hczf,Hcv,Hh,Hdec,Hph⟩:=hd15 hB hB2 hx hy hx0 hy0 hx1 hy1 hGR hcg hczf hcv hh hdec hph;clear hB hB2 hx hy hx0 hy0 hx1 hy1 hGR hcg hczf hcv hh hdec hph
     go_wp2_with fail
     have mixed:Tryz.prog.follows .mixedOrders=true:=by kernel_rfl
     have hbz:=za6 (Below.refl wr.heap.size wr) 1
     have hcz:=Hczf.out _ hbz
     go_region_held3 (fun w'=>w'.cell? ⟨blk,off+(ph) * 2,none⟩=some (.string (x0))∧w'.cell? ⟨blk,off+(ph) * 2+1,none⟩=some (.string (x1))∧w'.cell? ⟨blk,off+(h) * 2,none⟩=some (.string (y0))∧w'.cell? ⟨blk,off+(h) * 2+1,none⟩=some (.string (y1))) (first | exact hcz | go_keep) (first | (go_at_fn g;refine (Hcg.out _ (by exact hbz)).mono ?_;rintro e wz ⟨rfl,hsz⟩;replace hbz:=hbz.trans (hsz.mono hbz.size);replace hcz:=Hczf.out _ hbz))
     all_goals
      go_wp2_with fail
      go_roundw
      case rel=>exact⟨i,h,rfl,rfl,HB2.out,HGR.out.below hbz⟩
      case measure=>simp[intOf];omega
    | false =>
     have hB2:=hB.left HM.out hij1 hij2 (by show (!ltOf cf dk[pn - h]! dk[h]!)=true;rw[← hx,← hy];unfold ltOf;rw[← hcv,hdec];rfl)
     have hlv:¬ cv < 0:=of_decide_eq_false hdec
     have hdn:(!decide (cv < 0))=true:=by rw[hdec];rfl
     obtain⟨HB,HB2,Hx,Hy,Hx0,Hy0,Hx1,Hy1,HGR,Hcg,Hczf,Hcv,Hh,Hdec,Hph⟩:=hd15 hB hB2 hx hy hx0 hy0 hx1 hy1 hGR hcg hczf hcv hh hdec hph;clear hB hB2 hx hy hx0 hy0 hx1 hy1 hGR hcg hczf hcv hh hdec hph
     go_wp2_with fail
     have mixed:Tryz.prog.follows .mixedOrders=true:=by kernel_rfl
     have hbz:=za6 (Below.refl wr.heap.size wr) 1
     have hcz:=Hczf.out _ hbz
     go_region_held3 (fun w'=>w'.cell? ⟨blk,off+(ph) * 2,none⟩=some (.string (x0))∧w'.cell? ⟨blk,off+(ph) * 2+1,none⟩=some (.string (x1))∧w'.cell? ⟨blk,off+(h) * 2,none⟩=some (.string (y0))∧w'.cell? ⟨blk,off+(h) * 2+1,none⟩=some (.string (y1))) (first | exact hcz | go_keep) (first | (go_at_fn g;refine (Hcg.out _ (by exact hbz)).mono ?_;rintro e wz ⟨rfl,hsz⟩;replace hbz:=hbz.trans (hsz.mono hbz.size);replace hcz:=Hczf.out _ hbz))
     all_goals
      go_wp2_with fail
      go_roundw
      case rel=>exact⟨h+1,j,by go_num,rfl,HB2.out,HGR.out.below hbz⟩
      case measure=>simp[intOf];omega
   obtain rfl:i=j:=by omega
   have hE:=Hend.out i hB
   obtain⟨HB,HS,HE⟩:=hd3 hB S hE;clear hB S hE
   obtain⟨x1,x2,y1,y2,e1,e2,e3,e4,e5⟩:=HE.out
   have hwn:IntKind.i64.wrap ((n:Int) - (i:Int))=((n - i:Nat):Int):=by
    have:=Hb1.out;have:=Hnn.out;have:=Hmid.out
    rw[IntWalk.i64_in _ (by omega)];omega
   have c1:i < m↔0 < x2.length:=by
    have:=Hm.out;rw[e1,List.length_append] at this;omega
   have c2:m < n - i↔0 < y1.length:=by omega
   have hln:x1.length+y1.length=mid - a:=by have:=Hnn.out;omega
   have c3:a < i↔0 < x1.length:=by omega
   have c4:i < mid↔0 < y1.length:=by omega
   have hlv:m+(y1.length+y2.length)=b:=by have:=Hb.out;rw[e2,List.length_append] at this;omega
   have hlu:a+(x1.length+x2.length)=m:=by have:=Hm.out;rw[e1,List.length_append] at this;omega
   have c5:mid < n - i↔0 < x2.length:=by have:=Hnn.out;omega
   have c6:n - i < b↔0 < y2.length:=by omega
   obtain⟨en,hen⟩ : ∃ x,x=n - i:=⟨_,rfl⟩
   rw[← hen] at hwn c2 c5 c6 e4
   -- the rotation
   have A0:∀ wr,SWK (enc f0 f1) 2 w0 blk off dk wr→0 < x2.length→0 < y1.length→Calls Tryz.prog 181 #[.slice (some ⟨blk,off,none⟩) N cap,.int .i64 i,.int .i64 m,.int .i64 en,.func (.func g) #[] cb] wr (Now (enc f0 f1) 2 w0 blk off (p ++ x1 ++ y1 ++ x2 ++ (y2 ++ q))):=fun wr S h1 h2=>by
    have:=zto (p:=p ++ x1) (u:=x2) (v:=y1) (q:=y2 ++ q) (a:=i) (m:=m) (b:=en) HR.out S (by rw[Hd.out,e1,e2];simp) (by rw[Hs.out,HN.out]) (by rw[List.length_append,Hpp.out];omega) (by omega) (by omega) h1 h2 cap (by rw[← HN.out];exact hn) (.func (.func g) #[] cb)
    rw[← HN.out] at this
    exact this
   have A1:(¬ 0 < x2.length∨¬ 0 < y1.length)→At (enc f0 f1) w0 blk off (p ++ x1 ++ y1 ++ x2 ++ (y2 ++ q)) wr:=fun h=>by
    refine⟨dk,HS.out,?_⟩
    rw[Hd.out,e1,e2]
    rcases h with h | h
    ·have:x2 = []:=List.eq_nil_of_length_eq_zero (by omega)
     subst this;simp
    have:y1 = []:=List.eq_nil_of_length_eq_zero (by omega)
    subst this;simp
   have hsz:∀ d:Array α,d.toList=p ++ x1 ++ y1 ++ x2 ++ (y2 ++ q)→d.size=d0.size:=fun d h=>by
    rw[← HN.out,← Hs.out,← Array.length_toList,← Array.length_toList,h,Hd.out,e1,e2]
    simp only[List.length_append];omega
   have hsz2:∀ d:Array α,d.toList=p ++ zb7 (ltOf cf) (x1 ++ y1) ++ x2 ++ (y2 ++ q)→d.size=d0.size:=fun d h=>by
    rw[← HN.out,← Hs.out,← Array.length_toList,← Array.length_toList,h,Hd.out,e1,e2]
    simp only[List.length_append,zd4 HO.out];omega
   have su:zbt (ltOf cf) x1∧zbt (ltOf cf) x2:=by have:=Hu.out;rw[e1] at this;exact⟨(List.pairwise_append.1 this).1,(List.pairwise_append.1 this).2.1⟩
   have sv:zbt (ltOf cf) y1∧zbt (ltOf cf) y2:=by have:=Hv.out;rw[e2] at this;exact⟨(List.pairwise_append.1 this).1,(List.pairwise_append.1 this).2.1⟩
   have B0:∀ wr,At (enc f0 f1) w0 blk off (p ++ x1 ++ y1 ++ x2 ++ (y2 ++ q)) wr→0 < x1.length→0 < y1.length→Calls Tryz.prog 166 #[.slice (some ⟨blk,off,none⟩) N cap,.int .i64 a,.int .i64 i,.int .i64 mid,.func (.func g) #[] cb] wr (Now (enc f0 f1) 2 w0 blk off (p ++ zb7 (ltOf cf) (x1 ++ y1) ++ (x2 ++ (y2 ++ q)))):=fun wr ⟨d,S,h⟩ h1 h2=>by
    have:=HIH'.out d wr p x1 y1 (x2 ++ (y2 ++ q)) a i mid S (by rw[h];simp) (hsz d h) su.1 sv.1 Hpp.out.symm (by omega) (by omega) h1 h2 (by have:=Hn1.out;omega)
    rw[← HN.out] at this
    exact this
   have B1:∀ wr,At (enc f0 f1) w0 blk off (p ++ x1 ++ y1 ++ x2 ++ (y2 ++ q)) wr→(¬ 0 < x1.length∨¬ 0 < y1.length)→At (enc f0 f1) w0 blk off (p ++ zb7 (ltOf cf) (x1 ++ y1) ++ (x2 ++ (y2 ++ q))) wr:=fun wr ⟨d,S,h⟩ h1=>by
    refine⟨d,S,?_⟩
    rw[h]
    rcases h1 with h1 | h1
    ·have:x1 = []:=List.eq_nil_of_length_eq_zero (by omega)
     subst this;simp only[List.append_nil,List.nil_append,zjh HO.out sv.1,List.append_assoc]
    have:y1 = []:=List.eq_nil_of_length_eq_zero (by omega)
    subst this;simp only[List.append_nil,List.nil_append,zjh HO.out su.1,List.append_assoc]
   have D0:∀ wr,At (enc f0 f1) w0 blk off (p ++ zb7 (ltOf cf) (x1 ++ y1) ++ (x2 ++ (y2 ++ q))) wr→0 < x2.length→0 < y2.length→Calls Tryz.prog 166 #[.slice (some ⟨blk,off,none⟩) N cap,.int .i64 mid,.int .i64 en,.int .i64 b,.func (.func g) #[] cb] wr (Now (enc f0 f1) 2 w0 blk off tgt):=fun wr ⟨d,S,h⟩ h1 h2=>by
    have:=HIH'.out d wr (p ++ zb7 (ltOf cf) (x1 ++ y1)) x2 y2 q mid en b S (by rw[h];simp) (hsz2 d (by rw[h];simp)) su.2 sv.2 (by rw[List.length_append,zd4 HO.out,List.length_append,Hpp.out];omega) (by omega) (by omega) h1 h2 (by have:=Hn1.out;omega)
    rw[← HN.out] at this
    rw[Htg.out,e5]
    simpa using this
   have D1:∀ wr,At (enc f0 f1) w0 blk off (p ++ zb7 (ltOf cf) (x1 ++ y1) ++ (x2 ++ (y2 ++ q))) wr→(¬ 0 < x2.length∨¬ 0 < y2.length)→At (enc f0 f1) w0 blk off tgt wr:=fun wr ⟨d,S,h⟩ h1=>by
    refine⟨d,S,?_⟩
    rw[h,Htg.out,e5]
    rcases h1 with h1 | h1
    ·have:x2 = []:=List.eq_nil_of_length_eq_zero (by omega)
     subst this;simp only[List.append_nil,List.nil_append,zjh HO.out sv.2,List.append_assoc]
    have:y2 = []:=List.eq_nil_of_length_eq_zero (by omega)
    subst this;simp only[List.append_nil,List.nil_append,zjh HO.out su.2,List.append_assoc]
   -- which of the parts hold elements
   obtain⟨X1,hX1⟩ : ∃ c,c=decide (0 < x1.length):=⟨_,rfl⟩
   obtain⟨X2,hX2⟩ : ∃ c,c=decide (0 < x2.length):=⟨_,rfl⟩
   obtain⟨Y1,hY1⟩ : ∃ c,c=decide (0 < y1.length):=⟨_,rfl⟩
   obtain⟨Y2,hY2⟩ : ∃ c,c=decide (0 < y2.length):=⟨_,rfl⟩
   have g1:decide ((i:Int) < (m:Int))=X2:=by rw[hX2];exact decide_eq_decide.2 (by omega)
   have g2:decide ((m:Int) < (en:Int))=Y1:=by rw[hY1];exact decide_eq_decide.2 (by omega)
   have g3:decide ((a:Int) < (i:Int))=X1:=by rw[hX1];exact decide_eq_decide.2 (by omega)
   have g4:decide ((i:Int) < (mid:Int))=Y1:=by rw[hY1];exact decide_eq_decide.2 (by omega)
   have g5:decide ((mid:Int) < (en:Int))=X2:=by rw[hX2];exact decide_eq_decide.2 (by omega)
   have g6:decide ((en:Int) < (b:Int))=Y2:=by rw[hY2];exact decide_eq_decide.2 (by omega)
   have r1:decide (i < m)=X2:=by rw[hX2];exact decide_eq_decide.2 (by omega)
   have r2:decide (m < en)=Y1:=by rw[hY1];exact decide_eq_decide.2 (by omega)
   have r3:decide (a < i)=X1:=by rw[hX1];exact decide_eq_decide.2 (by omega)
   have r4:decide (i < mid)=Y1:=by rw[hY1];exact decide_eq_decide.2 (by omega)
   have r5:decide (mid < en)=X2:=by rw[hX2];exact decide_eq_decide.2 (by omega)
   have r6:decide (en < b)=Y2:=by rw[hY2];exact decide_eq_decide.2 (by omega)
   clear c1 c2 c3 c4 c5 c6 e1 e2 e3 e4 e5 hln hlv hlu l1 l2 l3 hlt
   obtain⟨HA0,HA1,HB0,HB1,HD0,HD1,HX1,HX2,HY1,HY2,Hsz,Hsz2,Hsu,Hsv,Hen⟩:=hd15 A0 A1 B0 B1 D0 D1 hX1 hX2 hY1 hY2 hsz hsz2 su sv hen;clear A0 A1 B0 B1 D0 D1 hX1 hX2 hY1 hY2 hsz hsz2 su sv hen
   go_upto_region 39 with fail
   go_cut [185] from 178 to 185 (fun x wx=>x = .bool (X2 && Y1)∧wx=wr)
   case first=>cases X2 <;> cases Y1 <;> (go_wp2_with fail;go_meet;exact⟨rfl,rfl⟩)
   case rest =>
   obtain⟨rfl,rfl⟩:=hcut
   go_upto_if 185 with fail
   go_cut [] from 178 to 191 (fun wx=>At (enc f0 f1) w0 blk off (p ++ x1 ++ y1 ++ x2 ++ (y2 ++ q)) wx)
   case first =>
    cases hc:(X2 && Y1) with
    | true =>
     have hc2:=HA0.out _ HS.out (ziw HX2.out HY1.out hc).1 (ziw HX2.out HY1.out hc).2
     obtain⟨Hc,Hc2⟩:=hd2 hc hc2;clear hc hc2
     go_wp2_with fail
     refine Hc2.out.mono ?_
     rintro e w2 ⟨rfl,hw2⟩
     have Hw2:=hd hw2;clear hw2
     go_wp2_with fail
     go_meet
     exact Hw2.out
    | false =>
     have hc2:=HA1.out (and_no HX2.out HY1.out hc)
     obtain⟨Hc,Hc2⟩:=hd2 hc hc2;clear hc hc2
     go_wp2_with fail
     go_meet
     exact Hc2.out
   case rest =>
   have hA:=hcut
   clear hcut
   have HA:=hd hA;clear hA
   go_upto_region 41 with fail
   go_cut [199] from 192 to 199 (fun x wx=>x = .bool (X1 && Y1)∧wx=wc)
   case first=>cases X1 <;> cases Y1 <;> (go_wp2_with fail;go_meet;exact⟨rfl,rfl⟩)
   case rest =>
   obtain⟨rfl,rfl⟩:=hcut
   go_upto_if 199 with fail
   go_cut [] from 192 to 205 (fun wx=>At (enc f0 f1) w0 blk off (p ++ zb7 (ltOf cf) (x1 ++ y1) ++ (x2 ++ (y2 ++ q))) wx)
   case first =>
    cases hc:(X1 && Y1) with
    | true =>
     have hc2:=HB0.out _ HA.out (ziw HX1.out HY1.out hc).1 (ziw HX1.out HY1.out hc).2
     obtain⟨Hc,Hc2⟩:=hd2 hc hc2;clear hc hc2
     go_wp2_with fail
     refine Hc2.out.mono ?_
     rintro e w2 ⟨rfl,hw2⟩
     have Hw2:=hd hw2;clear hw2
     go_wp2_with fail
     go_meet
     exact Hw2.out
    | false =>
     have hc2:=HB1.out _ HA.out (and_no HX1.out HY1.out hc)
     obtain⟨Hc,Hc2⟩:=hd2 hc hc2;clear hc hc2
     go_wp2_with fail
     go_meet
     exact Hc2.out
   case rest =>
   have hB:=hcut
   clear hcut
   have HB:=hd hB;clear hB
   go_upto_region 43 with fail
   go_cut [213] from 206 to 213 (fun x wx=>x = .bool (X2 && Y2)∧wx=wc)
   case first=>cases X2 <;> cases Y2 <;> (go_wp2_with fail;go_meet;exact⟨rfl,rfl⟩)
   case rest =>
   obtain⟨rfl,rfl⟩:=hcut
   go_upto_if 213 with fail
   cases hc:(X2 && Y2) with
   | true =>
    have hc2:=HD0.out _ HB.out (ziw HX2.out HY2.out hc).1 (ziw HX2.out HY2.out hc).2
    obtain⟨Hc,Hc2⟩:=hd2 hc hc2;clear hc hc2
    go_wp2_with fail
    refine Hc2.out.mono ?_
    rintro e w2 ⟨rfl,hw2⟩
    have Hw2:=hd hw2;clear hw2
    go_wp2_with fail
    go_end0
    exact⟨rfl,Hw2.out⟩
   | false =>
    have hc2:=HD1.out _ HB.out (and_no HX2.out HY2.out hc)
    obtain⟨Hc,Hc2⟩:=hd2 hc hc2;clear hc hc2
    go_wp2_with fail
    go_end0
    exact⟨rfl,Hc2.out⟩
end StbSpan
end
end Go.Proofs.YthgibhhbmmkjmaaGreatDoor
