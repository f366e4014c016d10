/- Walks and plain facts. Texts merged: RqJ, RcJ, RcK, SetSame, SmS, Sm6, EqT, Sm7, Sm8. Condition: none beyond what each says. -/
import Derived.Test.YteailgjiifdgcaaGreatDoorRecipeJoinsAll10
set_option linter.unusedVariables false
set_option linter.unusedSimpArgs false
set_option maxRecDepth 10000
set_option maxHeartbeats 4000000
namespace Go.Proofs.YteailgjiifdgcaaGreatDoor
namespace LexM
theorem zpi {t:Bs} {room:Bool}:∀ (r:Bs) (s:RS) (i:Nat),s.out.length≤(rgo t room s i r).1.length
 | [],s,i=>Nat.le_refl _
 | c :: r,s,i=>by
  unfold rgo
  split
  ·refine Nat.le_trans ?_ (zpi r _ (i+1))
   unfold zdo
   dsimp only
   split <;> simp
  exact Nat.le_refl _
theorem zkz {t:Bs} {r1 r2:Bool}:∀ (r:Bs) (s:RS) (i:Nat),(rgo t r1 s i r).2.2=0→(r2=true∨(rgo t r1 s i r).1.length=s.out.length)→rgo t r2 s i r=rgo t r1 s i r
 | [],s,i,_,_=>rfl
 | c :: r,s,i,he,h=>by
  by_cases h1:rerr t r1 s i c=0
  ·have e1:rgo t r1 s i (c :: r)=rgo t r1 (zdo t s i c) (i+1) r:=by show (if _ then _ else _)=_;rw[if_pos h1]
   rw[e1] at he h ⊢
   cases hk:zfb t s i c with
   | true =>
    have h2:rerr t r2 s i c=0:=by
     unfold rerr at h1 ⊢
     rw[hk] at h1 ⊢
     exact h1
    have hn:(zdo t s i c).out=s.out:=by unfold zdo;rw[if_pos hk]
    have e2:rgo t r2 s i (c :: r)=rgo t r2 (zdo t s i c) (i+1) r:=by show (if _ then _ else _)=_;rw[if_pos h2]
    rw[e2]
    exact zkz r _ _ he (by rw[hn];exact h)
   | false =>
    have hn:(zdo t s i c).out.length=s.out.length+1:=by unfold zdo;rw[if_neg (by rw[hk];simp)];simp
    have hm:=zpi (t:=t) (room:=r1) r (zdo t s i c) (i+1)
    rcases h with h | h
    ·have h2:rerr t r2 s i c=0:=by
      unfold rerr at h1 ⊢
      rw[hk] at h1 ⊢
      rw[h]
      split at h1
      ·cases h1
      rename_i hf
      rw[if_neg hf]
      simp only[Bool.false_eq_true,if_false] at h1 ⊢
      split at h1
      ·cases h1
      rename_i hg
      rw[if_neg (by simp at hg ⊢;exact hg.1)]
     have e2:rgo t r2 s i (c :: r)=rgo t r2 (zdo t s i c) (i+1) r:=by show (if _ then _ else _)=_;rw[if_pos h2]
     rw[e2]
     exact zkz r _ _ he (.inl h)
    omega
  have e1:rgo t r1 s i (c :: r)=(s.out,(i:Int)+1,rerr t r1 s i c):=by show (if _ then _ else _)=_;rw[if_neg h1]
  rw[e1] at he
  exact absurd he h1
theorem zqm {t:Bs} {r1 r2:Bool} (he:(zc8 t r1).2.2=0) (h:r2=true∨(zc8 t r1).1 = []):zc8 t r2=zc8 t r1 :=
 zkz t _ 0 he (h.imp_right fun e=>by show (zc8 t r1).1.length=0;rw[e];rfl)
structure Places (t:Bs) (i:Nat) (out:List Wd):Prop where
 at_:∀ x∈out,∃ j:Nat,x.1=(j:Int)+1∧j < i∧x.2=zim t j
 row:out.Pairwise fun x y=>∃ j k:Nat,x.1=(j:Int)+1∧y.1=(k:Int)+1∧j < k∧part (t.getD (k - 1) 0)=false
theorem zke {t:Bs} {room:Bool}:∀ (r:Bs) (s:RS) (i:Nat),t.drop i=r→Places t i s.out→∃ n,Places t n (rgo t room s i r).1
 | [],s,i,_,h=>⟨i,h⟩
 | c :: r,s,i,hd,h=>by
  obtain⟨hg,hd2,hi⟩:=zf0 hd
  unfold rgo
  split
  ·refine zke r _ (i+1) hd2 ?_
   unfold zdo
   dsimp only
   split
   ·exact⟨fun x hx=>by obtain⟨j,h1,h2,h3⟩:=h.at_ x hx;exact⟨j,h1,by omega,h3⟩,h.row⟩
   rename_i hk
   unfold zfb at hk
   simp only[Bool.or_eq_true,not_or,Bool.not_eq_true',Bool.not_eq_false,Bool.and_eq_true,decide_eq_true_eq,not_and,Bool.not_eq_true] at hk
   refine⟨fun x hx=>?_,?_⟩
   ·rcases List.mem_append.1 hx with hx | hx
    ·obtain⟨j,h1,h2,h3⟩:=h.at_ x hx
     exact⟨j,h1,by omega,h3⟩
    rw[List.mem_singleton] at hx
    subst hx
    exact⟨i,rfl,by omega,rfl⟩
   rw[List.pairwise_append]
   refine⟨h.row,List.pairwise_singleton _ _,fun x hx y hy=>?_⟩
   rw[List.mem_singleton] at hy
   subst hy
   obtain⟨j,h1,h2,h3⟩:=h.at_ x hx
   exact⟨j,i,h1,rfl,h2,hk.2 (by omega)⟩
  exact⟨i,h⟩
theorem zhv (p:UInt8→Bool):∀ (l:Bs) (k:Nat),k < (l.takeWhile p).length→p (l.getD k 0)=true
 | [],k,h=>by simp at h
 | c :: r,k,h=>by
  rw[List.takeWhile_cons] at h
  split at h
  ·rename_i hc
   cases k with
   | zero=>simpa using hc
   | succ k =>
    simp at h
    simpa using zhv p r k (by omega)
  simp at h
theorem zmo {t:Bs} {room:Bool} {x y:Wd} {r:List Wd} (h:(zc8 t room).1=x :: y :: r):x.2.length+2≤t.length:=by
 obtain⟨n,hp⟩:=zke (t:=t) (room:=room) t ⟨false,[]⟩ 0 rfl ⟨fun x hx=>by simp at hx,List.Pairwise.nil⟩
 have hg:=zhm t room
 rw[show (rgo t room ⟨false,[]⟩ 0 t).1=(zc8 t room).1 from rfl,h] at hp
 rw[h] at hg
 obtain⟨j,hj1,_,hj2⟩:=hp.at_ x (by simp)
 have h1:=hp.row
 rw[List.pairwise_cons] at h1
 obtain⟨j',k,e1,e2,hjk,hk⟩:=h1.1 y (by simp)
 have hjj:j'=j:=by omega
 subst hjj
 have h3:=(hg.1 y (by simp)).2.1
 apply Nat.le_of_not_lt
 intro hlt
 have h4:k - 1 - j' < x.2.length:=by omega
 rw[hj2] at h4
 have h5:=zhv part (t.drop j') (k - 1 - j') h4
 have e:(t.drop j').getD (k - 1 - j') 0=t.getD (k - 1) 0:=by
  simp only[List.getD_eq_getElem?_getD,List.getElem?_drop]
  rw[show j' + (k - 1 - j')=k - 1 by omega]
 rw[e,hk] at h5
 cases h5
def Two (l:List Wd):Prop:=∃ x y r,l=x :: y :: r∧4≤x.2.length
theorem znb (out:List Ln) (n:Int) (ws:List Wd):(ze5 out n ws).map (·.2)=out.map (·.2) ++ (if ws = [] then [] else [ws]):=by
 unfold ze5
 split <;> simp
theorem zfc:∀ (r:Bs) (n:Int) (cur:Bs) (out:List Ln),(zb4 n cur out r).e=0→∃ more,(zb4 n cur out r).lines=out ++ more
 | [],n,cur,out,h=>by
  unfold zb4 at h ⊢
  dsimp only at h ⊢
  split
  ·unfold ze5
   split
   ·exact⟨[],by simp⟩
   exact⟨_,rfl⟩
  rename_i hk
  rw[if_neg hk] at h
  exact absurd h hk
 | c :: r,n,cur,out,h=>by
  unfold zb4 at h ⊢
  split
  ·rename_i hc
   rw[if_pos hc] at h
   dsimp only at h ⊢
   split
   ·rename_i hk
    rw[if_pos hk] at h
    obtain⟨more,hm⟩:=zfc r _ _ _ h
    rw[hm]
    unfold ze5
    split
    ·exact⟨more,rfl⟩
    exact⟨_,List.append_assoc _ _ _⟩
   rename_i hk
   rw[if_neg hk] at h
   exact absurd h hk
  rename_i hc
  rw[if_neg hc] at h
  exact zfc r _ _ _ h
theorem zeu:∀ (r:Bs) (n:Int) (cur:Bs) (out:List Ln),(zb4 n cur out r).e=0→(∀ l∈(zb4 n cur out r).lines,Two l.2)→7 * (zb4 n cur out r).lines.length≤7 * out.length+cur.length+r.length+1
 | [],n,cur,out,h,h2=>by
  unfold zb4 at h h2 ⊢
  dsimp only at h h2 ⊢
  split
  ·rename_i hk
   rw[if_pos hk] at h2
   unfold ze5 at h2 ⊢
   split
   ·show 7 * out.length≤7 * out.length+cur.length+0+1;omega
   rename_i hw
   rw[if_neg hw] at h2
   obtain⟨x,y,r,e,h4⟩:=h2 (n,(zc8 cur (decide (out.length < 2000))).1) (by simp)
   have:=zmo e
   simp
   omega
  rename_i hk
  rw[if_neg hk] at h
  exact absurd h hk
 | c :: r,n,cur,out,h,h2=>by
  unfold zb4 at h h2 ⊢
  split
  ·rename_i hc
   rw[if_pos hc] at h h2
   dsimp only at h h2 ⊢
   split
   ·rename_i hk
    rw[if_pos hk] at h h2
    have h3:=zeu r _ _ _ h h2
    obtain⟨more,hm⟩:=zfc r _ _ _ h
    rw[hm] at h2
    unfold ze5 at h3 hm h2
    split at h3
    ·simp at h3 ⊢
     unfold ze5
     rename_i hw
     rw[if_pos hw]
     omega
    rename_i hw
    rw[if_neg hw] at h2
    obtain⟨x,y,r',e,h4⟩:=h2 (n,(zc8 cur (decide (out.length < 2000))).1) (by simp)
    have:=zmo e
    unfold ze5
    rw[if_neg hw]
    simp at h3 ⊢
    omega
   rename_i hk
   rw[if_neg hk] at h
   exact absurd h hk
  rename_i hc
  rw[if_neg hc] at h h2
  have:=zeu r _ _ _ h h2
  simp at this ⊢
  omega
theorem zhl (b:Bs):∀ (a:Bs) (n:Int) (cur:Bs) (out:List Ln),(zb4 n cur out a).e=0→∃ m,zb4 n cur out (a ++ 10 :: b)=zb4 m [] (zb4 n cur out a).lines b
 | [],n,cur,out,h=>by
  rw[List.nil_append]
  unfold zb4 at h
  dsimp only at h
  have hk:(zc8 cur (decide (out.length < 2000))).2.2=0:=by
   apply Classical.byContradiction
   intro hk
   rw[if_neg hk] at h
   exact hk h
  refine⟨n+1,?_⟩
  conv=>lhs;unfold zb4
  rw[if_pos (by decide)]
  dsimp only
  rw[if_pos hk]
  congr 1
  unfold zb4
  dsimp only
  rw[if_pos hk]
 | c :: a,n,cur,out,h=>by
  rw[List.cons_append]
  by_cases hc:c.toNat=10
  ·have e1:∀ t,zb4 n cur out (c :: t)=if (zc8 cur (decide (out.length < 2000))).2.2=0 then zb4 (n+1) [] (ze5 out n (zc8 cur (decide (out.length < 2000))).1) t else ⟨[],n,(zc8 cur (decide (out.length < 2000))).2.1,(zc8 cur (decide (out.length < 2000))).2.2⟩:=fun t=>by
    show (if _ then _ else _)=_
    rw[if_pos hc]
   rw[e1] at h ⊢
   rw[e1]
   by_cases hk:(zc8 cur (decide (out.length < 2000))).2.2=0
   ·rw[if_pos hk] at h ⊢
    rw[if_pos hk]
    exact zhl b a _ _ _ h
   rw[if_neg hk] at h
   exact absurd h hk
  have e1:∀ t,zb4 n cur out (c :: t)=zb4 n (cur ++ [c]) out t:=fun t=>by
   show (if _ then _ else _)=_
   rw[if_neg hc]
  rw[e1] at h ⊢
  rw[e1]
  exact zhl b a _ _ _ h
theorem znz (o:List (List Wd)):∀ (r:Bs) (n m:Int) (cur:Bs) (out out':List Ln),(zb4 n cur out r).e=0→out'.map (·.2)=o ++ out.map (·.2)→o.length+(zb4 n cur out r).lines.length≤2000 →
  (zb4 m cur out' r).e=0∧(zb4 m cur out' r).lines.map (·.2)=o ++ (zb4 n cur out r).lines.map (·.2):=by
 have one:∀ (n m:Int) (cur:Bs) (out out':List Ln),(zc8 cur (decide (out.length < 2000))).2.2=0→out'.map (·.2)=o ++ out.map (·.2)→o.length+(ze5 out n (zc8 cur (decide (out.length < 2000))).1).length≤2000 →
   zc8 cur (decide (out'.length < 2000))=zc8 cur (decide (out.length < 2000))∧(ze5 out' m (zc8 cur (decide (out.length < 2000))).1).map (·.2)=o ++ (ze5 out n (zc8 cur (decide (out.length < 2000))).1).map (·.2):=by
  intro n m cur out out' he ho hl
  have hl2:out'.length=o.length+out.length:=by have:=congrArg List.length ho;simpa using this
  refine⟨zqm he ?_,?_⟩
  ·by_cases hw:(zc8 cur (decide (out.length < 2000))).1 = []
   ·exact .inr hw
   left
   unfold ze5 at hl
   rw[if_neg hw] at hl
   simp at hl
   exact decide_eq_true (by omega)
  rw[znb,znb,ho,List.append_assoc]
 intro r
 induction r with
 | nil =>
  intro n m cur out out' h ho hl
  have hk:(zc8 cur (decide (out.length < 2000))).2.2=0:=by
   apply Classical.byContradiction
   intro hk
   unfold zb4 at h
   dsimp only at h
   rw[if_neg hk] at h
   exact hk h
  have e1:∀ n,zb4 n cur out []=⟨ze5 out n (zc8 cur (decide (out.length < 2000))).1,0,0,0⟩:=fun n=>by
   unfold zb4
   dsimp only
   rw[if_pos hk]
  rw[e1] at hl ⊢
  obtain⟨q1,q2⟩:=one n m cur out out' hk ho hl
  unfold zb4
  dsimp only
  rw[q1,if_pos hk]
  exact⟨rfl,q2⟩
 | cons c r ih =>
  intro n m cur out out' h ho hl
  by_cases hc:c.toNat=10
  ·have e1:∀ (n:Int) (out:List Ln),zb4 n cur out (c :: r)=if (zc8 cur (decide (out.length < 2000))).2.2=0 then zb4 (n+1) [] (ze5 out n (zc8 cur (decide (out.length < 2000))).1) r else ⟨[],n,(zc8 cur (decide (out.length < 2000))).2.1,(zc8 cur (decide (out.length < 2000))).2.2⟩:=fun n out=>by
    show (if _ then _ else _)=_
    rw[if_pos hc]
   rw[e1] at h hl
   have hk:(zc8 cur (decide (out.length < 2000))).2.2=0:=by
    apply Classical.byContradiction
    intro hk
    rw[if_neg hk] at h
    exact hk h
   rw[if_pos hk] at h hl
   obtain⟨more,hm⟩:=zfc r _ _ _ h
   obtain⟨q1,q2⟩:=one n m cur out out' hk ho (by rw[hm] at hl;simp at hl;omega)
   rw[e1,e1,if_pos hk,q1,if_pos hk]
   exact ih _ _ _ _ _ h q2 hl
  have e1:∀ (n:Int) (out:List Ln),zb4 n cur out (c :: r)=zb4 n (cur ++ [c]) out r:=fun n out=>by
   show (if _ then _ else _)=_
   rw[if_neg hc]
  rw[e1] at h hl
  rw[e1,e1]
  exact ih _ _ _ _ _ h ho hl
theorem doc_join {a b:Bs} (ha:a.length≤6000) (hb:b.length≤6000) (ea:(docLines a).e=0) (eb:(docLines b).e=0) (ta:∀ l∈(docLines a).lines,Two l.2) (tb:∀ l∈(docLines b).lines,Two l.2) :
  (docLines (a ++ 10 :: b)).e=0∧(docLines (a ++ 10 :: b)).lines.map (·.2)=(docLines a).lines.map (·.2) ++ (docLines b).lines.map (·.2):=by
 have e1:∀ t:Bs,t.length≤65536→docLines t=zb4 1 [] [] t:=fun t ht=>by unfold docLines;rw[if_neg (by omega)]
 rw[e1 a (by omega)] at ea ta ⊢
 rw[e1 b (by omega)] at eb tb ⊢
 rw[e1 (a ++ 10 :: b) (by simp;omega)]
 obtain⟨m,hm⟩:=zhl b a _ _ _ ea
 rw[hm]
 have na:=zeu a 1 [] [] ea ta
 have nb:=zeu b 1 [] [] eb tb
 simp at na nb
 exact znz ((zb4 1 [] [] a).lines.map (·.2)) b 1 m [] [] (zb4 1 [] [] a).lines eb (by simp) (by simp;omega)
end LexM

section
open Go.Lib VerN VarM
open LexM (Wd Ln)
theorem zkf {f:ByteArray} {n:Int} {p q:PkgM} {l:List ByteArray} (h:zax f n p l=some q):(f=zd1∨f=zd9∨f=zct∨f=zda∨f=zd6∨f=zni)∧l≠[]:=by
 unfold zax at h
 split at h
 ·exact⟨.inl ‹_›,by rintro rfl;cases h⟩
 split at h
 ·exact⟨.inr (.inl ‹_›),by rintro rfl;cases h⟩
 split at h
 ·exact⟨.inr (.inr (.inl ‹_›)),by rintro rfl;cases h⟩
 split at h
 ·exact⟨.inr (.inr (.inr (.inl ‹_›))),by
   rintro rfl
   unfold depL zng at h
   cases h⟩
 split at h
 ·exact⟨.inr (.inr (.inr (.inr (.inl ‹_›)))),by
   rintro rfl
   unfold zg1 zon at h
   cases h⟩
 split at h
 ·exact⟨.inr (.inr (.inr (.inr (.inr ‹_›)))),by rintro rfl;cases h⟩
 cases h
theorem lineL_two {n:Int} {ws:List Wd} {x y:RcpM} (h:zbb n (ws.map wtx) x=some y):LexM.Two ws:=by
 have big:∀ (u:Wd) (k:ByteArray),wtx u=k→4≤k.data.toList.length→4≤u.2.length:=fun u k e hk=>by
  rw[← e] at hk
  exact hk
 match ws,h with
 | [],h=>cases h
 | [u],h =>
  exfalso
  have e:zbb n (wtx u :: []) x=if wtx u=zbf then (oneL zcw []).map fun s=>{ x with pk:=x.pk ++ [zdm s n] }
   else if wtx u=zcb then (zia n []).map fun q=>{ x with pf:=x.pf ++ [q] }
   else match x.pk.getLast? with
   | none=>none
   | some p=>(zax (wtx u) n p []).map fun q=>{ x with pk:=x.pk.dropLast ++ [q] }:=rfl
  have h:zbb n (wtx u :: []) x=some y:=h
  rw[e] at h
  split at h
  ·cases h
  split at h
  ·cases h
  split at h
  ·cases h
  obtain⟨q,hq,-⟩:=zdc h
  exact (zkf hq).2 rfl
 | u :: v :: r,h =>
  refine⟨u,v,r,rfl,?_⟩
  have h:zbb n (wtx u :: (v :: r).map wtx) x=some y:=h
  have e:zbb n (wtx u :: (v :: r).map wtx) x=if wtx u=zbf then (oneL zcw ((v :: r).map wtx)).map fun s=>{ x with pk:=x.pk ++ [zdm s n] }
   else if wtx u=zcb then (zia n ((v :: r).map wtx)).map fun q=>{ x with pf:=x.pf ++ [q] }
   else match x.pk.getLast? with
   | none=>none
   | some p=>(zax (wtx u) n p ((v :: r).map wtx)).map fun q=>{ x with pk:=x.pk.dropLast ++ [q] }:=rfl
  rw[e] at h
  split at h
  ·exact big u _ ‹_› (by decide)
  split at h
  ·exact big u _ ‹_› (by decide)
  split at h
  ·cases h
  obtain⟨q,hq,-⟩:=zdc h
  rcases (zkf hq).1 with k | k | k | k | k | k <;> exact big u _ k (by decide)
theorem zok:∀ (L:List Ln) (x y:RcpM),goL L x=some y→∀ l∈L,LexM.Two l.2
 | [],_,_,_,l,hl=>by simp at hl
 | k :: L,x,y,h,l,hl=>by
  rw[zpt] at h
  cases hq:zbb k.1 (k.2.map wtx) x with
  | none=>rw[hq] at h;cases h
  | some z =>
   rw[hq] at h
   rcases List.mem_cons.1 hl with rfl | hl
   ·exact lineL_two hq
   exact zok L z y h l hl
theorem zl1 {t:List UInt8} {x:RcpM} (h:zge t=some x):(LexM.docLines t).e=0∧goL (LexM.docLines t).lines ⟨[],[]⟩=some x:=by
 unfold zge at h
 split at h
 ·exact⟨‹_›,h⟩
 cases h
theorem zqp {a b:List UInt8} (ha:a.length≤6000) (hb:b.length≤6000) {x y:RcpM} (hx:zge a=some x) (hy:zge b=some y):∃ z,zge (a ++ 10 :: b)=some z∧bare z=bare (both x y):=by
 obtain⟨ka,ga⟩:=zl1 hx
 obtain⟨kb,gb⟩:=zl1 hy
 obtain⟨k1,k2⟩:=LexM.doc_join ha hb ka kb (zok _ _ _ ga) (zok _ _ _ gb)
 obtain⟨z,hz,hbz⟩:=zra ga gb k2
 refine⟨z,?_,hbz⟩
 unfold zge
 rw[if_pos k1]
 exact hz
theorem zmv:∀ (L:List Ln) (k:Nat) (x y:RcpM),zi6 k x→goL L x=some y→zi6 (k+L.length) y
 | [],k,x,y,hx,h=>by cases h;exact hx
 | l :: L,k,x,y,hx,h=>by
  rw[zpt] at h
  cases hq:zbb l.1 (l.2.map wtx) x with
  | none=>rw[hq] at h;cases h
  | some z =>
   rw[hq] at h
   have:=zmv L (k+1) z y (zja hx hq) h
   rw[List.length_cons,show k+(L.length+1)=k+1+L.length by omega]
   exact this
theorem both_len {x y z:RcpM} (h:bare z=bare (both x y)):z.pk.length=x.pk.length+y.pk.length∧z.pf.length=x.pf.length+y.pf.length:=by
 have h1:=congrArg (fun r:RcpM=>r.pk.length) h
 have h2:=congrArg (fun r:RcpM=>r.pf.length) h
 simp[bare,both] at h1 h2
 exact⟨h1,h2⟩
end

section
open Go.RowKit Go.Shelf Go.Lib VerN VarM
section
variable {α : Type} {R : Rd α} {sz : Nat}
theorem zh8 (hsz:0 < sz) (h1:∀ W cs x,R W cs x→cs.length=sz∧∀ u∈cs,u.oneCell'=true) {W:World} {a:Option Addr} {n c:Nat} {l:List α} (h:zb8 sz R W [.slice a n c] l) :
  ∃ css:List (List Value),css.length=l.length∧n=l.length∧(∀ cs∈css,cs.length=sz)∧css.flatten.length=n * sz∧(∀ (j:Nat) u,css.flatten[j]? = some u→∃ b off,a=some ⟨b,off,none⟩∧W.cell? ⟨b,off+j,none⟩=some u)∧(∀ u∈css.flatten,u.oneCell'=true)∧∀ (i:Nat) cs x,css[i]? = some cs→l[i]? = some x→R W cs x:=by
 obtain⟨css,hc⟩:=znq hsz h
 have hn:n=l.length:=by
  obtain⟨a',cap,hv,_⟩:=h
  simp only[List.cons.injEq,and_true,Value.slice.injEq] at hv
  exact hv.2.1
 have hel:∀ cs∈css,∃ x,R W cs x:=fun cs hcs=>by
  obtain⟨i,hi,e⟩:=List.getElem_of_mem hcs
  exact⟨l[i]'(by rw[← hc.len];exact hi),hc.rd i cs _ (by rw[← e];exact List.getElem?_eq_getElem hi) (List.getElem?_eq_getElem (by rw[← hc.len];exact hi))⟩
 refine⟨css,hc.len,hn,hc.sz,?_,hc.at',fun u hu=>?_,hc.rd⟩
 ·rw[flat_len' hc.sz,hc.len,hn]
 obtain⟨cs,hcs,hu⟩:=List.mem_flatten.1 hu
 obtain⟨x,hx⟩:=hel cs hcs
 exact (h1 _ _ _ hx).2 u hu
theorem zpg {W:World} {B:Nat} {e:TypeId} {v:Value} {l m:List α} {css dss:List (List Value)} (hsz:0 < sz) (h1:css.length=l.length) (h2:dss.length=m.length) (k1:∀ cs∈css,cs.length=sz) (k2:∀ cs∈dss,cs.length=sz) (ho:W.ownsRow B e sz v (l.length+m.length) (css.flatten ++ dss.flatten))
  (r1:∀ (i:Nat) cs x,css[i]? = some cs→l[i]? = some x→R W cs x) (r2:∀ (i:Nat) cs x,dss[i]? = some cs→m[i]? = some x→R W cs x):zb8 sz R W [v] (l ++ m):=by
 refine zcf (B:=B) (e:=e) (css:=css ++ dss) hsz (by simp[h1,h2]) (fun cs hcs=>?_) (by rw[List.length_append,List.flatten_append];exact ho) fun i cs x e1 e2=>?_
 ·rcases List.mem_append.1 hcs with h | h
  ·exact k1 cs h
  exact k2 cs h
 by_cases hi:i < css.length
 ·rw[List.getElem?_append_left hi] at e1
  rw[List.getElem?_append_left (by rw[← h1];exact hi)] at e2
  exact r1 i cs x e1 e2
 rw[List.getElem?_append_right (by omega)] at e1
 rw[List.getElem?_append_right (by rw[← h1];omega),← h1] at e2
 exact r2 _ cs x e1 e2
end
theorem pk_one (W:World) (cs:List Value) (x:PkgM) (h:RPkM W cs x):cs.length=8∧∀ u∈cs,u.oneCell'=true:=by
 obtain⟨v2,v3,v4,v5,v6,v7,rfl,h⟩:=h
 obtain⟨b2,c2,b3,c3,b4,c4,b5,c5,b6,c6,b7,c7,rfl,rfl,rfl,rfl,rfl,rfl⟩:=RPkR.shape h
 exact⟨rfl,by simp[Value.oneCell']⟩
theorem pf_one (W:World) (cs:List Value) (x:PrfM) (h:RPfM W cs x):cs.length=3∧∀ u∈cs,u.oneCell'=true:=by
 obtain⟨v,rfl,h1⟩:=h
 obtain⟨a1,c1,rfl,-⟩:=ze9 h1
 exact⟨rfl,by simp[Value.oneCell']⟩
theorem zqj {W:World} {B B':Nat} {e e':TypeId} {s s' n n':Nat} {v v':Value} {xs xs':List Value} (h:W.ownsRow B e s v n xs) (h':W.ownsRow B' e' s' v' n' xs') (hne:e≠e'):∀ k,v'.ownBlock=some k→¬ v.ownBlock=some k:=fun k hk' hk=>by
 obtain⟨cs,h1⟩:=zbt h k hk
 obtain⟨ds,h2⟩:=zbt h' k hk'
 rw[h1] at h2
 cases h2
 exact hne rfl
theorem zae {W W':World} {B B':Nat} {e e':TypeId} {s s' n n':Nat} {v v':Value} {xs xs':List Value} (h:W.ownsRow B e s v n xs) (h':W.ownsRow B' e' s' v' n' xs') (hne:e≠e') (hg:W.grownBy W' v.ownBlock):W'.ownsRow B' e' s' v' n' xs' :=
 (za7 hg).owns h' (zqj h h' hne)
end

section
open Go.RowKit Go.Shelf
attribute [local go_sem ↓] Go.wp_at_zero Go.wp_at_succ
theorem set_neqs (s t a b:ByteArray) (W:World):(binOp .neq 109 (.agg #[.string s,.string t]) (.agg #[.string a,.string b])).run Tryz.prog W = .ok (.bool (!(decide (s=a) && decide (t=b)))) W:=by
 have u9:=Tryz.underlying9
 have hS:Tryz.prog.underlying 109=some (.struct (Tryz.prog.fieldsOf 109)):=by kernel_rfl
 have hp:Tryz.prog.stoodInHeld 109=false:=by kernel_rfl
 rw[run_neq_struct,show (10000:Nat)=9999+1 from rfl,run_equalIn_agg W 9999 109 _ _ hS hp]
 simp only[Program.fieldsOf,Tryz.underlying109]
 go_simp
 have e1:=Txt.eq_dec s a
 have e2:=Txt.eq_dec t b
 by_cases h1:s=a <;> by_cases h2:t=b <;> simp[h1,h2] at e1 e2 ⊢ <;> simp_all
theorem znt {w:World} {v u:Value} {l m:List Setg} (h:zfj w [v] l) (hm:zfj w [u] m):Calls Tryz.prog 80 #[v,u] w fun e w'=>e = .returned (.bool (decide (l=m)))∧∃ q,w'=w.drewN q:=by
 obtain⟨a,cap,rfl,hz,g⟩:=zf3 h
 obtain⟨a2,cap2,rfl,hz2,g2⟩:=zf3 hm
 obtain⟨n,hn⟩ : ∃ n,n=l.length:=⟨_,rfl⟩
 obtain⟨n2,hn2⟩ : ∃ n,n=m.length:=⟨_,rfl⟩
 obtain⟨r,hr⟩ : ∃ r,r=decide (l=m):=⟨_,rfl⟩
 have q1:=fun s t a b=>set_neqs s t a b
 rw[← hr]
 rw[← hn] at hz h ⊢
 rw[← hn2] at hz2 hm ⊢
 obtain⟨Hh,Hm,Hg,Hg2,Hn,Hn2,Hr,Hq1⟩:=hd8 h hm g g2 hn hn2 hr q1;clear h hm g g2 hn hn2 hr q1
 go_enter Tryz.func80,Tryz.ntmps80
 by_cases hne:n=n2
 case neg =>
  have k1:((n:Int) != (n2:Int))=true:=by simp;omega
  have hf:r=false:=by rw[Hr.out,decide_eq_false_iff_not];intro e;exact hne (by rw[Hn.out,Hn2.out,e])
  obtain⟨Hf,Hne⟩:=hd2 hf hne;clear hf hne
  go_wp2_with fail
  go_ret
  exact⟨zaw Hf.out.symm,0,rfl⟩
 have k1:((n:Int) != (n2:Int))=false:=by simp;omega
 have Hne:=hd hne;clear hne
 go_wp2_with fail
 clear k1
 go_loopw [13] (fun i wr=>∃ k:Nat,k≤n∧i = .int .i64 k∧(∀ j (h1:j < l.length) (h2:j < m.length),j < k→l[j]=m[j])∧∃ q,wr=w.drewN q) (fun i _=>n - (intOf i).toNat)
 case atStart=>exact⟨0,Nat.zero_le _,rfl,fun _ _ _ h=>by omega,0,rfl⟩
 case round =>
  obtain⟨k,hk,rfl,hno,q,rfl⟩:=hrel
  by_cases hlt:k < n
  ·have hkl:k < l.length:=by have:=Hn.out;omega
   have hkm:k < m.length:=by have:=Hn2.out;have:=Hne.out;omega
   obtain⟨b,off,rfl,d0,d1,_,_⟩:=Hg.out k _ (List.getElem?_eq_getElem hkl)
   obtain⟨b2,off2,rfl,f0,f1,_,_⟩:=Hg2.out k _ (List.getElem?_eq_getElem hkm)
   have hnx:l[k]=m[k]→∀ j (h1:j < l.length) (h2:j < m.length),j < k+1→l[j]=m[j]:=fun h j h1 h2 hjk=>by
    by_cases e:j=k
    ·subst e;exact h
    exact hno j h1 h2 (by omega)
   have hbd:l[k]≠m[k]→l≠m:=fun h e=>h (by subst e;rfl)
   obtain⟨x,hx⟩ : ∃ x,x=l[k]:=⟨_,rfl⟩
   obtain⟨y,hy⟩ : ∃ x,x=m[k]:=⟨_,rfl⟩
   rw[← hx] at d0 d1 hnx hbd
   rw[← hy] at f0 f1 hnx hbd
   have q2:=Hq1.out x.1 x.2 y.1 y.2
   have hxy:(decide (x.1=y.1) && decide (x.2=y.2))=decide (x=y):=by
    rw[Bool.eq_iff_iff]
    simp[Prod.ext_iff]
   rw[hxy] at q2
   obtain⟨s,hs⟩ : ∃ s,s=x.1:=⟨_,rfl⟩
   obtain⟨t,ht⟩ : ∃ s,s=x.2:=⟨_,rfl⟩
   obtain⟨s',hs'⟩ : ∃ s,s=y.1:=⟨_,rfl⟩
   obtain⟨t',ht'⟩ : ∃ s,s=y.2:=⟨_,rfl⟩
   rw[← hs,← ht,← hs',← ht'] at q2
   rw[← hs] at d0
   rw[← ht] at d1
   rw[← hs'] at f0
   rw[← ht'] at f1
   have k5:(0:Int)≤(k:Int):=by omega
   have k6:(k:Int) < (n:Int):=by omega
   have k7:(k:Int) < (n2:Int):=by have:=Hne.out;omega
   clear hxy
   by_cases e:x=y
   ·have hq:=hnx e
    rw[decide_eq_true e] at q2
    simp only[Bool.not_true] at q2
    clear e
    obtain⟨Hno,Hnx,Hbd,Hx,Hy,Hs,Ht,Hs',Ht',Hq⟩:=hd10 hno hnx hbd hx hy hs ht hs' ht' hq;clear hno hnx hbd hx hy hs ht hs' ht' hq
    go_wp2_with fail
    go_region
    go_wp2_with fail
    go_roundw
    case rel=>exact⟨k+1,by omega,by go_num,Hq.out,_,rfl⟩
    case measure=>simp[intOf];omega
   have hf:r=false:=by rw[Hr.out,decide_eq_false_iff_not];exact hbd e
   rw[decide_eq_false e] at q2
   simp only[Bool.not_false] at q2
   clear e
   obtain⟨Hno,Hnx,Hbd,Hx,Hy,Hs,Ht,Hs',Ht',Hf⟩:=hd10 hno hnx hbd hx hy hs ht hs' ht' hf;clear hno hnx hbd hx hy hs ht hs' ht' hf
   go_wp2_with fail
   go_region
   go_wp2_with fail
   go_ret
   exact⟨zaw Hf.out.symm,_,rfl⟩
  obtain rfl:n=k:=by omega
  have hf:r=true:=by
   rw[Hr.out,decide_eq_true_eq]
   exact List.ext_getElem (by rw[← Hn.out,← Hn2.out,Hne.out]) (fun j h1 h2=>hno j h1 h2 (by have:=Hn.out;omega))
  obtain⟨Hno,Hf⟩:=hd2 hno hf;clear hno hf
  go_wp2_with fail
  go_ret
  exact⟨zaw Hf.out.symm,_,rfl⟩
end

section
open Go.Shelf Go.RowKit Go.Lib VerN VarM
attribute [local go_sem ↓] Go.wp_at_zero Go.wp_at_succ
theorem zet {w:World} {n m:ByteArray} {v1 v2 u1 u2:Value} {l1 l2:List BSp} {g1 g2:List Setg} (h1:RSps w [v1] l1) (h2:zfj w [v2] g1) (h3:RSps w [u1] l2) (h4:zfj w [u2] g2) :
  Calls Tryz.prog 38 #[.agg #[.string n,v1,v2],.agg #[.string m,u1,u2]] w fun e w'=>e = .returned (.bool (decide ((n,l1,g1)=(m,l2,g2))))∧Below w.heap.size w w':=by
 obtain⟨a1,c1,rfl,-,-⟩:=zg9 h1
 obtain⟨a2,c2,rfl,-,-⟩:=zf3 h2
 obtain⟨a3,c3,rfl,-,-⟩:=zg9 h3
 obtain⟨a4,c4,rfl,-,-⟩:=zf3 h4
 obtain⟨W1,hW1⟩ : ∃ W,W=(w.alloc (.cells #[.string n,.slice a1 l1.length c1,.slice a2 g1.length c2] 51)).alloc (.cells #[.string m,.slice a3 l2.length c3,.slice a4 g2.length c4] 51):=⟨_,rfl⟩
 obtain⟨g,hg⟩ : ∃ g,g=w.heap.size:=⟨_,rfl⟩
 have hb1:Below w.heap.size w W1:=by rw[hW1];exact (za1 _ _).alloc (by simp) _
 have p0:zcg g (.string n) (.slice a1 l1.length c1) (.slice a2 g1.length c2) W1:=by rw[hW1,hg];exact za0 (za1 _ _) (zag rfl)
 have p1:zcg (g+1) (.string m) (.slice a3 l2.length c3) (.slice a4 g2.length c4) W1:=by rw[hW1,hg];exact zag (by simp)
 have r1:=zam zbw _ _ _ _ h1 hb1
 have r2:=zam zbx _ _ _ _ h2 hb1
 have r3:=zam zbw _ _ _ _ h3 hb1
 have r4:=zam zbx _ _ _ _ h4 hb1
 obtain⟨x0,x1,x2,-⟩:=zbh p0
 obtain⟨y0,y1,y2,-⟩:=zbh p1
 obtain⟨r,hr⟩ : ∃ r,r=decide ((n,l1,g1)=(m,l2,g2)):=⟨_,rfl⟩
 have hS:=zm7 r1 r3
 have hT:=fun (W:World) (k:Below W1.heap.size W1 W)=>znt (zam zbx _ _ _ _ r2 k) (zam zbx _ _ _ _ r4 k)
 obtain⟨n1,hn1⟩ : ∃ n,n=l1.length:=⟨_,rfl⟩
 obtain⟨n2,hn2⟩ : ∃ n,n=g1.length:=⟨_,rfl⟩
 obtain⟨n3,hn3⟩ : ∃ n,n=l2.length:=⟨_,rfl⟩
 obtain⟨n4,hn4⟩ : ∃ n,n=g2.length:=⟨_,rfl⟩
 have hnm:=Txt.eq_dec n m
 rw[← hr]
 rw[← hn1] at x1 hS hW1 ⊢
 rw[← hn2] at x2 hT hW1 ⊢
 rw[← hn3] at y1 hS hW1 ⊢
 rw[← hn4] at y2 hT hW1 ⊢
 obtain⟨bs,hbs⟩ : ∃ b,b=decide (l1=l2):=⟨_,rfl⟩
 obtain⟨bt,hbt⟩ : ∃ b,b=decide (g1=g2):=⟨_,rfl⟩
 obtain⟨bn,hbn⟩ : ∃ b,b=decide (n=m):=⟨_,rfl⟩
 rw[← hbs] at hS
 rw[← hbt] at hT
 rw[← hbn] at hnm
 have hrr:r=(bn && (bs && bt)):=by
  rw[hr,hbn,hbs,hbt,Bool.eq_iff_iff]
  simp[Prod.ext_iff]
 clear hr hbs hbt hbn
 obtain⟨H1,H2,H3,H4,Hb1,Hp0,Hp1,Hr1,Hr2,Hr3,Hr4,Hn1,Hn2,Hn3,Hn4,HS⟩:=hd16 h1 h2 h3 h4 hb1 p0 p1 r1 r2 r3 r4 hn1 hn2 hn3 hn4 hS;obtain⟨HT,Hrr⟩:=hd2 hT hrr;clear h1 h2 h3 h4 hb1 p0 p1 r1 r2 r3 r4 hn1 hn2 hn3 hn4 hS hT hrr
 go_enter Tryz.func38,Tryz.ntmps38
 go_upto_region 1 with (fail)
 rw[← hW1,← hg]
 clear hW1 hg
 cases bn with
 | false =>
  go_wp2_with fail
  go_ret
  exact⟨zaw (by rw[Hrr.out];rfl),Hb1.out⟩
 | true =>
  cases bs with
  | false =>
   go_wp2_with fail
   refine HS.out.mono ?_
   rintro e w2 ⟨rfl,q,rfl⟩
   go_wp2_with fail
   go_ret
   exact⟨zaw (by rw[Hrr.out];rfl),zac Hb1.out q⟩
  | true =>
   go_wp2_with fail
   refine HS.out.mono ?_
   rintro e w2 ⟨rfl,q,rfl⟩
   have hbq:Below W1.heap.size W1 (W1.drewN q):=zac (Below.refl _ _) q
   have hT2:=HT.out _ hbq
   obtain⟨x3,x4,x5,-⟩:=zbh (za0 hbq Hp0.out)
   obtain⟨y3,y4,y5,-⟩:=zbh (za0 hbq Hp1.out)
   rw[← Hn2.out] at x5
   rw[← Hn4.out] at y5
   obtain⟨HT2,Hbq⟩:=hd2 hT2 hbq;clear hT2 hbq
   go_wp2_with fail
   refine HT2.out.mono ?_
   rintro e w2 ⟨rfl,q2,rfl⟩
   go_wp2_with fail
   go_ret
   exact⟨zaw (by rw[Hrr.out];rfl),zac Hb1.out _⟩
end

section
open Go.RowKit Go.Shelf Go.Lib VerN VarM
attribute [local go_sem ↓] Go.wp_at_zero Go.wp_at_succ
theorem zgv {l m l2 m2:List DepM} (h:l.map zcs≠m.map zcs):(zch l m && zch l2 m2)=false:=by unfold zch;rw[decide_eq_false h];rfl
theorem zgu {l m l2 m2:List DepM} (h:l2.map zcs≠m2.map zcs):(zch l m && zch l2 m2)=false:=by unfold zch;rw[decide_eq_false h,Bool.and_false]
theorem zky {w:World} {p q:PkgM} {nm nm2:ByteArray} {li li2:Int} {b2:Option Addr} {n2 c2:Nat} {d2:Option Addr} {m2 e2:Nat} {b3:Option Addr} {n3 c3:Nat} {d3:Option Addr} {m3 e3:Nat} {b4:Option Addr} {n4 c4:Nat} {d4:Option Addr} {m4 e4:Nat} {b5:Option Addr} {n5 c5:Nat} {d5:Option Addr} {m5 e5:Nat} {b6:Option Addr} {n6 c6:Nat} {d6:Option Addr} {m6 e6:Nat} {b7:Option Addr} {n7 c7:Nat} {d7:Option Addr} {m7 e7:Nat}
  (hp:RPkR w (.slice b2 n2 c2) (.slice b3 n3 c3) (.slice b4 n4 c4) (.slice b5 n5 c5) (.slice b6 n6 c6) (.slice b7 n7 c7) p) (hq:RPkR w (.slice d2 m2 e2) (.slice d3 m3 e3) (.slice d4 m4 e4) (.slice d5 m5 e5) (.slice d6 m6 e6) (.slice d7 m7 e7) q) :
  Calls Tryz.prog 149 #[.agg #[.string nm,.int .i64 li,.slice b2 n2 c2,.slice b3 n3 c3,.slice b4 n4 c4,.slice b5 n5 c5,.slice b6 n6 c6,.slice b7 n7 c7],.agg #[.string nm2,.int .i64 li2,.slice d2 m2 e2,.slice d3 m3 e3,.slice d4 m4 e4,.slice d5 m5 e5,.slice d6 m6 e6,.slice d7 m7 e7],.bool false] w fun e w'=>e = .returned (.bool (zch p.dep q.dep && zch p.conf q.conf))∧Below w.heap.size w w':=by
 obtain⟨W1,hW1⟩ : ∃ W,W=(w.alloc (.cells #[.string nm,.int .i64 li,.slice b2 n2 c2,.slice b3 n3 c3,.slice b4 n4 c4,.slice b5 n5 c5,.slice b6 n6 c6,.slice b7 n7 c7] 123)).alloc (.cells #[.string nm2,.int .i64 li2,.slice d2 m2 e2,.slice d3 m3 e3,.slice d4 m4 e4,.slice d5 m5 e5,.slice d6 m6 e6,.slice d7 m7 e7] 123):=⟨_,rfl⟩
 obtain⟨g,hg⟩ : ∃ g,g=w.heap.size:=⟨_,rfl⟩
 have hbZ:Below w.heap.size w W1:=by rw[hW1];exact (za1 _ _).alloc (by simp) _
 have p0:W1.heap[g]? = some (.cells #[.string nm,.int .i64 li,.slice b2 n2 c2,.slice b3 n3 c3,.slice b4 n4 c4,.slice b5 n5 c5,.slice b6 n6 c6,.slice b7 n7 c7] 123 (0,0)):=by rw[hW1,hg];exact za0 (za1 _ _) (zag rfl)
 have p1:W1.heap[g+1]? = some (.cells #[.string nm2,.int .i64 li2,.slice d2 m2 e2,.slice d3 m3 e3,.slice d4 m4 e4,.slice d5 m5 e5,.slice d6 m6 e6,.slice d7 m7 e7] 123 (0,0)):=by rw[hW1,hg];exact zag (by simp)
 obtain⟨l5,z5,g5⟩:=zjj (hp.below hbZ).2.2.2.1
 obtain⟨r5,y5,f5⟩:=zjj (hq.below hbZ).2.2.2.1
 obtain⟨l6,z6,g6⟩:=zjj (hp.below hbZ).2.2.2.2.1
 obtain⟨r6,y6,f6⟩:=zjj (hq.below hbZ).2.2.2.2.1
 obtain⟨L5,hL5⟩ : ∃ z,z=p.dep:=⟨_,rfl⟩
 obtain⟨M5,hM5⟩ : ∃ z,z=q.dep:=⟨_,rfl⟩
 obtain⟨L6,hL6⟩ : ∃ z,z=p.conf:=⟨_,rfl⟩
 obtain⟨M6,hM6⟩ : ∃ z,z=q.conf:=⟨_,rfl⟩
 rw[← hL5] at l5 g5
 rw[← hM5] at r5 f5
 rw[← hL6] at l6 g6
 rw[← hM6] at r6 f6
 rw[← hL5,← hM5,← hL6,← hM6]
 obtain⟨r,hrr⟩ : ∃ r,r=(zch L5 M5 && zch L6 M6):=⟨_,rfl⟩
 rw[← hrr]
 have x5:=za2 p0 5
 have x6:=za2 p0 6
 have y5':=za2 p1 5
 have y6':=za2 p1 6
 simp only[List.getElem?_toArray,List.getElem?_cons_zero,List.getElem?_cons_succ] at x5 x6 y5' y6'
 have hl5:=l5
 have hr5:=r5
 have hl6:=l6
 have hr6:=r6
 clear l5 r5 l6 r6 hL5 hM5 hL6 hM6
 have hg5:=g5
 have hf5:=f5
 have hg6:=g6
 have hf6:=f6
 clear g5 f5 g6 f6
 have hp0:=p0
 have hp1:=p1
 clear p0 p1
 have HbL:=Lib.hid (Below.refl W1.heap.size W1)
 by_cases h5:n5=m5
 case neg =>
  have k1:((n5:Int) != (m5:Int))=true:=by simp;omega
  have hff:r=false:=by rw[hrr];exact zgv (zl8 (by rw[← hl5,← hr5];exact h5))
  have Hff:=Lib.hid hff
  clear hff hp hq hl5 hr5 hl6 hr6 hg5 hf5 hg6 hf6 hp0 hp1 hrr h5
  have HbZ:=hd hbZ;clear hbZ
  go_enter Tryz.func149,Tryz.ntmps149
  go_upto_region 1 with (fail)
  rw[← hW1,← hg]
  clear hW1 hg
  go_wp2_with fail
  go_ret
  exact⟨by rw[Hff.out];rfl,HbZ.out⟩
 have k1:((n5:Int) != (m5:Int))=false:=by simp;omega
 by_cases h6:n6=m6
 case neg =>
  have k2:((n6:Int) != (m6:Int))=true:=by simp;omega
  have hff:r=false:=by rw[hrr];exact zgu (zl8 (by rw[← hl6,← hr6];exact h6))
  have Hff:=Lib.hid hff
  clear hff hp hq hl5 hr5 hl6 hr6 hg5 hf5 hg6 hf6 hp0 hp1 hrr h5 h6
  have HbZ:=hd hbZ;clear hbZ
  go_enter Tryz.func149,Tryz.ntmps149
  go_upto_region 1 with (fail)
  rw[← hW1,← hg]
  clear hW1 hg
  go_wp2_with fail
  go_ret
  exact⟨by rw[Hff.out];rfl,HbZ.out⟩
 have k2:((n6:Int) != (m6:Int))=false:=by simp;omega
 have Hp:=Lib.hid hp
 have Hq:=Lib.hid hq
 have Hl5:=Lib.hid hl5
 have Hr5:=Lib.hid hr5
 have Hl6:=Lib.hid hl6
 have Hr6:=Lib.hid hr6
 have Hg5:=Lib.hid hg5
 have Hf5:=Lib.hid hf5
 have Hg6:=Lib.hid hg6
 have Hf6:=Lib.hid hf6
 have Hp0:=Lib.hid hp0
 have Hp1:=Lib.hid hp1
 have Hrr:=Lib.hid hrr
 have Hh5:=Lib.hid h5
 have Hh6:=Lib.hid h6
 clear hp hq hl5 hr5 hl6 hr6 hg5 hf5 hg6 hf6 hp0 hp1 hrr h5 h6
 have HbZ:=Lib.hid hbZ
 clear hbZ
 go_enter Tryz.func149,Tryz.ntmps149
 go_upto_region 1 with (fail)
 rw[← hW1,← hg]
 clear hW1 hg
 go_wp2_with fail
 clear k1 k2 x5 x6 y5' y6'
 go_loopw [32] (fun i wr=>∃ k:Nat,k≤n5∧i = .int .i64 k∧(∀ j (h1:j < L5.length) (h2:j < M5.length),j < k→zcs L5[j]=zcs M5[j])∧Below W1.heap.size W1 wr) (fun i _=>n5 - (RowKit.intOf i).toNat)
 case atStart=>exact⟨0,Nat.zero_le _,rfl,fun _ _ _ h=>by omega,HbL.out⟩
 case round =>
  obtain⟨k,hk,rfl,hno,hbr⟩:=hrel
  have px:=za2 (za0 hbr Hp0.out) 5
  have qx:=za2 (za0 hbr Hp1.out) 5
  simp only[List.getElem?_toArray,List.getElem?_cons_zero,List.getElem?_cons_succ] at px qx
  by_cases hlt:k < n5
  ·have hkl:k < L5.length:=by have:=Hl5.out;omega
   have hkm:k < M5.length:=by have:=Hr5.out;have:=Hh5.out;omega
   obtain⟨x,hx⟩ : ∃ x,x=L5[k]:=⟨_,rfl⟩
   obtain⟨y,hy⟩ : ∃ x,x=M5[k]:=⟨_,rfl⟩
   obtain⟨b,off,xa1,xc1,xa2,xc2,xa3,xc3,xa4,xc4,rfl,x0,x1,x2,x3,x4,x5,x6,⟨rx1,rx2⟩,rx3,rx4⟩:=Hg5.out k x (by rw[hx];exact List.getElem?_eq_getElem hkl)
   obtain⟨b',off',ya1,yc1,ya2,yc2,ya3,yc3,ya4,yc4,rfl,y0,y1,y2,y3,y4,y5,y6,⟨ry1,ry2⟩,ry3,ry4⟩:=Hf5.out k y (by rw[hy];exact List.getElem?_eq_getElem hkm)
   have hnx:x.1=y.1→x.2.1=y.2.1→∀ j (h1:j < L5.length) (h2:j < M5.length),j < k+1→zcs L5[j]=zcs M5[j]:=fun h h' j h1 h2 hjk=>by
    by_cases e:j=k
    ·subst e
     rw[← hx,← hy]
     unfold zcs
     rw[h,h']
    exact hno j h1 h2 (by omega)
   have hbd:¬ (x.1=y.1∧x.2.1=y.2.1)→L5.map zcs≠M5.map zcs:=fun h=>zkh hkl hkm (by
    rw[← hx,← hy]
    unfold zcs
    intro e
    simp only[Prod.mk.injEq,and_true] at e
    exact h e)
   obtain⟨xn1,hxn1⟩ : ∃ z,z=x.1.1:=⟨_,rfl⟩
   obtain⟨xz1,hxz1⟩ : ∃ z,z=x.1.2.1.length:=⟨_,rfl⟩
   obtain⟨xz2,hxz2⟩ : ∃ z,z=x.1.2.2.length:=⟨_,rfl⟩
   obtain⟨xn2,hxn2⟩ : ∃ z,z=x.2.1.1:=⟨_,rfl⟩
   obtain⟨xz3,hxz3⟩ : ∃ z,z=x.2.1.2.1.length:=⟨_,rfl⟩
   obtain⟨xz4,hxz4⟩ : ∃ z,z=x.2.1.2.2.length:=⟨_,rfl⟩
   obtain⟨xln,hxln⟩ : ∃ z,z=x.2.2:=⟨_,rfl⟩
   rw[← hxn1] at x0
   rw[← hxz1] at x1 rx1
   rw[← hxz2] at x2 rx2
   rw[← hxn2] at x3
   rw[← hxz3] at x4 rx3
   rw[← hxz4] at x5 rx4
   rw[← hxln] at x6
   obtain⟨yn1,hyn1⟩ : ∃ z,z=y.1.1:=⟨_,rfl⟩
   obtain⟨yz1,hyz1⟩ : ∃ z,z=y.1.2.1.length:=⟨_,rfl⟩
   obtain⟨yz2,hyz2⟩ : ∃ z,z=y.1.2.2.length:=⟨_,rfl⟩
   obtain⟨yn2,hyn2⟩ : ∃ z,z=y.2.1.1:=⟨_,rfl⟩
   obtain⟨yz3,hyz3⟩ : ∃ z,z=y.2.1.2.1.length:=⟨_,rfl⟩
   obtain⟨yz4,hyz4⟩ : ∃ z,z=y.2.1.2.2.length:=⟨_,rfl⟩
   obtain⟨yln,hyln⟩ : ∃ z,z=y.2.2:=⟨_,rfl⟩
   rw[← hyn1] at y0
   rw[← hyz1] at y1 ry1
   rw[← hyz2] at y2 ry2
   rw[← hyn2] at y3
   rw[← hyz3] at y4 ry3
   rw[← hyz4] at y5 ry4
   rw[← hyln] at y6
   have x0:=cell_later hbr x0
   have x1:=cell_later hbr x1
   have x2:=cell_later hbr x2
   have x3:=cell_later hbr x3
   have x4:=cell_later hbr x4
   have x5:=cell_later hbr x5
   have x6:=cell_later hbr x6
   obtain⟨wa,hwa⟩ : ∃ W,W=wr.alloc (.cells #[.string xn1,.slice xa1 xz1 xc1,.slice xa2 xz2 xc2,.string xn2,.slice xa3 xz3 xc3,.slice xa4 xz4 xc4,.int .i64 xln] 134):=⟨_,rfl⟩
   obtain⟨ba,hba⟩ : ∃ z,z=wr.heap.size:=⟨_,rfl⟩
   have pa:wa.heap[ba]? = some (.cells #[.string xn1,.slice xa1 xz1 xc1,.slice xa2 xz2 xc2,.string xn2,.slice xa3 xz3 xc3,.slice xa4 xz4 xc4,.int .i64 xln] 134 (0,0)):=by rw[hwa,hba];exact heap_alloc_new _ _
   have hb1:Below wr.heap.size wr wa:=by rw[hwa];exact za1 _ _
   have hbr1:=hbr.trans (hb1.mono hbr.size)
   have qx1:=za2 (za0 hbr1 Hp1.out) 5
   simp only[List.getElem?_toArray,List.getElem?_cons_zero,List.getElem?_cons_succ] at qx1
   have y0:=cell_later hbr1 y0
   have y1:=cell_later hbr1 y1
   have y2:=cell_later hbr1 y2
   have y3:=cell_later hbr1 y3
   have y4:=cell_later hbr1 y4
   have y5:=cell_later hbr1 y5
   have y6:=cell_later hbr1 y6
   obtain⟨wb,hwb⟩ : ∃ W,W=wa.alloc (.cells #[.string yn1,.slice ya1 yz1 yc1,.slice ya2 yz2 yc2,.string yn2,.slice ya3 yz3 yc3,.slice ya4 yz4 yc4,.int .i64 yln] 134):=⟨_,rfl⟩
   obtain⟨bb,hbb⟩ : ∃ z,z=wa.heap.size:=⟨_,rfl⟩
   have pb:wb.heap[bb]? = some (.cells #[.string yn1,.slice ya1 yz1 yc1,.slice ya2 yz2 yc2,.string yn2,.slice ya3 yz3 yc3,.slice ya4 yz4 yc4,.int .i64 yln] 134 (0,0)):=by rw[hwb,hbb];exact heap_alloc_new _ _
   have hb2:Below wa.heap.size wa wb:=by rw[hwb];exact za1 _ _
   have hbr2:=hbr1.trans (hb2.mono hbr1.size)
   have pa2:=za0 hb2 pa
   have hC1:=zet (n:=xn1) (m:=yn1) (zam zbw _ _ _ _ rx1 hbr2) (zam zbx _ _ _ _ rx2 hbr2) (zam zbw _ _ _ _ ry1 hbr2) (zam zbx _ _ _ _ ry2 hbr2)
   have hC2:=fun (W:World) (k:Below W1.heap.size W1 W)=>zet (n:=xn2) (m:=yn2) (zam zbw _ _ _ _ rx3 k) (zam zbx _ _ _ _ rx4 k) (zam zbw _ _ _ _ ry3 k) (zam zbx _ _ _ _ ry4 k)
   rw[hxn1,hyn1] at hC1
   rw[hxn2,hyn2] at hC2
   obtain⟨s1,hs1⟩ : ∃ s,s=decide ((x.1.1,x.1.2.1,x.1.2.2)=(y.1.1,y.1.2.1,y.1.2.2)):=⟨_,rfl⟩
   obtain⟨s2,hs2⟩ : ∃ s,s=decide ((x.2.1.1,x.2.1.2.1,x.2.1.2.2)=(y.2.1.1,y.2.1.2.1,y.2.1.2.2)):=⟨_,rfl⟩
   rw[← hs1,← hxn1,← hyn1] at hC1
   rw[← hs2,← hxn2,← hyn2] at hC2
   have k5:(0:Int)≤(k:Int):=by omega
   have k6:(k:Int) < (n5:Int):=by omega
   have k7:(k:Int) < (m5:Int):=by have:=Hh5.out;omega
   have w0:=za2 pa2 0
   have w1:=za2 pa2 1
   have w2:=za2 pa2 2
   have v0:=za2 pb 0
   have v1:=za2 pb 1
   have v2:=za2 pb 2
   simp only[List.getElem?_toArray,List.getElem?_cons_zero,List.getElem?_cons_succ] at w0 w1 w2 v0 v1 v2
   obtain⟨Hno,Hnx,Hbd,Hx,Hy,Hs1,Hs2,HC1,HC2,Hpa,Hpb,Hpa2,Hb1,Hb2,Hbr,Hbr1⟩:=hd16 hno hnx hbd hx hy hs1 hs2 hC1 hC2 pa pb pa2 hb1 hb2 hbr hbr1;obtain⟨Hbr2,Hrx1,Hrx2,Hrx3,Hrx4,Hry1,Hry2,Hry3,Hry4,Hxn1,Hxz1,Hxz2,Hxn2,Hxz3,Hxz4,Hxln⟩:=hd16 hbr2 rx1 rx2 rx3 rx4 ry1 ry2 ry3 ry4 hxn1 hxz1 hxz2 hxn2 hxz3 hxz4 hxln;obtain⟨Hyn1,Hyz1,Hyz2,Hyn2,Hyz3,Hyz4,Hyln⟩:=hd7 hyn1 hyz1 hyz2 hyn2 hyz3 hyz4 hyln;clear hno hnx hbd hx hy hs1 hs2 hC1 hC2 pa pb pa2 hb1 hb2 hbr hbr1 hbr2 rx1 rx2 rx3 rx4 ry1 ry2 ry3 ry4 hxn1 hxz1 hxz2 hxn2 hxz3 hxz4 hxln hyn1 hyz1 hyz2 hyn2 hyz3 hyz4 hyln
   go_upto_region 7 with (fail)
   rw[← hwa,← hba]
   clear hwa hba x0 x1 x2 x3 x4 x5 x6 px qx
   go_upto_region 8 with (fail)
   rw[← hwb,← hbb]
   clear hwb hbb y0 y1 y2 y3 y4 y5 y6 qx1
   go_wp2_with fail
   refine HC1.out.mono ?_
   rintro e' w9 ⟨rfl,hb9⟩
   have hbw9:=Hbr2.out.trans (hb9.mono Hbr2.out.size)
   clear w0 w1 w2 v0 v1 v2
   cases s1 with
   | false =>
    have hff:r=false:=by rw[Hrr.out];exact zgv (Hbd.out fun h=>by have:=Hs1.out;rw[h.1] at this;simp at this)
    obtain⟨Hff,Hb9,Hbw9⟩:=hd3 hff hb9 hbw9;clear hff hb9 hbw9
    go_wp2_with fail
    go_ret
    exact⟨by rw[Hff.out];rfl,HbZ.out.trans (Hbw9.out.mono HbZ.out.size)⟩
   | true =>
    have u3:=za2 (za0 hb9 Hpa2.out) 3
    have u4:=za2 (za0 hb9 Hpa2.out) 4
    have u5:=za2 (za0 hb9 Hpa2.out) 5
    have t3:=za2 (za0 hb9 Hpb.out) 3
    have t4:=za2 (za0 hb9 Hpb.out) 4
    have t5:=za2 (za0 hb9 Hpb.out) 5
    simp only[List.getElem?_toArray,List.getElem?_cons_zero,List.getElem?_cons_succ] at u3 u4 u5 t3 t4 t5
    have hC3:=HC2.out _ hbw9
    obtain⟨Hb9,Hbw9,HC3⟩:=hd3 hb9 hbw9 hC3;clear hb9 hbw9 hC3
    go_wp2_with fail
    refine HC3.out.mono ?_
    rintro e' w10 ⟨rfl,hb10⟩
    have hbw10:=Hbw9.out.trans (hb10.mono Hbw9.out.size)
    clear u3 u4 u5 t3 t4 t5
    cases s2 with
    | false =>
     have hff:r=false:=by rw[Hrr.out];exact zgv (Hbd.out fun h=>by have:=Hs2.out;rw[h.2] at this;simp at this)
     obtain⟨Hff,Hb10,Hbw10⟩:=hd3 hff hb10 hbw10;clear hff hb10 hbw10
     go_wp2_with fail
     go_ret
     exact⟨by rw[Hff.out];rfl,HbZ.out.trans (Hbw10.out.mono HbZ.out.size)⟩
    | true =>
     have hq2:=Hnx.out (of_decide_eq_true Hs1.out.symm) (of_decide_eq_true Hs2.out.symm)
     obtain⟨Hq2,Hb10,Hbw10⟩:=hd3 hq2 hb10 hbw10;clear hq2 hb10 hbw10
     go_wp2_with fail
     go_roundw
     case rel=>exact⟨k+1,by omega,by go_num,Hq2.out,Hbw10.out⟩
     case measure=>simp[RowKit.intOf];omega
  obtain rfl:n5=k:=by omega
  have hs5:zch L5 M5=true:=decide_eq_true (zhr (by rw[← Hl5.out,← Hr5.out,Hh5.out]) (fun j h1 h2=>hno j h1 h2 (by have:=Hl5.out;omega)))
  have qx6:=za2 (za0 hbr Hp0.out) 6
  simp only[List.getElem?_toArray,List.getElem?_cons_zero,List.getElem?_cons_succ] at qx6
  clear qx
  replace HbL:=Lib.hid hbr
  obtain⟨Hs5,Hno,Hbr⟩:=hd3 hs5 hno hbr;clear hs5 hno hbr
  go_wp2_with fail
  clear px qx6
  go_loopw [73] (fun i wr=>∃ k:Nat,k≤n6∧i = .int .i64 k∧(∀ j (h1:j < L6.length) (h2:j < M6.length),j < k→zcs L6[j]=zcs M6[j])∧Below W1.heap.size W1 wr) (fun i _=>n6 - (RowKit.intOf i).toNat)
  case atStart=>exact⟨0,Nat.zero_le _,rfl,fun _ _ _ h=>by omega,HbL.out⟩
  case round =>
   obtain⟨k,hk,rfl,hno,hbr⟩:=hrel
   have px:=za2 (za0 hbr Hp0.out) 6
   have qx:=za2 (za0 hbr Hp1.out) 6
   simp only[List.getElem?_toArray,List.getElem?_cons_zero,List.getElem?_cons_succ] at px qx
   by_cases hlt:k < n6
   ·have hkl:k < L6.length:=by have:=Hl6.out;omega
    have hkm:k < M6.length:=by have:=Hr6.out;have:=Hh6.out;omega
    obtain⟨x,hx⟩ : ∃ x,x=L6[k]:=⟨_,rfl⟩
    obtain⟨y,hy⟩ : ∃ x,x=M6[k]:=⟨_,rfl⟩
    obtain⟨b,off,xa1,xc1,xa2,xc2,xa3,xc3,xa4,xc4,rfl,x0,x1,x2,x3,x4,x5,x6,⟨rx1,rx2⟩,rx3,rx4⟩:=Hg6.out k x (by rw[hx];exact List.getElem?_eq_getElem hkl)
    obtain⟨b',off',ya1,yc1,ya2,yc2,ya3,yc3,ya4,yc4,rfl,y0,y1,y2,y3,y4,y5,y6,⟨ry1,ry2⟩,ry3,ry4⟩:=Hf6.out k y (by rw[hy];exact List.getElem?_eq_getElem hkm)
    have hnx:x.1=y.1→x.2.1=y.2.1→∀ j (h1:j < L6.length) (h2:j < M6.length),j < k+1→zcs L6[j]=zcs M6[j]:=fun h h' j h1 h2 hjk=>by
     by_cases e:j=k
     ·subst e
      rw[← hx,← hy]
      unfold zcs
      rw[h,h']
     exact hno j h1 h2 (by omega)
    have hbd:¬ (x.1=y.1∧x.2.1=y.2.1)→L6.map zcs≠M6.map zcs:=fun h=>zkh hkl hkm (by
     rw[← hx,← hy]
     unfold zcs
     intro e
     simp only[Prod.mk.injEq,and_true] at e
     exact h e)
    obtain⟨xn1,hxn1⟩ : ∃ z,z=x.1.1:=⟨_,rfl⟩
    obtain⟨xz1,hxz1⟩ : ∃ z,z=x.1.2.1.length:=⟨_,rfl⟩
    obtain⟨xz2,hxz2⟩ : ∃ z,z=x.1.2.2.length:=⟨_,rfl⟩
    obtain⟨xn2,hxn2⟩ : ∃ z,z=x.2.1.1:=⟨_,rfl⟩
    obtain⟨xz3,hxz3⟩ : ∃ z,z=x.2.1.2.1.length:=⟨_,rfl⟩
    obtain⟨xz4,hxz4⟩ : ∃ z,z=x.2.1.2.2.length:=⟨_,rfl⟩
    obtain⟨xln,hxln⟩ : ∃ z,z=x.2.2:=⟨_,rfl⟩
    rw[← hxn1] at x0
    rw[← hxz1] at x1 rx1
    rw[← hxz2] at x2 rx2
    rw[← hxn2] at x3
    rw[← hxz3] at x4 rx3
    rw[← hxz4] at x5 rx4
    rw[← hxln] at x6
    obtain⟨yn1,hyn1⟩ : ∃ z,z=y.1.1:=⟨_,rfl⟩
    obtain⟨yz1,hyz1⟩ : ∃ z,z=y.1.2.1.length:=⟨_,rfl⟩
    obtain⟨yz2,hyz2⟩ : ∃ z,z=y.1.2.2.length:=⟨_,rfl⟩
    obtain⟨yn2,hyn2⟩ : ∃ z,z=y.2.1.1:=⟨_,rfl⟩
    obtain⟨yz3,hyz3⟩ : ∃ z,z=y.2.1.2.1.length:=⟨_,rfl⟩
    obtain⟨yz4,hyz4⟩ : ∃ z,z=y.2.1.2.2.length:=⟨_,rfl⟩
    obtain⟨yln,hyln⟩ : ∃ z,z=y.2.2:=⟨_,rfl⟩
    rw[← hyn1] at y0
    rw[← hyz1] at y1 ry1
    rw[← hyz2] at y2 ry2
    rw[← hyn2] at y3
    rw[← hyz3] at y4 ry3
    rw[← hyz4] at y5 ry4
    rw[← hyln] at y6
    have x0:=cell_later hbr x0
    have x1:=cell_later hbr x1
    have x2:=cell_later hbr x2
    have x3:=cell_later hbr x3
    have x4:=cell_later hbr x4
    have x5:=cell_later hbr x5
    have x6:=cell_later hbr x6
    obtain⟨wa,hwa⟩ : ∃ W,W=wr.alloc (.cells #[.string xn1,.slice xa1 xz1 xc1,.slice xa2 xz2 xc2,.string xn2,.slice xa3 xz3 xc3,.slice xa4 xz4 xc4,.int .i64 xln] 197):=⟨_,rfl⟩
    obtain⟨ba,hba⟩ : ∃ z,z=wr.heap.size:=⟨_,rfl⟩
    have pa:wa.heap[ba]? = some (.cells #[.string xn1,.slice xa1 xz1 xc1,.slice xa2 xz2 xc2,.string xn2,.slice xa3 xz3 xc3,.slice xa4 xz4 xc4,.int .i64 xln] 197 (0,0)):=by rw[hwa,hba];exact heap_alloc_new _ _
    have hb1:Below wr.heap.size wr wa:=by rw[hwa];exact za1 _ _
    have hbr1:=hbr.trans (hb1.mono hbr.size)
    have qx1:=za2 (za0 hbr1 Hp1.out) 6
    simp only[List.getElem?_toArray,List.getElem?_cons_zero,List.getElem?_cons_succ] at qx1
    have y0:=cell_later hbr1 y0
    have y1:=cell_later hbr1 y1
    have y2:=cell_later hbr1 y2
    have y3:=cell_later hbr1 y3
    have y4:=cell_later hbr1 y4
    have y5:=cell_later hbr1 y5
    have y6:=cell_later hbr1 y6
    obtain⟨wb,hwb⟩ : ∃ W,W=wa.alloc (.cells #[.string yn1,.slice ya1 yz1 yc1,.slice ya2 yz2 yc2,.string yn2,.slice ya3 yz3 yc3,.slice ya4 yz4 yc4,.int .i64 yln] 197):=⟨_,rfl⟩
    obtain⟨bb,hbb⟩ : ∃ z,z=wa.heap.size:=⟨_,rfl⟩
    have pb:wb.heap[bb]? = some (.cells #[.string yn1,.slice ya1 yz1 yc1,.slice ya2 yz2 yc2,.string yn2,.slice ya3 yz3 yc3,.slice ya4 yz4 yc4,.int .i64 yln] 197 (0,0)):=by rw[hwb,hbb];exact heap_alloc_new _ _
    have hb2:Below wa.heap.size wa wb:=by rw[hwb];exact za1 _ _
    have hbr2:=hbr1.trans (hb2.mono hbr1.size)
    have pa2:=za0 hb2 pa
    have hC1:=zet (n:=xn1) (m:=yn1) (zam zbw _ _ _ _ rx1 hbr2) (zam zbx _ _ _ _ rx2 hbr2) (zam zbw _ _ _ _ ry1 hbr2) (zam zbx _ _ _ _ ry2 hbr2)
    have hC2:=fun (W:World) (k:Below W1.heap.size W1 W)=>zet (n:=xn2) (m:=yn2) (zam zbw _ _ _ _ rx3 k) (zam zbx _ _ _ _ rx4 k) (zam zbw _ _ _ _ ry3 k) (zam zbx _ _ _ _ ry4 k)
    rw[hxn1,hyn1] at hC1
    rw[hxn2,hyn2] at hC2
    obtain⟨s1,hs1⟩ : ∃ s,s=decide ((x.1.1,x.1.2.1,x.1.2.2)=(y.1.1,y.1.2.1,y.1.2.2)):=⟨_,rfl⟩
    obtain⟨s2,hs2⟩ : ∃ s,s=decide ((x.2.1.1,x.2.1.2.1,x.2.1.2.2)=(y.2.1.1,y.2.1.2.1,y.2.1.2.2)):=⟨_,rfl⟩
    rw[← hs1,← hxn1,← hyn1] at hC1
    rw[← hs2,← hxn2,← hyn2] at hC2
    have k5:(0:Int)≤(k:Int):=by omega
    have k6:(k:Int) < (n6:Int):=by omega
    have k7:(k:Int) < (m6:Int):=by have:=Hh6.out;omega
    have w0:=za2 pa2 0
    have w1:=za2 pa2 1
    have w2:=za2 pa2 2
    have v0:=za2 pb 0
    have v1:=za2 pb 1
    have v2:=za2 pb 2
    simp only[List.getElem?_toArray,List.getElem?_cons_zero,List.getElem?_cons_succ] at w0 w1 w2 v0 v1 v2
    obtain⟨Hno,Hnx,Hbd,Hx,Hy,Hs1,Hs2,HC1,HC2,Hpa,Hpb,Hpa2,Hb1,Hb2,Hbr,Hbr1⟩:=hd16 hno hnx hbd hx hy hs1 hs2 hC1 hC2 pa pb pa2 hb1 hb2 hbr hbr1;obtain⟨Hbr2,Hrx1,Hrx2,Hrx3,Hrx4,Hry1,Hry2,Hry3,Hry4,Hxn1,Hxz1,Hxz2,Hxn2,Hxz3,Hxz4,Hxln⟩:=hd16 hbr2 rx1 rx2 rx3 rx4 ry1 ry2 ry3 ry4 hxn1 hxz1 hxz2 hxn2 hxz3 hxz4 hxln;obtain⟨Hyn1,Hyz1,Hyz2,Hyn2,Hyz3,Hyz4,Hyln⟩:=hd7 hyn1 hyz1 hyz2 hyn2 hyz3 hyz4 hyln;clear hno hnx hbd hx hy hs1 hs2 hC1 hC2 pa pb pa2 hb1 hb2 hbr hbr1 hbr2 rx1 rx2 rx3 rx4 ry1 ry2 ry3 ry4 hxn1 hxz1 hxz2 hxn2 hxz3 hxz4 hxln hyn1 hyz1 hyz2 hyn2 hyz3 hyz4 hyln
    go_upto_region 15 with (fail)
    rw[← hwa,← hba]
    clear hwa hba x0 x1 x2 x3 x4 x5 x6 px qx
    go_upto_region 16 with (fail)
    rw[← hwb,← hbb]
    clear hwb hbb y0 y1 y2 y3 y4 y5 y6 qx1
    go_wp2_with fail
    refine HC1.out.mono ?_
    rintro e' w9 ⟨rfl,hb9⟩
    have hbw9:=Hbr2.out.trans (hb9.mono Hbr2.out.size)
    clear w0 w1 w2 v0 v1 v2
    cases s1 with
    | false =>
     have hff:r=false:=by rw[Hrr.out];exact zgu (Hbd.out fun h=>by have:=Hs1.out;rw[h.1] at this;simp at this)
     obtain⟨Hff,Hb9,Hbw9⟩:=hd3 hff hb9 hbw9;clear hff hb9 hbw9
     go_wp2_with fail
     go_ret
     exact⟨by rw[Hff.out];rfl,HbZ.out.trans (Hbw9.out.mono HbZ.out.size)⟩
    | true =>
     have u3:=za2 (za0 hb9 Hpa2.out) 3
     have u4:=za2 (za0 hb9 Hpa2.out) 4
     have u5:=za2 (za0 hb9 Hpa2.out) 5
     have t3:=za2 (za0 hb9 Hpb.out) 3
     have t4:=za2 (za0 hb9 Hpb.out) 4
     have t5:=za2 (za0 hb9 Hpb.out) 5
     simp only[List.getElem?_toArray,List.getElem?_cons_zero,List.getElem?_cons_succ] at u3 u4 u5 t3 t4 t5
     have hC3:=HC2.out _ hbw9
     obtain⟨Hb9,Hbw9,HC3⟩:=hd3 hb9 hbw9 hC3;clear hb9 hbw9 hC3
     go_wp2_with fail
     refine HC3.out.mono ?_
     rintro e' w10 ⟨rfl,hb10⟩
     have hbw10:=Hbw9.out.trans (hb10.mono Hbw9.out.size)
     clear u3 u4 u5 t3 t4 t5
     cases s2 with
     | false =>
      have hff:r=false:=by rw[Hrr.out];exact zgu (Hbd.out fun h=>by have:=Hs2.out;rw[h.2] at this;simp at this)
      obtain⟨Hff,Hb10,Hbw10⟩:=hd3 hff hb10 hbw10;clear hff hb10 hbw10
      go_wp2_with fail
      go_ret
      exact⟨by rw[Hff.out];rfl,HbZ.out.trans (Hbw10.out.mono HbZ.out.size)⟩
     | true =>
      have hq2:=Hnx.out (of_decide_eq_true Hs1.out.symm) (of_decide_eq_true Hs2.out.symm)
      obtain⟨Hq2,Hb10,Hbw10⟩:=hd3 hq2 hb10 hbw10;clear hq2 hb10 hbw10
      go_wp2_with fail
      go_roundw
      case rel=>exact⟨k+1,by omega,by go_num,Hq2.out,Hbw10.out⟩
      case measure=>simp[RowKit.intOf];omega
   obtain rfl:n6=k:=by omega
   have hs6:zch L6 M6=true:=decide_eq_true (zhr (by rw[← Hl6.out,← Hr6.out,Hh6.out]) (fun j h1 h2=>hno j h1 h2 (by have:=Hl6.out;omega)))
   have hff:r=true:=by rw[Hrr.out,Hs5.out,hs6];rfl
   clear px qx
   obtain⟨Hff,Hno,Hbr,Hs6⟩:=hd4 hff hno hbr hs6;clear hff hno hbr hs6
   go_wp2_with fail
   go_ret
   exact⟨by rw[Hff.out];rfl,HbZ.out.trans (Hbr.out.mono HbZ.out.size)⟩
end

section
open Go.RowKit Go.Shelf Go.Lib VerN
attribute [local go_sem ↓] Go.wp_at_zero Go.wp_at_succ
theorem rls_neqs (s:ByteArray) (t:Bool) (a:ByteArray) (b:Bool) (W:World):(binOp .neq 157 (.agg #[.string s,.bool t]) (.agg #[.string a,.bool b])).run Tryz.prog W = .ok (.bool (!(decide (s=a) && decide (t=b)))) W:=by
 have u9:=Tryz.underlying9
 have u8:=Tryz.underlying4
 have hS:Tryz.prog.underlying 157=some (.struct (Tryz.prog.fieldsOf 157)):=by kernel_rfl
 have hp:Tryz.prog.stoodInHeld 157=false:=by kernel_rfl
 rw[run_neq_struct,show (10000:Nat)=9999+1 from rfl,run_equalIn_agg W 9999 157 _ _ hS hp]
 simp only[Program.fieldsOf,Tryz.underlying157]
 go_simp
 have e1:=Txt.eq_dec s a
 by_cases h1:s=a <;> by_cases h2:t=b <;> simp[h1,h2] at e1 ⊢ <;> simp_all
theorem zfa {w:World} {v u:Value} {l m:List ByteArray} (h:RTs w [v] l) (hm:RTs w [u] m):Calls Tryz.prog 90 #[v,u] w fun e w'=>e = .returned (.bool (decide (l=m)))∧∃ q,w'=w.drewN q:=by
 obtain⟨a,cap,rfl,hz,g⟩:=ze9 h
 obtain⟨a2,cap2,rfl,hz2,g2⟩:=ze9 hm
 obtain⟨n,hn⟩ : ∃ n,n=l.length:=⟨_,rfl⟩
 obtain⟨n2,hn2⟩ : ∃ n,n=m.length:=⟨_,rfl⟩
 obtain⟨r,hr⟩ : ∃ r,r=decide (l=m):=⟨_,rfl⟩
 rw[← hr]
 rw[← hn] at hz h ⊢
 rw[← hn2] at hz2 hm ⊢
 obtain⟨Hh,Hm,Hg,Hg2,Hn,Hn2,Hr⟩:=hd7 h hm g g2 hn hn2 hr;clear h hm g g2 hn hn2 hr
 go_enter Tryz.func90,Tryz.ntmps90
 by_cases hne:n=n2
 case neg =>
  have k1:((n:Int) != (n2:Int))=true:=by simp;omega
  have hf:r=false:=by rw[Hr.out,decide_eq_false_iff_not];intro e;exact hne (by rw[Hn.out,Hn2.out,e])
  obtain⟨Hf,Hne⟩:=hd2 hf hne;clear hf hne
  go_wp2_with fail
  go_ret
  exact⟨zaw Hf.out.symm,0,rfl⟩
 have k1:((n:Int) != (n2:Int))=false:=by simp;omega
 have Hne:=hd hne;clear hne
 go_wp2_with fail
 clear k1
 go_loopw [13] (fun i wr=>∃ k:Nat,k≤n∧i = .int .i64 k∧(∀ j (h1:j < l.length) (h2:j < m.length),j < k→l[j]=m[j])∧∃ q,wr=w.drewN q) (fun i _=>n - (RowKit.intOf i).toNat)
 case atStart=>exact⟨0,Nat.zero_le _,rfl,fun _ _ _ h=>by omega,0,rfl⟩
 case round =>
  obtain⟨k,hk,rfl,hno,q,rfl⟩:=hrel
  by_cases hlt:k < n
  ·have hkl:k < l.length:=by have:=Hn.out;omega
   have hkm:k < m.length:=by have:=Hn2.out;have:=Hne.out;omega
   obtain⟨b,off,rfl,d0,-⟩:=Hg.out k hkl
   obtain⟨b2,off2,rfl,f0,-⟩:=Hg2.out k hkm
   have hnx:l[k]=m[k]→∀ j (h1:j < l.length) (h2:j < m.length),j < k+1→l[j]=m[j]:=fun h j h1 h2 hjk=>by
    by_cases e:j=k
    ·subst e;exact h
    exact hno j h1 h2 (by omega)
   have hbd:l[k]≠m[k]→l≠m:=fun h e=>h (by subst e;rfl)
   obtain⟨x,hx⟩ : ∃ x,x=l[k]:=⟨_,rfl⟩
   obtain⟨y,hy⟩ : ∃ x,x=m[k]:=⟨_,rfl⟩
   rw[← hx] at d0 hnx hbd
   rw[← hy] at f0 hnx hbd
   have heq:=Txt.eq_dec x y
   obtain⟨c,hc⟩ : ∃ c,c=decide (x=y):=⟨_,rfl⟩
   rw[← hc] at heq
   have k5:(0:Int)≤(k:Int):=by omega
   have k6:(k:Int) < (n:Int):=by omega
   have k7:(k:Int) < (n2:Int):=by have:=Hne.out;omega
   cases c with
   | true =>
    have hq:=hnx (of_decide_eq_true hc.symm)
    skip
    obtain⟨Hno,Hnx,Hbd,Hx,Hy,Hc,Hq⟩:=hd7 hno hnx hbd hx hy hc hq;clear hno hnx hbd hx hy hc hq
    go_wp2_with fail
    go_region
    go_wp2_with fail
    go_roundw
    case rel=>exact⟨k+1,by omega,by go_num,Hq.out,_,rfl⟩
    case measure=>simp[RowKit.intOf];omega
   | false =>
    have hf:r=false:=by rw[Hr.out,decide_eq_false_iff_not];exact hbd (of_decide_eq_false hc.symm)
    skip
    obtain⟨Hno,Hnx,Hbd,Hx,Hy,Hc,Hf⟩:=hd7 hno hnx hbd hx hy hc hf;clear hno hnx hbd hx hy hc hf
    go_wp2_with fail
    go_region
    go_wp2_with fail
    go_ret
    exact⟨zaw Hf.out.symm,_,rfl⟩
  obtain rfl:n=k:=by omega
  have hf:r=true:=by
   rw[Hr.out,decide_eq_true_eq]
   exact List.ext_getElem (by rw[← Hn.out,← Hn2.out,Hne.out]) (fun j h1 h2=>hno j h1 h2 (by have:=Hn.out;omega))
  obtain⟨Hno,Hf⟩:=hd2 hno hf;clear hno hf
  go_wp2_with fail
  go_ret
  exact⟨zaw Hf.out.symm,_,rfl⟩
end

section
open Go.RowKit Go.Shelf Go.Lib VerN VarM
attribute [local go_sem ↓] Go.wp_at_zero Go.wp_at_succ
theorem zj3 {w:World} {p q:PkgM} {nm nm2:ByteArray} {li li2:Int} {b2:Option Addr} {n2 c2:Nat} {d2:Option Addr} {m2 e2:Nat} {b3:Option Addr} {n3 c3:Nat} {d3:Option Addr} {m3 e3:Nat} {b4:Option Addr} {n4 c4:Nat} {d4:Option Addr} {m4 e4:Nat} {b5:Option Addr} {n5 c5:Nat} {d5:Option Addr} {m5 e5:Nat} {b6:Option Addr} {n6 c6:Nat} {d6:Option Addr} {m6 e6:Nat} {b7:Option Addr} {n7 c7:Nat} {d7:Option Addr} {m7 e7:Nat}
  (hnp:p.name=nm) (hnq:q.name=nm2) (hp:RPkR w (.slice b2 n2 c2) (.slice b3 n3 c3) (.slice b4 n4 c4) (.slice b5 n5 c5) (.slice b6 n6 c6) (.slice b7 n7 c7) p) (hq:RPkR w (.slice d2 m2 e2) (.slice d3 m3 e3) (.slice d4 m4 e4) (.slice d5 m5 e5) (.slice d6 m6 e6) (.slice d7 m7 e7) q) :
  Calls Tryz.prog 89 #[.agg #[.string nm,.int .i64 li,.slice b2 n2 c2,.slice b3 n3 c3,.slice b4 n4 c4,.slice b5 n5 c5,.slice b6 n6 c6,.slice b7 n7 c7],.agg #[.string nm2,.int .i64 li2,.slice d2 m2 e2,.slice d3 m3 e3,.slice d4 m4 e4,.slice d5 m5 e5,.slice d6 m6 e6,.slice d7 m7 e7],.bool false] w fun e w'=>e = .returned (.bool (zfw p q))∧Below w.heap.size w w':=by
 obtain⟨W1,hW1⟩ : ∃ W,W=(w.alloc (.cells #[.string nm,.int .i64 li,.slice b2 n2 c2,.slice b3 n3 c3,.slice b4 n4 c4,.slice b5 n5 c5,.slice b6 n6 c6,.slice b7 n7 c7] 123)).alloc (.cells #[.string nm2,.int .i64 li2,.slice d2 m2 e2,.slice d3 m3 e3,.slice d4 m4 e4,.slice d5 m5 e5,.slice d6 m6 e6,.slice d7 m7 e7] 123):=⟨_,rfl⟩
 obtain⟨g,hg⟩ : ∃ g,g=w.heap.size:=⟨_,rfl⟩
 have hb1:Below w.heap.size w W1:=by rw[hW1];exact (za1 _ _).alloc (by simp) _
 have hp0:W1.heap[g]? = some (.cells #[.string nm,.int .i64 li,.slice b2 n2 c2,.slice b3 n3 c3,.slice b4 n4 c4,.slice b5 n5 c5,.slice b6 n6 c6,.slice b7 n7 c7] 123 (0,0)):=by rw[hW1,hg];exact za0 (za1 _ _) (zag rfl)
 have hp1:W1.heap[g+1]? = some (.cells #[.string nm2,.int .i64 li2,.slice d2 m2 e2,.slice d3 m3 e3,.slice d4 m4 e4,.slice d5 m5 e5,.slice d6 m6 e6,.slice d7 m7 e7] 123 (0,0)):=by rw[hW1,hg];exact zag (by simp)
 have hpp:=hp.below hb1
 have hqq:=hq.below hb1
 obtain⟨hl2,hz2,hg2⟩:=rls_at hpp.1
 obtain⟨hr2,hy2,hf2⟩:=rls_at hqq.1
 obtain⟨hl3,hz3,hg3⟩:=zp3 hpp.2.1
 obtain⟨hr3,hy3,hf3⟩:=zp3 hqq.2.1
 obtain⟨L2,hL2⟩ : ∃ z,z=p.rel:=⟨_,rfl⟩
 obtain⟨M2,hM2⟩ : ∃ z,z=q.rel:=⟨_,rfl⟩
 obtain⟨L3,hL3⟩ : ∃ z,z=p.vars:=⟨_,rfl⟩
 obtain⟨M3,hM3⟩ : ∃ z,z=q.vars:=⟨_,rfl⟩
 have hrr0:=samePk_is p q
 rw[hnp,hnq,← hL2,← hM2,← hL3,← hM3] at hrr0
 rw[← hL2] at hl2 hg2
 rw[← hM2] at hr2 hf2
 rw[← hL3] at hl3 hg3
 rw[← hM3] at hr3 hf3
 obtain⟨r,hrr⟩ : ∃ r,r=zfw p q:=⟨_,rfl⟩
 rw[← hrr]
 rw[← hrr] at hrr0
 obtain⟨q4,hc4⟩ : ∃ c,c=decide (p.prov=q.prov):=⟨_,rfl⟩
 obtain⟨q7,hc7⟩ : ∃ c,c=decide (p.files=q.files):=⟨_,rfl⟩
 obtain⟨q5,hc5⟩ : ∃ c,c=(zch p.dep q.dep && zch p.conf q.conf):=⟨_,rfl⟩
 rw[← hc4,← hc7,← hc5] at hrr0
 have hT4:=fun (W:World) (k:Below W1.heap.size W1 W)=>zfa (zbc hpp.2.2.1 k) (zbc hqq.2.2.1 k)
 have hT7:=fun (W:World) (k:Below W1.heap.size W1 W)=>zfa (zbc hpp.2.2.2.2.2 k) (zbc hqq.2.2.2.2.2 k)
 have hT5:=fun (W:World) (k:Below W1.heap.size W1 W)=>zky (nm:=nm) (nm2:=nm2) (li:=li) (li2:=li2) (hpp.below k) (hqq.below k)
 rw[← hc4] at hT4
 rw[← hc7] at hT7
 rw[← hc5] at hT5
 have x0:=za2 hp0 0
 have x2:=za2 hp0 2
 have x3:=za2 hp0 3
 have y0:=za2 hp1 0
 have y2:=za2 hp1 2
 have y3:=za2 hp1 3
 simp only[List.getElem?_toArray,List.getElem?_cons_zero,List.getElem?_cons_succ] at x0 x2 x3 y0 y2 y3
 have heq:=Txt.eq_dec nm nm2
 obtain⟨bn,hbn⟩ : ∃ b,b=decide (nm=nm2):=⟨_,rfl⟩
 rw[← hbn] at heq hrr0
 clear hrr
 cases bn with
 | false =>
  obtain⟨Hb1,Hp0,Hp1,Hpp,Hqq,Hl2,Hg2,Hr2,Hf2,Hl3,Hg3,Hr3,Hf3,Hrr0,Hp,Hq⟩:=hd16 hb1 hp0 hp1 hpp hqq hl2 hg2 hr2 hf2 hl3 hg3 hr3 hf3 hrr0 hp hq;obtain⟨HL2,HM2,HL3,HM3,Hc4,Hc7,Hc5,HT4,HT7,HT5,Hbn,Hnp,Hnq⟩:=hd13 hL2 hM2 hL3 hM3 hc4 hc7 hc5 hT4 hT7 hT5 hbn hnp hnq;clear hb1 hp0 hp1 hpp hqq hl2 hg2 hr2 hf2 hl3 hg3 hr3 hf3 hrr0 hp hq hL2 hM2 hL3 hM3 hc4 hc7 hc5 hT4 hT7 hT5 hbn hnp hnq
  go_enter Tryz.func89,Tryz.ntmps89
  go_upto_region 1 with (fail)
  rw[← hW1,← hg]
  clear hW1 hg
  go_wp2_with fail
  go_ret
  exact⟨by rw[Hrr0.out];rfl,Hb1.out⟩
 | true =>
  by_cases hh2:n2=m2
  case neg =>
   have k1:((n2:Int) != (m2:Int))=true:=by simp;omega
   have hff:decide (L2=M2)=false:=decide_eq_false fun e=>hh2 (by rw[hl2,hr2,e])
   obtain⟨Hb1,Hp0,Hp1,Hpp,Hqq,Hl2,Hg2,Hr2,Hf2,Hl3,Hg3,Hr3,Hf3,Hrr0,Hp,Hq⟩:=hd16 hb1 hp0 hp1 hpp hqq hl2 hg2 hr2 hf2 hl3 hg3 hr3 hf3 hrr0 hp hq;obtain⟨HL2,HM2,HL3,HM3,Hc4,Hc7,Hc5,HT4,HT7,HT5,Hbn,Hnp,Hnq,Hff,Hh2⟩:=hd15 hL2 hM2 hL3 hM3 hc4 hc7 hc5 hT4 hT7 hT5 hbn hnp hnq hff hh2;clear hb1 hp0 hp1 hpp hqq hl2 hg2 hr2 hf2 hl3 hg3 hr3 hf3 hrr0 hp hq hL2 hM2 hL3 hM3 hc4 hc7 hc5 hT4 hT7 hT5 hbn hnp hnq hff hh2
   go_enter Tryz.func89,Tryz.ntmps89
   go_upto_region 1 with (fail)
   rw[← hW1,← hg]
   clear hW1 hg
   go_wp2_with fail
   go_ret
   exact⟨by rw[Hrr0.out,Hff.out];rfl,Hb1.out⟩
  have k1:((n2:Int) != (m2:Int))=false:=by simp;omega
  by_cases hh3:n3=m3
  case neg =>
   have k2:((n3:Int) != (m3:Int))=true:=by simp;omega
   have hff:decide (L3=M3)=false:=decide_eq_false fun e=>hh3 (by rw[hl3,hr3,e])
   have hrx:r=false:=by rw[hrr0,hff];simp
   obtain⟨Hb1,Hp0,Hp1,Hpp,Hqq,Hl2,Hg2,Hr2,Hf2,Hl3,Hg3,Hr3,Hf3,Hrr0,Hp,Hq⟩:=hd16 hb1 hp0 hp1 hpp hqq hl2 hg2 hr2 hf2 hl3 hg3 hr3 hf3 hrr0 hp hq;obtain⟨HL2,HM2,HL3,HM3,Hc4,Hc7,Hc5,HT4,HT7,HT5,Hbn,Hnp,Hnq,Hff,Hh2,Hh3⟩:=hd16 hL2 hM2 hL3 hM3 hc4 hc7 hc5 hT4 hT7 hT5 hbn hnp hnq hff hh2 hh3;have Hrx:=hd hrx;clear hb1 hp0 hp1 hpp hqq hl2 hg2 hr2 hf2 hl3 hg3 hr3 hf3 hrr0 hp hq hL2 hM2 hL3 hM3 hc4 hc7 hc5 hT4 hT7 hT5 hbn hnp hnq hff hh2 hh3 hrx
   go_enter Tryz.func89,Tryz.ntmps89
   go_upto_region 1 with (fail)
   rw[← hW1,← hg]
   clear hW1 hg
   go_wp2_with fail
   go_ret
   exact⟨by rw[Hrx.out];rfl,Hb1.out⟩
  have k2:((n3:Int) != (m3:Int))=false:=by simp;omega
  obtain⟨Hb1,Hp0,Hp1,Hpp,Hqq,Hl2,Hg2,Hr2,Hf2,Hl3,Hg3,Hr3,Hf3,Hrr0,Hp,Hq⟩:=hd16 hb1 hp0 hp1 hpp hqq hl2 hg2 hr2 hf2 hl3 hg3 hr3 hf3 hrr0 hp hq;obtain⟨HL2,HM2,HL3,HM3,Hc4,Hc7,Hc5,HT4,HT7,HT5,Hbn,Hnp,Hnq,Hh2,Hh3⟩:=hd15 hL2 hM2 hL3 hM3 hc4 hc7 hc5 hT4 hT7 hT5 hbn hnp hnq hh2 hh3;clear hb1 hp0 hp1 hpp hqq hl2 hg2 hr2 hf2 hl3 hg3 hr3 hf3 hrr0 hp hq hL2 hM2 hL3 hM3 hc4 hc7 hc5 hT4 hT7 hT5 hbn hnp hnq hh2 hh3
  go_enter Tryz.func89,Tryz.ntmps89
  go_upto_region 1 with (fail)
  rw[← hW1,← hg]
  clear hW1 hg
  go_wp2_with fail
  clear k1 k2 x0 x2 x3 y0 y2 y3 heq
  go_loopw [45] (fun i wr=>∃ k:Nat,k≤n2∧i = .int .i64 k∧(∀ j (h1:j < L2.length) (h2:j < M2.length),j < k→L2[j]=M2[j])∧Below W1.heap.size W1 wr) (fun i _=>n2 - (RowKit.intOf i).toNat)
  case atStart=>exact⟨0,Nat.zero_le _,rfl,fun _ _ _ h=>by omega,Below.refl _ _⟩
  case round =>
   obtain⟨k,hk,rfl,hno,hbr⟩:=hrel
   have px:=za2 (za0 hbr Hp0.out) 2
   have qx:=za2 (za0 hbr Hp1.out) 2
   simp only[List.getElem?_toArray,List.getElem?_cons_zero,List.getElem?_cons_succ] at px qx
   by_cases hlt:k < n2
   ·have hkl:k < L2.length:=by have:=Hl2.out;omega
    have hkm:k < M2.length:=by have:=Hr2.out;have:=Hh2.out;omega
    obtain⟨x,hx⟩ : ∃ x,x=L2[k]:=⟨_,rfl⟩
    obtain⟨y,hy⟩ : ∃ x,x=M2[k]:=⟨_,rfl⟩
    obtain⟨b,off,rfl,x0,x1⟩:=Hg2.out k x (by rw[hx];exact List.getElem?_eq_getElem hkl)
    obtain⟨b',off',rfl,y0,y1⟩:=Hf2.out k y (by rw[hy];exact List.getElem?_eq_getElem hkm)
    have x0:=cell_later hbr x0
    have x1:=cell_later hbr x1
    have y0:=cell_later hbr y0
    have y1:=cell_later hbr y1
    have hnx:x=y→∀ j (h1:j < L2.length) (h2:j < M2.length),j < k+1→L2[j]=M2[j]:=fun h j h1 h2 hjk=>by
     by_cases e:j=k
     ·subst e;rw[← hx,← hy,h]
     exact hno j h1 h2 (by omega)
    have hbd:x≠y→L2≠M2:=fun h e=>h (by rw[hx,hy];subst e;rfl)
    have q2:=fun (W:World)=>rls_neqs x.1 x.2 y.1 y.2 W
    have hxy:(decide (x.1=y.1) && decide (x.2=y.2))=decide (x=y):=by
     rw[Bool.eq_iff_iff]
     simp[Prod.ext_iff]
    rw[hxy] at q2
    obtain⟨s,hs⟩ : ∃ s,s=x.1:=⟨_,rfl⟩
    obtain⟨t,ht⟩ : ∃ s,s=x.2:=⟨_,rfl⟩
    obtain⟨s',hs'⟩ : ∃ s,s=y.1:=⟨_,rfl⟩
    obtain⟨t',ht'⟩ : ∃ s,s=y.2:=⟨_,rfl⟩
    rw[← hs,← ht,← hs',← ht'] at q2
    rw[← hs] at x0
    rw[← ht] at x1
    rw[← hs'] at y0
    rw[← ht'] at y1
    clear hxy
    obtain⟨c,hc⟩ : ∃ c,c=decide (x=y):=⟨_,rfl⟩
    rw[← hc] at q2
    have k5:(0:Int)≤(k:Int):=by omega
    have k6:(k:Int) < (n2:Int):=by omega
    have k7:(k:Int) < (m2:Int):=by have:=Hh2.out;omega
    cases c with
    | true =>
     have hq:=hnx (of_decide_eq_true hc.symm)
     simp only[Bool.not_true] at q2
     obtain⟨Hno,Hnx,Hbd,Hx,Hy,Hc,Hs,Ht,Hs',Ht',Hq,Hbr⟩:=hd12 hno hnx hbd hx hy hc hs ht hs' ht' hq hbr;clear hno hnx hbd hx hy hc hs ht hs' ht' hq hbr
     go_wp2_with fail
     go_region
     go_wp2_with fail
     go_roundw
     case rel=>exact⟨k+1,by omega,by go_num,Hq.out,by first | exact Below.drew Hbr.out | exact zac Hbr.out _ | exact Hbr.out⟩
     case measure=>simp[RowKit.intOf];omega
    | false =>
     have hf:decide (L2=M2)=false:=decide_eq_false (hbd (of_decide_eq_false hc.symm))
     simp only[Bool.not_false] at q2
     obtain⟨Hno,Hnx,Hbd,Hx,Hy,Hc,Hs,Ht,Hs',Ht',Hf,Hbr⟩:=hd12 hno hnx hbd hx hy hc hs ht hs' ht' hf hbr;clear hno hnx hbd hx hy hc hs ht hs' ht' hf hbr
     go_wp2_with fail
     go_region
     go_wp2_with fail
     go_ret
     exact⟨by rw[Hrr0.out,Hf.out];rfl,Hb1.out.trans (Below.mono (by first | exact Below.drew Hbr.out | exact zac Hbr.out _ | exact Hbr.out) Hb1.out.size)⟩
   obtain rfl:n2=k:=by omega
   have hs2:decide (L2=M2)=true:=decide_eq_true (List.ext_getElem (by rw[← Hl2.out,← Hr2.out,Hh2.out]) (fun j h1 h2=>hno j h1 h2 (by have:=Hl2.out;omega)))
   have px3:=za2 (za0 hbr Hp0.out) 3
   simp only[List.getElem?_toArray,List.getElem?_cons_zero,List.getElem?_cons_succ] at px3
   clear px qx
   obtain⟨Hs2,Hno,Hbr⟩:=hd3 hs2 hno hbr;clear hs2 hno hbr
   go_wp2_with fail
   clear px3
   go_loopw [63] (fun i wr=>∃ k:Nat,k≤n3∧i = .int .i64 k∧(∀ j (h1:j < L3.length) (h2:j < M3.length),j < k→L3[j]=M3[j])∧Below W1.heap.size W1 wr) (fun i _=>n3 - (RowKit.intOf i).toNat)
   case atStart=>exact⟨0,Nat.zero_le _,rfl,fun _ _ _ h=>by omega,Hbr.out⟩
   case round =>
    obtain⟨k,hk,rfl,hno,hbr⟩:=hrel
    by_cases hlt:k < n3
    ·have hkl:k < L3.length:=by have:=Hl3.out;omega
     have hkm:k < M3.length:=by have:=Hr3.out;have:=Hh3.out;omega
     obtain⟨x,hx⟩ : ∃ x,x=L3[k]:=⟨_,rfl⟩
     obtain⟨y,hy⟩ : ∃ x,x=M3[k]:=⟨_,rfl⟩
     obtain⟨b,off,xa1,xc1,rfl,x0,x1,rx1⟩:=Hg3.out k x (by rw[hx];exact List.getElem?_eq_getElem hkl)
     obtain⟨b',off',ya1,yc1,rfl,y0,y1,ry1⟩:=Hf3.out k y (by rw[hy];exact List.getElem?_eq_getElem hkm)
     have hnx:x.1=y.1→x.2=y.2→∀ j (h1:j < L3.length) (h2:j < M3.length),j < k+1→L3[j]=M3[j]:=fun h h' j h1 h2 hjk=>by
      by_cases e:j=k
      ·subst e;rw[← hx,← hy];exact Prod.ext h h'
      exact hno j h1 h2 (by omega)
     have hbd:¬ (x.1=y.1∧x.2=y.2)→decide (L3=M3)=false:=fun h=>decide_eq_false fun e=>h (by
      have:x=y:=by rw[hx,hy];subst e;rfl
      rw[this];exact⟨rfl,rfl⟩)
     have hC:=fun (W:World) (k:Below W1.heap.size W1 W)=>zfa (zbc rx1 k) (zbc ry1 k)
     obtain⟨xz1,hxz1⟩ : ∃ z,z=x.2.length:=⟨_,rfl⟩
     obtain⟨yz1,hyz1⟩ : ∃ z,z=y.2.length:=⟨_,rfl⟩
     obtain⟨s,hs⟩ : ∃ s,s=x.1:=⟨_,rfl⟩
     obtain⟨s',hs'⟩ : ∃ s,s=y.1:=⟨_,rfl⟩
     rw[← hs] at x0 hnx hbd
     rw[← hs'] at y0 hnx hbd
     rw[← hxz1] at x1 hC rx1
     rw[← hyz1] at y1 hC ry1
     obtain⟨cs,hcs⟩ : ∃ c,c=decide (x.2=y.2):=⟨_,rfl⟩
     rw[← hcs] at hC
     have hzz:=Txt.eq_dec s s'
     obtain⟨cn,hcn⟩ : ∃ c,c=decide (s=s'):=⟨_,rfl⟩
     rw[← hcn] at hzz
     have hcz:∀ W,Below W1.heap.size W1 W→W.cell? ⟨g,3,none⟩=some (.slice (some ⟨b,off,none⟩) n3 c3)∧W.cell? ⟨g+1,3,none⟩=some (.slice (some ⟨b',off',none⟩) m3 e3)∧W.cell? ⟨b,off+k * 2,none⟩=some (.string s)∧W.cell? ⟨b,off+k * 2+1,none⟩=some (.slice xa1 xz1 xc1)∧W.cell? ⟨b',off' + k * 2,none⟩=some (.string s')∧W.cell? ⟨b',off' + k * 2+1,none⟩=some (.slice ya1 yz1 yc1):=fun W hb=>by
      have px:=za2 (za0 hb Hp0.out) 3
      have qx:=za2 (za0 hb Hp1.out) 3
      simp only[List.getElem?_toArray,List.getElem?_cons_zero,List.getElem?_cons_succ] at px qx
      exact⟨px,qx,cell_later hb x0,cell_later hb x1,cell_later hb y0,cell_later hb y1⟩
     have k5:(0:Int)≤(k:Int):=by omega
     have k6:(k:Int) < (n3:Int):=by omega
     have k7:(k:Int) < (m3:Int):=by have:=Hh3.out;omega
     clear x0 x1 y0 y1
     obtain⟨Hno,Hnx,Hbd,Hx,Hy,Hcn,Hcs,Hs,Hs',Hbr,Hrx1,Hry1,HC,Hcz,Hxz1,Hyz1⟩:=hd16 hno hnx hbd hx hy hcn hcs hs hs' hbr rx1 ry1 hC hcz hxz1 hyz1;clear hno hnx hbd hx hy hcn hcs hs hs' hbr rx1 ry1 hC hcz hxz1 hyz1
     go_upto_region 12 with (fail)
     have hSd:=Hcz.out _ (Below.drew Hbr.out)
     have hbdd:=Below.drew Hbr.out
     refine wp_region_held_drew (S:=fun W=>W.cell? ⟨g,3,none⟩=some (.slice (some ⟨b,off,none⟩) n3 c3)∧W.cell? ⟨g+1,3,none⟩=some (.slice (some ⟨b',off',none⟩) m3 e3)∧W.cell? ⟨b,off+k * 2,none⟩=some (.string s)∧W.cell? ⟨b,off+k * 2+1,none⟩=some (.slice xa1 xz1 xc1)∧W.cell? ⟨b',off' + k * 2,none⟩=some (.string s')∧W.cell? ⟨b',off' + k * 2+1,none⟩=some (.slice ya1 yz1 yc1)) (by kernel_rfl) (by exact hSd) (fun hHeld=>?_)
     generalize wr.drew=wd at hSd hbdd ⊢
     have Hbdd:=hd hbdd;clear hbdd
     refine wpAnyH_take (i:=0) (v:=?_) rfl (by kernel_rfl) (by kernel_rfl) (by kernel_rfl) (fun _ _ _ h=>h) (Or.inl ⟨by kernel_rfl,?_⟩) (by assumption) ?_
     rotate_left
     ·(intro w hSw;(try dsimp only at hSw);(try obtain⟨o0,o1,o2,o3,o4,o5⟩:=hSw);go_simp;try with_reducible rfl)
     try simp only[Act.put,lA,lB,lC]
     refine wpAnyH_take (i:=1) (v:=?_) rfl (by kernel_rfl) (by kernel_rfl) (by kernel_rfl) (fun _ _ _ h=>h) (Or.inl ⟨by kernel_rfl,?_⟩) (by assumption) ?_
     rotate_left
     ·(intro w hSw;(try dsimp only at hSw);(try obtain⟨o0,o1,o2,o3,o4,o5⟩:=hSw);go_simp;try with_reducible rfl)
     try simp only[Act.put,lA,lB,lC]
     refine wpAnyH_take (i:=2) (v:=?_) rfl (by kernel_rfl) (by kernel_rfl) (by kernel_rfl) (fun _ _ _ h=>h) (Or.inl ⟨by kernel_rfl,?_⟩) (by assumption) ?_
     rotate_left
     ·(intro w hSw;(try dsimp only at hSw);(try obtain⟨o0,o1,o2,o3,o4,o5⟩:=hSw);go_simp;try with_reducible rfl)
     try simp only[Act.put,lA,lB,lC]
     refine wpAnyH_take (i:=3) (v:=?_) rfl (by kernel_rfl) (by kernel_rfl) (by kernel_rfl) (fun _ _ _ h=>h) (Or.inl ⟨by kernel_rfl,?_⟩) (by assumption) ?_
     rotate_left
     ·(intro w hSw;(try dsimp only at hSw);(try obtain⟨o0,o1,o2,o3,o4,o5⟩:=hSw);go_simp;try with_reducible rfl)
     try simp only[Act.put,lA,lB,lC]
     refine wpAnyH_take (i:=4) (v:=?_) rfl (by kernel_rfl) (by kernel_rfl) (by kernel_rfl) (fun _ _ _ h=>h) (Or.inl ⟨by kernel_rfl,?_⟩) (by assumption) ?_
     rotate_left
     ·(intro w hSw;(try dsimp only at hSw);(try obtain⟨o0,o1,o2,o3,o4,o5⟩:=hSw);go_simp;try with_reducible rfl)
     try simp only[Act.put,lA,lB,lC]
     refine wpAnyH_take (i:=5) (v:=?_) rfl (by kernel_rfl) (by kernel_rfl) (by kernel_rfl) (fun _ _ _ h=>h) (Or.inl ⟨by kernel_rfl,?_⟩) (by assumption) ?_
     rotate_left
     ·(intro w hSw;(try dsimp only at hSw);(try obtain⟨o0,o1,o2,o3,o4,o5⟩:=hSw);go_simp;try with_reducible rfl)
     try simp only[Act.put,lA,lB,lC]
     refine wpAnyH_take (i:=6) (v:=?_) rfl (by kernel_rfl) (by kernel_rfl) (by kernel_rfl) (fun _ _ _ h=>h) (Or.inl ⟨by kernel_rfl,?_⟩) (by assumption) ?_
     rotate_left
     ·(intro w hSw;(try dsimp only at hSw);(try obtain⟨o0,o1,o2,o3,o4,o5⟩:=hSw);go_simp;try with_reducible rfl)
     try simp only[Act.put,lA,lB,lC]
     refine wpAnyH_take (i:=7) (v:=?_) rfl (by kernel_rfl) (by kernel_rfl) (by kernel_rfl) (fun _ _ _ h=>h) (Or.inl ⟨by kernel_rfl,?_⟩) (by assumption) ?_
     rotate_left
     ·(intro w hSw;(try dsimp only at hSw);(try obtain⟨o0,o1,o2,o3,o4,o5⟩:=hSw);go_simp;try with_reducible rfl)
     try simp only[Act.put,lA,lB,lC]
     refine wpAnyH_take (i:=8) (v:=?_) rfl (by kernel_rfl) (by kernel_rfl) (by kernel_rfl) (fun _ _ _ h=>h) (Or.inl ⟨by kernel_rfl,?_⟩) (by assumption) ?_
     rotate_left
     ·(intro w hSw;(try dsimp only at hSw);(try obtain⟨o0,o1,o2,o3,o4,o5⟩:=hSw);go_simp;try with_reducible rfl)
     try simp only[Act.put,lA,lB,lC]
     refine wpAnyH_take (i:=9) (v:=?_) rfl (by kernel_rfl) (by kernel_rfl) (by kernel_rfl) (fun _ _ _ h=>h) (Or.inl ⟨by kernel_rfl,?_⟩) (by assumption) ?_
     rotate_left
     ·(intro w hSw;(try dsimp only at hSw);(try obtain⟨o0,o1,o2,o3,o4,o5⟩:=hSw);go_simp;try with_reducible rfl)
     try simp only[Act.put,lA,lB,lC]
     refine wpAnyH_take (i:=10) (v:=?_) rfl (by kernel_rfl) (by kernel_rfl) (by kernel_rfl) (fun _ _ _ h=>h) (Or.inl ⟨by kernel_rfl,?_⟩) (by assumption) ?_
     rotate_left
     ·(intro w hSw;(try dsimp only at hSw);(try obtain⟨o0,o1,o2,o3,o4,o5⟩:=hSw);go_simp;try with_reducible rfl)
     try simp only[Act.put,lA,lB,lC]
     refine wpAnyH_take (i:=11) (v:=?_) rfl (by kernel_rfl) (by kernel_rfl) (by kernel_rfl) (fun _ _ _ h=>h) (Or.inl ⟨by kernel_rfl,?_⟩) (by assumption) ?_
     rotate_left
     ·(intro w hSw;(try dsimp only at hSw);(try obtain⟨o0,o1,o2,o3,o4,o5⟩:=hSw);go_simp;try with_reducible rfl)
     try simp only[Act.put,lA,lB,lC]
     refine wpAnyH_take (i:=12) (v:=?_) rfl (by kernel_rfl) (by kernel_rfl) (by kernel_rfl) (fun _ _ _ h=>h) (Or.inl ⟨by kernel_rfl,?_⟩) (by assumption) ?_
     rotate_left
     ·(intro w hSw;(try dsimp only at hSw);(try obtain⟨o0,o1,o2,o3,o4,o5⟩:=hSw);go_simp;try with_reducible rfl)
     try simp only[Act.put,lA,lB,lC]
     refine wpAnyH_take (i:=13) (v:=?_) rfl (by kernel_rfl) (by kernel_rfl) (by kernel_rfl) (fun _ _ _ h=>h) (Or.inl ⟨by kernel_rfl,?_⟩) (by assumption) ?_
     rotate_left
     ·(intro w hSw;(try dsimp only at hSw);(try obtain⟨o0,o1,o2,o3,o4,o5⟩:=hSw);go_simp;try with_reducible rfl)
     try simp only[Act.put,lA,lB,lC]
     cases cn with
     | false =>
      refine wpAnyH_take (i:=14) (v:=undef) rfl (by kernel_rfl) (by kernel_rfl) (by kernel_rfl) (fun _ _ _ h=>h) (Or.inr ⟨by kernel_rfl,rfl⟩) (by assumption) ?_
      simp only[Act.put,List.getElem_toArray,List.getElem_cons_succ,List.getElem_cons_zero,lA,lB,lC]
      refine wpAnyH_take (i:=15) (v:=undef) rfl (by kernel_rfl) (by kernel_rfl) (by kernel_rfl) (fun _ _ _ h=>h) (Or.inr ⟨by kernel_rfl,rfl⟩) (by assumption) ?_
      simp only[Act.put,List.getElem_toArray,List.getElem_cons_succ,List.getElem_cons_zero,lA,lB,lC]
      refine wpAnyH_take (i:=16) (v:=undef) rfl (by kernel_rfl) (by kernel_rfl) (by kernel_rfl) (fun _ _ _ h=>h) (Or.inr ⟨by kernel_rfl,rfl⟩) (by assumption) ?_
      simp only[Act.put,List.getElem_toArray,List.getElem_cons_succ,List.getElem_cons_zero,lA,lB,lC]
      refine wpAnyH_take (i:=17) (v:=undef) rfl (by kernel_rfl) (by kernel_rfl) (by kernel_rfl) (fun _ _ _ h=>h) (Or.inr ⟨by kernel_rfl,rfl⟩) (by assumption) ?_
      simp only[Act.put,List.getElem_toArray,List.getElem_cons_succ,List.getElem_cons_zero,lA,lB,lC]
      refine wpAnyH_take (i:=18) (v:=undef) rfl (by kernel_rfl) (by kernel_rfl) (by kernel_rfl) (fun _ _ _ h=>h) (Or.inr ⟨by kernel_rfl,rfl⟩) (by assumption) ?_
      simp only[Act.put,List.getElem_toArray,List.getElem_cons_succ,List.getElem_cons_zero,lA,lB,lC]
      refine wpAnyH_take (i:=19) (v:=undef) rfl (by kernel_rfl) (by kernel_rfl) (by kernel_rfl) (fun _ _ _ h=>h) (Or.inr ⟨by kernel_rfl,rfl⟩) (by assumption) ?_
      simp only[Act.put,List.getElem_toArray,List.getElem_cons_succ,List.getElem_cons_zero,lA,lB,lC]
      refine wpAnyH_take (i:=20) (v:=undef) rfl (by kernel_rfl) (by kernel_rfl) (by kernel_rfl) (fun _ _ _ h=>h) (Or.inr ⟨by kernel_rfl,rfl⟩) (by assumption) ?_
      simp only[Act.put,List.getElem_toArray,List.getElem_cons_succ,List.getElem_cons_zero,lA,lB,lC]
      refine wpAnyH_take (i:=21) (v:=undef) rfl (by kernel_rfl) (by kernel_rfl) (by kernel_rfl) (fun _ _ _ h=>h) (Or.inr ⟨by kernel_rfl,rfl⟩) (by assumption) ?_
      simp only[Act.put,List.getElem_toArray,List.getElem_cons_succ,List.getElem_cons_zero,lA,lB,lC]
      refine wpAnyH_take (i:=22) (v:=undef) rfl (by kernel_rfl) (by kernel_rfl) (by kernel_rfl) (fun _ _ _ h=>h) (Or.inr ⟨by kernel_rfl,rfl⟩) (by assumption) ?_
      simp only[Act.put,List.getElem_toArray,List.getElem_cons_succ,List.getElem_cons_zero,lA,lB,lC]
      refine wpAnyH_take (i:=23) (v:=undef) rfl (by kernel_rfl) (by kernel_rfl) (by kernel_rfl) (fun _ _ _ h=>h) (Or.inr ⟨by kernel_rfl,rfl⟩) (by assumption) ?_
      simp only[Act.put,List.getElem_toArray,List.getElem_cons_succ,List.getElem_cons_zero,lA,lB,lC]
      refine wpAnyH_take (i:=24) (v:=undef) rfl (by kernel_rfl) (by kernel_rfl) (by kernel_rfl) (fun _ _ _ h=>h) (Or.inr ⟨by kernel_rfl,rfl⟩) (by assumption) ?_
      simp only[Act.put,List.getElem_toArray,List.getElem_cons_succ,List.getElem_cons_zero,lA,lB,lC]
      refine wpAnyH_take (i:=25) (v:=undef) rfl (by kernel_rfl) (by kernel_rfl) (by kernel_rfl) (fun _ _ _ h=>h) (Or.inr ⟨by kernel_rfl,rfl⟩) (by assumption) ?_
      simp only[Act.put,List.getElem_toArray,List.getElem_cons_succ,List.getElem_cons_zero,lA,lB,lC]
      refine wpAnyH_take (i:=26) (v:=undef) rfl (by kernel_rfl) (by kernel_rfl) (by kernel_rfl) (fun _ _ _ h=>h) (Or.inr ⟨by kernel_rfl,rfl⟩) (by assumption) ?_
      simp only[Act.put,List.getElem_toArray,List.getElem_cons_succ,List.getElem_cons_zero,lA,lB,lC]
      refine wpAnyH_take (i:=27) (v:=undef) rfl (by kernel_rfl) (by kernel_rfl) (by kernel_rfl) (fun _ _ _ h=>h) (Or.inr ⟨by kernel_rfl,rfl⟩) (by assumption) ?_
      simp only[Act.put,List.getElem_toArray,List.getElem_cons_succ,List.getElem_cons_zero,lA,lB,lC]
      refine wpAnyH_take (i:=28) (v:=?_) rfl (by kernel_rfl) (by kernel_rfl) (by kernel_rfl) (fun _ _ _ h=>h) (Or.inl ⟨by kernel_rfl,?_⟩) (by assumption) ?_
      rotate_left
      ·(intro w hSw;(try dsimp only at hSw);(try obtain⟨o0,o1,o2,o3,o4,o5⟩:=hSw);go_simp;try with_reducible rfl)
      try simp only[Act.put,lA,lB,lC]
      refine wpAnyH_done (by kernel_rfl) ?_ _
      go_simp
      have hff:=Hbd.out fun h=>by have:=Hcn.out;rw[h.1] at this;simp at this
      have Hff:=hd hff;clear hff
      go_wp2_with fail
      go_ret
      exact⟨by rw[Hrr0.out,Hs2.out,Hff.out];rfl,Hb1.out.trans (Hbdd.out.mono Hb1.out.size)⟩
     | true =>
      refine wpAnyH_take (i:=14) (v:=?_) rfl (by kernel_rfl) (by kernel_rfl) (by kernel_rfl) (fun _ _ _ h=>h) (Or.inl ⟨by kernel_rfl,?_⟩) (by assumption) ?_
      rotate_left
      ·(intro w hSw;(try dsimp only at hSw);(try obtain⟨o0,o1,o2,o3,o4,o5⟩:=hSw);go_simp;try with_reducible rfl)
      try simp only[Act.put,lA,lB,lC]
      refine wpAnyH_take (i:=15) (v:=?_) rfl (by kernel_rfl) (by kernel_rfl) (by kernel_rfl) (fun _ _ _ h=>h) (Or.inl ⟨by kernel_rfl,?_⟩) (by assumption) ?_
      rotate_left
      ·(intro w hSw;(try dsimp only at hSw);(try obtain⟨o0,o1,o2,o3,o4,o5⟩:=hSw);go_simp;try with_reducible rfl)
      try simp only[Act.put,lA,lB,lC]
      refine wpAnyH_take (i:=16) (v:=?_) rfl (by kernel_rfl) (by kernel_rfl) (by kernel_rfl) (fun _ _ _ h=>h) (Or.inl ⟨by kernel_rfl,?_⟩) (by assumption) ?_
      rotate_left
      ·(intro w hSw;(try dsimp only at hSw);(try obtain⟨o0,o1,o2,o3,o4,o5⟩:=hSw);go_simp;try with_reducible rfl)
      try simp only[Act.put,lA,lB,lC]
      refine wpAnyH_take (i:=17) (v:=?_) rfl (by kernel_rfl) (by kernel_rfl) (by kernel_rfl) (fun _ _ _ h=>h) (Or.inl ⟨by kernel_rfl,?_⟩) (by assumption) ?_
      rotate_left
      ·(intro w hSw;(try dsimp only at hSw);(try obtain⟨o0,o1,o2,o3,o4,o5⟩:=hSw);go_simp;try with_reducible rfl)
      try simp only[Act.put,lA,lB,lC]
      refine wpAnyH_take (i:=18) (v:=?_) rfl (by kernel_rfl) (by kernel_rfl) (by kernel_rfl) (fun _ _ _ h=>h) (Or.inl ⟨by kernel_rfl,?_⟩) (by assumption) ?_
      rotate_left
      ·(intro w hSw;(try dsimp only at hSw);(try obtain⟨o0,o1,o2,o3,o4,o5⟩:=hSw);go_simp;try with_reducible rfl)
      try simp only[Act.put,lA,lB,lC]
      refine wpAnyH_take (i:=19) (v:=?_) rfl (by kernel_rfl) (by kernel_rfl) (by kernel_rfl) (fun _ _ _ h=>h) (Or.inl ⟨by kernel_rfl,?_⟩) (by assumption) ?_
      rotate_left
      ·(intro w hSw;(try dsimp only at hSw);(try obtain⟨o0,o1,o2,o3,o4,o5⟩:=hSw);go_simp;try with_reducible rfl)
      try simp only[Act.put,lA,lB,lC]
      refine wpAnyH_take (i:=20) (v:=?_) rfl (by kernel_rfl) (by kernel_rfl) (by kernel_rfl) (fun _ _ _ h=>h) (Or.inl ⟨by kernel_rfl,?_⟩) (by assumption) ?_
      rotate_left
      ·(intro w hSw;(try dsimp only at hSw);(try obtain⟨o0,o1,o2,o3,o4,o5⟩:=hSw);go_simp;try with_reducible rfl)
      try simp only[Act.put,lA,lB,lC]
      refine wpAnyH_take (i:=21) (v:=?_) rfl (by kernel_rfl) (by kernel_rfl) (by kernel_rfl) (fun _ _ _ h=>h) (Or.inl ⟨by kernel_rfl,?_⟩) (by assumption) ?_
      rotate_left
      ·(intro w hSw;(try dsimp only at hSw);(try obtain⟨o0,o1,o2,o3,o4,o5⟩:=hSw);go_simp;try with_reducible rfl)
      try simp only[Act.put,lA,lB,lC]
      refine wpAnyH_take (i:=22) (v:=?_) rfl (by kernel_rfl) (by kernel_rfl) (by kernel_rfl) (fun _ _ _ h=>h) (Or.inl ⟨by kernel_rfl,?_⟩) (by assumption) ?_
      rotate_left
      ·(intro w hSw;(try dsimp only at hSw);(try obtain⟨o0,o1,o2,o3,o4,o5⟩:=hSw);go_simp;try with_reducible rfl)
      try simp only[Act.put,lA,lB,lC]
      refine wpAnyH_take (i:=23) (v:=?_) rfl (by kernel_rfl) (by kernel_rfl) (by kernel_rfl) (fun _ _ _ h=>h) (Or.inl ⟨by kernel_rfl,?_⟩) (by assumption) ?_
      rotate_left
      ·(intro w hSw;(try dsimp only at hSw);(try obtain⟨o0,o1,o2,o3,o4,o5⟩:=hSw);go_simp;try with_reducible rfl)
      try simp only[Act.put,lA,lB,lC]
      refine wpAnyH_take (i:=24) (v:=?_) rfl (by kernel_rfl) (by kernel_rfl) (by kernel_rfl) (fun _ _ _ h=>h) (Or.inl ⟨by kernel_rfl,?_⟩) (by assumption) ?_
      rotate_left
      ·(intro w hSw;(try dsimp only at hSw);(try obtain⟨o0,o1,o2,o3,o4,o5⟩:=hSw);go_simp;try with_reducible rfl)
      try simp only[Act.put,lA,lB,lC]
      refine wpAnyH_take (i:=25) (v:=?_) rfl (by kernel_rfl) (by kernel_rfl) (by kernel_rfl) (fun _ _ _ h=>h) (Or.inl ⟨by kernel_rfl,?_⟩) (by assumption) ?_
      rotate_left
      ·(intro w hSw;(try dsimp only at hSw);(try obtain⟨o0,o1,o2,o3,o4,o5⟩:=hSw);go_simp;try with_reducible rfl)
      try simp only[Act.put,lA,lB,lC]
      refine wpAnyH_ready (rs:=[26]) (by kernel_rfl) (by simp) ?_
      refine AllReadyH.cons rfl (fun K hK=>?_) AllReadyH.nil
      go_simp
      refine (HC.out _ Hbdd.out).mono ?_
      rintro e wy ⟨rfl,qn,rfl⟩
      have hby:=zac Hbdd.out qn
      have hSy:=Hcz.out _ hby
      generalize wd.drewN qn=wy at hby hSy ⊢
      have Hby:=hd hby;clear hby
      go_wp2_with fail
      refine hK.out _ _ (by exact hSy) (fun hHeld=>?_)
      clear hK K
      try simp only[Act.put,lA,lB,lC]
      cases cs with
      | false =>
       refine wpAnyH_take (i:=27) (v:=?_) rfl (by kernel_rfl) (by kernel_rfl) (by kernel_rfl) (fun _ _ _ h=>h) (Or.inl ⟨by kernel_rfl,?_⟩) (by assumption) ?_
       rotate_left
       ·(intro w hSw;(try dsimp only at hSw);(try obtain⟨o0,o1,o2,o3,o4,o5⟩:=hSw);go_simp;try with_reducible rfl)
       try simp only[Act.put,lA,lB,lC]
       refine wpAnyH_take (i:=28) (v:=?_) rfl (by kernel_rfl) (by kernel_rfl) (by kernel_rfl) (fun _ _ _ h=>h) (Or.inl ⟨by kernel_rfl,?_⟩) (by assumption) ?_
       rotate_left
       ·(intro w hSw;(try dsimp only at hSw);(try obtain⟨o0,o1,o2,o3,o4,o5⟩:=hSw);go_simp;try with_reducible rfl)
       try simp only[Act.put,lA,lB,lC]
       refine wpAnyH_done (by kernel_rfl) ?_ _
       go_simp
       have hff:=Hbd.out fun h=>by have:=Hcs.out;rw[h.2] at this;simp at this
       have Hff:=hd hff;clear hff
       go_wp2_with fail
       go_ret
       exact⟨by rw[Hrr0.out,Hs2.out,Hff.out];rfl,Hb1.out.trans (Hby.out.mono Hb1.out.size)⟩
      | true =>
       refine wpAnyH_take (i:=27) (v:=?_) rfl (by kernel_rfl) (by kernel_rfl) (by kernel_rfl) (fun _ _ _ h=>h) (Or.inl ⟨by kernel_rfl,?_⟩) (by assumption) ?_
       rotate_left
       ·(intro w hSw;(try dsimp only at hSw);(try obtain⟨o0,o1,o2,o3,o4,o5⟩:=hSw);go_simp;try with_reducible rfl)
       try simp only[Act.put,lA,lB,lC]
       refine wpAnyH_take (i:=28) (v:=?_) rfl (by kernel_rfl) (by kernel_rfl) (by kernel_rfl) (fun _ _ _ h=>h) (Or.inl ⟨by kernel_rfl,?_⟩) (by assumption) ?_
       rotate_left
       ·(intro w hSw;(try dsimp only at hSw);(try obtain⟨o0,o1,o2,o3,o4,o5⟩:=hSw);go_simp;try with_reducible rfl)
       try simp only[Act.put,lA,lB,lC]
       refine wpAnyH_done (by kernel_rfl) ?_ _
       go_simp
       have hq:=Hnx.out (of_decide_eq_true Hcn.out.symm) (of_decide_eq_true Hcs.out.symm)
       have Hq:=hd hq;clear hq
       go_wp2_with fail
       go_roundw
       case rel=>exact⟨k+1,by omega,by go_num,Hq.out,Hby.out⟩
       case measure=>simp[RowKit.intOf];omega
    obtain rfl:n3=k:=by omega
    have hs3:decide (L3=M3)=true:=decide_eq_true (List.ext_getElem (by rw[← Hl3.out,← Hr3.out,Hh3.out]) (fun j h1 h2=>hno j h1 h2 (by have:=Hl3.out;omega)))
    have i4:=za2 (za0 hbr Hp0.out) 4
    have j4:=za2 (za0 hbr Hp1.out) 4
    simp only[List.getElem?_toArray,List.getElem?_cons_zero,List.getElem?_cons_succ] at i4 j4
    have hC4:=HT4.out _ hbr
    obtain⟨Hs3,Hno,Hbr,HC4⟩:=hd4 hs3 hno hbr hC4;clear hs3 hno hbr hC4
    go_wp2_with fail
    refine HC4.out.mono ?_
    rintro e wy ⟨rfl,qn,rfl⟩
    have hby:=zac Hbr.out qn
    generalize wr.drewN qn=wy at hby ⊢
    clear i4 j4
    cases q4 with
    | false =>
     have Hby:=hd hby;clear hby
     go_wp2_with fail
     go_ret
     exact⟨by rw[Hrr0.out,Hs2.out,Hs3.out];rfl,Hb1.out.trans (Hby.out.mono Hb1.out.size)⟩
    | true =>
     have i7:=za2 (za0 hby Hp0.out) 7
     have j7:=za2 (za0 hby Hp1.out) 7
     simp only[List.getElem?_toArray,List.getElem?_cons_zero,List.getElem?_cons_succ] at i7 j7
     have hC7:=HT7.out _ hby
     obtain⟨Hby,HC7⟩:=hd2 hby hC7;clear hby hC7
     go_wp2_with fail
     refine HC7.out.mono ?_
     rintro e wz ⟨rfl,qn,rfl⟩
     have hbz:=zac Hby.out qn
     generalize wy.drewN qn=wz at hbz ⊢
     clear i7 j7
     cases q7 with
     | false =>
      have Hbz:=hd hbz;clear hbz
      go_wp2_with fail
      go_ret
      exact⟨by rw[Hrr0.out,Hs2.out,Hs3.out];rfl,Hb1.out.trans (Hbz.out.mono Hb1.out.size)⟩
     | true =>
      have i0:=za2 (za0 hbz Hp0.out) 0
      have j0:=za2 (za0 hbz Hp1.out) 0
      have i1:=za2 (za0 hbz Hp0.out) 1
      have j1:=za2 (za0 hbz Hp1.out) 1
      have i2:=za2 (za0 hbz Hp0.out) 2
      have j2:=za2 (za0 hbz Hp1.out) 2
      have i3:=za2 (za0 hbz Hp0.out) 3
      have j3:=za2 (za0 hbz Hp1.out) 3
      have i4:=za2 (za0 hbz Hp0.out) 4
      have j4:=za2 (za0 hbz Hp1.out) 4
      have i5:=za2 (za0 hbz Hp0.out) 5
      have j5:=za2 (za0 hbz Hp1.out) 5
      have i6:=za2 (za0 hbz Hp0.out) 6
      have j6:=za2 (za0 hbz Hp1.out) 6
      have i7:=za2 (za0 hbz Hp0.out) 7
      have j7:=za2 (za0 hbz Hp1.out) 7
      simp only[List.getElem?_toArray,List.getElem?_cons_zero,List.getElem?_cons_succ] at i0 j0 i1 j1 i2 j2 i3 j3 i4 j4 i5 j5 i6 j6 i7 j7
      have hC5:=HT5.out _ hbz
      obtain⟨Hbz,HC5⟩:=hd2 hbz hC5;clear hbz hC5
      go_wp2_with fail
      refine HC5.out.mono ?_
      rintro e wv ⟨rfl,hbv⟩
      have hbw:=Hbz.out.trans (hbv.mono Hbz.out.size)
      clear i0 i1 i2 i3 i4 i5 i6 i7 j0 j1 j2 j3 j4 j5 j6 j7
      have hre:r=q5:=by rw[Hrr0.out,Hs2.out,Hs3.out];rfl
      obtain⟨Hbv,Hbw,Hre⟩:=hd3 hbv hbw hre;clear hbv hbw hre
      go_wp2_with fail
      go_ret
      exact⟨by rw[Hre.out];rfl,Hb1.out.trans (Hbw.out.mono Hb1.out.size)⟩
end

section
open Go.RowKit Go.Shelf Go.Lib VerN VarM
attribute [local go_sem ↓] Go.wp_at_zero Go.wp_at_succ
theorem zqh {l m:List PkgM} {k:Nat} (h1:k < l.length) (h2:k < m.length) (h:zfw l[k] m[k]=false):zfv l m=false:=decide_eq_false (zkh h1 h2 (of_decide_eq_false h))
theorem znw {l m:List PkgM} (hl:l.length=m.length) (h:∀ j (h1:j < l.length) (h2:j < m.length),zfw l[j] m[j]=true):zfv l m=true:=decide_eq_true (zhr hl fun j h1 h2=>of_decide_eq_true (h j h1 h2))
theorem znx {l m:List PkgM} (h:l.length≠m.length):zfv l m=false:=decide_eq_false (zl8 h)
theorem zqi {l m:List PrfM} (h:l.length≠m.length):zhz l m=false:=decide_eq_false (zl8 h)
theorem znv {w:World} {x y:RcpM} {a1 a2 d1 d2:Option Addr} {n1 n2 c1 c2 m1 m2 e1 e2:Nat} (hp:zhu w (.slice a1 n1 c1) (.slice a2 n2 c2) x) (hq:zhu w (.slice d1 m1 e1) (.slice d2 m2 e2) y) :
  Calls Tryz.prog 42 #[.agg #[.slice a1 n1 c1,.slice a2 n2 c2],.agg #[.slice d1 m1 e1,.slice d2 m2 e2],.bool false] w fun e w'=>e = .returned (.bool (zhk x y))∧Below w.heap.size w w':=by
 obtain⟨W1,hW1⟩ : ∃ W,W=(w.alloc (.cells #[.slice a1 n1 c1,.slice a2 n2 c2] 73)).alloc (.cells #[.slice d1 m1 e1,.slice d2 m2 e2] 73):=⟨_,rfl⟩
 obtain⟨g,hg⟩ : ∃ g,g=w.heap.size:=⟨_,rfl⟩
 have hb1:Below w.heap.size w W1:=by rw[hW1];exact (za1 _ _).alloc (by simp) _
 have hp0:W1.heap[g]? = some (.cells #[.slice a1 n1 c1,.slice a2 n2 c2] 73 (0,0)):=by rw[hW1,hg];exact za0 (za1 _ _) (zag rfl)
 have hp1:W1.heap[g+1]? = some (.cells #[.slice d1 m1 e1,.slice d2 m2 e2] 73 (0,0)):=by rw[hW1,hg];exact zag (by simp)
 have hpp:=hp.below hb1
 have hqq:=hq.below hb1
 obtain⟨hl1,hz1,hg1⟩:=pks_at hpp.1
 obtain⟨hr1,hy1,hf1⟩:=pks_at hqq.1
 obtain⟨hl2,hz2,hg2⟩:=pfs_at hpp.2
 obtain⟨hr2,hy2,hf2⟩:=pfs_at hqq.2
 obtain⟨r,hrr⟩ : ∃ r,r=zhk x y:=⟨_,rfl⟩
 rw[← hrr]
 unfold zhk at hrr
 obtain⟨L1,hL1⟩ : ∃ z,z=x.pk:=⟨_,rfl⟩
 obtain⟨M1,hM1⟩ : ∃ z,z=y.pk:=⟨_,rfl⟩
 obtain⟨L2,hL2⟩ : ∃ z,z=x.pf:=⟨_,rfl⟩
 obtain⟨M2,hM2⟩ : ∃ z,z=y.pf:=⟨_,rfl⟩
 rw[← hL1,← hM1,← hL2,← hM2] at hrr
 rw[← hL1] at hl1 hg1
 rw[← hM1] at hr1 hf1
 rw[← hL2] at hl2 hg2
 rw[← hM2] at hr2 hf2
 have x0:=za2 hp0 0
 have x1:=za2 hp0 1
 have y0:=za2 hp1 0
 have y1:=za2 hp1 1
 simp only[List.getElem?_toArray,List.getElem?_cons_zero,List.getElem?_cons_succ] at x0 x1 y0 y1
 by_cases hh1:n1=m1
 case neg =>
  have k1:((n1:Int) != (m1:Int))=true:=by simp;omega
  have hff:zfv L1 M1=false:=znx (by rw[← hl1,← hr1];exact hh1)
  obtain⟨Hb1,Hp0,Hp1,Hpp,Hqq,Hl1,Hg1,Hr1,Hf1,Hl2,Hg2,Hr2,Hf2,Hrr,Hp,Hq⟩:=hd16 hb1 hp0 hp1 hpp hqq hl1 hg1 hr1 hf1 hl2 hg2 hr2 hf2 hrr hp hq;obtain⟨HL1,HM1,HL2,HM2,Hff,Hh1⟩:=hd6 hL1 hM1 hL2 hM2 hff hh1;clear hb1 hp0 hp1 hpp hqq hl1 hg1 hr1 hf1 hl2 hg2 hr2 hf2 hrr hp hq hL1 hM1 hL2 hM2 hff hh1
  go_enter Tryz.func42,Tryz.ntmps42
  go_upto_region 1 with (fail)
  rw[← hW1,← hg]
  clear hW1 hg
  go_wp2_with fail
  go_ret
  exact⟨by rw[Hrr.out,Hff.out];rfl,Hb1.out⟩
 have k1:((n1:Int) != (m1:Int))=false:=by simp;omega
 by_cases hh2:n2=m2
 case neg =>
  have k2:((n2:Int) != (m2:Int))=true:=by simp;omega
  have hff:zhz L2 M2=false:=zqi (by rw[← hl2,← hr2];exact hh2)
  obtain⟨Hb1,Hp0,Hp1,Hpp,Hqq,Hl1,Hg1,Hr1,Hf1,Hl2,Hg2,Hr2,Hf2,Hrr,Hp,Hq⟩:=hd16 hb1 hp0 hp1 hpp hqq hl1 hg1 hr1 hf1 hl2 hg2 hr2 hf2 hrr hp hq;obtain⟨HL1,HM1,HL2,HM2,Hff,Hh1,Hh2⟩:=hd7 hL1 hM1 hL2 hM2 hff hh1 hh2;clear hb1 hp0 hp1 hpp hqq hl1 hg1 hr1 hf1 hl2 hg2 hr2 hf2 hrr hp hq hL1 hM1 hL2 hM2 hff hh1 hh2
  go_enter Tryz.func42,Tryz.ntmps42
  go_upto_region 1 with (fail)
  rw[← hW1,← hg]
  clear hW1 hg
  go_wp2_with fail
  go_ret
  exact⟨by rw[Hrr.out,Hff.out,Bool.and_false];rfl,Hb1.out⟩
 have k2:((n2:Int) != (m2:Int))=false:=by simp;omega
 obtain⟨Hb1,Hp0,Hp1,Hpp,Hqq,Hl1,Hg1,Hr1,Hf1,Hl2,Hg2,Hr2,Hf2,Hrr,Hp,Hq⟩:=hd16 hb1 hp0 hp1 hpp hqq hl1 hg1 hr1 hf1 hl2 hg2 hr2 hf2 hrr hp hq;obtain⟨HL1,HM1,HL2,HM2,Hh1,Hh2⟩:=hd6 hL1 hM1 hL2 hM2 hh1 hh2;clear hb1 hp0 hp1 hpp hqq hl1 hg1 hr1 hf1 hl2 hg2 hr2 hf2 hrr hp hq hL1 hM1 hL2 hM2 hh1 hh2
 go_enter Tryz.func42,Tryz.ntmps42
 go_upto_region 1 with (fail)
 rw[← hW1,← hg]
 clear hW1 hg
 go_wp2_with fail
 clear k1 k2 x0 x1 y0 y1
 go_loopw [30] (fun i wr=>∃ k:Nat,k≤n1∧i = .int .i64 k∧(∀ j (h1:j < L1.length) (h2:j < M1.length),j < k→zfw L1[j] M1[j]=true)∧Below W1.heap.size W1 wr) (fun i _=>n1 - (RowKit.intOf i).toNat)
 case atStart=>exact⟨0,Nat.zero_le _,rfl,fun _ _ _ h=>by omega,Below.refl _ _⟩
 case round =>
  obtain⟨k,hk,rfl,hno,hbr⟩:=hrel
  by_cases hlt:k < n1
  ·have hkl:k < L1.length:=by have:=Hl1.out;omega
   have hkm:k < M1.length:=by have:=Hr1.out;have:=Hh1.out;omega
   obtain⟨p,hx⟩ : ∃ x,x=L1[k]:=⟨_,rfl⟩
   obtain⟨q,hy⟩ : ∃ x,x=M1[k]:=⟨_,rfl⟩
   obtain⟨b,off,xb2,xc2,xb3,xc3,xb4,xc4,xb5,xc5,xb6,xc6,xb7,xc7,rfl,x0,x1,x2,x3,x4,x5,x6,x7,rx⟩:=Hg1.out k p (by rw[hx];exact List.getElem?_eq_getElem hkl)
   obtain⟨b',off',yb2,yc2,yb3,yc3,yb4,yc4,yb5,yc5,yb6,yc6,yb7,yc7,rfl,y0,y1,y2,y3,y4,y5,y6,y7,ry⟩:=Hf1.out k q (by rw[hy];exact List.getElem?_eq_getElem hkm)
   have hnx:zfw p q=true→∀ j (h1:j < L1.length) (h2:j < M1.length),j < k+1→zfw L1[j] M1[j]=true:=fun h j h1 h2 hjk=>by
    by_cases e:j=k
    ·subst e;rw[← hx,← hy];exact h
    exact hno j h1 h2 (by omega)
   have hbd:zfw p q=false→zfv L1 M1=false:=fun h=>zqh hkl hkm (by rw[← hx,← hy];exact h)
   have hC:=fun (W:World) (k:Below W1.heap.size W1 W) (nm nm2:ByteArray) (li li2:Int) (e1:p.name=nm) (e2:q.name=nm2)=>zj3 (li:=li) (li2:=li2) e1 e2 (rx.below k) (ry.below k)
   obtain⟨nm,hnm⟩ : ∃ z,z=p.name:=⟨_,rfl⟩
   obtain⟨nm2,hnm2⟩ : ∃ z,z=q.name:=⟨_,rfl⟩
   obtain⟨li,hli⟩ : ∃ z,z=p.line:=⟨_,rfl⟩
   obtain⟨li2,hli2⟩ : ∃ z,z=q.line:=⟨_,rfl⟩
   obtain⟨xz2,hxz2⟩ : ∃ z,z=p.rel.length:=⟨_,rfl⟩
   obtain⟨xz3,hxz3⟩ : ∃ z,z=p.vars.length:=⟨_,rfl⟩
   obtain⟨xz4,hxz4⟩ : ∃ z,z=p.prov.length:=⟨_,rfl⟩
   obtain⟨xz5,hxz5⟩ : ∃ z,z=p.dep.length:=⟨_,rfl⟩
   obtain⟨xz6,hxz6⟩ : ∃ z,z=p.conf.length:=⟨_,rfl⟩
   obtain⟨xz7,hxz7⟩ : ∃ z,z=p.files.length:=⟨_,rfl⟩
   rw[← hxz2,← hxz3,← hxz4,← hxz5,← hxz6,← hxz7] at rx
   simp only[← hxz2,← hxz3,← hxz4,← hxz5,← hxz6,← hxz7] at hC
   rw[← hxz2] at x2
   rw[← hxz3] at x3
   rw[← hxz4] at x4
   rw[← hxz5] at x5
   rw[← hxz6] at x6
   rw[← hxz7] at x7
   obtain⟨yz2,hyz2⟩ : ∃ z,z=q.rel.length:=⟨_,rfl⟩
   obtain⟨yz3,hyz3⟩ : ∃ z,z=q.vars.length:=⟨_,rfl⟩
   obtain⟨yz4,hyz4⟩ : ∃ z,z=q.prov.length:=⟨_,rfl⟩
   obtain⟨yz5,hyz5⟩ : ∃ z,z=q.dep.length:=⟨_,rfl⟩
   obtain⟨yz6,hyz6⟩ : ∃ z,z=q.conf.length:=⟨_,rfl⟩
   obtain⟨yz7,hyz7⟩ : ∃ z,z=q.files.length:=⟨_,rfl⟩
   rw[← hyz2,← hyz3,← hyz4,← hyz5,← hyz6,← hyz7] at ry
   simp only[← hyz2,← hyz3,← hyz4,← hyz5,← hyz6,← hyz7] at hC
   rw[← hyz2] at y2
   rw[← hyz3] at y3
   rw[← hyz4] at y4
   rw[← hyz5] at y5
   rw[← hyz6] at y6
   rw[← hyz7] at y7
   rw[← hnm] at x0
   rw[← hli] at x1
   rw[← hnm2] at y0
   rw[← hli2] at y1
   have hC:=fun (W:World) (k:Below W1.heap.size W1 W)=>hC W k nm nm2 li li2 hnm.symm hnm2.symm
   obtain⟨cs,hcs⟩ : ∃ c,c=zfw p q:=⟨_,rfl⟩
   rw[← hcs] at hC hnx hbd
   have hcz:∀ W,Below W1.heap.size W1 W→W.cell? ⟨g,0,none⟩=some (.slice (some ⟨b,off,none⟩) n1 c1)∧W.cell? ⟨g+1,0,none⟩=some (.slice (some ⟨b',off',none⟩) m1 e1)∧W.cell? ⟨b,off+k * 8,none⟩=some (.string nm)∧W.cell? ⟨b,off+k * 8+1,none⟩=some (.int .i64 li)∧W.cell? ⟨b,off+k * 8+2,none⟩=some (.slice xb2 xz2 xc2)∧W.cell? ⟨b,off+k * 8+3,none⟩=some (.slice xb3 xz3 xc3)∧W.cell? ⟨b,off+k * 8+4,none⟩=some (.slice xb4 xz4 xc4)∧W.cell? ⟨b,off+k * 8+5,none⟩=some (.slice xb5 xz5 xc5)∧W.cell? ⟨b,off+k * 8+6,none⟩=some (.slice xb6 xz6 xc6)∧W.cell? ⟨b,off+k * 8+7,none⟩=some (.slice xb7 xz7 xc7)∧W.cell? ⟨b',off' + k * 8,none⟩=some (.string nm2)∧W.cell? ⟨b',off' + k * 8+1,none⟩=some (.int .i64 li2)∧W.cell? ⟨b',off' + k * 8+2,none⟩=some (.slice yb2 yz2 yc2)∧W.cell? ⟨b',off' + k * 8+3,none⟩=some (.slice yb3 yz3 yc3)∧W.cell? ⟨b',off' + k * 8+4,none⟩=some (.slice yb4 yz4 yc4)∧W.cell? ⟨b',off' + k * 8+5,none⟩=some (.slice yb5 yz5 yc5)∧W.cell? ⟨b',off' + k * 8+6,none⟩=some (.slice yb6 yz6 yc6)∧W.cell? ⟨b',off' + k * 8+7,none⟩=some (.slice yb7 yz7 yc7):=fun W hb=>by
    have px:=za2 (za0 hb Hp0.out) 0
    have qx:=za2 (za0 hb Hp1.out) 0
    simp only[List.getElem?_toArray,List.getElem?_cons_zero,List.getElem?_cons_succ] at px qx
    exact⟨px,qx,cell_later hb x0,cell_later hb x1,cell_later hb x2,cell_later hb x3,cell_later hb x4,cell_later hb x5,cell_later hb x6,cell_later hb x7,cell_later hb y0,cell_later hb y1,cell_later hb y2,cell_later hb y3,cell_later hb y4,cell_later hb y5,cell_later hb y6,cell_later hb y7⟩
   have k5:(0:Int)≤(k:Int):=by omega
   have k6:(k:Int) < (n1:Int):=by omega
   have k7:(k:Int) < (m1:Int):=by have:=Hh1.out;omega
   clear x0 y0 x1 y1 x2 y2 x3 y3 x4 y4 x5 y5 x6 y6 x7 y7
   obtain⟨Hno,Hnx,Hbd,Hx,Hy,Hcs,Hbr,Hrx,Hry,HC,Hcz,Hnm,Hnm2,Hli,Hli2,Hxz2⟩:=hd16 hno hnx hbd hx hy hcs hbr rx ry hC hcz hnm hnm2 hli hli2 hxz2;obtain⟨Hyz2,Hxz3,Hyz3,Hxz4,Hyz4,Hxz5,Hyz5,Hxz6,Hyz6,Hxz7,Hyz7⟩:=hd11 hyz2 hxz3 hyz3 hxz4 hyz4 hxz5 hyz5 hxz6 hyz6 hxz7 hyz7;clear hno hnx hbd hx hy hcs hbr rx ry hC hcz hnm hnm2 hli hli2 hxz2 hyz2 hxz3 hyz3 hxz4 hyz4 hxz5 hyz5 hxz6 hyz6 hxz7 hyz7
   go_upto_region 6 with (fail)
   have hSd:=Hcz.out _ (Below.drew Hbr.out)
   have hbdd:=Below.drew Hbr.out
   refine wp_region_held_drew (S:=fun W=>W.cell? ⟨g,0,none⟩=some (.slice (some ⟨b,off,none⟩) n1 c1)∧W.cell? ⟨g+1,0,none⟩=some (.slice (some ⟨b',off',none⟩) m1 e1)∧W.cell? ⟨b,off+k * 8,none⟩=some (.string nm)∧W.cell? ⟨b,off+k * 8+1,none⟩=some (.int .i64 li)∧W.cell? ⟨b,off+k * 8+2,none⟩=some (.slice xb2 xz2 xc2)∧W.cell? ⟨b,off+k * 8+3,none⟩=some (.slice xb3 xz3 xc3)∧W.cell? ⟨b,off+k * 8+4,none⟩=some (.slice xb4 xz4 xc4)∧W.cell? ⟨b,off+k * 8+5,none⟩=some (.slice xb5 xz5 xc5)∧W.cell? ⟨b,off+k * 8+6,none⟩=some (.slice xb6 xz6 xc6)∧W.cell? ⟨b,off+k * 8+7,none⟩=some (.slice xb7 xz7 xc7)∧W.cell? ⟨b',off' + k * 8,none⟩=some (.string nm2)∧W.cell? ⟨b',off' + k * 8+1,none⟩=some (.int .i64 li2)∧W.cell? ⟨b',off' + k * 8+2,none⟩=some (.slice yb2 yz2 yc2)∧W.cell? ⟨b',off' + k * 8+3,none⟩=some (.slice yb3 yz3 yc3)∧W.cell? ⟨b',off' + k * 8+4,none⟩=some (.slice yb4 yz4 yc4)∧W.cell? ⟨b',off' + k * 8+5,none⟩=some (.slice yb5 yz5 yc5)∧W.cell? ⟨b',off' + k * 8+6,none⟩=some (.slice yb6 yz6 yc6)∧W.cell? ⟨b',off' + k * 8+7,none⟩=some (.slice yb7 yz7 yc7)) (by kernel_rfl) (by exact hSd) (fun hHeld=>?_)
   generalize wr.drew=wd at hSd hbdd ⊢
   have Hbdd:=hd hbdd;clear hbdd
   refine wpAnyH_take (i:=0) (v:=?_) rfl (by kernel_rfl) (by kernel_rfl) (by kernel_rfl) (fun _ _ _ h=>h) (Or.inl ⟨by kernel_rfl,?_⟩) (by assumption) ?_
   rotate_left
   ·(intro w hSw;(try dsimp only at hSw);(try obtain⟨o0,o1,o2,o3,o4,o5,o6,o7,o8,o9,o10,o11,o12,o13,o14,o15,o16,o17⟩:=hSw);go_simp;try with_reducible rfl)
   try simp only[Act.put,lA,lB,lC]
   refine wpAnyH_take (i:=1) (v:=?_) rfl (by kernel_rfl) (by kernel_rfl) (by kernel_rfl) (fun _ _ _ h=>h) (Or.inl ⟨by kernel_rfl,?_⟩) (by assumption) ?_
   rotate_left
   ·(intro w hSw;(try dsimp only at hSw);(try obtain⟨o0,o1,o2,o3,o4,o5,o6,o7,o8,o9,o10,o11,o12,o13,o14,o15,o16,o17⟩:=hSw);go_simp;try with_reducible rfl)
   try simp only[Act.put,lA,lB,lC]
   refine wpAnyH_take (i:=2) (v:=?_) rfl (by kernel_rfl) (by kernel_rfl) (by kernel_rfl) (fun _ _ _ h=>h) (Or.inl ⟨by kernel_rfl,?_⟩) (by assumption) ?_
   rotate_left
   ·(intro w hSw;(try dsimp only at hSw);(try obtain⟨o0,o1,o2,o3,o4,o5,o6,o7,o8,o9,o10,o11,o12,o13,o14,o15,o16,o17⟩:=hSw);go_simp;try with_reducible rfl)
   try simp only[Act.put,lA,lB,lC]
   refine wpAnyH_take (i:=3) (v:=?_) rfl (by kernel_rfl) (by kernel_rfl) (by kernel_rfl) (fun _ _ _ h=>h) (Or.inl ⟨by kernel_rfl,?_⟩) (by assumption) ?_
   rotate_left
   ·(intro w hSw;(try dsimp only at hSw);(try obtain⟨o0,o1,o2,o3,o4,o5,o6,o7,o8,o9,o10,o11,o12,o13,o14,o15,o16,o17⟩:=hSw);go_simp;try with_reducible rfl)
   try simp only[Act.put,lA,lB,lC]
   refine wpAnyH_take (i:=4) (v:=?_) rfl (by kernel_rfl) (by kernel_rfl) (by kernel_rfl) (fun _ _ _ h=>h) (Or.inl ⟨by kernel_rfl,?_⟩) (by assumption) ?_
   rotate_left
   ·(intro w hSw;(try dsimp only at hSw);(try obtain⟨o0,o1,o2,o3,o4,o5,o6,o7,o8,o9,o10,o11,o12,o13,o14,o15,o16,o17⟩:=hSw);go_simp;try with_reducible rfl)
   try simp only[Act.put,lA,lB,lC]
   refine wpAnyH_take (i:=5) (v:=?_) rfl (by kernel_rfl) (by kernel_rfl) (by kernel_rfl) (fun _ _ _ h=>h) (Or.inl ⟨by kernel_rfl,?_⟩) (by assumption) ?_
   rotate_left
   ·(intro w hSw;(try dsimp only at hSw);(try obtain⟨o0,o1,o2,o3,o4,o5,o6,o7,o8,o9,o10,o11,o12,o13,o14,o15,o16,o17⟩:=hSw);go_simp;try with_reducible rfl)
   try simp only[Act.put,lA,lB,lC]
   refine wpAnyH_take (i:=6) (v:=?_) rfl (by kernel_rfl) (by kernel_rfl) (by kernel_rfl) (fun _ _ _ h=>h) (Or.inl ⟨by kernel_rfl,?_⟩) (by assumption) ?_
   rotate_left
   ·(intro w hSw;(try dsimp only at hSw);(try obtain⟨o0,o1,o2,o3,o4,o5,o6,o7,o8,o9,o10,o11,o12,o13,o14,o15,o16,o17⟩:=hSw);go_simp;try with_reducible rfl)
   try simp only[Act.put,lA,lB,lC]
   refine wpAnyH_take (i:=7) (v:=?_) rfl (by kernel_rfl) (by kernel_rfl) (by kernel_rfl) (fun _ _ _ h=>h) (Or.inl ⟨by kernel_rfl,?_⟩) (by assumption) ?_
   rotate_left
   ·(intro w hSw;(try dsimp only at hSw);(try obtain⟨o0,o1,o2,o3,o4,o5,o6,o7,o8,o9,o10,o11,o12,o13,o14,o15,o16,o17⟩:=hSw);go_simp;try with_reducible rfl)
   try simp only[Act.put,lA,lB,lC]
   refine wpAnyH_take (i:=8) (v:=?_) rfl (by kernel_rfl) (by kernel_rfl) (by kernel_rfl) (fun _ _ _ h=>h) (Or.inl ⟨by kernel_rfl,?_⟩) (by assumption) ?_
   rotate_left
   ·(intro w hSw;(try dsimp only at hSw);(try obtain⟨o0,o1,o2,o3,o4,o5,o6,o7,o8,o9,o10,o11,o12,o13,o14,o15,o16,o17⟩:=hSw);go_simp;try with_reducible rfl)
   try simp only[Act.put,lA,lB,lC]
   refine wpAnyH_take (i:=9) (v:=?_) rfl (by kernel_rfl) (by kernel_rfl) (by kernel_rfl) (fun _ _ _ h=>h) (Or.inl ⟨by kernel_rfl,?_⟩) (by assumption) ?_
   rotate_left
   ·(intro w hSw;(try dsimp only at hSw);(try obtain⟨o0,o1,o2,o3,o4,o5,o6,o7,o8,o9,o10,o11,o12,o13,o14,o15,o16,o17⟩:=hSw);go_simp;try with_reducible rfl)
   try simp only[Act.put,lA,lB,lC]
   refine wpAnyH_take (i:=10) (v:=?_) rfl (by kernel_rfl) (by kernel_rfl) (by kernel_rfl) (fun _ _ _ h=>h) (Or.inl ⟨by kernel_rfl,?_⟩) (by assumption) ?_
   rotate_left
   ·(intro w hSw;(try dsimp only at hSw);(try obtain⟨o0,o1,o2,o3,o4,o5,o6,o7,o8,o9,o10,o11,o12,o13,o14,o15,o16,o17⟩:=hSw);go_simp;try with_reducible rfl)
   try simp only[Act.put,lA,lB,lC]
   refine wpAnyH_ready (rs:=[11]) (by kernel_rfl) (by simp) ?_
   refine AllReadyH.cons rfl (fun K hK=>?_) AllReadyH.nil
   go_simp
   refine (HC.out _ Hbdd.out).mono ?_
   rintro e wy ⟨rfl,hbyy⟩
   have hby:=Hbdd.out.trans (hbyy.mono Hbdd.out.size)
   have hSy:=Hcz.out _ hby
   obtain⟨Hby,Hbyy⟩:=hd2 hby hbyy;clear hby hbyy
   go_wp2_with fail
   refine hK.out _ _ (by exact hSy) (fun hHeld=>?_)
   clear hK K
   try simp only[Act.put,lA,lB,lC]
   cases cs with
   | false =>
    refine wpAnyH_take (i:=12) (v:=?_) rfl (by kernel_rfl) (by kernel_rfl) (by kernel_rfl) (fun _ _ _ h=>h) (Or.inl ⟨by kernel_rfl,?_⟩) (by assumption) ?_
    rotate_left
    ·(intro w hSw;(try dsimp only at hSw);(try obtain⟨o0,o1,o2,o3,o4,o5,o6,o7,o8,o9,o10,o11,o12,o13,o14,o15,o16,o17⟩:=hSw);go_simp;try with_reducible rfl)
    try simp only[Act.put,lA,lB,lC]
    refine wpAnyH_done (by kernel_rfl) ?_ _
    go_simp
    have hff:=Hbd.out rfl
    have Hff:=hd hff;clear hff
    go_wp2_with fail
    go_ret
    exact⟨by rw[Hrr.out,Hff.out];rfl,Hb1.out.trans (Hby.out.mono Hb1.out.size)⟩
   | true =>
    refine wpAnyH_take (i:=12) (v:=?_) rfl (by kernel_rfl) (by kernel_rfl) (by kernel_rfl) (fun _ _ _ h=>h) (Or.inl ⟨by kernel_rfl,?_⟩) (by assumption) ?_
    rotate_left
    ·(intro w hSw;(try dsimp only at hSw);(try obtain⟨o0,o1,o2,o3,o4,o5,o6,o7,o8,o9,o10,o11,o12,o13,o14,o15,o16,o17⟩:=hSw);go_simp;try with_reducible rfl)
    try simp only[Act.put,lA,lB,lC]
    refine wpAnyH_done (by kernel_rfl) ?_ _
    go_simp
    have hq:=Hnx.out rfl
    have Hq:=hd hq;clear hq
    go_wp2_with fail
    go_roundw
    case rel=>exact⟨k+1,by omega,by go_num,Hq.out,Hby.out⟩
    case measure=>simp[RowKit.intOf];omega
  obtain rfl:n1=k:=by omega
  have hs1:zfv L1 M1=true:=znw (by rw[← Hl1.out,← Hr1.out,Hh1.out]) (fun j h1 h2=>hno j h1 h2 (by have:=Hl1.out;omega))
  have px:=za2 (za0 hbr Hp0.out) 1
  simp only[List.getElem?_toArray,List.getElem?_cons_zero,List.getElem?_cons_succ] at px
  obtain⟨Hs1,Hno,Hbr⟩:=hd3 hs1 hno hbr;clear hs1 hno hbr
  go_wp2_with fail
  clear px
  go_loopw [50] (fun i wr=>∃ k:Nat,k≤n2∧i = .int .i64 k∧(∀ j (h1:j < L2.length) (h2:j < M2.length),j < k→zfo L2[j]=zfo M2[j])∧Below W1.heap.size W1 wr) (fun i _=>n2 - (RowKit.intOf i).toNat)
  case atStart=>exact⟨0,Nat.zero_le _,rfl,fun _ _ _ h=>by omega,Hbr.out⟩
  case round =>
   obtain⟨k,hk,rfl,hno,hbr⟩:=hrel
   have px:=za2 (za0 hbr Hp0.out) 1
   simp only[List.getElem?_toArray,List.getElem?_cons_zero,List.getElem?_cons_succ] at px
   by_cases hlt:k < n2
   ·have hkl:k < L2.length:=by have:=Hl2.out;omega
    have hkm:k < M2.length:=by have:=Hr2.out;have:=Hh2.out;omega
    obtain⟨x,hx⟩ : ∃ x,x=L2[k]:=⟨_,rfl⟩
    obtain⟨y,hy⟩ : ∃ x,x=M2[k]:=⟨_,rfl⟩
    obtain⟨b,off,xa1,xc1,rfl,x0,x1,x2,rx1⟩:=Hg2.out k x (by rw[hx];exact List.getElem?_eq_getElem hkl)
    obtain⟨b',off',ya1,yc1,rfl,y0,y1,y2,ry1⟩:=Hf2.out k y (by rw[hy];exact List.getElem?_eq_getElem hkm)
    have hnx:x.1=y.1→x.2.1=y.2.1→∀ j (h1:j < L2.length) (h2:j < M2.length),j < k+1→zfo L2[j]=zfo M2[j]:=fun h h' j h1 h2 hjk=>by
     by_cases e:j=k
     ·subst e
      rw[← hx,← hy]
      unfold zfo
      rw[h,h']
     exact hno j h1 h2 (by omega)
    have hbd:¬ (x.1=y.1∧x.2.1=y.2.1)→zhz L2 M2=false:=fun h=>decide_eq_false (zkh hkl hkm (by
     rw[← hx,← hy]
     unfold zfo
     intro e
     simp only[Prod.mk.injEq,and_true] at e
     exact h e))
    have hC:=fun (W:World) (k:Below W1.heap.size W1 W)=>zfa (zbc rx1 k) (zbc ry1 k)
    obtain⟨xn1,hxn1⟩ : ∃ z,z=x.1:=⟨_,rfl⟩
    obtain⟨xz1,hxz1⟩ : ∃ z,z=x.2.1.length:=⟨_,rfl⟩
    obtain⟨xln,hxln⟩ : ∃ z,z=x.2.2:=⟨_,rfl⟩
    rw[← hxn1] at x0 hnx hbd
    rw[← hxz1] at x1 hC rx1
    rw[← hxln] at x2
    obtain⟨yn1,hyn1⟩ : ∃ z,z=y.1:=⟨_,rfl⟩
    obtain⟨yz1,hyz1⟩ : ∃ z,z=y.2.1.length:=⟨_,rfl⟩
    obtain⟨yln,hyln⟩ : ∃ z,z=y.2.2:=⟨_,rfl⟩
    rw[← hyn1] at y0 hnx hbd
    rw[← hyz1] at y1 hC ry1
    rw[← hyln] at y2
    obtain⟨cs,hcs⟩ : ∃ c,c=decide (x.2.1=y.2.1):=⟨_,rfl⟩
    rw[← hcs] at hC
    have hzz:=Txt.eq_dec xn1 yn1
    obtain⟨cn,hcn⟩ : ∃ c,c=decide (xn1=yn1):=⟨_,rfl⟩
    rw[← hcn] at hzz
    have x0:=cell_later hbr x0
    have x1:=cell_later hbr x1
    have x2:=cell_later hbr x2
    obtain⟨wa,hwa⟩ : ∃ W,W=wr.alloc (.cells #[.string xn1,.slice xa1 xz1 xc1,.int .i64 xln] 125):=⟨_,rfl⟩
    obtain⟨ba,hba⟩ : ∃ z,z=wr.heap.size:=⟨_,rfl⟩
    have pa:wa.heap[ba]? = some (.cells #[.string xn1,.slice xa1 xz1 xc1,.int .i64 xln] 125 (0,0)):=by rw[hwa,hba];exact heap_alloc_new _ _
    have hb1':Below wr.heap.size wr wa:=by rw[hwa];exact za1 _ _
    have hbr1:=hbr.trans (hb1'.mono hbr.size)
    have qx1:=za2 (za0 hbr1 Hp1.out) 1
    simp only[List.getElem?_toArray,List.getElem?_cons_zero,List.getElem?_cons_succ] at qx1
    have y0:=cell_later hbr1 y0
    have y1:=cell_later hbr1 y1
    have y2:=cell_later hbr1 y2
    obtain⟨wb,hwb⟩ : ∃ W,W=wa.alloc (.cells #[.string yn1,.slice ya1 yz1 yc1,.int .i64 yln] 125):=⟨_,rfl⟩
    obtain⟨bb,hbb⟩ : ∃ z,z=wa.heap.size:=⟨_,rfl⟩
    have pb:wb.heap[bb]? = some (.cells #[.string yn1,.slice ya1 yz1 yc1,.int .i64 yln] 125 (0,0)):=by rw[hwb,hbb];exact heap_alloc_new _ _
    have hb2:Below wa.heap.size wa wb:=by rw[hwb];exact za1 _ _
    have hbr2:=hbr1.trans (hb2.mono hbr1.size)
    have pa2:=za0 hb2 pa
    have hC1:=hC _ hbr2
    have k5:(0:Int)≤(k:Int):=by omega
    have k6:(k:Int) < (n2:Int):=by omega
    have k7:(k:Int) < (m2:Int):=by have:=Hh2.out;omega
    have w0:=za2 pa2 0
    have w1:=za2 pa2 1
    have v0:=za2 pb 0
    have v1:=za2 pb 1
    simp only[List.getElem?_toArray,List.getElem?_cons_zero,List.getElem?_cons_succ] at w0 w1 v0 v1
    obtain⟨Hno,Hnx,Hbd,Hx,Hy,Hcs,Hcn,HC,HC1,Hpa,Hpb,Hpa2,Hb1',Hb2,Hbr,Hbr1⟩:=hd16 hno hnx hbd hx hy hcs hcn hC hC1 pa pb pa2 hb1' hb2 hbr hbr1;obtain⟨Hbr2,Hrx1,Hry1,Hxn1,Hxz1,Hxln,Hyn1,Hyz1,Hyln⟩:=hd9 hbr2 rx1 ry1 hxn1 hxz1 hxln hyn1 hyz1 hyln;clear hno hnx hbd hx hy hcs hcn hC hC1 pa pb pa2 hb1' hb2 hbr hbr1 hbr2 rx1 ry1 hxn1 hxz1 hxln hyn1 hyz1 hyln
    go_upto_region 13 with (fail)
    rw[← hwa,← hba]
    clear hwa hba x0 x1 x2 px
    go_upto_region 14 with (fail)
    rw[← hwb,← hbb]
    clear hwb hbb y0 y1 y2 qx1
    cases cn with
    | false =>
     have hff:zhz L2 M2=false:=Hbd.out fun h=>by have:=Hcn.out;rw[h.1] at this;simp at this
     have Hff:=hd hff;clear hff
     go_wp2_with fail
     go_ret
     exact⟨by rw[Hrr.out,Hff.out,Bool.and_false];rfl,Hb1.out.trans (Hbr2.out.mono Hb1.out.size)⟩
    | true =>
     go_wp2_with fail
     refine HC1.out.mono ?_
     rintro e' wy ⟨rfl,qn,rfl⟩
     have hby:=zac Hbr2.out qn
     generalize wb.drewN qn=wy at hby ⊢
     clear w0 w1 v0 v1
     cases cs with
     | false =>
      have hff:zhz L2 M2=false:=Hbd.out fun h=>by have:=Hcs.out;rw[h.2] at this;simp at this
      obtain⟨Hff,Hby⟩:=hd2 hff hby;clear hff hby
      go_wp2_with fail
      go_ret
      exact⟨by rw[Hrr.out,Hff.out,Bool.and_false];rfl,Hb1.out.trans (Hby.out.mono Hb1.out.size)⟩
     | true =>
      have hq:=Hnx.out (of_decide_eq_true Hcn.out.symm) (of_decide_eq_true Hcs.out.symm)
      obtain⟨Hq,Hby⟩:=hd2 hq hby;clear hq hby
      go_wp2_with fail
      go_roundw
      case rel=>exact⟨k+1,by omega,by go_num,Hq.out,Hby.out⟩
      case measure=>simp[RowKit.intOf];omega
   obtain rfl:n2=k:=by omega
   have hs2:zhz L2 M2=true:=decide_eq_true (zhr (by rw[← Hl2.out,← Hr2.out,Hh2.out]) (fun j h1 h2=>hno j h1 h2 (by have:=Hl2.out;omega)))
   clear px
   obtain⟨Hs2,Hno,Hbr⟩:=hd3 hs2 hno hbr;clear hs2 hno hbr
   go_wp2_with fail
   go_ret
   exact⟨by rw[Hrr.out,Hs1.out,Hs2.out];rfl,Hb1.out.trans (Hbr.out.mono Hb1.out.size)⟩
end
end Go.Proofs.YteailgjiifdgcaaGreatDoor
