/- Walks and plain facts. Texts merged: RcB, EqT, EqS, RqA, RqC, SpsV, RqB, RqD, SetSame, SmS, ShrE, PnE, PnA, EqC, EqfVar, EqfDep, EqfConf, EqfPref. Condition: none beyond what each says. -/
import Derived.Test.YteailgjiifdgcaaGreatDoorPrintSameAll6
set_option linter.unusedVariables false
set_option linter.unusedSimpArgs false
set_option maxRecDepth 10000
set_option maxHeartbeats 4000000
namespace Go.Proofs.YteailgjiifdgcaaGreatDoor
section
open Go.RowKit Go.Shelf Go.Lib VerN VarM
theorem zg4 {α β:Type} {f:α→β} {l m:List α} (hl:l.length=m.length) (h:∀ j (h1:j < l.length) (h2:j < m.length),f l[j]=f m[j]):l.map f=m.map f :=
 List.ext_getElem (by simp[hl]) fun j h1 h2=>by
  rw[List.getElem_map,List.getElem_map]
  exact h j (by simpa using h1) (by simpa using h2)
theorem zjx {α β:Type} {f:α→β} {l m:List α} (h:l.length≠m.length):l.map f≠m.map f:=fun e=>h (by have:=congrArg List.length e;simpa using this)
theorem ziy {α β:Type} {f:α→β} {l m:List α} {k:Nat} (h1:k < l.length) (h2:k < m.length) (h:f l[k]≠f m[k]):l.map f≠m.map f:=fun e=>h (by
 have e1:(l.map f)[k]'(by simpa using h1)=f l[k]:=List.getElem_map _
 have e2:(m.map f)[k]'(by simpa using h2)=f m[k]:=List.getElem_map _
 rw[← e1,← e2]
 simp only[e])
def tupP (p:PkgM):ByteArray × List RlsM × List zik × List ByteArray × List DepM × List DepM × List ByteArray:=(p.name,p.rel,p.vars,p.prov,p.dep.map zc4,p.conf.map zc4,p.files)
theorem znp {p q:PkgM}:bareP p=bareP q↔tupP p=tupP q:=by
 unfold bareP tupP
 simp only[PkgM.mk.injEq,Prod.mk.injEq,true_and]
theorem bare_iff {x y:RcpM}:bare x=bare y↔x.pk.map tupP=y.pk.map tupP∧x.pf.map zg7=y.pf.map zg7:=by
 unfold bare
 rw[RcpM.mk.injEq]
 constructor
 ·rintro⟨h1,h2⟩
  have hl:x.pk.length=y.pk.length:=by have:=congrArg List.length h1;simpa using this
  refine⟨zg4 hl fun j k1 k2=>znp.1 (Classical.byContradiction fun hne=>ziy k1 k2 hne h1),h2⟩
 rintro⟨h1,h2⟩
 have hl:x.pk.length=y.pk.length:=by have:=congrArg List.length h1;simpa using this
 refine⟨zg4 hl fun j k1 k2=>znp.2 (Classical.byContradiction fun hne=>ziy k1 k2 hne h1),h2⟩
instance decDepM:DecidableEq DepM:=@instDecidableEqProd Spc3 (Spc3 × Int) inferInstance (@instDecidableEqProd Spc3 Int inferInstance inferInstance)
instance decTupP:DecidableEq (ByteArray × List RlsM × List zik × List ByteArray × List DepM × List DepM × List ByteArray) :=
 @instDecidableEqProd _ _ inferInstance (@instDecidableEqProd _ _ inferInstance (@instDecidableEqProd _ _ inferInstance (@instDecidableEqProd _ _ inferInstance (@instDecidableEqProd _ _ inferInstance (@instDecidableEqProd _ _ inferInstance inferInstance)))))
def zb5 (l m:List DepM):Bool:=decide (l.map zc4=m.map zc4)
def zcy (p q:PkgM):Bool:=decide (tupP p=tupP q)
def zeb (l m:List PrfM):Bool:=decide (l.map zg7=m.map zg7)
def zea (l m:List PkgM):Bool:=decide (l.map tupP=m.map tupP)
def zds (x y:RcpM):Bool:=zea x.pk y.pk && zeb x.pf y.pf
theorem zmg {x y:RcpM}:zds x y=true↔bare x=bare y:=by
 unfold zds zea zeb
 rw[bare_iff]
 simp
theorem zl1 (p q:PkgM):zcy p q=(decide (p.name=q.name) && (decide (p.rel=q.rel) && (decide (p.vars=q.vars) && (decide (p.prov=q.prov) && (decide (p.files=q.files) && (zb5 p.dep q.dep && zb5 p.conf q.conf)))))):=by
 unfold zcy zb5 tupP
 rw[Bool.eq_iff_iff]
 simp only[Prod.mk.injEq,decide_eq_true_eq,Bool.and_eq_true]
 constructor
 ·rintro⟨h1,h2,h3,h4,h5,h6,h7⟩
  exact⟨h1,h2,h3,h4,h7,h5,h6⟩
 rintro⟨h1,h2,h3,h4,h7,h5,h6⟩
 exact⟨h1,h2,h3,h4,h5,h6,h7⟩
theorem zl0 (x:RcpM):zds x x=true:=zmg.2 rfl
theorem zgv {w:World} {v:Value} {l:List RlsM} (h:zad 2 zga w [v] l):∃ a cap,v = .slice a l.length cap∧l.length≤9223372036854775807∧∀ i x,l[i]? = some x→∃ b off,a=some ⟨b,off,none⟩∧w.cell? ⟨b,off+i * 2,none⟩=some (.string x.1)∧w.cell? ⟨b,off+i * 2+1,none⟩=some (.bool x.2):=by
 obtain⟨a,cap,hv,hcap,hmax,hel⟩:=h
 simp only[List.cons.injEq,and_true] at hv
 unfold maxLen at hmax
 refine⟨a,cap,hv,by omega,fun i x hi=>?_⟩
 obtain⟨b,off,ecs,h1,h2,h3,h4⟩:=hel i x hi
 have h4':ecs = [.string x.1,.bool x.2]:=h4
 subst h4'
 exact⟨b,off,h1,by simpa using h3 0 _ rfl,by simpa using h3 1 _ rfl⟩
theorem zin {w:World} {v:Value} {l:List zik} (h:zad 2 zfy w [v] l):∃ a cap,v = .slice a l.length cap∧l.length≤9223372036854775807∧∀ i x,l[i]? = some x→∃ b off b1 c1,a=some ⟨b,off,none⟩∧w.cell? ⟨b,off+i * 2,none⟩=some (.string x.1)∧w.cell? ⟨b,off+i * 2+1,none⟩=some (.slice b1 x.2.length c1)∧RTs w [.slice b1 x.2.length c1] x.2:=by
 obtain⟨a,cap,hv,hcap,hmax,hel⟩:=h
 simp only[List.cons.injEq,and_true] at hv
 unfold maxLen at hmax
 refine⟨a,cap,hv,by omega,fun i x hi=>?_⟩
 obtain⟨b,off,ecs,h1,h2,h3,v1,h4,h5⟩:=hel i x hi
 obtain⟨a1,c1,rfl,-,-⟩:=zaw h5
 subst h4
 exact⟨b,off,a1,c1,h1,by simpa using h3 0 _ rfl,by simpa using h3 1 _ rfl,h5⟩
theorem pfs_open {w:World} {v:Value} {l:List PrfM} (h:zad 3 RPfM w [v] l):∃ a cap,v = .slice a l.length cap∧l.length≤9223372036854775807∧∀ i x,l[i]? = some x→∃ b off b1 c1,a=some ⟨b,off,none⟩∧w.cell? ⟨b,off+i * 3,none⟩=some (.string x.1)∧w.cell? ⟨b,off+i * 3+1,none⟩=some (.slice b1 x.2.1.length c1)∧w.cell? ⟨b,off+i * 3+2,none⟩=some (.int .i64 x.2.2)∧RTs w [.slice b1 x.2.1.length c1] x.2.1:=by
 obtain⟨a,cap,hv,hcap,hmax,hel⟩:=h
 simp only[List.cons.injEq,and_true] at hv
 unfold maxLen at hmax
 refine⟨a,cap,hv,by omega,fun i x hi=>?_⟩
 obtain⟨b,off,ecs,h1,h2,h3,v1,h4,h5⟩:=hel i x hi
 obtain⟨a1,c1,rfl,-,-⟩:=zaw h5
 subst h4
 exact⟨b,off,a1,c1,h1,by simpa using h3 0 _ rfl,by simpa using h3 1 _ rfl,by simpa using h3 2 _ rfl,h5⟩
theorem zb3 {w:World} {a b c:Value} {s:Spc3} (h:zqg w a b c s):∃ b1 c1 b2 c2,a = .string s.1∧b = .slice b1 s.2.1.length c1∧c = .slice b2 s.2.2.length c2∧RSps w [.slice b1 s.2.1.length c1] s.2.1∧zbm w [.slice b2 s.2.2.length c2] s.2.2:=by
 obtain⟨h1,h2,h3⟩:=h
 obtain⟨a1,c1,rfl,-,-⟩:=zb8 h2
 obtain⟨a2,c2,rfl,-,-⟩:=zbc h3
 exact⟨a1,c1,a2,c2,h1,rfl,rfl,h2,h3⟩
theorem zhx {w:World} {v:Value} {l:List DepM} (h:zad 7 zcq w [v] l):∃ a cap,v = .slice a l.length cap∧l.length≤9223372036854775807∧∀ i x,l[i]? = some x→∃ b off b1 c1 b2 c2 b3 c3 b4 c4,a=some ⟨b,off,none⟩ ∧
  w.cell? ⟨b,off+i * 7,none⟩=some (.string x.1.1)∧w.cell? ⟨b,off+i * 7+1,none⟩=some (.slice b1 x.1.2.1.length c1)∧w.cell? ⟨b,off+i * 7+2,none⟩=some (.slice b2 x.1.2.2.length c2) ∧
  w.cell? ⟨b,off+i * 7+3,none⟩=some (.string x.2.1.1)∧w.cell? ⟨b,off+i * 7+4,none⟩=some (.slice b3 x.2.1.2.1.length c3)∧w.cell? ⟨b,off+i * 7+5,none⟩=some (.slice b4 x.2.1.2.2.length c4)∧w.cell? ⟨b,off+i * 7+6,none⟩=some (.int .i64 x.2.2) ∧
  (RSps w [.slice b1 x.1.2.1.length c1] x.1.2.1∧zbm w [.slice b2 x.1.2.2.length c2] x.1.2.2)∧RSps w [.slice b3 x.2.1.2.1.length c3] x.2.1.2.1∧zbm w [.slice b4 x.2.1.2.2.length c4] x.2.1.2.2:=by
 obtain⟨a,cap,hv,hcap,hmax,hel⟩:=h
 simp only[List.cons.injEq,and_true] at hv
 unfold maxLen at hmax
 refine⟨a,cap,hv,by omega,fun i x hi=>?_⟩
 obtain⟨b,off,ecs,h1,h2,h3,a1,a2,a3,a4,a5,a6,h4,h5,h6⟩:=hel i x hi
 obtain⟨b1,c1,b2,c2,rfl,rfl,rfl,k1,k2⟩:=zb3 h5
 obtain⟨b3,c3,b4,c4,rfl,rfl,rfl,k3,k4⟩:=zb3 h6
 subst h4
 exact⟨b,off,b1,c1,b2,c2,b3,c3,b4,c4,h1,by simpa using h3 0 _ rfl,by simpa using h3 1 _ rfl,by simpa using h3 2 _ rfl,by simpa using h3 3 _ rfl,by simpa using h3 4 _ rfl,by simpa using h3 5 _ rfl,by simpa using h3 6 _ rfl,⟨k1,k2⟩,k3,k4⟩
def RPkR (w:World) (v2 v3 v4 v5 v6 v7:Value) (x:PkgM):Prop:=zad 2 zga w [v2] x.rel∧zad 2 zfy w [v3] x.vars∧RTs w [v4] x.prov∧zad 7 zcq w [v5] x.dep∧zad 7 zcq w [v6] x.conf∧RTs w [v7] x.files
theorem RPkR.below {w w':World} {v2 v3 v4 v5 v6 v7:Value} {x:PkgM} (h:RPkR w v2 v3 v4 v5 v6 v7 x) (hb:Below w.heap.size w w'):RPkR w' v2 v3 v4 v5 v6 v7 x:=by
 obtain⟨h2,h3,h4,h5,h6,h7⟩:=h
 exact⟨za3 zeo _ _ _ _ h2 hb,za3 zdi _ _ _ _ h3 hb,zah h4 hb,za3 zbk _ _ _ _ h5 hb,za3 zbk _ _ _ _ h6 hb,zah h7 hb⟩
theorem RPkR.shape {w:World} {v2 v3 v4 v5 v6 v7:Value} {x:PkgM} (h:RPkR w v2 v3 v4 v5 v6 v7 x):∃ b2 c2 b3 c3 b4 c4 b5 c5 b6 c6 b7 c7,v2 = .slice b2 x.rel.length c2∧v3 = .slice b3 x.vars.length c3∧v4 = .slice b4 x.prov.length c4∧v5 = .slice b5 x.dep.length c5∧v6 = .slice b6 x.conf.length c6∧v7 = .slice b7 x.files.length c7:=by
 obtain⟨h2,h3,h4,h5,h6,h7⟩:=h
 obtain⟨b2,c2,rfl,-,-⟩:=zgv h2
 obtain⟨b3,c3,rfl,-,-⟩:=zin h3
 obtain⟨b4,c4,rfl,-,-⟩:=zaw h4
 obtain⟨b5,c5,rfl,-,-⟩:=zhx h5
 obtain⟨b6,c6,rfl,-,-⟩:=zhx h6
 obtain⟨b7,c7,rfl,-,-⟩:=zaw h7
 exact⟨b2,c2,b3,c3,b4,c4,b5,c5,b6,c6,b7,c7,rfl,rfl,rfl,rfl,rfl,rfl⟩
theorem pks_open {w:World} {v:Value} {l:List PkgM} (h:zad 8 RPkM w [v] l):∃ a cap,v = .slice a l.length cap∧l.length≤9223372036854775807∧∀ i x,l[i]? = some x→∃ b off b2 c2 b3 c3 b4 c4 b5 c5 b6 c6 b7 c7,a=some ⟨b,off,none⟩ ∧
  w.cell? ⟨b,off+i * 8,none⟩=some (.string x.name)∧w.cell? ⟨b,off+i * 8+1,none⟩=some (.int .i64 x.line)∧w.cell? ⟨b,off+i * 8+2,none⟩=some (.slice b2 x.rel.length c2)∧w.cell? ⟨b,off+i * 8+3,none⟩=some (.slice b3 x.vars.length c3) ∧
  w.cell? ⟨b,off+i * 8+4,none⟩=some (.slice b4 x.prov.length c4)∧w.cell? ⟨b,off+i * 8+5,none⟩=some (.slice b5 x.dep.length c5)∧w.cell? ⟨b,off+i * 8+6,none⟩=some (.slice b6 x.conf.length c6)∧w.cell? ⟨b,off+i * 8+7,none⟩=some (.slice b7 x.files.length c7) ∧
  RPkR w (.slice b2 x.rel.length c2) (.slice b3 x.vars.length c3) (.slice b4 x.prov.length c4) (.slice b5 x.dep.length c5) (.slice b6 x.conf.length c6) (.slice b7 x.files.length c7) x:=by
 obtain⟨a,cap,hv,hcap,hmax,hel⟩:=h
 simp only[List.cons.injEq,and_true] at hv
 unfold maxLen at hmax
 refine⟨a,cap,hv,by omega,fun i x hi=>?_⟩
 obtain⟨b,off,ecs,h1,h2,h3,v2,v3,v4,v5,v6,v7,h4,h5⟩:=hel i x hi
 have h5:RPkR w v2 v3 v4 v5 v6 v7 x:=h5
 obtain⟨b2,c2,b3,c3,b4,c4,b5,c5,b6,c6,b7,c7,rfl,rfl,rfl,rfl,rfl,rfl⟩:=h5.shape
 subst h4
 exact⟨b,off,b2,c2,b3,c3,b4,c4,b5,c5,b6,c6,b7,c7,h1,by simpa using h3 0 _ rfl,by simpa using h3 1 _ rfl,by simpa using h3 2 _ rfl,by simpa using h3 3 _ rfl,by simpa using h3 4 _ rfl,by simpa using h3 5 _ rfl,by simpa using h3 6 _ rfl,by simpa using h3 7 _ rfl,h5⟩
theorem rls_at {w:World} {a:Option Addr} {n c:Nat} {l:List RlsM} (h:zad 2 zga w [.slice a n c] l):n=l.length∧n≤9223372036854775807∧∀ i x,l[i]? = some x→∃ b off,a=some ⟨b,off,none⟩∧w.cell? ⟨b,off+i * 2,none⟩=some (.string x.1)∧w.cell? ⟨b,off+i * 2+1,none⟩=some (.bool x.2):=by
 obtain⟨a',cap,e,hz,g⟩:=zgv h
 cases e
 exact⟨rfl,hz,g⟩
theorem zje {w:World} {a:Option Addr} {n c:Nat} {l:List zik} (h:zad 2 zfy w [.slice a n c] l):n=l.length∧n≤9223372036854775807∧∀ i x,l[i]? = some x→∃ b off b1 c1,a=some ⟨b,off,none⟩∧w.cell? ⟨b,off+i * 2,none⟩=some (.string x.1)∧w.cell? ⟨b,off+i * 2+1,none⟩=some (.slice b1 x.2.length c1)∧RTs w [.slice b1 x.2.length c1] x.2:=by
 obtain⟨a',cap,e,hz,g⟩:=zin h
 cases e
 exact⟨rfl,hz,g⟩
theorem pfs_at {w:World} {a:Option Addr} {n c:Nat} {l:List PrfM} (h:zad 3 RPfM w [.slice a n c] l):n=l.length∧n≤9223372036854775807∧∀ i x,l[i]? = some x→∃ b off b1 c1,a=some ⟨b,off,none⟩∧w.cell? ⟨b,off+i * 3,none⟩=some (.string x.1)∧w.cell? ⟨b,off+i * 3+1,none⟩=some (.slice b1 x.2.1.length c1)∧w.cell? ⟨b,off+i * 3+2,none⟩=some (.int .i64 x.2.2)∧RTs w [.slice b1 x.2.1.length c1] x.2.1:=by
 obtain⟨a',cap,e,hz,g⟩:=pfs_open h
 cases e
 exact⟨rfl,hz,g⟩
theorem zg5 {w:World} {a:Option Addr} {n c:Nat} {l:List DepM} (h:zad 7 zcq w [.slice a n c] l):n=l.length∧n≤9223372036854775807∧∀ i x,l[i]? = some x→∃ b off b1 c1 b2 c2 b3 c3 b4 c4,a=some ⟨b,off,none⟩ ∧
  w.cell? ⟨b,off+i * 7,none⟩=some (.string x.1.1)∧w.cell? ⟨b,off+i * 7+1,none⟩=some (.slice b1 x.1.2.1.length c1)∧w.cell? ⟨b,off+i * 7+2,none⟩=some (.slice b2 x.1.2.2.length c2) ∧
  w.cell? ⟨b,off+i * 7+3,none⟩=some (.string x.2.1.1)∧w.cell? ⟨b,off+i * 7+4,none⟩=some (.slice b3 x.2.1.2.1.length c3)∧w.cell? ⟨b,off+i * 7+5,none⟩=some (.slice b4 x.2.1.2.2.length c4)∧w.cell? ⟨b,off+i * 7+6,none⟩=some (.int .i64 x.2.2) ∧
  (RSps w [.slice b1 x.1.2.1.length c1] x.1.2.1∧zbm w [.slice b2 x.1.2.2.length c2] x.1.2.2)∧RSps w [.slice b3 x.2.1.2.1.length c3] x.2.1.2.1∧zbm w [.slice b4 x.2.1.2.2.length c4] x.2.1.2.2:=by
 obtain⟨a',cap,e,hz,g⟩:=zhx h
 cases e
 exact⟨rfl,hz,g⟩
theorem pks_at {w:World} {a:Option Addr} {n c:Nat} {l:List PkgM} (h:zad 8 RPkM w [.slice a n c] l):n=l.length∧n≤9223372036854775807∧∀ i x,l[i]? = some x→∃ b off b2 c2 b3 c3 b4 c4 b5 c5 b6 c6 b7 c7,a=some ⟨b,off,none⟩ ∧
  w.cell? ⟨b,off+i * 8,none⟩=some (.string x.name)∧w.cell? ⟨b,off+i * 8+1,none⟩=some (.int .i64 x.line)∧w.cell? ⟨b,off+i * 8+2,none⟩=some (.slice b2 x.rel.length c2)∧w.cell? ⟨b,off+i * 8+3,none⟩=some (.slice b3 x.vars.length c3) ∧
  w.cell? ⟨b,off+i * 8+4,none⟩=some (.slice b4 x.prov.length c4)∧w.cell? ⟨b,off+i * 8+5,none⟩=some (.slice b5 x.dep.length c5)∧w.cell? ⟨b,off+i * 8+6,none⟩=some (.slice b6 x.conf.length c6)∧w.cell? ⟨b,off+i * 8+7,none⟩=some (.slice b7 x.files.length c7) ∧
  RPkR w (.slice b2 x.rel.length c2) (.slice b3 x.vars.length c3) (.slice b4 x.prov.length c4) (.slice b5 x.dep.length c5) (.slice b6 x.conf.length c6) (.slice b7 x.files.length c7) x:=by
 obtain⟨a',cap,e,hz,g⟩:=pks_open h
 cases e
 exact⟨rfl,hz,g⟩
end

section
open Go.RowKit Go.Shelf Go.Lib VerN
attribute [local go_sem ↓] Go.wp_at_zero Go.wp_at_succ
theorem zo0 (s:ByteArray) (t:Bool) (a:ByteArray) (b:Bool) (W:World):(binOp .neq 157 (.agg #[.string s,.bool t]) (.agg #[.string a,.bool b])).run Tryz.prog W = .ok (.bool (!(decide (s=a) && decide (t=b)))) W:=by
 have u9:=Tryz.underlying9
 have u8:=Tryz.underlying4
 have hS:Tryz.prog.underlying 157=some (.struct (Tryz.prog.fieldsOf 157)):=by kernel_rfl
 have hp:Tryz.prog.stoodInHeld 157=false:=by kernel_rfl
 rw[run_neq_struct,show (10000:Nat)=9999+1 from rfl,run_equalIn_agg W 9999 157 _ _ hS hp]
 simp only[Program.fieldsOf,Tryz.underlying157]
 go_simp
 have e1:=Txt.eq_dec s a
 by_cases h1:s=a <;> by_cases h2:t=b <;> simp[h1,h2] at e1 ⊢ <;> simp_all
theorem zdr {w:World} {v u:Value} {l m:List ByteArray} (h:RTs w [v] l) (hm:RTs w [u] m):Calls Tryz.prog 90 #[v,u] w fun e w'=>e = .returned (.bool (decide (l=m)))∧∃ q,w'=w.drewN q:=by
 obtain⟨a,cap,rfl,hz,g⟩:=zaw h
 obtain⟨a2,cap2,rfl,hz2,g2⟩:=zaw hm
 obtain⟨n,hn⟩ : ∃ n,n=l.length:=⟨_,rfl⟩
 obtain⟨n2,hn2⟩ : ∃ n,n=m.length:=⟨_,rfl⟩
 obtain⟨r,hr⟩ : ∃ r,r=decide (l=m):=⟨_,rfl⟩
 rw[← hr]
 rw[← hn] at hz h ⊢
 rw[← hn2] at hz2 hm ⊢
 obtain⟨Hh,Hm,Hg,Hg2,Hn,Hn2,Hr⟩:=hd7 h hm g g2 hn hn2 hr;clear h hm g g2 hn hn2 hr
 go_enter Tryz.func90,Tryz.ntmps90
 by_cases hne:n=n2
 case neg =>
  have k1:((n:Int) != (n2:Int))=true:=by simp;omega
  have hf:r=false:=by rw[Hr.out,decide_eq_false_iff_not];intro e;exact hne (by rw[Hn.out,Hn2.out,e])
  obtain⟨Hf,Hne⟩:=hd2 hf hne;clear hf hne
  go_wp2_with fail
  go_ret
  exact⟨zab Hf.out.symm,0,rfl⟩
 have k1:((n:Int) != (n2:Int))=false:=by simp;omega
 have Hne:=hd hne;clear hne
 go_wp2_with fail
 clear k1
 go_loopw [13] (fun i wr=>∃ k:Nat,k≤n∧i = .int .i64 k∧(∀ j (h1:j < l.length) (h2:j < m.length),j < k→l[j]=m[j])∧∃ q,wr=w.drewN q) (fun i _=>n - (RowKit.intOf i).toNat)
 case atStart=>exact⟨0,Nat.zero_le _,rfl,fun _ _ _ h=>by omega,0,rfl⟩
 case round =>
  obtain⟨k,hk,rfl,hno,q,rfl⟩:=hrel
  by_cases hlt:k < n
  ·have hkl:k < l.length:=by have:=Hn.out;omega
   have hkm:k < m.length:=by have:=Hn2.out;have:=Hne.out;omega
   obtain⟨b,off,rfl,d0,-⟩:=Hg.out k hkl
   obtain⟨b2,off2,rfl,f0,-⟩:=Hg2.out k hkm
   have hnx:l[k]=m[k]→∀ j (h1:j < l.length) (h2:j < m.length),j < k+1→l[j]=m[j]:=fun h j h1 h2 hjk=>by
    by_cases e:j=k
    ·subst e;exact h
    exact hno j h1 h2 (by omega)
   have hbd:l[k]≠m[k]→l≠m:=fun h e=>h (by subst e;rfl)
   obtain⟨x,hx⟩ : ∃ x,x=l[k]:=⟨_,rfl⟩
   obtain⟨y,hy⟩ : ∃ x,x=m[k]:=⟨_,rfl⟩
   rw[← hx] at d0 hnx hbd
   rw[← hy] at f0 hnx hbd
   have heq:=Txt.eq_dec x y
   obtain⟨c,hc⟩ : ∃ c,c=decide (x=y):=⟨_,rfl⟩
   rw[← hc] at heq
   have k5:(0:Int)≤(k:Int):=by omega
   have k6:(k:Int) < (n:Int):=by omega
   have k7:(k:Int) < (n2:Int):=by have:=Hne.out;omega
   cases c with
   | true =>
    have hq:=hnx (of_decide_eq_true hc.symm)
    skip
    obtain⟨Hno,Hnx,Hbd,Hx,Hy,Hc,Hq⟩:=hd7 hno hnx hbd hx hy hc hq;clear hno hnx hbd hx hy hc hq
    go_wp2_with fail
    go_region
    go_wp2_with fail
    go_roundw
    case rel=>exact⟨k+1,by omega,by go_num,Hq.out,_,rfl⟩
    case measure=>simp[RowKit.intOf];omega
   | false =>
    have hf:r=false:=by rw[Hr.out,decide_eq_false_iff_not];exact hbd (of_decide_eq_false hc.symm)
    skip
    obtain⟨Hno,Hnx,Hbd,Hx,Hy,Hc,Hf⟩:=hd7 hno hnx hbd hx hy hc hf;clear hno hnx hbd hx hy hc hf
    go_wp2_with fail
    go_region
    go_wp2_with fail
    go_ret
    exact⟨zab Hf.out.symm,_,rfl⟩
  obtain rfl:n=k:=by omega
  have hf:r=true:=by
   rw[Hr.out,decide_eq_true_eq]
   exact List.ext_getElem (by rw[← Hn.out,← Hn2.out,Hne.out]) (fun j h1 h2=>hno j h1 h2 (by have:=Hn.out;omega))
  obtain⟨Hno,Hf⟩:=hd2 hno hf;clear hno hf
  go_wp2_with fail
  go_ret
  exact⟨zab Hf.out.symm,_,rfl⟩
end

section
open Go.RowKit Go.Shelf Go.Lib VerN
attribute [local go_sem ↓] Go.wp_at_zero Go.wp_at_succ
theorem zdc {w:World} {v u:Value} {l m:List ByteArray} (h:RTs w [v] l) (hm:RTs w [u] m):Calls Tryz.prog 88 #[v,u] w fun e w'=>e = .returned (.bool (decide (l=m)))∧∃ q,w'=w.drewN q:=by
 obtain⟨a,cap,rfl,hz,g⟩:=zaw h
 obtain⟨a2,cap2,rfl,hz2,g2⟩:=zaw hm
 obtain⟨n,hn⟩ : ∃ n,n=l.length:=⟨_,rfl⟩
 obtain⟨n2,hn2⟩ : ∃ n,n=m.length:=⟨_,rfl⟩
 obtain⟨r,hr⟩ : ∃ r,r=decide (l=m):=⟨_,rfl⟩
 rw[← hr]
 rw[← hn] at hz h ⊢
 rw[← hn2] at hz2 hm ⊢
 obtain⟨Hh,Hm,Hg,Hg2,Hn,Hn2,Hr⟩:=hd7 h hm g g2 hn hn2 hr;clear h hm g g2 hn hn2 hr
 go_enter Tryz.func88,Tryz.ntmps88
 by_cases hne:n=n2
 case neg =>
  have k1:((n:Int) != (n2:Int))=true:=by simp;omega
  have hf:r=false:=by rw[Hr.out,decide_eq_false_iff_not];intro e;exact hne (by rw[Hn.out,Hn2.out,e])
  obtain⟨Hf,Hne⟩:=hd2 hf hne;clear hf hne
  go_wp2_with fail
  go_ret
  exact⟨zab Hf.out.symm,0,rfl⟩
 have k1:((n:Int) != (n2:Int))=false:=by simp;omega
 have Hne:=hd hne;clear hne
 go_wp2_with fail
 clear k1
 go_loopw [13] (fun i wr=>∃ k:Nat,k≤n∧i = .int .i64 k∧(∀ j (h1:j < l.length) (h2:j < m.length),j < k→l[j]=m[j])∧∃ q,wr=w.drewN q) (fun i _=>n - (RowKit.intOf i).toNat)
 case atStart=>exact⟨0,Nat.zero_le _,rfl,fun _ _ _ h=>by omega,0,rfl⟩
 case round =>
  obtain⟨k,hk,rfl,hno,q,rfl⟩:=hrel
  by_cases hlt:k < n
  ·have hkl:k < l.length:=by have:=Hn.out;omega
   have hkm:k < m.length:=by have:=Hn2.out;have:=Hne.out;omega
   obtain⟨b,off,rfl,d0,-⟩:=Hg.out k hkl
   obtain⟨b2,off2,rfl,f0,-⟩:=Hg2.out k hkm
   have hnx:l[k]=m[k]→∀ j (h1:j < l.length) (h2:j < m.length),j < k+1→l[j]=m[j]:=fun h j h1 h2 hjk=>by
    by_cases e:j=k
    ·subst e;exact h
    exact hno j h1 h2 (by omega)
   have hbd:l[k]≠m[k]→l≠m:=fun h e=>h (by subst e;rfl)
   obtain⟨x,hx⟩ : ∃ x,x=l[k]:=⟨_,rfl⟩
   obtain⟨y,hy⟩ : ∃ x,x=m[k]:=⟨_,rfl⟩
   rw[← hx] at d0 hnx hbd
   rw[← hy] at f0 hnx hbd
   have heq:=Txt.eq_dec x y
   obtain⟨c,hc⟩ : ∃ c,c=decide (x=y):=⟨_,rfl⟩
   rw[← hc] at heq
   have k5:(0:Int)≤(k:Int):=by omega
   have k6:(k:Int) < (n:Int):=by omega
   have k7:(k:Int) < (n2:Int):=by have:=Hne.out;omega
   cases c with
   | true =>
    have hq:=hnx (of_decide_eq_true hc.symm)
    skip
    obtain⟨Hno,Hnx,Hbd,Hx,Hy,Hc,Hq⟩:=hd7 hno hnx hbd hx hy hc hq;clear hno hnx hbd hx hy hc hq
    go_wp2_with fail
    go_region
    go_wp2_with fail
    go_roundw
    case rel=>exact⟨k+1,by omega,by go_num,Hq.out,_,rfl⟩
    case measure=>simp[RowKit.intOf];omega
   | false =>
    have hf:r=false:=by rw[Hr.out,decide_eq_false_iff_not];exact hbd (of_decide_eq_false hc.symm)
    skip
    obtain⟨Hno,Hnx,Hbd,Hx,Hy,Hc,Hf⟩:=hd7 hno hnx hbd hx hy hc hf;clear hno hnx hbd hx hy hc hf
    go_wp2_with fail
    go_region
    go_wp2_with fail
    go_ret
    exact⟨zab Hf.out.symm,_,rfl⟩
  obtain rfl:n=k:=by omega
  have hf:r=true:=by
   rw[Hr.out,decide_eq_true_eq]
   exact List.ext_getElem (by rw[← Hn.out,← Hn2.out,Hne.out]) (fun j h1 h2=>hno j h1 h2 (by have:=Hn.out;omega))
  obtain⟨Hno,Hf⟩:=hd2 hno hf;clear hno hf
  go_wp2_with fail
  go_ret
  exact⟨zab Hf.out.symm,_,rfl⟩
theorem zlk {w:World} {v u:Value} {l m:List RlsM} (h:zad 2 zga w [v] l) (hm:zad 2 zga w [u] m):Calls Tryz.prog 142 #[v,u] w fun e w'=>e = .returned (.bool (decide (l=m)))∧∃ q,w'=w.drewN q:=by
 obtain⟨a,cap,rfl,hz,g⟩:=zgv h
 obtain⟨a2,cap2,rfl,hz2,g2⟩:=zgv hm
 obtain⟨n,hn⟩ : ∃ n,n=l.length:=⟨_,rfl⟩
 obtain⟨n2,hn2⟩ : ∃ n,n=m.length:=⟨_,rfl⟩
 obtain⟨r,hr⟩ : ∃ r,r=decide (l=m):=⟨_,rfl⟩
 have q1:=fun s t a b=>zo0 s t a b
 rw[← hr]
 rw[← hn] at hz h ⊢
 rw[← hn2] at hz2 hm ⊢
 obtain⟨Hh,Hm,Hg,Hg2,Hn,Hn2,Hr,Hq1⟩:=hd8 h hm g g2 hn hn2 hr q1;clear h hm g g2 hn hn2 hr q1
 go_enter Tryz.func142,Tryz.ntmps142
 by_cases hne:n=n2
 case neg =>
  have k1:((n:Int) != (n2:Int))=true:=by simp;omega
  have hf:r=false:=by rw[Hr.out,decide_eq_false_iff_not];intro e;exact hne (by rw[Hn.out,Hn2.out,e])
  obtain⟨Hf,Hne⟩:=hd2 hf hne;clear hf hne
  go_wp2_with fail
  go_ret
  exact⟨zab Hf.out.symm,0,rfl⟩
 have k1:((n:Int) != (n2:Int))=false:=by simp;omega
 have Hne:=hd hne;clear hne
 go_wp2_with fail
 clear k1
 go_loopw [13] (fun i wr=>∃ k:Nat,k≤n∧i = .int .i64 k∧(∀ j (h1:j < l.length) (h2:j < m.length),j < k→l[j]=m[j])∧∃ q,wr=w.drewN q) (fun i _=>n - (RowKit.intOf i).toNat)
 case atStart=>exact⟨0,Nat.zero_le _,rfl,fun _ _ _ h=>by omega,0,rfl⟩
 case round =>
  obtain⟨k,hk,rfl,hno,q,rfl⟩:=hrel
  by_cases hlt:k < n
  ·have hkl:k < l.length:=by have:=Hn.out;omega
   have hkm:k < m.length:=by have:=Hn2.out;have:=Hne.out;omega
   obtain⟨b,off,rfl,d0,d1⟩:=Hg.out k _ (List.getElem?_eq_getElem hkl)
   obtain⟨b2,off2,rfl,f0,f1⟩:=Hg2.out k _ (List.getElem?_eq_getElem hkm)
   have hnx:l[k]=m[k]→∀ j (h1:j < l.length) (h2:j < m.length),j < k+1→l[j]=m[j]:=fun h j h1 h2 hjk=>by
    by_cases e:j=k
    ·subst e;exact h
    exact hno j h1 h2 (by omega)
   have hbd:l[k]≠m[k]→l≠m:=fun h e=>h (by subst e;rfl)
   obtain⟨x,hx⟩ : ∃ x,x=l[k]:=⟨_,rfl⟩
   obtain⟨y,hy⟩ : ∃ x,x=m[k]:=⟨_,rfl⟩
   rw[← hx] at d0 d1 hnx hbd
   rw[← hy] at f0 f1 hnx hbd
   have q2:=Hq1.out x.1 x.2 y.1 y.2
   have hxy:(decide (x.1=y.1) && decide (x.2=y.2))=decide (x=y):=by
    rw[Bool.eq_iff_iff]
    simp[Prod.ext_iff]
   rw[hxy] at q2
   obtain⟨s,hs⟩ : ∃ s,s=x.1:=⟨_,rfl⟩
   obtain⟨t,ht⟩ : ∃ s,s=x.2:=⟨_,rfl⟩
   obtain⟨s',hs'⟩ : ∃ s,s=y.1:=⟨_,rfl⟩
   obtain⟨t',ht'⟩ : ∃ s,s=y.2:=⟨_,rfl⟩
   rw[← hs,← ht,← hs',← ht'] at q2
   rw[← hs] at d0
   rw[← ht] at d1
   rw[← hs'] at f0
   rw[← ht'] at f1
   clear hxy
   obtain⟨c,hc⟩ : ∃ c,c=decide (x=y):=⟨_,rfl⟩
   rw[← hc] at q2
   have k5:(0:Int)≤(k:Int):=by omega
   have k6:(k:Int) < (n:Int):=by omega
   have k7:(k:Int) < (n2:Int):=by have:=Hne.out;omega
   cases c with
   | true =>
    have hq:=hnx (of_decide_eq_true hc.symm)
    simp only[Bool.not_true] at q2
    obtain⟨Hno,Hnx,Hbd,Hx,Hy,Hc,Hs,Ht,Hs',Ht',Hq⟩:=hd11 hno hnx hbd hx hy hc hs ht hs' ht' hq;clear hno hnx hbd hx hy hc hs ht hs' ht' hq
    go_wp2_with fail
    go_region
    go_wp2_with fail
    go_roundw
    case rel=>exact⟨k+1,by omega,by go_num,Hq.out,_,rfl⟩
    case measure=>simp[RowKit.intOf];omega
   | false =>
    have hf:r=false:=by rw[Hr.out,decide_eq_false_iff_not];exact hbd (of_decide_eq_false hc.symm)
    simp only[Bool.not_false] at q2
    obtain⟨Hno,Hnx,Hbd,Hx,Hy,Hc,Hs,Ht,Hs',Ht',Hf⟩:=hd11 hno hnx hbd hx hy hc hs ht hs' ht' hf;clear hno hnx hbd hx hy hc hs ht hs' ht' hf
    go_wp2_with fail
    go_region
    go_wp2_with fail
    go_ret
    exact⟨zab Hf.out.symm,_,rfl⟩
  obtain rfl:n=k:=by omega
  have hf:r=true:=by
   rw[Hr.out,decide_eq_true_eq]
   exact List.ext_getElem (by rw[← Hn.out,← Hn2.out,Hne.out]) (fun j h1 h2=>hno j h1 h2 (by have:=Hn.out;omega))
  obtain⟨Hno,Hf⟩:=hd2 hno hf;clear hno hf
  go_wp2_with fail
  go_ret
  exact⟨zab Hf.out.symm,_,rfl⟩
end

section
open Go.RowKit Go.Shelf
open LexM (Wd)
attribute [local go_sem ↓] Go.wp_at_zero Go.wp_at_succ
abbrev RBox (r:Nat) (v:Value) (i:Nat) (fin:Int) (W:World):Prop:=W.heap[r]? = some (.cells #[v,.int .i64 i,.int .i64 fin] 137 (0,0))
abbrev rp (r:Nat):Value:=.pointer (some ⟨r,0,none⟩)
abbrev RWds:Rd (List Wd):=zad 2 RWd
theorem zbd {r:Nat} {v:Value} {i:Nat} {fin:Int} {W:World} (h:RBox r v i fin W):W.cell? ⟨r,0,none⟩=some v∧W.cell? ⟨r,1,none⟩=some (.int .i64 i)∧W.cell? ⟨r,2,none⟩=some (.int .i64 fin)∧W.frozen? ⟨r,1,none⟩=false :=
 ⟨za1 h 0,za1 h 1,za1 h 2,za7 h 1⟩
theorem wds_shape {w:World} {v:Value} {ws:List Wd} (h:RWds w [v] ws):∃ a c,v = .slice a ws.length c:=by
 obtain⟨a,cap,hv,_⟩:=h
 simp only[List.cons.injEq,and_true] at hv
 exact⟨a,cap,hv⟩
theorem wds_at {w:World} {a:Option Addr} {n c:Nat} {ws:List Wd} (h:RWds w [.slice a n c] ws):n=ws.length∧n≤9223372036854775807∧∀ i x,ws[i]? = some x→∃ b off,a=some ⟨b,off,none⟩∧w.cell? ⟨b,off+i * 2,none⟩=some (.int .i64 x.1)∧w.cell? ⟨b,off+i * 2+1,none⟩=some (.string ⟨x.2.toArray⟩)∧x.2.length≤9223372036854775807:=by
 obtain⟨a',cap,hv,hcap,hmax,hel⟩:=h
 simp only[List.cons.injEq,and_true,Value.slice.injEq] at hv
 obtain⟨rfl,hn,_⟩:=hv
 unfold maxLen at hmax
 refine⟨hn,by omega,fun i x hi=>?_⟩
 obtain⟨b,off,ecs,h1,h2,h3,h4,_,h5⟩:=hel i x hi
 subst h4
 unfold maxLen at h5
 exact⟨b,off,h1,by simpa [zch] using h3 0 _ rfl,by simpa [zch] using h3 1 _ rfl,by omega⟩
theorem zjt {w:World} {r:Nat} {a:Option Addr} {n c i:Nat} {fin:Int} (h:RBox r (.slice a n c) i fin w):Calls Tryz.prog 159 #[rp r] w fun e w'=>e = .returned (.bool (decide (i < n)))∧∃ q,w'=w.drewN q:=by
 obtain⟨c0,c1,_,_⟩:=zbd h
 have k1:decide ((i:Int) < (n:Int))=decide (i < n):=decide_eq_decide.2 (by omega)
 have Hh:=hd h;clear h
 go_enter Tryz.func159,Tryz.ntmps159
 go_wp2_with fail
 go_quiet (fail)
 go_wp2_with fail
 go_ret
 exact⟨rfl,_,rfl⟩
abbrev zh0 (c:Int):Ending:=.panicked [{ v:=.iface 206 (.agg #[.int .i64 c]),recovered:=false }]
theorem peek_any {w:World} {r:Nat} {a:Option Addr} {n c i:Nat} {fin:Int} {ws:List Wd} (h:RBox r (.slice a n c) i fin w) (hw:RWds w [.slice a n c] ws):Calls Tryz.prog 151 #[rp r] w fun e w'=>e = .returned (.string (zb6 ws i))∧∃ q,w'=w.drewN q:=by
 obtain⟨c0,c1,_,_⟩:=zbd h
 have hM:=zjt h
 obtain⟨hn,hz,hat⟩:=wds_at hw
 by_cases hi:i < n
 ·have hi2:i < ws.length:=by omega
  obtain⟨b,off,rfl,_,d1,_⟩:=hat i _ (List.getElem?_eq_getElem hi2)
  rw[zhi hi2]
  obtain⟨s,hs⟩ : ∃ s:ByteArray,s=⟨ws[i].2.toArray⟩:=⟨_,rfl⟩
  rw[← hs] at d1 ⊢
  rw[decide_eq_true hi] at hM
  have k5:(0:Int)≤(i:Int):=by omega
  have k6:(i:Int) < (n:Int):=by omega
  clear hs hat
  obtain⟨Hh,HM,Hw,Hn⟩:=hd4 h hM hw hn;clear h hM hw hn
  go_enter Tryz.func151,Tryz.ntmps151
  go_wp2_with fail
  refine HM.out.mono ?_
  rintro e w1 ⟨rfl,q,rfl⟩
  go_wp2_with fail
  go_quiet (fail)
  go_wp2_with fail
  go_ret
  exact⟨rfl,_,World.drewN_drewN _ _ _⟩
 rw[zhj (by omega)]
 rw[decide_eq_false hi] at hM
 clear hat
 obtain⟨Hh,HM,Hw,Hn⟩:=hd4 h hM hw hn;clear h hM hw hn
 go_enter Tryz.func151,Tryz.ntmps151
 go_wp2_with fail
 refine HM.out.mono ?_
 rintro e w1 ⟨rfl,q,rfl⟩
 go_wp2_with fail
 go_ret
 exact⟨rfl,_,rfl⟩
theorem throw_any {w:World} {r:Nat} {a:Option Addr} {n c i:Nat} {fin:Int} {ws:List Wd} (h:RBox r (.slice a n c) i fin w) (hw:RWds w [.slice a n c] ws):Calls Tryz.prog 157 #[rp r] w fun e w'=>e=zh0 (zez ws fin i)∧∃ q,w'=w.drewN q:=by
 obtain⟨c0,c1,c2,_⟩:=zbd h
 have hM:=zjt h
 obtain⟨hn,hz,hat⟩:=wds_at hw
 by_cases hi:i < n
 ·have hi2:i < ws.length:=by omega
  obtain⟨b,off,rfl,d0,_,_⟩:=hat i _ (List.getElem?_eq_getElem hi2)
  rw[zog hi2]
  obtain⟨s,hs⟩ : ∃ s,s=ws[i].1:=⟨_,rfl⟩
  rw[← hs] at d0 ⊢
  rw[decide_eq_true hi] at hM
  have k5:(0:Int)≤(i:Int):=by omega
  have k6:(i:Int) < (n:Int):=by omega
  clear hs hat
  obtain⟨Hh,HM,Hw,Hn⟩:=hd4 h hM hw hn;clear h hM hw hn
  go_enter Tryz.func157,Tryz.ntmps157
  go_wp2_with fail
  refine HM.out.mono ?_
  rintro e w1 ⟨rfl,q,rfl⟩
  go_wp2_with fail
  refine wp_region_held_drew (S:=fun w'=>w'.cell? ⟨r,0,none⟩=some (.slice (some ⟨b,off,none⟩) n c)∧w'.cell? ⟨r,1,none⟩=some (.int .i64 i)∧w'.cell? ⟨b,off+i * 2,none⟩=some (.int .i64 s)) (by kernel_rfl) (by exact⟨c0,c1,d0⟩) (fun hHeld=>?_)
  refine wpAnyH_take (i:=0) (v:=?_) rfl (by kernel_rfl) (by kernel_rfl) (by kernel_rfl) (fun _ _ _ h=>h) (Or.inl ⟨by kernel_rfl,?_⟩) (by assumption) ?_
  rotate_left
  ·(intro w hSw;(try dsimp only at hSw);(try obtain⟨e0,e1,e2⟩:=hSw);go_simp;try with_reducible rfl)
  try simp only[Act.put,lA,lB,lC]
  refine wpAnyH_take (i:=1) (v:=?_) rfl (by kernel_rfl) (by kernel_rfl) (by kernel_rfl) (fun _ _ _ h=>h) (Or.inl ⟨by kernel_rfl,?_⟩) (by assumption) ?_
  rotate_left
  ·(intro w hSw;(try dsimp only at hSw);(try obtain⟨e0,e1,e2⟩:=hSw);go_simp;try with_reducible rfl)
  try simp only[Act.put,lA,lB,lC]
  refine wpAnyH_take (i:=2) (v:=?_) rfl (by kernel_rfl) (by kernel_rfl) (by kernel_rfl) (fun _ _ _ h=>h) (Or.inl ⟨by kernel_rfl,?_⟩) (by assumption) ?_
  rotate_left
  ·(intro w hSw;(try dsimp only at hSw);(try obtain⟨e0,e1,e2⟩:=hSw);go_simp;try with_reducible rfl)
  try simp only[Act.put,lA,lB,lC]
  refine wpAnyH_take (i:=3) (v:=?_) rfl (by kernel_rfl) (by kernel_rfl) (by kernel_rfl) (fun _ _ _ h=>h) (Or.inl ⟨by kernel_rfl,?_⟩) (by assumption) ?_
  rotate_left
  ·(intro w hSw;(try dsimp only at hSw);(try obtain⟨e0,e1,e2⟩:=hSw);go_simp;try with_reducible rfl)
  try simp only[Act.put,lA,lB,lC]
  refine wpAnyH_take (i:=4) (v:=?_) rfl (by kernel_rfl) (by kernel_rfl) (by kernel_rfl) (fun _ _ _ h=>h) (Or.inl ⟨by kernel_rfl,?_⟩) (by assumption) ?_
  rotate_left
  ·(intro w hSw;(try dsimp only at hSw);(try obtain⟨e0,e1,e2⟩:=hSw);go_simp;try with_reducible rfl)
  try simp only[Act.put,lA,lB,lC]
  refine wpAnyH_take (i:=5) (v:=?_) rfl (by kernel_rfl) (by kernel_rfl) (by kernel_rfl) (fun _ _ _ h=>h) (Or.inl ⟨by kernel_rfl,?_⟩) (by assumption) ?_
  rotate_left
  ·(intro w hSw;(try dsimp only at hSw);(try obtain⟨e0,e1,e2⟩:=hSw);go_simp;try with_reducible rfl)
  try simp only[Act.put,lA,lB,lC]
  refine wpAnyH_take (i:=6) (v:=?_) rfl (by kernel_rfl) (by kernel_rfl) (by kernel_rfl) (fun _ _ _ h=>h) (Or.inl ⟨by kernel_rfl,?_⟩) (by assumption) ?_
  rotate_left
  ·(intro w hSw;(try dsimp only at hSw);(try obtain⟨e0,e1,e2⟩:=hSw);go_simp;try with_reducible rfl)
  try simp only[Act.put,lA,lB,lC]
  refine wpAnyH_take (i:=7) (v:=?_) rfl (by kernel_rfl) (by kernel_rfl) (by kernel_rfl) (fun _ _ _ h=>h) (Or.inl ⟨by kernel_rfl,?_⟩) (by assumption) ?_
  rotate_left
  ·(intro w hSw;(try dsimp only at hSw);(try obtain⟨e0,e1,e2⟩:=hSw);go_simp;try with_reducible rfl)
  try simp only[Act.put,lA,lB,lC]
  refine wpAnyH_take (i:=8) (v:=?_) rfl (by kernel_rfl) (by kernel_rfl) (by kernel_rfl) (fun _ _ _ h=>h) (Or.inl ⟨by kernel_rfl,?_⟩) (by assumption) ?_
  rotate_left
  ·(intro w hSw;(try dsimp only at hSw);(try obtain⟨e0,e1,e2⟩:=hSw);go_simp;try with_reducible rfl)
  try simp only[Act.put,lA,lB,lC]
  refine wpAnyH_take (i:=9) (v:=?_) rfl (by kernel_rfl) (by kernel_rfl) (by kernel_rfl) (fun _ _ _ h=>h) (Or.inl ⟨by kernel_rfl,?_⟩) (by assumption) ?_
  rotate_left
  ·(intro w hSw;(try dsimp only at hSw);(try obtain⟨e0,e1,e2⟩:=hSw);go_simp;try with_reducible rfl)
  try simp only[Act.put,lA,lB,lC]
  refine wpAnyH_take (i:=10) (v:=?_) rfl (by kernel_rfl) (by kernel_rfl) (by kernel_rfl) (fun _ _ _ h=>h) (Or.inl ⟨by kernel_rfl,?_⟩) (by assumption) ?_
  rotate_left
  ·(intro w hSw;(try dsimp only at hSw);(try obtain⟨e0,e1,e2⟩:=hSw);go_simp;try with_reducible rfl)
  try simp only[Act.put,lA,lB,lC]
  refine wpAnyH_take (i:=11) (v:=?_) rfl (by kernel_rfl) (by kernel_rfl) (by kernel_rfl) (fun _ _ _ h=>h) (Or.inl ⟨by kernel_rfl,?_⟩) (by assumption) ?_
  rotate_left
  ·(intro w hSw;(try dsimp only at hSw);(try obtain⟨e0,e1,e2⟩:=hSw);go_simp;try with_reducible rfl)
  try simp only[Act.put,lA,lB,lC]
  refine wpAnyH_take (i:=12) (v:=?_) rfl (by kernel_rfl) (by kernel_rfl) (by kernel_rfl) (fun _ _ _ h=>h) (Or.inl ⟨by kernel_rfl,?_⟩) (by assumption) ?_
  rotate_left
  ·(intro w hSw;(try dsimp only at hSw);(try obtain⟨e0,e1,e2⟩:=hSw);go_simp;try with_reducible rfl)
  try simp only[Act.put,lA,lB,lC]
  refine wpAnyH_ready (rs:=[13]) (by kernel_rfl) (by simp) ?_
  refine AllReadyH.cons rfl (fun K hK=>?_) AllReadyH.nil
  go_simp
  exact⟨rfl,rfl,_,rfl⟩
 rw[zoh (by omega)]
 rw[decide_eq_false hi] at hM
 clear hat
 obtain⟨Hh,HM,Hw,Hn⟩:=hd4 h hM hw hn;clear h hM hw hn
 go_enter Tryz.func157,Tryz.ntmps157
 go_wp2_with fail
 refine HM.out.mono ?_
 rintro e w1 ⟨rfl,q,rfl⟩
 go_wp2_with fail
 exact⟨rfl,rfl,_,rfl⟩
theorem zgs (w:World) (r:Nat):Calls Tryz.prog 158 #[rp r,.bool true] w fun e w'=>e = .returned (.tuple #[])∧w'=w:=by
 go_enter Tryz.func158,Tryz.ntmps158
 go_wp2_with fail
 go_end0
 exact⟨rfl,rfl⟩
theorem want_no {w:World} {r:Nat} {a:Option Addr} {n c i:Nat} {fin:Int} {ws:List Wd} (h:RBox r (.slice a n c) i fin w) (hw:RWds w [.slice a n c] ws):Calls Tryz.prog 158 #[rp r,.bool false] w fun e w'=>e=zh0 (zez ws fin i)∧∃ q,w'=w.drewN q:=by
 have hT:=throw_any h hw
 obtain⟨HT,Hh,Hw⟩:=hd3 hT h hw;clear hT h hw
 go_enter Tryz.func158,Tryz.ntmps158
 go_wp2_with fail
 refine HT.out.mono ?_
 rintro e w1 ⟨rfl,q,rfl⟩
 go_wp2_with fail
 exact⟨rfl,rfl,_,rfl⟩
end

section
open Go.Shelf Go.RowKit Go.Lib VerN
open LexM (Wd)
attribute [local go_sem ↓] Go.wp_at_zero Go.wp_at_succ
structure RdC (w0:World) (r:Nat) (a:Option Addr) (n c:Nat) (fin:Int) (ws:List Wd):Prop where
 words:RWds w0 [.slice a n c] ws
 doors:zb1 w0
 low:w0.heap.size≤r
 n1000:n≤1000
 sz:∀ x∈ws,x.2.length≤70000
structure RdS (w0:World) (r:Nat) (a:Option Addr) (n c:Nat) (fin:Int) (i:Nat) (W:World):Prop where
 box:RBox r (.slice a n c) i fin W
 bel:Below w0.heap.size w0 W
section
variable {w0 W W' : World} {r : Nat} {a : Option Addr} {n c : Nat} {fin : Int} {ws : List Wd} {i : Nat}
theorem RdC.len (C:RdC w0 r a n c fin ws):n=ws.length:=(wds_at C.words).1
theorem RdC.wds (C:RdC w0 r a n c fin ws) (S:RdS w0 r a n c fin i W):RWds W [.slice a n c] ws:=za3 zji _ _ _ _ C.words S.bel
theorem RdS.to (S:RdS w0 r a n c fin i W) (h:Below W.heap.size W W'):RdS w0 r a n c fin i W':=⟨za0 h S.box,S.bel.trans (h.mono S.bel.size)⟩
theorem RdS.drewN (S:RdS w0 r a n c fin i W) (q:Nat):RdS w0 r a n c fin i (W.drewN q):=S.to (za9 (Below.refl _ _) q)
theorem RdC.dr (C:RdC w0 r a n c fin ws) (S:RdS w0 r a n c fin i W):zb1 W:=C.doors.below S.bel
theorem RdC.peek (C:RdC w0 r a n c fin ws) (S:RdS w0 r a n c fin i W):Calls Tryz.prog 151 #[rp r] W fun e w'=>e = .returned (.string (zb6 ws i))∧∃ q,w'=W.drewN q:=peek_any S.box (C.wds S)
theorem RdC.more (_:RdC w0 r a n c fin ws) (S:RdS w0 r a n c fin i W):Calls Tryz.prog 159 #[rp r] W fun e w'=>e = .returned (.bool (decide (i < n)))∧∃ q,w'=W.drewN q:=zjt S.box
theorem RdC.want (C:RdC w0 r a n c fin ws) (S:RdS w0 r a n c fin i W):Calls Tryz.prog 158 #[rp r,.bool false] W fun e w'=>e=zh0 (zez ws fin i)∧∃ q,w'=W.drewN q:=want_no S.box (C.wds S)
theorem RdC.peek_size (C:RdC w0 r a n c fin ws) (i:Nat):(zb6 ws i).size≤70000:=by
 by_cases h:i < ws.length
 ·rw[zhi h]
  show (ws[i].2.toArray).size≤_
  rw[List.size_toArray]
  exact C.sz _ (List.getElem_mem h)
 rw[zhj (by omega)]
 decide
theorem RdS.on (S:RdS w0 r a n c fin i W) (hlow:w0.heap.size≤r):RdS w0 r a n c fin (i+1) (W.setCell ⟨r,1,none⟩ (.int .i64 ((i:Int)+1))) :=
 ⟨heap_setCell_same _ r 1 _ _ _ S.box,S.bel.setCell (p:=⟨r,1,none⟩) hlow _⟩
end
theorem cutB_size (c:UInt8) (s:ByteArray):(cutB c s).1.size≤s.size∧(cutB c s).2.1.size≤s.size:=by
 have e:∀ l:List UInt8,(⟨l.toArray⟩ : ByteArray).size=l.length:=fun l=>rfl
 have h1:(cut s.data.toList [c]).1.length≤s.size∧(cut s.data.toList [c]).2.1.length≤s.size:=by
  rw[← Txt.len]
  unfold cut
  split
  ·exact⟨by simp;omega,by simp⟩
  exact⟨by simp,by simp⟩
 unfold cutB
 exact⟨by rw[e];exact h1.1,by rw[e];exact h1.2⟩
def atOf (r:Nat) (W:World):Nat:=match W.cell? ⟨r,1,none⟩ with
 | some u=>(RowKit.intOf u).toNat
 | none=>0
theorem zom {r:Nat} {v:Value} {i:Nat} {fin:Int} {W:World} (h:RBox r v i fin W):atOf r W=i:=by
 unfold atOf
 rw[(zbd h).2.1]
 simp[RowKit.intOf]
theorem zkv (out:List Setg) (x:Setg):(out ++ [x]).flatMap setCells=out.flatMap setCells ++ [.string x.1,.string x.2]:=by simp[setCells]
def SetsPost (r:Nat) (a:Option Addr) (n c:Nat) (fin:Int) (ws:List Wd) (i:Nat) (w:World) (e:Ending) (w':World):Prop :=
 ((∃ l j v,zb7 ws i []=(some l,j)∧e = .returned v∧zfa w' v l∧RBox r (.slice a n c) j fin w')∨(∃ j,zb7 ws i []=(none,j)∧e=zh0 (zez ws fin j)))∧Frm (fun k=>k=r) w w'
structure StI (w0:World) (r:Nat) (a:Option Addr) (n c:Nat) (fin:Int) (ws:List Wd) (i:Nat) (w:World) (k:Nat) (out:List Setg) (v:Value) (W:World):Prop where
 st:RdS w0 r a n c fin (i+k) W
 row:W.ownsRow w.heap.size 109 2 v k (out.flatMap setCells)
 len:out.length=k
 same:zb7 ws i []=zb7 ws (i+k) out
 frm:Frm (fun x=>x=r) w W
 sz:∀ x∈out,x.1.size≤70000∧x.2.size≤70000
 k1000:k≤1000
theorem StI.reads {w0:World} {r:Nat} {a:Option Addr} {n c:Nat} {fin:Int} {ws:List Wd} {i:Nat} {w:World} {k:Nat} {out:List Setg} {v:Value} {W:World} (h:StI w0 r a n c fin ws i w k out v W):zfa W v out :=
 ⟨ziu (B:=w.heap.size) (fun x hx=>by have:=h.sz x hx;unfold maxLen;omega) (by rw[h.len];exact h.row),fun _=>znn h.row⟩
theorem StI.to {w0:World} {r:Nat} {a:Option Addr} {n c:Nat} {fin:Int} {ws:List Wd} {i:Nat} {w:World} {k:Nat} {out:List Setg} {v:Value} {W W':World} (h:StI w0 r a n c fin ws i w k out v W) (hb:Below W.heap.size W W'):StI w0 r a n c fin ws i w k out v W' :=
 ⟨h.st.to hb,za8 h.row hb,h.len,h.same,h.frm.trans (Frm.of_below (S:=fun _=>False) hb) (fun _ _ h=>h.elim),h.sz,h.k1000⟩
theorem StI.push {w0:World} {r:Nat} {a:Option Addr} {n c:Nat} {fin:Int} {ws:List Wd} {i:Nat} {w:World} {k:Nat} {out:List Setg} {v v9:Value} {W w9:World} (h:StI w0 r a n c fin ws i w k out v W) (hlow:w0.heap.size≤r) (hrw:r < w.heap.size) {x:Setg} (hx:x.1.size≤70000∧x.2.size≤70000)
  (hg:W.grownBy w9 v.ownBlock) (ho:w9.ownsRow w.heap.size 109 2 v9 (k+1) (out.flatMap setCells ++ [.string x.1,.string x.2])) :
  RdS w0 r a n c fin (i+k) w9∧Frm (fun x=>x=r) w w9∧zbm w9 [v9] (out ++ [x])∧(∀ y∈out ++ [x],y.1.size≤70000∧y.2.size≤70000):=by
 have hne:∀ j,v.ownBlock=some j→w.heap.size≤j:=fun j e=>(h.row.lt j e).1
 have hrW:r < W.heap.size:=(Array.getElem?_eq_some_iff.1 h.st.box).1
 have hsz:∀ y∈out ++ [x],y.1.size≤70000∧y.2.size≤70000:=fun y hy=>by
  rcases List.mem_append.1 hy with hy | hy
  ·exact h.sz y hy
  rw[List.mem_singleton] at hy;rw[hy];exact hx
 refine⟨⟨(hg.block r hrW (fun e=>by have:=hne r e.symm;omega)).trans h.st.box,zdg h.st.bel h.row (by omega) hg h.st.bel.size⟩,h.frm.grown hg (fun j e=>.inl (hne j e)),?_,hsz⟩
 refine ziu (B:=w.heap.size) (fun y hy=>by have:=hsz y hy;unfold maxLen;omega) ?_
 rw[List.length_append,h.len,zkv]
 exact ho
theorem StI.next {w0:World} {r:Nat} {a:Option Addr} {n c:Nat} {fin:Int} {ws:List Wd} {i:Nat} {w:World} {k:Nat} {out:List Setg} {v9:Value} {w10:World} (hS:RdS w0 r a n c fin (i+k) w10) (hF:Frm (fun x=>x=r) w w10) {x:Setg} (hsz:∀ y∈out ++ [x],y.1.size≤70000∧y.2.size≤70000) (hlen:out.length=k) (hlow:w0.heap.size≤r) (hrw:r < w.heap.size) (hk:k+1≤1000)
  (ho:w10.ownsRow w.heap.size 109 2 v9 (k+1) (out.flatMap setCells ++ [.string x.1,.string x.2])) (hs:zb7 ws i []=zb7 ws (i+k+1) (out ++ [x])) :
  StI w0 r a n c fin ws i w (k+1) (out ++ [x]) v9 (w10.setCell ⟨r,1,none⟩ (.int .i64 (((i+k:Nat):Int)+1))) :=
 ⟨hS.on hlow,by rw[zkv];exact zcz ho hrw 1 _,by rw[List.length_append,hlen];rfl,hs,zaq hF 1 _,hsz,hk⟩
theorem zge {w0 w:World} {r:Nat} {a:Option Addr} {n c:Nat} {fin:Int} {ws:List Wd} {i:Nat} (C:RdC w0 r a n c fin ws) (S:RdS w0 r a n c fin i w):Calls Tryz.prog 183 #[rp r] w (SetsPost r a n c fin ws i w):=by
 have hrw:r < w.heap.size:=(Array.getElem?_eq_some_iff.1 S.box).1
 have hst:StI w0 r a n c fin ws i w 0 [] (.slice none 0 0) w:=⟨S,World.ownsRow_nil _ _ _ _,rfl,rfl,Frm.refl _ _,(fun x hx=>by simp at hx),Nat.zero_le _⟩
 have hn1:=C.n1000
 obtain⟨HC,HS,Hst⟩:=hd3 C S hst;clear C S hst
 go_enter Tryz.func183,Tryz.ntmps183
 go_wp2_with fail
 go_loopw [3] (fun v wr=>∃ (k:Nat) (out:List Setg),StI w0 r a n c fin ws i w k out v wr) (fun _ wr=>n - atOf r wr)
 case atStart=>exact⟨0,[],Hst.out⟩
 case round =>
  obtain⟨k,out,hI⟩:=hrel
  obtain⟨a1,c1,rfl⟩:=zaj hI.row
  have hP:=HC.out.peek hI.st
  have hmeas:atOf r wr=i+k:=zom hI.st.box
  obtain⟨s,hs⟩ : ∃ s,s=zb6 ws (i+k):=⟨_,rfl⟩
  have hsz:s.size≤70000:=by rw[hs];exact HC.out.peek_size _
  rw[← hs] at hP
  have hCo:=fun (W:World)=>Tryz.strings_Contains_one s 61 W
  obtain⟨hb,hhb⟩ : ∃ b,b=hasB 61 s:=⟨_,rfl⟩
  rw[show decide (0≤indexByte s.data.toList 61)=hb from hhb.symm] at hCo
  obtain⟨wo,hwo⟩ : ∃ W,W=wr:=⟨_,rfl⟩
  rw[← hwo] at hI hP hmeas ⊢
  clear hwo wr
  obtain⟨HI,HP,HCo,Hs,Hhb,Hmeas⟩:=hd6 hI hP hCo hs hhb hmeas;clear hI hP hCo hs hhb hmeas
  go_wp2_with fail
  refine HP.out.mono ?_
  rintro e w1 ⟨rfl,q1,rfl⟩
  have hI1:=HI.out.to (za9 (Below.refl _ _) q1)
  generalize wo.drewN q1=W1 at hI1 ⊢
  have HI1:=hd hI1;clear hI1
  go_wp2_with fail
  refine (HCo.out _).mono ?_
  rintro e w1 ⟨rfl,rfl⟩
  cases hb with
  | false =>
   go_wp2_with fail
   go_ret
   exact⟨.inl ⟨out,i+k,_,by rw[HI1.out.same];exact ziv (by rw[← Hs.out];exact Hhb.out.symm),rfl,HI1.out.reads,HI1.out.st.box⟩,HI1.out.frm⟩
  | true =>
   have hP2:=HC.out.peek HI1.out.st
   rw[← Hs.out] at hP2
   have HP2:=hd hP2;clear hP2
   go_wp2_with fail
   refine HP2.out.mono ?_
   rintro e w1 ⟨rfl,q2,rfl⟩
   have hI2:=HI1.out.to (za9 (Below.refl _ _) q2)
   generalize w1.drewN q2=W2 at hI2 ⊢
   obtain⟨mx,hmx⟩:=(HC.out.dr hI2.st).max
   have hCut:=Tryz.strings_Cut s ⟨#[61]⟩ mx W2 (by omega) hmx
   clear hmx
   obtain⟨nm,hnm⟩ : ∃ x:ByteArray,x=⟨(cut s.data.toList [61]).1.toArray⟩:=⟨_,rfl⟩
   obtain⟨vl,hvl⟩ : ∃ x:ByteArray,x=⟨(cut s.data.toList [61]).2.1.toArray⟩:=⟨_,rfl⟩
   obtain⟨fl,hfl⟩ : ∃ x:Bool,x=(cut s.data.toList [61]).2.2:=⟨_,rfl⟩
   simp only[← hnm,← hvl,← hfl] at hCut
   have hsg:zgn s=(nm,vl):=by unfold zgn cutB;rw[hnm,hvl]
   have hsgz:nm.size≤70000∧vl.size≤70000:=by
    have:=cutB_size 61 s
    have e1:nm=(cutB 61 s).1:=hnm
    have e2:vl=(cutB 61 s).2.1:=hvl
    rw[e1,e2]
    omega
   have hlt:i+k < n:=by rw[HC.out.len];exact zoc (by rw[← Hs.out];exact Hhb.out.symm)
   obtain⟨HCut,HI2,Hnm,Hvl,Hfl,Hsg,Hsgz⟩:=hd7 hCut hI2 hnm hvl hfl hsg hsgz;clear hCut hI2 hnm hvl hfl hsg hsgz
   go_wp2_with fail
   refine HCut.out.mono ?_
   rintro e w1 ⟨rfl,q3,rfl⟩
   have hI3:=HI2.out.to (za9 (Below.refl _ _) q3)
   generalize W2.drewN q3=W3 at hI3 ⊢
   have hrow3:=hI3.row
   have hbW3:w.heap.size≤W3.heap.size:=hI3.frm.size
   have hk1:=hI3.k1000
   obtain⟨N,hN⟩ : ∃ N,N=out.flatMap setCells:=⟨_,rfl⟩
   rw[← hN] at hrow3
   obtain⟨HI3,Hrow3,HN⟩:=hd3 hI3 hrow3 hN;clear hI3 hrow3 hN
   go_wp2_with (at_builtin;(refine zan elem_set rfl (.tmp 18) (.tmp 22) rfl w.heap.size (.slice a1 k c1) k N rfl Hrow3.out 1 #[.string nm,.string vl] rfl rfl (by simp[Value.oneCell']) (by omega) (by unfold maxLen;omega) hbW3 ?_;intro v9 w9 hown9 hg9 hm9;obtain⟨a9,c9,rfl⟩:=zaj hown9;obtain⟨Hown9,Hg9⟩:=hd2 hown9 hg9;clear hown9 hg9 hm9))
   have ho9:=Hown9.out
   rw[HN.out] at ho9
   obtain⟨hS9,hF9,hR9,hZ9⟩:=HI3.out.push HC.out.low hrw (x:=(nm,vl)) Hsgz.out Hg9.out ho9
   have hW:=zou hR9
   obtain⟨b,hb⟩ : ∃ b,b=ze2 (out ++ [(nm,vl)]):=⟨_,rfl⟩
   rw[← hb] at hW
   obtain⟨Ho9,HS9,HF9,HR9,HZ9,HW,Hb⟩:=hd7 ho9 hS9 hF9 hR9 hZ9 hW hb;clear ho9 hS9 hF9 hR9 hZ9 hW hb
   refine HW.out.mono ?_
   rintro e w10 ⟨rfl,hb10⟩
   have hS10:=HS9.out.to hb10
   have hF10:=HF9.out.trans (Frm.of_below (S:=fun _=>False) hb10) (fun _ _ h=>h.elim)
   have ho10:=za8 Ho9.out hb10
   cases b with
   | false =>
    have hWn:=HC.out.want hS10
    obtain⟨HS10,HF10,Ho10,HWn,Hb10⟩:=hd5 hS10 hF10 ho10 hWn hb10;clear hS10 hF10 ho10 hWn hb10
    go_wp2_with fail
    refine HWn.out.mono ?_
    rintro e w11 ⟨rfl,q4,rfl⟩
    go_wp2_with fail
    refine⟨rfl,.inr ⟨i+k,?_,rfl⟩,HF10.out.drewN q4⟩
    rw[HI3.out.same]
    exact zkx (by rw[← Hs.out];exact Hhb.out.symm) (by rw[← Hs.out,Hsg.out];exact Hb.out.symm)
   | true =>
    obtain⟨m,hm⟩ : ∃ m,m=i+k:=⟨_,rfl⟩
    have hsm:zb7 ws i []=zb7 ws (i+k+1) (out ++ [(nm,vl)]):=by
     rw[HI3.out.same,zkw (by rw[← Hs.out];exact Hhb.out.symm) (by rw[← Hs.out,Hsg.out];exact Hb.out.symm),← Hs.out,Hsg.out]
    have hnx:=StI.next hS10 hF10 HZ9.out HI3.out.len HC.out.low hrw (by omega) ho10 hsm
    rw[← hm] at hS10 hnx hlt
    obtain⟨_,c1',_,c3'⟩:=zbd hS10.box
    have hme:=Hmeas.out
    rw[← hm] at hme
    obtain⟨HS10,HF10,Ho10,Hb10,Hm,Hsm,Hnx⟩:=hd7 hS10 hF10 ho10 hb10 hm hsm hnx;clear hS10 hF10 ho10 hb10 hm hsm hnx
    go_wp2_with fail
    refine (zgs w10 r).mono ?_
    rintro e w11 ⟨rfl,hw11⟩
    subst hw11
    go_wp2_with fail
    go_roundw
    case rel=>exact⟨k+1,_,Hnx.out⟩
    case measure =>
     rw[zom (i:=m+1) (fin:=fin) (v:=.slice a n c) ?_,hme]
     ·omega
     have:=Hnx.out.st.box
     rw[show i+(k+1)=m+1 by rw[Hm.out];rfl] at this
     exact this
end

section
open Go.RowKit Go.Shelf Go.Lib VerN
theorem zjj (s t a b:ByteArray) (W:World):(binOp .neq 34 (.agg #[.string s,.string t]) (.agg #[.string a,.string b])).run Tryz.prog W = .ok (.bool (!(decide (s=a) && decide (t=b)))) W:=by
 have u9:=Tryz.underlying9
 have hS:Tryz.prog.underlying 34=some (.struct (Tryz.prog.fieldsOf 34)):=by kernel_rfl
 have hp:Tryz.prog.stoodInHeld 34=false:=by kernel_rfl
 rw[run_neq_struct,show (10000:Nat)=9999+1 from rfl,run_equalIn_agg W 9999 34 _ _ hS hp]
 simp only[Program.fieldsOf,Tryz.underlying34]
 go_simp
 have e1:=Txt.eq_dec s a
 have e2:=Txt.eq_dec t b
 by_cases h1:s=a <;> by_cases h2:t=b <;> simp[h1,h2] at e1 e2 ⊢ <;> simp_all
theorem zkz {w:World} {v u:Value} {l m:List BSp} (h:RSps w [v] l) (hm:RSps w [u] m):Calls Tryz.prog 18 #[v,u] w fun e w'=>e = .returned (.bool (decide (l=m)))∧∃ q,w'=w.drewN q:=by
 obtain⟨a,cap,rfl,hz,g⟩:=zb8 h
 obtain⟨a2,cap2,rfl,hz2,g2⟩:=zb8 hm
 obtain⟨n,hn⟩ : ∃ n,n=l.length:=⟨_,rfl⟩
 obtain⟨n2,hn2⟩ : ∃ n,n=m.length:=⟨_,rfl⟩
 obtain⟨r,hr⟩ : ∃ r,r=decide (l=m):=⟨_,rfl⟩
 have q1:=fun s t a b=>zjj s t a b
 rw[← hr]
 rw[← hn] at hz h ⊢
 rw[← hn2] at hz2 hm ⊢
 obtain⟨Hh,Hm,Hg,Hg2,Hn,Hn2,Hr,Hq1⟩:=hd8 h hm g g2 hn hn2 hr q1;clear h hm g g2 hn hn2 hr q1
 go_enter Tryz.func18,Tryz.ntmps18
 by_cases hne:n=n2
 case neg =>
  have k1:((n:Int) != (n2:Int))=true:=by simp;omega
  have hf:r=false:=by rw[Hr.out,decide_eq_false_iff_not];intro e;exact hne (by rw[Hn.out,Hn2.out,e])
  obtain⟨Hf,Hne⟩:=hd2 hf hne;clear hf hne
  go_wp2_with fail
  go_ret
  exact⟨zab Hf.out.symm,0,rfl⟩
 have k1:((n:Int) != (n2:Int))=false:=by simp;omega
 have Hne:=hd hne;clear hne
 go_wp2_with fail
 clear k1
 go_loopw [13] (fun i wr=>∃ k:Nat,k≤n∧i = .int .i64 k∧(∀ j (h1:j < l.length) (h2:j < m.length),j < k→l[j]=m[j])∧∃ q,wr=w.drewN q) (fun i _=>n - (RowKit.intOf i).toNat)
 case atStart=>exact⟨0,Nat.zero_le _,rfl,fun _ _ _ h=>by omega,0,rfl⟩
 case round =>
  obtain⟨k,hk,rfl,hno,q,rfl⟩:=hrel
  by_cases hlt:k < n
  ·have hkl:k < l.length:=by have:=Hn.out;omega
   have hkm:k < m.length:=by have:=Hn2.out;have:=Hne.out;omega
   obtain⟨b,off,rfl,d0,d1,_,_⟩:=Hg.out k _ (List.getElem?_eq_getElem hkl)
   obtain⟨b2,off2,rfl,f0,f1,_,_⟩:=Hg2.out k _ (List.getElem?_eq_getElem hkm)
   have hnx:l[k]=m[k]→∀ j (h1:j < l.length) (h2:j < m.length),j < k+1→l[j]=m[j]:=fun h j h1 h2 hjk=>by
    by_cases e:j=k
    ·subst e;exact h
    exact hno j h1 h2 (by omega)
   have hbd:l[k]≠m[k]→l≠m:=fun h e=>h (by subst e;rfl)
   obtain⟨x,hx⟩ : ∃ x,x=l[k]:=⟨_,rfl⟩
   obtain⟨y,hy⟩ : ∃ x,x=m[k]:=⟨_,rfl⟩
   rw[← hx] at d0 d1 hnx hbd
   rw[← hy] at f0 f1 hnx hbd
   have q2:=Hq1.out x.1 x.2 y.1 y.2
   have hxy:(decide (x.1=y.1) && decide (x.2=y.2))=decide (x=y):=by
    rw[Bool.eq_iff_iff]
    simp[Prod.ext_iff]
   rw[hxy] at q2
   obtain⟨s,hs⟩ : ∃ s,s=x.1:=⟨_,rfl⟩
   obtain⟨t,ht⟩ : ∃ s,s=x.2:=⟨_,rfl⟩
   obtain⟨s',hs'⟩ : ∃ s,s=y.1:=⟨_,rfl⟩
   obtain⟨t',ht'⟩ : ∃ s,s=y.2:=⟨_,rfl⟩
   rw[← hs,← ht,← hs',← ht'] at q2
   rw[← hs] at d0
   rw[← ht] at d1
   rw[← hs'] at f0
   rw[← ht'] at f1
   have k5:(0:Int)≤(k:Int):=by omega
   have k6:(k:Int) < (n:Int):=by omega
   have k7:(k:Int) < (n2:Int):=by have:=Hne.out;omega
   clear hxy
   by_cases e:x=y
   ·have hq:=hnx e
    rw[decide_eq_true e] at q2
    simp only[Bool.not_true] at q2
    clear e
    obtain⟨Hno,Hnx,Hbd,Hx,Hy,Hs,Ht,Hs',Ht',Hq⟩:=hd10 hno hnx hbd hx hy hs ht hs' ht' hq;clear hno hnx hbd hx hy hs ht hs' ht' hq
    go_wp2_with fail
    go_region
    go_wp2_with fail
    go_roundw
    case rel=>exact⟨k+1,by omega,by go_num,Hq.out,_,rfl⟩
    case measure=>simp[RowKit.intOf];omega
   have hf:r=false:=by rw[Hr.out,decide_eq_false_iff_not];exact hbd e
   rw[decide_eq_false e] at q2
   simp only[Bool.not_false] at q2
   clear e
   obtain⟨Hno,Hnx,Hbd,Hx,Hy,Hs,Ht,Hs',Ht',Hf⟩:=hd10 hno hnx hbd hx hy hs ht hs' ht' hf;clear hno hnx hbd hx hy hs ht hs' ht' hf
   go_wp2_with fail
   go_region
   go_wp2_with fail
   go_ret
   exact⟨zab Hf.out.symm,_,rfl⟩
  obtain rfl:n=k:=by omega
  have hf:r=true:=by
   rw[Hr.out,decide_eq_true_eq]
   exact List.ext_getElem (by rw[← Hn.out,← Hn2.out,Hne.out]) (fun j h1 h2=>hno j h1 h2 (by have:=Hn.out;omega))
  obtain⟨Hno,Hf⟩:=hd2 hno hf;clear hno hf
  go_wp2_with fail
  go_ret
  exact⟨zab Hf.out.symm,_,rfl⟩
end

section
open Go.Shelf Go.RowKit Go.Lib VerN
attribute [local go_sem ↓] Go.wp_at_zero Go.wp_at_succ
theorem znr (w:World):RSps w [.slice none 0 0] []:=⟨_,0,rfl,Nat.zero_le _,Nat.zero_le _,fun i x hi=>by simp at hi⟩
theorem rdPost_to {t:ByteArray} {w w':World} {e:Ending} (h:RdPost t w e w'):zm5 t w e w':=by
 obtain⟨h,hb⟩:=h
 refine⟨?_,hb⟩
 rcases h with⟨v,rfl,⟨h0,rfl⟩ | ⟨h0,h1,h2,h3⟩⟩ | ⟨rfl,h0,h1⟩
 ·exact .inl ⟨_,rfl,.inl h0,by unfold rdV;rw[if_pos h0];exact spsT_nil (znr _)⟩
 ·refine .inl ⟨_,rfl,.inr ⟨h1,h2⟩,?_⟩
  unfold rdV
  rw[if_neg h0]
  obtain⟨l,hl⟩:=rd_ok t h1
  rw[← hl] at h3 ⊢
  exact⟨zfn (fun x hx=>by have:=zh9 l x hx;unfold maxLen;omega) h3,fun _=>znn h3⟩
 refine .inr ⟨_,rfl,?_,znr _⟩
 rintro (h | ⟨k1,k2⟩)
 ·exact h0 h
 rcases h1 with⟨p,hp,hk⟩ | h1
 ·rw[k1 p hp] at hk;cases hk
 obtain⟨l,hl⟩:=rd_ok t k1
 exact h1 l hl (k2 l hl)
theorem spsRd_any (t:ByteArray) (ht:t.size≤70000) {w:World} (hD:zb1 w):Calls Tryz.prog 16 #[.string t] w (zm5 t w):=(zma t ht hD).mono fun _ _ h=>rdPost_to h
def SetPost (t:ByteArray) (w:World) (e:Ending) (w':World):Prop :=
 ∃ a n c,e = .returned (.tuple #[.slice a n c,.bool (zfp t)])∧(zfp t=true→zgr w' (.slice a n c) (rdV t))∧Below w.heap.size w w'
open Classical in
theorem setOk_yes {t:ByteArray} (h:Rd3 t) {x:BSp} {r:List BSp} (hr:rdV t=x :: r) (hx:(decide (x.1=⟨#[]⟩) && decide (x.2=⟨#[]⟩))=false):zfp t=true:=by
 unfold zfp
 rw[decide_eq_true_eq]
 refine⟨h,by rw[hr];simp,by rw[hr];rintro e;simp at e;rw[e] at hx;simp at hx⟩
open Classical in
theorem setOk_one {t:ByteArray} {x:BSp} {r:List BSp} (hr:rdV t=x :: r) (hx:(decide (x.1=⟨#[]⟩) && decide (x.2=⟨#[]⟩))=true):zfp t=false:=by
 unfold zfp
 rw[decide_eq_false_iff_not]
 rintro⟨_,_,h⟩
 rw[hr] at h
 simp only[Bool.and_eq_true,decide_eq_true_eq] at hx
 exact h (by rw[List.head?_cons];exact congrArg some (Prod.ext hx.1 hx.2))
open Classical in
theorem setOk_nil {t:ByteArray} (hr:rdV t = []):zfp t=false:=by
 unfold zfp
 rw[decide_eq_false_iff_not]
 rintro⟨_,h,_⟩
 exact h hr
open Classical in
theorem setOk_no {t:ByteArray} (h:¬ Rd3 t):zfp t=false:=by
 unfold zfp
 rw[decide_eq_false_iff_not]
 exact fun k=>h k.1
theorem bytes_e (x:ByteArray):(x.toList == (⟨#[]⟩ : ByteArray).toList)=decide (x=⟨#[]⟩):=Txt.eq_dec _ _
theorem toList_e:(⟨#[]⟩ : ByteArray).toList = []:=by rw[Lib.toList_data]
theorem set_any (t:ByteArray) (ht:t.size≤70000) {w:World} (hD:zb1 w):Calls Tryz.prog 182 #[.string t] w (SetPost t w):=by
 have hR:=spsRd_any t ht hD
 obtain⟨HR,HD⟩:=hd2 hR hD;clear hR hD
 go_enter Tryz.func182,Tryz.ntmps182
 go_wp2_with fail
 refine HR.out.mono ?_
 rintro e w1 ⟨⟨v,rfl,hr,hv⟩ | ⟨v,rfl,hr,hv⟩,hb⟩
 ·obtain⟨a,c,rfl⟩:=zcw hv.1
  have hat:=zns hv.1
  obtain⟨n,hn⟩ : ∃ n,n=(rdV t).length:=⟨_,rfl⟩
  rw[← hn] at hv ⊢
  match hL:rdV t with
  | [] =>
   have hf:=setOk_nil hL
   rw[hL] at hn
   obtain rfl:n=0:=hn
   clear hat hL
   obtain⟨Hr,Hv,Hf,Hb⟩:=hd4 hr hv hf hb;clear hr hv hf hb
   go_wp2_with fail
   go_quiet (fail)
   go_wp2_with fail
   go_ret2
   exact⟨_,_,_,by rw[Hf.out];rfl,(fun k=>by rw[Hf.out] at k;cases k),za9 Hb.out _⟩
  | x :: rr =>
   obtain⟨b,off,rfl,c0,c1⟩:=hat 0 x (by rw[hL];rfl)
   simp only[Nat.zero_mul,Nat.add_zero] at c0 c1
   have hn1:0 < n:=by rw[hn,hL];simp
   have k1:decide ((0:Int) < (n:Int))=true:=decide_eq_true (by omega)
   have k2:((n:Int) == 0)=false:=by rw[beq_eq_false_iff_ne];omega
   have q1:=fun (W:World)=>zjj x.1 x.2 ⟨#[]⟩ ⟨#[]⟩ W
   obtain⟨y,hy⟩ : ∃ y,y=x.1:=⟨_,rfl⟩
   obtain⟨z,hz⟩ : ∃ y,y=x.2:=⟨_,rfl⟩
   have hyes:=setOk_yes hr hL
   have hone:=setOk_one hL
   rw[← hy,← hz] at hyes hone q1
   rw[← hy] at c0
   rw[← hz] at c1
   have x1:=bytes_e y
   have x2:=bytes_e z
   rw[toList_e] at x1 x2
   have k5:(0:Int) < (n:Int):=by omega
   obtain⟨p1,hp1⟩ : ∃ p,p=decide (y=⟨#[]⟩):=⟨_,rfl⟩
   obtain⟨p2,hp2⟩ : ∃ p,p=decide (z=⟨#[]⟩):=⟨_,rfl⟩
   rw[← hp1] at x1
   rw[← hp2] at x2
   rw[← hp1,← hp2] at hyes hone q1
   clear hat
   cases p1 with
   | false =>
    have hf:=hyes rfl
    obtain⟨Hr,Hv,Hf,Hb,HL,Hn,Hy,Hz,Hyes,Hone,Hp1,Hp2⟩:=hd12 hr hv hf hb hL hn hy hz hyes hone hp1 hp2;clear hr hv hf hb hL hn hy hz hyes hone hp1 hp2
    go_wp2_with fail
    go_quiet (fail)
    go_wp2_with fail
    go_ret2
    exact⟨_,_,_,by rw[Hf.out];rfl,(fun _=>zcv Hv.out (za9 (Below.refl _ _) _)),za9 Hb.out _⟩
   | true =>
    cases p2 with
    | false =>
     have hf:=hyes rfl
     obtain⟨Hr,Hv,Hf,Hb,HL,Hn,Hy,Hz,Hyes,Hone,Hp1,Hp2⟩:=hd12 hr hv hf hb hL hn hy hz hyes hone hp1 hp2;clear hr hv hf hb hL hn hy hz hyes hone hp1 hp2
     go_wp2_with fail
     go_quiet (fail)
     go_wp2_with fail
     go_ret2
     exact⟨_,_,_,by rw[Hf.out];rfl,(fun _=>zcv Hv.out (za9 (Below.refl _ _) _)),za9 Hb.out _⟩
    | true =>
     have hf:=hone rfl
     obtain⟨Hr,Hv,Hf,Hb,HL,Hn,Hy,Hz,Hyes,Hone,Hp1,Hp2⟩:=hd12 hr hv hf hb hL hn hy hz hyes hone hp1 hp2;clear hr hv hf hb hL hn hy hz hyes hone hp1 hp2
     go_wp2_with fail
     go_quiet (fail)
     go_wp2_with fail
     go_ret2
     exact⟨_,_,_,by rw[Hf.out];rfl,(fun k=>by rw[Hf.out] at k;cases k),za9 Hb.out _⟩
 have hf:=setOk_no hr
 obtain⟨a,c,rfl⟩:=zcw hv
 obtain⟨Hr,Hv,Hf,Hb⟩:=hd4 hr hv hf hb;clear hr hv hf hb
 go_wp2_with fail
 go_quiet (fail)
 go_wp2_with fail
 go_ret2
 exact⟨_,_,_,by rw[Hf.out];rfl,(fun k=>by rw[Hf.out] at k;cases k),za9 Hb.out _⟩
end

section
open Go.Shelf Go.RowKit Go.Lib VerN VarM
open LexM (Wd)
attribute [local go_sem ↓] Go.wp_at_zero Go.wp_at_succ
abbrev zav (k:Nat) (x y z:Value) (W:World):Prop:=W.heap[k]? = some (.cells #[x,y,z] 51 (0,0))
theorem zai {k:Nat} {x y z:Value} {W:World} (h:zav k x y z W):W.cell? ⟨k,0,none⟩=some x∧W.cell? ⟨k,1,none⟩=some y∧W.cell? ⟨k,2,none⟩=some z∧W.frozen? ⟨k,0,none⟩=false∧W.frozen? ⟨k,1,none⟩=false∧W.frozen? ⟨k,2,none⟩=false :=
 ⟨za1 h 0,za1 h 1,za1 h 2,za7 h 0,za7 h 1,za7 h 2⟩
theorem zbz {S:Nat→Prop} {W W':World} (hF:Frm S W W') {k:Nat} {o:Obj} (h:W.heap[k]? = some o) (hS:¬ S k):W'.heap[k]? = some o:=zbh h hF hS
theorem zd6 {W:World} {r g g1:Nat} {v:Value} {i:Nat} {fin:Int} {x0 x1:Value} {a0 a1 b0 b1:Option Addr} {n0 n1 m0 m1 c0 c1 d0 d1:Nat} (h:RBox r v i fin W) (h0:zav g x0 (.slice a0 n0 c0) (.slice b0 m0 d0) W) (h1:zav g1 x1 (.slice a1 n1 c1) (.slice b1 m1 d1) W):No2 W (fun k=>k=r∨k=g∨k=g1):=by
 rintro k (rfl | rfl | rfl)
 ·exact zf6 h (by decide) (by decide)
 ·exact zf6 h0 (by decide) (by decide)
 exact zf6 h1 (by decide) (by decide)
structure WsI (w0:World) (r:Nat) (a:Option Addr) (n c:Nat) (fin:Int) (i:Nat) (w:World) (W:World):Prop where
 st:RdS w0 r a n c fin i W
 frm:Frm (fun k=>k=r) w W
 g0:zav w.heap.size (.string ⟨#[]⟩) (.slice none 0 0) (.slice none 0 0) W
theorem WsI.to {w0:World} {r:Nat} {a:Option Addr} {n c:Nat} {fin:Int} {i:Nat} {w W W':World} (h:WsI w0 r a n c fin i w W) (hb:Below W.heap.size W W'):WsI w0 r a n c fin i w W' :=
 ⟨h.st.to hb,h.frm.trans (Frm.of_below (S:=fun _=>False) hb) (fun _ _ h=>h.elim),za0 hb h.g0⟩
structure WsJ (w0:World) (r:Nat) (a:Option Addr) (n c:Nat) (fin:Int) (i:Nat) (w:World) (g g1:Nat) (nm:ByteArray) (va:Option Addr) (vn vc:Nat) (L:List BSp) (W:World):Prop where
 st:RdS w0 r a n c fin i W
 frm:Frm (fun k=>k=r) w W
 g0:zav g (.string ⟨#[]⟩) (.slice none 0 0) (.slice none 0 0) W
 g1:zav g1 (.string nm) (.slice va vn vc) (.slice none 0 0) W
 rd:zgr W (.slice va vn vc) L
theorem zm0 (W:World):zgr (W.alloc (.cells #[.string ⟨#[]⟩,.string ⟨#[]⟩] 34)) (.slice (some ⟨W.heap.size,0,none⟩) 1 1) allV:=by
 refine⟨?_,fun _ k hk=>by cases hk;exact⟨_,_,heap_alloc_new W _⟩⟩
 refine⟨_,1,rfl,Nat.le_refl _,by unfold maxLen;omega,fun i x hi=>?_⟩
 have h:=heap_alloc_new W (.cells #[.string ⟨#[]⟩,.string ⟨#[]⟩] 34)
 match i,hi with
 | 0,hi =>
  simp[allV] at hi
  subst hi
  refine⟨W.heap.size,0,[.string ⟨#[]⟩,.string ⟨#[]⟩],rfl,rfl,fun j u hu=>?_,rfl,Nat.zero_le _,Nat.zero_le _⟩
  rw[Nat.zero_mul,Nat.add_zero,Nat.zero_add]
  match j,hu with
  | 0,hu=>simp at hu;subst hu;exact za1 h 0
  | 1,hu=>simp at hu;subst hu;exact za1 h 1
 | i+1,hi=>simp[allV] at hi
end

section
open Go.RowKit Go.Shelf
attribute [local go_sem ↓] Go.wp_at_zero Go.wp_at_succ
theorem zny (s t a b:ByteArray) (W:World):(binOp .neq 109 (.agg #[.string s,.string t]) (.agg #[.string a,.string b])).run Tryz.prog W = .ok (.bool (!(decide (s=a) && decide (t=b)))) W:=by
 have u9:=Tryz.underlying9
 have hS:Tryz.prog.underlying 109=some (.struct (Tryz.prog.fieldsOf 109)):=by kernel_rfl
 have hp:Tryz.prog.stoodInHeld 109=false:=by kernel_rfl
 rw[run_neq_struct,show (10000:Nat)=9999+1 from rfl,run_equalIn_agg W 9999 109 _ _ hS hp]
 simp only[Program.fieldsOf,Tryz.underlying109]
 go_simp
 have e1:=Txt.eq_dec s a
 have e2:=Txt.eq_dec t b
 by_cases h1:s=a <;> by_cases h2:t=b <;> simp[h1,h2] at e1 e2 ⊢ <;> simp_all
theorem zmf {w:World} {v u:Value} {l m:List Setg} (h:zbm w [v] l) (hm:zbm w [u] m):Calls Tryz.prog 80 #[v,u] w fun e w'=>e = .returned (.bool (decide (l=m)))∧∃ q,w'=w.drewN q:=by
 obtain⟨a,cap,rfl,hz,g⟩:=zbc h
 obtain⟨a2,cap2,rfl,hz2,g2⟩:=zbc hm
 obtain⟨n,hn⟩ : ∃ n,n=l.length:=⟨_,rfl⟩
 obtain⟨n2,hn2⟩ : ∃ n,n=m.length:=⟨_,rfl⟩
 obtain⟨r,hr⟩ : ∃ r,r=decide (l=m):=⟨_,rfl⟩
 have q1:=fun s t a b=>zny s t a b
 rw[← hr]
 rw[← hn] at hz h ⊢
 rw[← hn2] at hz2 hm ⊢
 obtain⟨Hh,Hm,Hg,Hg2,Hn,Hn2,Hr,Hq1⟩:=hd8 h hm g g2 hn hn2 hr q1;clear h hm g g2 hn hn2 hr q1
 go_enter Tryz.func80,Tryz.ntmps80
 by_cases hne:n=n2
 case neg =>
  have k1:((n:Int) != (n2:Int))=true:=by simp;omega
  have hf:r=false:=by rw[Hr.out,decide_eq_false_iff_not];intro e;exact hne (by rw[Hn.out,Hn2.out,e])
  obtain⟨Hf,Hne⟩:=hd2 hf hne;clear hf hne
  go_wp2_with fail
  go_ret
  exact⟨zab Hf.out.symm,0,rfl⟩
 have k1:((n:Int) != (n2:Int))=false:=by simp;omega
 have Hne:=hd hne;clear hne
 go_wp2_with fail
 clear k1
 go_loopw [13] (fun i wr=>∃ k:Nat,k≤n∧i = .int .i64 k∧(∀ j (h1:j < l.length) (h2:j < m.length),j < k→l[j]=m[j])∧∃ q,wr=w.drewN q) (fun i _=>n - (intOf i).toNat)
 case atStart=>exact⟨0,Nat.zero_le _,rfl,fun _ _ _ h=>by omega,0,rfl⟩
 case round =>
  obtain⟨k,hk,rfl,hno,q,rfl⟩:=hrel
  by_cases hlt:k < n
  ·have hkl:k < l.length:=by have:=Hn.out;omega
   have hkm:k < m.length:=by have:=Hn2.out;have:=Hne.out;omega
   obtain⟨b,off,rfl,d0,d1,_,_⟩:=Hg.out k _ (List.getElem?_eq_getElem hkl)
   obtain⟨b2,off2,rfl,f0,f1,_,_⟩:=Hg2.out k _ (List.getElem?_eq_getElem hkm)
   have hnx:l[k]=m[k]→∀ j (h1:j < l.length) (h2:j < m.length),j < k+1→l[j]=m[j]:=fun h j h1 h2 hjk=>by
    by_cases e:j=k
    ·subst e;exact h
    exact hno j h1 h2 (by omega)
   have hbd:l[k]≠m[k]→l≠m:=fun h e=>h (by subst e;rfl)
   obtain⟨x,hx⟩ : ∃ x,x=l[k]:=⟨_,rfl⟩
   obtain⟨y,hy⟩ : ∃ x,x=m[k]:=⟨_,rfl⟩
   rw[← hx] at d0 d1 hnx hbd
   rw[← hy] at f0 f1 hnx hbd
   have q2:=Hq1.out x.1 x.2 y.1 y.2
   have hxy:(decide (x.1=y.1) && decide (x.2=y.2))=decide (x=y):=by
    rw[Bool.eq_iff_iff]
    simp[Prod.ext_iff]
   rw[hxy] at q2
   obtain⟨s,hs⟩ : ∃ s,s=x.1:=⟨_,rfl⟩
   obtain⟨t,ht⟩ : ∃ s,s=x.2:=⟨_,rfl⟩
   obtain⟨s',hs'⟩ : ∃ s,s=y.1:=⟨_,rfl⟩
   obtain⟨t',ht'⟩ : ∃ s,s=y.2:=⟨_,rfl⟩
   rw[← hs,← ht,← hs',← ht'] at q2
   rw[← hs] at d0
   rw[← ht] at d1
   rw[← hs'] at f0
   rw[← ht'] at f1
   have k5:(0:Int)≤(k:Int):=by omega
   have k6:(k:Int) < (n:Int):=by omega
   have k7:(k:Int) < (n2:Int):=by have:=Hne.out;omega
   clear hxy
   by_cases e:x=y
   ·have hq:=hnx e
    rw[decide_eq_true e] at q2
    simp only[Bool.not_true] at q2
    clear e
    obtain⟨Hno,Hnx,Hbd,Hx,Hy,Hs,Ht,Hs',Ht',Hq⟩:=hd10 hno hnx hbd hx hy hs ht hs' ht' hq;clear hno hnx hbd hx hy hs ht hs' ht' hq
    go_wp2_with fail
    go_region
    go_wp2_with fail
    go_roundw
    case rel=>exact⟨k+1,by omega,by go_num,Hq.out,_,rfl⟩
    case measure=>simp[intOf];omega
   have hf:r=false:=by rw[Hr.out,decide_eq_false_iff_not];exact hbd e
   rw[decide_eq_false e] at q2
   simp only[Bool.not_false] at q2
   clear e
   obtain⟨Hno,Hnx,Hbd,Hx,Hy,Hs,Ht,Hs',Ht',Hf⟩:=hd10 hno hnx hbd hx hy hs ht hs' ht' hf;clear hno hnx hbd hx hy hs ht hs' ht' hf
   go_wp2_with fail
   go_region
   go_wp2_with fail
   go_ret
   exact⟨zab Hf.out.symm,_,rfl⟩
  obtain rfl:n=k:=by omega
  have hf:r=true:=by
   rw[Hr.out,decide_eq_true_eq]
   exact List.ext_getElem (by rw[← Hn.out,← Hn2.out,Hne.out]) (fun j h1 h2=>hno j h1 h2 (by have:=Hn.out;omega))
  obtain⟨Hno,Hf⟩:=hd2 hno hf;clear hno hf
  go_wp2_with fail
  go_ret
  exact⟨zab Hf.out.symm,_,rfl⟩
end

section
open Go.Shelf Go.RowKit Go.Lib VerN VarM
attribute [local go_sem ↓] Go.wp_at_zero Go.wp_at_succ
theorem zd7 {w:World} {n m:ByteArray} {v1 v2 u1 u2:Value} {l1 l2:List BSp} {g1 g2:List Setg} (h1:RSps w [v1] l1) (h2:zbm w [v2] g1) (h3:RSps w [u1] l2) (h4:zbm w [u2] g2) :
  Calls Tryz.prog 38 #[.agg #[.string n,v1,v2],.agg #[.string m,u1,u2]] w fun e w'=>e = .returned (.bool (decide ((n,l1,g1)=(m,l2,g2))))∧Below w.heap.size w w':=by
 obtain⟨a1,c1,rfl,-,-⟩:=zb8 h1
 obtain⟨a2,c2,rfl,-,-⟩:=zbc h2
 obtain⟨a3,c3,rfl,-,-⟩:=zb8 h3
 obtain⟨a4,c4,rfl,-,-⟩:=zbc h4
 obtain⟨W1,hW1⟩ : ∃ W,W=(w.alloc (.cells #[.string n,.slice a1 l1.length c1,.slice a2 g1.length c2] 51)).alloc (.cells #[.string m,.slice a3 l2.length c3,.slice a4 g2.length c4] 51):=⟨_,rfl⟩
 obtain⟨g,hg⟩ : ∃ g,g=w.heap.size:=⟨_,rfl⟩
 have hb1:Below w.heap.size w W1:=by rw[hW1];exact (za2 _ _).alloc (by simp) _
 have p0:zav g (.string n) (.slice a1 l1.length c1) (.slice a2 g1.length c2) W1:=by rw[hW1,hg];exact za0 (za2 _ _) (za5 rfl)
 have p1:zav (g+1) (.string m) (.slice a3 l2.length c3) (.slice a4 g2.length c4) W1:=by rw[hW1,hg];exact za5 (by simp)
 have r1:=za3 zaf _ _ _ _ h1 hb1
 have r2:=za3 zag _ _ _ _ h2 hb1
 have r3:=za3 zaf _ _ _ _ h3 hb1
 have r4:=za3 zag _ _ _ _ h4 hb1
 obtain⟨x0,x1,x2,-⟩:=zai p0
 obtain⟨y0,y1,y2,-⟩:=zai p1
 obtain⟨r,hr⟩ : ∃ r,r=decide ((n,l1,g1)=(m,l2,g2)):=⟨_,rfl⟩
 have hS:=zkz r1 r3
 have hT:=fun (W:World) (k:Below W1.heap.size W1 W)=>zmf (za3 zag _ _ _ _ r2 k) (za3 zag _ _ _ _ r4 k)
 obtain⟨n1,hn1⟩ : ∃ n,n=l1.length:=⟨_,rfl⟩
 obtain⟨n2,hn2⟩ : ∃ n,n=g1.length:=⟨_,rfl⟩
 obtain⟨n3,hn3⟩ : ∃ n,n=l2.length:=⟨_,rfl⟩
 obtain⟨n4,hn4⟩ : ∃ n,n=g2.length:=⟨_,rfl⟩
 have hnm:=Txt.eq_dec n m
 rw[← hr]
 rw[← hn1] at x1 hS hW1 ⊢
 rw[← hn2] at x2 hT hW1 ⊢
 rw[← hn3] at y1 hS hW1 ⊢
 rw[← hn4] at y2 hT hW1 ⊢
 obtain⟨bs,hbs⟩ : ∃ b,b=decide (l1=l2):=⟨_,rfl⟩
 obtain⟨bt,hbt⟩ : ∃ b,b=decide (g1=g2):=⟨_,rfl⟩
 obtain⟨bn,hbn⟩ : ∃ b,b=decide (n=m):=⟨_,rfl⟩
 rw[← hbs] at hS
 rw[← hbt] at hT
 rw[← hbn] at hnm
 have hrr:r=(bn && (bs && bt)):=by
  rw[hr,hbn,hbs,hbt,Bool.eq_iff_iff]
  simp[Prod.ext_iff]
 clear hr hbs hbt hbn
 obtain⟨H1,H2,H3,H4,Hb1,Hp0,Hp1,Hr1,Hr2,Hr3,Hr4,Hn1,Hn2,Hn3,Hn4,HS⟩:=hd16 h1 h2 h3 h4 hb1 p0 p1 r1 r2 r3 r4 hn1 hn2 hn3 hn4 hS;obtain⟨HT,Hrr⟩:=hd2 hT hrr;clear h1 h2 h3 h4 hb1 p0 p1 r1 r2 r3 r4 hn1 hn2 hn3 hn4 hS hT hrr
 go_enter Tryz.func38,Tryz.ntmps38
 go_upto_region 1 with (fail)
 rw[← hW1,← hg]
 clear hW1 hg
 cases bn with
 | false =>
  go_wp2_with fail
  go_ret
  exact⟨zab (by rw[Hrr.out];rfl),Hb1.out⟩
 | true =>
  cases bs with
  | false =>
   go_wp2_with fail
   refine HS.out.mono ?_
   rintro e w2 ⟨rfl,q,rfl⟩
   go_wp2_with fail
   go_ret
   exact⟨zab (by rw[Hrr.out];rfl),za9 Hb1.out q⟩
  | true =>
   go_wp2_with fail
   refine HS.out.mono ?_
   rintro e w2 ⟨rfl,q,rfl⟩
   have hbq:Below W1.heap.size W1 (W1.drewN q):=za9 (Below.refl _ _) q
   have hT2:=HT.out _ hbq
   obtain⟨x3,x4,x5,-⟩:=zai (za0 hbq Hp0.out)
   obtain⟨y3,y4,y5,-⟩:=zai (za0 hbq Hp1.out)
   rw[← Hn2.out] at x5
   rw[← Hn4.out] at y5
   obtain⟨HT2,Hbq⟩:=hd2 hT2 hbq;clear hT2 hbq
   go_wp2_with fail
   refine HT2.out.mono ?_
   rintro e w2 ⟨rfl,q2,rfl⟩
   go_wp2_with fail
   go_ret
   exact⟨zab (by rw[Hrr.out];rfl),za9 Hb1.out _⟩
end

section
open Go.RowKit Go.Shelf Go.Lib VerN
theorem zli {w:World} {v u:Value} {l m:List BSp} (h:RSps w [v] l) (hm:RSps w [u] m):Calls Tryz.prog 69 #[v,u] w fun e w'=>e = .returned (.bool (decide (l=m)))∧∃ q,w'=w.drewN q:=by
 obtain⟨a,cap,rfl,hz,g⟩:=zb8 h
 obtain⟨a2,cap2,rfl,hz2,g2⟩:=zb8 hm
 obtain⟨n,hn⟩ : ∃ n,n=l.length:=⟨_,rfl⟩
 obtain⟨n2,hn2⟩ : ∃ n,n=m.length:=⟨_,rfl⟩
 obtain⟨r,hr⟩ : ∃ r,r=decide (l=m):=⟨_,rfl⟩
 have q1:=fun s t a b=>zjj s t a b
 rw[← hr]
 rw[← hn] at hz h ⊢
 rw[← hn2] at hz2 hm ⊢
 obtain⟨Hh,Hm,Hg,Hg2,Hn,Hn2,Hr,Hq1⟩:=hd8 h hm g g2 hn hn2 hr q1;clear h hm g g2 hn hn2 hr q1
 go_enter Tryz.func69,Tryz.ntmps69
 by_cases hne:n=n2
 case neg =>
  have k1:((n:Int) != (n2:Int))=true:=by simp;omega
  have hf:r=false:=by rw[Hr.out,decide_eq_false_iff_not];intro e;exact hne (by rw[Hn.out,Hn2.out,e])
  obtain⟨Hf,Hne⟩:=hd2 hf hne;clear hf hne
  go_wp2_with fail
  go_ret
  exact⟨zab Hf.out.symm,0,rfl⟩
 have k1:((n:Int) != (n2:Int))=false:=by simp;omega
 have Hne:=hd hne;clear hne
 go_wp2_with fail
 clear k1
 go_loopw [13] (fun i wr=>∃ k:Nat,k≤n∧i = .int .i64 k∧(∀ j (h1:j < l.length) (h2:j < m.length),j < k→l[j]=m[j])∧∃ q,wr=w.drewN q) (fun i _=>n - (RowKit.intOf i).toNat)
 case atStart=>exact⟨0,Nat.zero_le _,rfl,fun _ _ _ h=>by omega,0,rfl⟩
 case round =>
  obtain⟨k,hk,rfl,hno,q,rfl⟩:=hrel
  by_cases hlt:k < n
  ·have hkl:k < l.length:=by have:=Hn.out;omega
   have hkm:k < m.length:=by have:=Hn2.out;have:=Hne.out;omega
   obtain⟨b,off,rfl,d0,d1,_,_⟩:=Hg.out k _ (List.getElem?_eq_getElem hkl)
   obtain⟨b2,off2,rfl,f0,f1,_,_⟩:=Hg2.out k _ (List.getElem?_eq_getElem hkm)
   have hnx:l[k]=m[k]→∀ j (h1:j < l.length) (h2:j < m.length),j < k+1→l[j]=m[j]:=fun h j h1 h2 hjk=>by
    by_cases e:j=k
    ·subst e;exact h
    exact hno j h1 h2 (by omega)
   have hbd:l[k]≠m[k]→l≠m:=fun h e=>h (by subst e;rfl)
   obtain⟨x,hx⟩ : ∃ x,x=l[k]:=⟨_,rfl⟩
   obtain⟨y,hy⟩ : ∃ x,x=m[k]:=⟨_,rfl⟩
   rw[← hx] at d0 d1 hnx hbd
   rw[← hy] at f0 f1 hnx hbd
   have q2:=Hq1.out x.1 x.2 y.1 y.2
   have hxy:(decide (x.1=y.1) && decide (x.2=y.2))=decide (x=y):=by
    rw[Bool.eq_iff_iff]
    simp[Prod.ext_iff]
   rw[hxy] at q2
   obtain⟨s,hs⟩ : ∃ s,s=x.1:=⟨_,rfl⟩
   obtain⟨t,ht⟩ : ∃ s,s=x.2:=⟨_,rfl⟩
   obtain⟨s',hs'⟩ : ∃ s,s=y.1:=⟨_,rfl⟩
   obtain⟨t',ht'⟩ : ∃ s,s=y.2:=⟨_,rfl⟩
   rw[← hs,← ht,← hs',← ht'] at q2
   rw[← hs] at d0
   rw[← ht] at d1
   rw[← hs'] at f0
   rw[← ht'] at f1
   have k5:(0:Int)≤(k:Int):=by omega
   have k6:(k:Int) < (n:Int):=by omega
   have k7:(k:Int) < (n2:Int):=by have:=Hne.out;omega
   clear hxy
   by_cases e:x=y
   ·have hq:=hnx e
    rw[decide_eq_true e] at q2
    simp only[Bool.not_true] at q2
    clear e
    obtain⟨Hno,Hnx,Hbd,Hx,Hy,Hs,Ht,Hs',Ht',Hq⟩:=hd10 hno hnx hbd hx hy hs ht hs' ht' hq;clear hno hnx hbd hx hy hs ht hs' ht' hq
    go_wp2_with fail
    go_region
    go_wp2_with fail
    go_roundw
    case rel=>exact⟨k+1,by omega,by go_num,Hq.out,_,rfl⟩
    case measure=>simp[RowKit.intOf];omega
   have hf:r=false:=by rw[Hr.out,decide_eq_false_iff_not];exact hbd e
   rw[decide_eq_false e] at q2
   simp only[Bool.not_false] at q2
   clear e
   obtain⟨Hno,Hnx,Hbd,Hx,Hy,Hs,Ht,Hs',Ht',Hf⟩:=hd10 hno hnx hbd hx hy hs ht hs' ht' hf;clear hno hnx hbd hx hy hs ht hs' ht' hf
   go_wp2_with fail
   go_region
   go_wp2_with fail
   go_ret
   exact⟨zab Hf.out.symm,_,rfl⟩
  obtain rfl:n=k:=by omega
  have hf:r=true:=by
   rw[Hr.out,decide_eq_true_eq]
   exact List.ext_getElem (by rw[← Hn.out,← Hn2.out,Hne.out]) (fun j h1 h2=>hno j h1 h2 (by have:=Hn.out;omega))
  obtain⟨Hno,Hf⟩:=hd2 hno hf;clear hno hf
  go_wp2_with fail
  go_ret
  exact⟨zab Hf.out.symm,_,rfl⟩
end

section
open Go.RowKit Go.Shelf Go.Lib VerN
theorem zlj {w:World} {v u:Value} {l m:List Setg} (h:zbm w [v] l) (hm:zbm w [u] m):Calls Tryz.prog 81 #[v,u] w fun e w'=>e = .returned (.bool (decide (l=m)))∧∃ q,w'=w.drewN q:=by
 obtain⟨a,cap,rfl,hz,g⟩:=zbc h
 obtain⟨a2,cap2,rfl,hz2,g2⟩:=zbc hm
 obtain⟨n,hn⟩ : ∃ n,n=l.length:=⟨_,rfl⟩
 obtain⟨n2,hn2⟩ : ∃ n,n=m.length:=⟨_,rfl⟩
 obtain⟨r,hr⟩ : ∃ r,r=decide (l=m):=⟨_,rfl⟩
 have q1:=fun s t a b=>zny s t a b
 rw[← hr]
 rw[← hn] at hz h ⊢
 rw[← hn2] at hz2 hm ⊢
 obtain⟨Hh,Hm,Hg,Hg2,Hn,Hn2,Hr,Hq1⟩:=hd8 h hm g g2 hn hn2 hr q1;clear h hm g g2 hn hn2 hr q1
 go_enter Tryz.func81,Tryz.ntmps81
 by_cases hne:n=n2
 case neg =>
  have k1:((n:Int) != (n2:Int))=true:=by simp;omega
  have hf:r=false:=by rw[Hr.out,decide_eq_false_iff_not];intro e;exact hne (by rw[Hn.out,Hn2.out,e])
  obtain⟨Hf,Hne⟩:=hd2 hf hne;clear hf hne
  go_wp2_with fail
  go_ret
  exact⟨zab Hf.out.symm,0,rfl⟩
 have k1:((n:Int) != (n2:Int))=false:=by simp;omega
 have Hne:=hd hne;clear hne
 go_wp2_with fail
 clear k1
 go_loopw [13] (fun i wr=>∃ k:Nat,k≤n∧i = .int .i64 k∧(∀ j (h1:j < l.length) (h2:j < m.length),j < k→l[j]=m[j])∧∃ q,wr=w.drewN q) (fun i _=>n - (RowKit.intOf i).toNat)
 case atStart=>exact⟨0,Nat.zero_le _,rfl,fun _ _ _ h=>by omega,0,rfl⟩
 case round =>
  obtain⟨k,hk,rfl,hno,q,rfl⟩:=hrel
  by_cases hlt:k < n
  ·have hkl:k < l.length:=by have:=Hn.out;omega
   have hkm:k < m.length:=by have:=Hn2.out;have:=Hne.out;omega
   obtain⟨b,off,rfl,d0,d1,_,_⟩:=Hg.out k _ (List.getElem?_eq_getElem hkl)
   obtain⟨b2,off2,rfl,f0,f1,_,_⟩:=Hg2.out k _ (List.getElem?_eq_getElem hkm)
   have hnx:l[k]=m[k]→∀ j (h1:j < l.length) (h2:j < m.length),j < k+1→l[j]=m[j]:=fun h j h1 h2 hjk=>by
    by_cases e:j=k
    ·subst e;exact h
    exact hno j h1 h2 (by omega)
   have hbd:l[k]≠m[k]→l≠m:=fun h e=>h (by subst e;rfl)
   obtain⟨x,hx⟩ : ∃ x,x=l[k]:=⟨_,rfl⟩
   obtain⟨y,hy⟩ : ∃ x,x=m[k]:=⟨_,rfl⟩
   rw[← hx] at d0 d1 hnx hbd
   rw[← hy] at f0 f1 hnx hbd
   have q2:=Hq1.out x.1 x.2 y.1 y.2
   have hxy:(decide (x.1=y.1) && decide (x.2=y.2))=decide (x=y):=by
    rw[Bool.eq_iff_iff]
    simp[Prod.ext_iff]
   rw[hxy] at q2
   obtain⟨s,hs⟩ : ∃ s,s=x.1:=⟨_,rfl⟩
   obtain⟨t,ht⟩ : ∃ s,s=x.2:=⟨_,rfl⟩
   obtain⟨s',hs'⟩ : ∃ s,s=y.1:=⟨_,rfl⟩
   obtain⟨t',ht'⟩ : ∃ s,s=y.2:=⟨_,rfl⟩
   rw[← hs,← ht,← hs',← ht'] at q2
   rw[← hs] at d0
   rw[← ht] at d1
   rw[← hs'] at f0
   rw[← ht'] at f1
   have k5:(0:Int)≤(k:Int):=by omega
   have k6:(k:Int) < (n:Int):=by omega
   have k7:(k:Int) < (n2:Int):=by have:=Hne.out;omega
   clear hxy
   by_cases e:x=y
   ·have hq:=hnx e
    rw[decide_eq_true e] at q2
    simp only[Bool.not_true] at q2
    clear e
    obtain⟨Hno,Hnx,Hbd,Hx,Hy,Hs,Ht,Hs',Ht',Hq⟩:=hd10 hno hnx hbd hx hy hs ht hs' ht' hq;clear hno hnx hbd hx hy hs ht hs' ht' hq
    go_wp2_with fail
    go_region
    go_wp2_with fail
    go_roundw
    case rel=>exact⟨k+1,by omega,by go_num,Hq.out,_,rfl⟩
    case measure=>simp[RowKit.intOf];omega
   have hf:r=false:=by rw[Hr.out,decide_eq_false_iff_not];exact hbd e
   rw[decide_eq_false e] at q2
   simp only[Bool.not_false] at q2
   clear e
   obtain⟨Hno,Hnx,Hbd,Hx,Hy,Hs,Ht,Hs',Ht',Hf⟩:=hd10 hno hnx hbd hx hy hs ht hs' ht' hf;clear hno hnx hbd hx hy hs ht hs' ht' hf
   go_wp2_with fail
   go_region
   go_wp2_with fail
   go_ret
   exact⟨zab Hf.out.symm,_,rfl⟩
  obtain rfl:n=k:=by omega
  have hf:r=true:=by
   rw[Hr.out,decide_eq_true_eq]
   exact List.ext_getElem (by rw[← Hn.out,← Hn2.out,Hne.out]) (fun j h1 h2=>hno j h1 h2 (by have:=Hn.out;omega))
  obtain⟨Hno,Hf⟩:=hd2 hno hf;clear hno hf
  go_wp2_with fail
  go_ret
  exact⟨zab Hf.out.symm,_,rfl⟩
end

section
open Go.Shelf Go.RowKit Go.Lib VerN VarM
attribute [local go_sem ↓] Go.wp_at_zero Go.wp_at_succ
theorem zl4 {w:World} {v:Value} {L:List BSp} (h:RSps w [v] L):Calls Tryz.prog 178 #[v] w fun e w'=>e = .returned (.bool (decide (L=allV)))∧w'=w:=by
 obtain⟨a,cap,rfl,hz,g⟩:=zb8 h
 obtain⟨n,hn⟩ : ∃ n,n=L.length:=⟨_,rfl⟩
 obtain⟨r,hr⟩ : ∃ r,r=decide (L=allV):=⟨_,rfl⟩
 rw[← hr]
 rw[← hn] at hz h ⊢
 by_cases h1:n=1
 ·subst h1
  obtain⟨x,hx⟩ : ∃ x,L = [x]:=List.length_eq_one_iff.1 hn.symm
  obtain⟨b,off,rfl,d0,d1,-,-⟩:=g 0 x (by rw[hx];rfl)
  rw[Nat.zero_mul,Nat.add_zero] at d0 d1
  have q:=fun (W:World)=>spn_eqs x.1 x.2 ⟨#[]⟩ ⟨#[]⟩ W
  have hrr:(decide (x.1=⟨#[]⟩) && decide (x.2=⟨#[]⟩))=r:=by
   rw[hr,hx,Bool.eq_iff_iff]
   simp[allV,Prod.ext_iff]
  simp only[hrr] at q
  obtain⟨s,hs⟩ : ∃ s,s=x.1:=⟨_,rfl⟩
  obtain⟨t,ht⟩ : ∃ s,s=x.2:=⟨_,rfl⟩
  simp only[← hs,← ht] at q
  rw[← hs] at d0
  rw[← ht] at d1
  clear hrr
  obtain⟨Hh,Hg,Hn,Hr,Hx,Hs,Ht⟩:=hd7 h g hn hr hx hs ht;clear h g hn hr hx hs ht
  go_enter Tryz.func178,Tryz.ntmps178
  go_wp2_with fail
  go_ret
  exact⟨rfl,rfl⟩
 have k1:((n:Int) == 1)=false:=by rw[beq_eq_false_iff_ne];omega
 have hf:r=false:=by
  rw[hr,decide_eq_false_iff_not]
  rintro rfl
  exact h1 hn
 obtain⟨Hh,Hg,Hn,Hr,Hf,H1⟩:=hd6 h g hn hr hf h1;clear h g hn hr hf h1
 go_enter Tryz.func178,Tryz.ntmps178
 go_wp2_with fail
 go_ret
 exact⟨zab Hf.out.symm,rfl⟩
theorem zc6 {w:World} {n m:ByteArray} {v1 v2 u1 u2:Value} {l1 l2:List BSp} {g1 g2:List Setg} (h1:RSps w [v1] l1) (h2:zbm w [v2] g1) (h3:RSps w [u1] l2) (h4:zbm w [u2] g2) :
  Calls Tryz.prog 39 #[.agg #[.string n,v1,v2],.agg #[.string m,u1,u2]] w fun e w'=>e = .returned (.bool (decide ((n,l1,g1)=(m,l2,g2))))∧Below w.heap.size w w':=by
 obtain⟨a1,c1,rfl,-,-⟩:=zb8 h1
 obtain⟨a2,c2,rfl,-,-⟩:=zbc h2
 obtain⟨a3,c3,rfl,-,-⟩:=zb8 h3
 obtain⟨a4,c4,rfl,-,-⟩:=zbc h4
 obtain⟨W1,hW1⟩ : ∃ W,W=(w.alloc (.cells #[.string n,.slice a1 l1.length c1,.slice a2 g1.length c2] 51)).alloc (.cells #[.string m,.slice a3 l2.length c3,.slice a4 g2.length c4] 51):=⟨_,rfl⟩
 obtain⟨g,hg⟩ : ∃ g,g=w.heap.size:=⟨_,rfl⟩
 have hb1:Below w.heap.size w W1:=by rw[hW1];exact (za2 _ _).alloc (by simp) _
 have p0:zav g (.string n) (.slice a1 l1.length c1) (.slice a2 g1.length c2) W1:=by rw[hW1,hg];exact za0 (za2 _ _) (za5 rfl)
 have p1:zav (g+1) (.string m) (.slice a3 l2.length c3) (.slice a4 g2.length c4) W1:=by rw[hW1,hg];exact za5 (by simp)
 have r1:=za3 zaf _ _ _ _ h1 hb1
 have r2:=za3 zag _ _ _ _ h2 hb1
 have r3:=za3 zaf _ _ _ _ h3 hb1
 have r4:=za3 zag _ _ _ _ h4 hb1
 obtain⟨x0,x1,x2,-⟩:=zai p0
 obtain⟨y0,y1,y2,-⟩:=zai p1
 obtain⟨r,hr⟩ : ∃ r,r=decide ((n,l1,g1)=(m,l2,g2)):=⟨_,rfl⟩
 have hS:=zli r1 r3
 have hT:=fun (W:World) (k:Below W1.heap.size W1 W)=>zlj (za3 zag _ _ _ _ r2 k) (za3 zag _ _ _ _ r4 k)
 obtain⟨n1,hn1⟩ : ∃ n,n=l1.length:=⟨_,rfl⟩
 obtain⟨n2,hn2⟩ : ∃ n,n=g1.length:=⟨_,rfl⟩
 obtain⟨n3,hn3⟩ : ∃ n,n=l2.length:=⟨_,rfl⟩
 obtain⟨n4,hn4⟩ : ∃ n,n=g2.length:=⟨_,rfl⟩
 have hnm:=Txt.eq_dec n m
 rw[← hr]
 rw[← hn1] at x1 hS hW1 ⊢
 rw[← hn2] at x2 hT hW1 ⊢
 rw[← hn3] at y1 hS hW1 ⊢
 rw[← hn4] at y2 hT hW1 ⊢
 obtain⟨bs,hbs⟩ : ∃ b,b=decide (l1=l2):=⟨_,rfl⟩
 obtain⟨bt,hbt⟩ : ∃ b,b=decide (g1=g2):=⟨_,rfl⟩
 obtain⟨bn,hbn⟩ : ∃ b,b=decide (n=m):=⟨_,rfl⟩
 rw[← hbs] at hS
 rw[← hbt] at hT
 rw[← hbn] at hnm
 have hrr:r=(bn && (bs && bt)):=by
  rw[hr,hbn,hbs,hbt,Bool.eq_iff_iff]
  simp[Prod.ext_iff]
 clear hr hbs hbt hbn
 obtain⟨H1,H2,H3,H4,Hb1,Hp0,Hp1,Hr1,Hr2,Hr3,Hr4,Hn1,Hn2,Hn3,Hn4,HS⟩:=hd16 h1 h2 h3 h4 hb1 p0 p1 r1 r2 r3 r4 hn1 hn2 hn3 hn4 hS;obtain⟨HT,Hrr⟩:=hd2 hT hrr;clear h1 h2 h3 h4 hb1 p0 p1 r1 r2 r3 r4 hn1 hn2 hn3 hn4 hS hT hrr
 go_enter Tryz.func39,Tryz.ntmps39
 go_upto_region 1 with (fail)
 rw[← hW1,← hg]
 clear hW1 hg
 cases bn with
 | false =>
  go_wp2_with fail
  go_ret
  exact⟨zab (by rw[Hrr.out];rfl),Hb1.out⟩
 | true =>
  cases bs with
  | false =>
   go_wp2_with fail
   refine HS.out.mono ?_
   rintro e w2 ⟨rfl,q,rfl⟩
   go_wp2_with fail
   go_ret
   exact⟨zab (by rw[Hrr.out];rfl),za9 Hb1.out q⟩
  | true =>
   go_wp2_with fail
   refine HS.out.mono ?_
   rintro e w2 ⟨rfl,q,rfl⟩
   have hbq:Below W1.heap.size W1 (W1.drewN q):=za9 (Below.refl _ _) q
   have hT2:=HT.out _ hbq
   obtain⟨x3,x4,x5,-⟩:=zai (za0 hbq Hp0.out)
   obtain⟨y3,y4,y5,-⟩:=zai (za0 hbq Hp1.out)
   rw[← Hn2.out] at x5
   rw[← Hn4.out] at y5
   obtain⟨HT2,Hbq⟩:=hd2 hT2 hbq;clear hT2 hbq
   go_wp2_with fail
   refine HT2.out.mono ?_
   rintro e w2 ⟨rfl,q2,rfl⟩
   go_wp2_with fail
   go_ret
   exact⟨zab (by rw[Hrr.out];rfl),za9 Hb1.out _⟩
end

section
open Go.Shelf Go.RowKit Go.Lib VerN VarM
attribute [local go_sem ↓] Go.wp_at_zero Go.wp_at_succ
theorem zna {w:World} {n m:ByteArray} {a1 a2:Option Addr} {n1 c1 n2 c2:Nat} {l1 l2:List ByteArray} (h1:RTs w [.slice a1 n1 c1] l1) (h2:RTs w [.slice a2 n2 c2] l2) :
  Calls Tryz.prog 144 #[.agg #[.string n,.slice a1 n1 c1],.agg #[.string m,.slice a2 n2 c2]] w fun e w'=>e = .returned (.bool (decide (n=m) && decide (l1=l2)))∧Below w.heap.size w w':=by
 obtain⟨W1,hW1⟩ : ∃ W,W=(w.alloc (.cells #[.string n,.slice a1 n1 c1] 159)).alloc (.cells #[.string m,.slice a2 n2 c2] 159):=⟨_,rfl⟩
 obtain⟨g,hg⟩ : ∃ g,g=w.heap.size:=⟨_,rfl⟩
 have hb1:Below w.heap.size w W1:=by rw[hW1];exact (za2 _ _).alloc (by simp) _
 have p0:W1.heap[g]? = some (.cells #[.string n,.slice a1 n1 c1] 159 (0,0)):=by rw[hW1,hg];exact za0 (za2 _ _) (za5 rfl)
 have p1:W1.heap[g+1]? = some (.cells #[.string m,.slice a2 n2 c2] 159 (0,0)):=by rw[hW1,hg];exact za5 (by simp)
 have hS:=zdc (zah h1 hb1) (zah h2 hb1)
 have x0:=za1 p0 0
 have x1:=za1 p0 1
 have y0:=za1 p1 0
 have y1:=za1 p1 1
 simp only[List.getElem?_toArray,List.getElem?_cons_zero,List.getElem?_cons_succ] at x0 x1 y0 y1
 have hnm:=Txt.eq_dec n m
 obtain⟨bn,hbn⟩ : ∃ b,b=decide (n=m):=⟨_,rfl⟩
 obtain⟨bs,hbs⟩ : ∃ b,b=decide (l1=l2):=⟨_,rfl⟩
 rw[← hbs] at hS
 rw[← hbn] at hnm
 rw[← hbn,← hbs]
 obtain⟨H1,H2,Hb1,Hp0,Hp1,HS,Hbn,Hbs⟩:=hd8 h1 h2 hb1 p0 p1 hS hbn hbs;clear h1 h2 hb1 p0 p1 hS hbn hbs
 go_enter Tryz.func144,Tryz.ntmps144
 go_upto_region 1 with (fail)
 rw[← hW1,← hg]
 clear hW1 hg
 cases bn with
 | false =>
  go_wp2_with fail
  go_ret
  exact⟨rfl,Hb1.out⟩
 | true =>
  go_wp2_with fail
  refine HS.out.mono ?_
  rintro e w2 ⟨rfl,q,rfl⟩
  go_wp2_with fail
  go_ret
  exact⟨by first | rfl | (rw[Bool.true_and]),za9 Hb1.out q⟩
theorem zq4 {w:World} {n m:ByteArray} {a1 a2:Option Addr} {n1 c1 n2 c2:Nat} {i1 i2:Int} {l1 l2:List ByteArray} (h1:RTs w [.slice a1 n1 c1] l1) (h2:RTs w [.slice a2 n2 c2] l2) :
  Calls Tryz.prog 87 #[.agg #[.string n,.slice a1 n1 c1,.int .i64 i1],.agg #[.string m,.slice a2 n2 c2,.int .i64 i2]] w fun e w'=>e = .returned (.bool (decide (n=m) && decide (l1=l2)))∧Below w.heap.size w w':=by
 obtain⟨W1,hW1⟩ : ∃ W,W=(w.alloc (.cells #[.string n,.slice a1 n1 c1,.int .i64 i1] 125)).alloc (.cells #[.string m,.slice a2 n2 c2,.int .i64 i2] 125):=⟨_,rfl⟩
 obtain⟨g,hg⟩ : ∃ g,g=w.heap.size:=⟨_,rfl⟩
 have hb1:Below w.heap.size w W1:=by rw[hW1];exact (za2 _ _).alloc (by simp) _
 have p0:W1.heap[g]? = some (.cells #[.string n,.slice a1 n1 c1,.int .i64 i1] 125 (0,0)):=by rw[hW1,hg];exact za0 (za2 _ _) (za5 rfl)
 have p1:W1.heap[g+1]? = some (.cells #[.string m,.slice a2 n2 c2,.int .i64 i2] 125 (0,0)):=by rw[hW1,hg];exact za5 (by simp)
 have hS:=zdc (zah h1 hb1) (zah h2 hb1)
 have x0:=za1 p0 0
 have x1:=za1 p0 1
 have y0:=za1 p1 0
 have y1:=za1 p1 1
 simp only[List.getElem?_toArray,List.getElem?_cons_zero,List.getElem?_cons_succ] at x0 x1 y0 y1
 have hnm:=Txt.eq_dec n m
 obtain⟨bn,hbn⟩ : ∃ b,b=decide (n=m):=⟨_,rfl⟩
 obtain⟨bs,hbs⟩ : ∃ b,b=decide (l1=l2):=⟨_,rfl⟩
 rw[← hbs] at hS
 rw[← hbn] at hnm
 rw[← hbn,← hbs]
 obtain⟨H1,H2,Hb1,Hp0,Hp1,HS,Hbn,Hbs⟩:=hd8 h1 h2 hb1 p0 p1 hS hbn hbs;clear h1 h2 hb1 p0 p1 hS hbn hbs
 go_enter Tryz.func87,Tryz.ntmps87
 go_upto_region 1 with (fail)
 rw[← hW1,← hg]
 clear hW1 hg
 cases bn with
 | false =>
  go_wp2_with fail
  go_ret
  exact⟨rfl,Hb1.out⟩
 | true =>
  go_wp2_with fail
  refine HS.out.mono ?_
  rintro e w2 ⟨rfl,q,rfl⟩
  go_wp2_with fail
  go_ret
  exact⟨by first | rfl | (rw[Bool.true_and]),za9 Hb1.out q⟩
theorem znb {w:World} {s1 s2 t1 t2:ByteArray} {a1 d1:Option Addr} {an1 ac1 dn1 dc1:Nat} {a2 d2:Option Addr} {an2 ac2 dn2 dc2:Nat} {a3 d3:Option Addr} {an3 ac3 dn3 dc3:Nat} {a4 d4:Option Addr} {an4 ac4 dn4 dc4:Nat} {i1 i2:Int} {l1 l2 l3 l4:List BSp} {g1 g2 g3 g4:List Setg}
  (h1:RSps w [.slice a1 an1 ac1] l1) (h2:zbm w [.slice a2 an2 ac2] g1) (h3:RSps w [.slice a3 an3 ac3] l2) (h4:zbm w [.slice a4 an4 ac4] g2)
  (k1:RSps w [.slice d1 dn1 dc1] l3) (k2:zbm w [.slice d2 dn2 dc2] g3) (k3:RSps w [.slice d3 dn3 dc3] l4) (k4:zbm w [.slice d4 dn4 dc4] g4) :
  Calls Tryz.prog 146 #[.agg #[.string s1,.slice a1 an1 ac1,.slice a2 an2 ac2,.string s2,.slice a3 an3 ac3,.slice a4 an4 ac4,.int .i64 i1],.agg #[.string t1,.slice d1 dn1 dc1,.slice d2 dn2 dc2,.string t2,.slice d3 dn3 dc3,.slice d4 dn4 dc4,.int .i64 i2]] w fun e w'=>e = .returned (.bool (decide ((s1,l1,g1)=(t1,l3,g3)) && decide ((s2,l2,g2)=(t2,l4,g4))))∧Below w.heap.size w w':=by
 obtain⟨W1,hW1⟩ : ∃ W,W=(w.alloc (.cells #[.string s1,.slice a1 an1 ac1,.slice a2 an2 ac2,.string s2,.slice a3 an3 ac3,.slice a4 an4 ac4,.int .i64 i1] 134)).alloc (.cells #[.string t1,.slice d1 dn1 dc1,.slice d2 dn2 dc2,.string t2,.slice d3 dn3 dc3,.slice d4 dn4 dc4,.int .i64 i2] 134):=⟨_,rfl⟩
 obtain⟨g,hg⟩ : ∃ g,g=w.heap.size:=⟨_,rfl⟩
 have hb1:Below w.heap.size w W1:=by rw[hW1];exact (za2 _ _).alloc (by simp) _
 have p0:W1.heap[g]? = some (.cells #[.string s1,.slice a1 an1 ac1,.slice a2 an2 ac2,.string s2,.slice a3 an3 ac3,.slice a4 an4 ac4,.int .i64 i1] 134 (0,0)):=by rw[hW1,hg];exact za0 (za2 _ _) (za5 rfl)
 have p1:W1.heap[g+1]? = some (.cells #[.string t1,.slice d1 dn1 dc1,.slice d2 dn2 dc2,.string t2,.slice d3 dn3 dc3,.slice d4 dn4 dc4,.int .i64 i2] 134 (0,0)):=by rw[hW1,hg];exact za5 (by simp)
 have hS:=zc6 (n:=s1) (m:=t1) (za3 zaf _ _ _ _ h1 hb1) (za3 zag _ _ _ _ h2 hb1) (za3 zaf _ _ _ _ k1 hb1) (za3 zag _ _ _ _ k2 hb1)
 have hT:=fun (W:World) (k:Below w.heap.size w W)=>zc6 (n:=s2) (m:=t2) (za3 zaf _ _ _ _ h3 k) (za3 zag _ _ _ _ h4 k) (za3 zaf _ _ _ _ k3 k) (za3 zag _ _ _ _ k4 k)
 have x0:=za1 p0 0
 have x1:=za1 p0 1
 have x2:=za1 p0 2
 have y0:=za1 p1 0
 have y1:=za1 p1 1
 have y2:=za1 p1 2
 simp only[List.getElem?_toArray,List.getElem?_cons_zero,List.getElem?_cons_succ] at x0 x1 x2 y0 y1 y2
 obtain⟨bn,hbn⟩ : ∃ b,b=decide ((s1,l1,g1)=(t1,l3,g3)):=⟨_,rfl⟩
 obtain⟨bs,hbs⟩ : ∃ b,b=decide ((s2,l2,g2)=(t2,l4,g4)):=⟨_,rfl⟩
 rw[← hbn] at hS
 rw[← hbs] at hT
 rw[← hbn,← hbs]
 obtain⟨H1,H2,H3,H4,Hk1,Hk2,Hk3,Hk4,Hb1,Hp0,Hp1,HS,HT,Hbn,Hbs⟩:=hd15 h1 h2 h3 h4 k1 k2 k3 k4 hb1 p0 p1 hS hT hbn hbs;clear h1 h2 h3 h4 k1 k2 k3 k4 hb1 p0 p1 hS hT hbn hbs
 go_enter Tryz.func146,Tryz.ntmps146
 go_upto_region 1 with (fail)
 rw[← hW1,← hg]
 clear hW1 hg
 go_wp2_with fail
 refine HS.out.mono ?_
 rintro e w2 ⟨rfl,hb2⟩
 have hbw:=Hb1.out.trans (hb2.mono Hb1.out.size)
 clear x0 x1 x2 y0 y1 y2
 cases bn with
 | false =>
  obtain⟨Hb2,Hbw⟩:=hd2 hb2 hbw;clear hb2 hbw
  go_wp2_with fail
  go_ret
  exact⟨rfl,Hbw.out⟩
 | true =>
  have x3:=za1 (za0 hb2 Hp0.out) 3
  have x4:=za1 (za0 hb2 Hp0.out) 4
  have x5:=za1 (za0 hb2 Hp0.out) 5
  have y3:=za1 (za0 hb2 Hp1.out) 3
  have y4:=za1 (za0 hb2 Hp1.out) 4
  have y5:=za1 (za0 hb2 Hp1.out) 5
  simp only[List.getElem?_toArray,List.getElem?_cons_zero,List.getElem?_cons_succ] at x3 x4 x5 y3 y4 y5
  have hT2:=HT.out _ hbw
  obtain⟨Hb2,Hbw,HT2⟩:=hd3 hb2 hbw hT2;clear hb2 hbw hT2
  go_wp2_with fail
  refine HT2.out.mono ?_
  rintro e w3 ⟨rfl,hb3⟩
  have hbz:=Hbw.out.trans (hb3.mono Hbw.out.size)
  obtain⟨Hb3,Hbz⟩:=hd2 hb3 hbz;clear hb3 hbz
  go_wp2_with fail
  go_ret
  exact⟨by first | rfl | (rw[Bool.true_and]),Hbz.out⟩
theorem zll {w:World} {s1 s2 t1 t2:ByteArray} {a1 d1:Option Addr} {an1 ac1 dn1 dc1:Nat} {a2 d2:Option Addr} {an2 ac2 dn2 dc2:Nat} {a3 d3:Option Addr} {an3 ac3 dn3 dc3:Nat} {a4 d4:Option Addr} {an4 ac4 dn4 dc4:Nat} {i1 i2:Int} {l1 l2 l3 l4:List BSp} {g1 g2 g3 g4:List Setg}
  (h1:RSps w [.slice a1 an1 ac1] l1) (h2:zbm w [.slice a2 an2 ac2] g1) (h3:RSps w [.slice a3 an3 ac3] l2) (h4:zbm w [.slice a4 an4 ac4] g2)
  (k1:RSps w [.slice d1 dn1 dc1] l3) (k2:zbm w [.slice d2 dn2 dc2] g3) (k3:RSps w [.slice d3 dn3 dc3] l4) (k4:zbm w [.slice d4 dn4 dc4] g4) :
  Calls Tryz.prog 148 #[.agg #[.string s1,.slice a1 an1 ac1,.slice a2 an2 ac2,.string s2,.slice a3 an3 ac3,.slice a4 an4 ac4,.int .i64 i1],.agg #[.string t1,.slice d1 dn1 dc1,.slice d2 dn2 dc2,.string t2,.slice d3 dn3 dc3,.slice d4 dn4 dc4,.int .i64 i2]] w fun e w'=>e = .returned (.bool (decide ((s1,l1,g1)=(t1,l3,g3)) && decide ((s2,l2,g2)=(t2,l4,g4))))∧Below w.heap.size w w':=by
 obtain⟨W1,hW1⟩ : ∃ W,W=(w.alloc (.cells #[.string s1,.slice a1 an1 ac1,.slice a2 an2 ac2,.string s2,.slice a3 an3 ac3,.slice a4 an4 ac4,.int .i64 i1] 197)).alloc (.cells #[.string t1,.slice d1 dn1 dc1,.slice d2 dn2 dc2,.string t2,.slice d3 dn3 dc3,.slice d4 dn4 dc4,.int .i64 i2] 197):=⟨_,rfl⟩
 obtain⟨g,hg⟩ : ∃ g,g=w.heap.size:=⟨_,rfl⟩
 have hb1:Below w.heap.size w W1:=by rw[hW1];exact (za2 _ _).alloc (by simp) _
 have p0:W1.heap[g]? = some (.cells #[.string s1,.slice a1 an1 ac1,.slice a2 an2 ac2,.string s2,.slice a3 an3 ac3,.slice a4 an4 ac4,.int .i64 i1] 197 (0,0)):=by rw[hW1,hg];exact za0 (za2 _ _) (za5 rfl)
 have p1:W1.heap[g+1]? = some (.cells #[.string t1,.slice d1 dn1 dc1,.slice d2 dn2 dc2,.string t2,.slice d3 dn3 dc3,.slice d4 dn4 dc4,.int .i64 i2] 197 (0,0)):=by rw[hW1,hg];exact za5 (by simp)
 have hS:=zc6 (n:=s1) (m:=t1) (za3 zaf _ _ _ _ h1 hb1) (za3 zag _ _ _ _ h2 hb1) (za3 zaf _ _ _ _ k1 hb1) (za3 zag _ _ _ _ k2 hb1)
 have hT:=fun (W:World) (k:Below w.heap.size w W)=>zc6 (n:=s2) (m:=t2) (za3 zaf _ _ _ _ h3 k) (za3 zag _ _ _ _ h4 k) (za3 zaf _ _ _ _ k3 k) (za3 zag _ _ _ _ k4 k)
 have x0:=za1 p0 0
 have x1:=za1 p0 1
 have x2:=za1 p0 2
 have y0:=za1 p1 0
 have y1:=za1 p1 1
 have y2:=za1 p1 2
 simp only[List.getElem?_toArray,List.getElem?_cons_zero,List.getElem?_cons_succ] at x0 x1 x2 y0 y1 y2
 obtain⟨bn,hbn⟩ : ∃ b,b=decide ((s1,l1,g1)=(t1,l3,g3)):=⟨_,rfl⟩
 obtain⟨bs,hbs⟩ : ∃ b,b=decide ((s2,l2,g2)=(t2,l4,g4)):=⟨_,rfl⟩
 rw[← hbn] at hS
 rw[← hbs] at hT
 rw[← hbn,← hbs]
 obtain⟨H1,H2,H3,H4,Hk1,Hk2,Hk3,Hk4,Hb1,Hp0,Hp1,HS,HT,Hbn,Hbs⟩:=hd15 h1 h2 h3 h4 k1 k2 k3 k4 hb1 p0 p1 hS hT hbn hbs;clear h1 h2 h3 h4 k1 k2 k3 k4 hb1 p0 p1 hS hT hbn hbs
 go_enter Tryz.func148,Tryz.ntmps148
 go_upto_region 1 with (fail)
 rw[← hW1,← hg]
 clear hW1 hg
 go_wp2_with fail
 refine HS.out.mono ?_
 rintro e w2 ⟨rfl,hb2⟩
 have hbw:=Hb1.out.trans (hb2.mono Hb1.out.size)
 clear x0 x1 x2 y0 y1 y2
 cases bn with
 | false =>
  obtain⟨Hb2,Hbw⟩:=hd2 hb2 hbw;clear hb2 hbw
  go_wp2_with fail
  go_ret
  exact⟨rfl,Hbw.out⟩
 | true =>
  have x3:=za1 (za0 hb2 Hp0.out) 3
  have x4:=za1 (za0 hb2 Hp0.out) 4
  have x5:=za1 (za0 hb2 Hp0.out) 5
  have y3:=za1 (za0 hb2 Hp1.out) 3
  have y4:=za1 (za0 hb2 Hp1.out) 4
  have y5:=za1 (za0 hb2 Hp1.out) 5
  simp only[List.getElem?_toArray,List.getElem?_cons_zero,List.getElem?_cons_succ] at x3 x4 x5 y3 y4 y5
  have hT2:=HT.out _ hbw
  obtain⟨Hb2,Hbw,HT2⟩:=hd3 hb2 hbw hT2;clear hb2 hbw hT2
  go_wp2_with fail
  refine HT2.out.mono ?_
  rintro e w3 ⟨rfl,hb3⟩
  have hbz:=Hbw.out.trans (hb3.mono Hbw.out.size)
  obtain⟨Hb3,Hbz⟩:=hd2 hb3 hbz;clear hb3 hbz
  go_wp2_with fail
  go_ret
  exact⟨by first | rfl | (rw[Bool.true_and]),Hbz.out⟩
end

section
open Go.RowKit Go.Shelf Go.Lib VerN
attribute [local go_sem ↓] Go.wp_at_zero Go.wp_at_succ
def zop (cs:List Value):Prop:=∃ (p0:ByteArray) (p1:Option Addr) (pn1:Nat) (pc1:Nat),cs = [.string p0,.slice p1 pn1 pc1]
theorem zq0 {α:Type} {R:Rd α} (hR:zdh R) (hsh:∀ W cs x,R W cs x→zop cs) {w:World} {v u:Value} {l m:List α} (h:zad 2 R w [v] l) (hm:zad 2 R w [u] m)
  {f:FuncId} (eg:∀ args w,(callFunc f args).run Tryz.prog w = .ok (.enter f args) w) {g:α→α→Bool}
  (hf:∀ W cs ds x y,Below w.heap.size w W→R W cs x→R W ds y→x∈l→y∈m→Calls Tryz.prog f #[.agg cs.toArray,.agg ds.toArray] W fun e w'=>e = .returned (.bool (g x y))∧Below W.heap.size W w') :
  Calls Tryz.prog 143 #[v,u,.func (.func f) #[] #[]] w fun e w'=>e = .returned (.bool (zcu g l m))∧Below w.heap.size w w':=by
 obtain⟨a,cap,rfl⟩:=zao h
 obtain⟨a2,cap2,rfl⟩:=zao hm
 obtain⟨-,hz,g1⟩:=zcj h
 obtain⟨-,hz2,g2⟩:=zcj hm
 obtain⟨n,hn⟩ : ∃ n,n=l.length:=⟨_,rfl⟩
 obtain⟨n2,hn2⟩ : ∃ n,n=m.length:=⟨_,rfl⟩
 obtain⟨r,hr⟩ : ∃ r,r=zcu g l m:=⟨_,rfl⟩
 rw[← hr]
 rw[← hn] at hz h ⊢
 rw[← hn2] at hz2 hm ⊢
 obtain⟨Hh,Hm,Hg1,Hg2,Hn,Hn2,Hr,Hf,HR,Hsh⟩:=hd10 h hm g1 g2 hn hn2 hr hf hR hsh;clear h hm g1 g2 hn hn2 hr hf hR hsh
 go_enter Tryz.func143,Tryz.ntmps143
 by_cases hne:n=n2
 case neg =>
  have k1:((n:Int) != (n2:Int))=true:=by simp;omega
  have hff:r=false:=by rw[Hr.out];exact zej (by rw[← Hn.out,← Hn2.out];exact hne)
  obtain⟨Hff,Hne⟩:=hd2 hff hne;clear hff hne
  go_wp2_with fail
  go_ret
  exact⟨by rw[Hff.out];rfl,Below.refl _ _⟩
 have k1:((n:Int) != (n2:Int))=false:=by simp;omega
 have Hne:=hd hne;clear hne
 go_wp2_with fail
 clear k1
 go_loopw [17] (fun i wr=>∃ k:Nat,k≤n∧i = .int .i64 k∧(∀ j (h1:j < l.length) (h2:j < m.length),j < k→g l[j] m[j]=true)∧Below w.heap.size w wr) (fun i _=>n - (RowKit.intOf i).toNat)
 case atStart=>exact⟨0,Nat.zero_le _,rfl,fun _ _ _ h=>by omega,Below.refl _ _⟩
 case round =>
  obtain⟨k,hk,rfl,hno,hbr⟩:=hrel
  by_cases hlt:k < n
  ·have hkl:k < l.length:=by have:=Hn.out;omega
   have hkm:k < m.length:=by have:=Hn2.out;have:=Hne.out;omega
   obtain⟨b,off,ecs,rfl,-,hpc,hp⟩:=Hg1.out k _ (List.getElem?_eq_getElem hkl)
   obtain⟨b2,off2,ecs2,rfl,-,hqc,hq⟩:=Hg2.out k _ (List.getElem?_eq_getElem hkm)
   obtain⟨p0,p1,pn1,pc1,rfl⟩:=Hsh.out _ _ _ hp
   obtain⟨q0,q1,qn1,qc1,rfl⟩:=Hsh.out _ _ _ hq
   have px0:=cell_later hbr (hpc 0 _ rfl)
   have px1:=cell_later hbr (hpc 1 _ rfl)
   rw[Nat.add_zero] at px0
   obtain⟨wa,hwa⟩ : ∃ W,W=wr.alloc (.cells #[.string p0,.slice p1 pn1 pc1] 159):=⟨_,rfl⟩
   obtain⟨ba,hba⟩ : ∃ z,z=wr.heap.size:=⟨_,rfl⟩
   have pa:wa.heap[ba]? = some (.cells #[.string p0,.slice p1 pn1 pc1] 159 (0,0)):=by rw[hwa,hba];exact heap_alloc_new _ _
   have hb1:Below wr.heap.size wr wa:=by rw[hwa];exact za2 _ _
   have hbr1:=hbr.trans (hb1.mono hbr.size)
   have qx0:=cell_later hbr1 (hqc 0 _ rfl)
   have qx1:=cell_later hbr1 (hqc 1 _ rfl)
   rw[Nat.add_zero] at qx0
   obtain⟨wb,hwb⟩ : ∃ W,W=wa.alloc (.cells #[.string q0,.slice q1 qn1 qc1] 159):=⟨_,rfl⟩
   obtain⟨bb,hbb⟩ : ∃ z,z=wa.heap.size:=⟨_,rfl⟩
   have pb:wb.heap[bb]? = some (.cells #[.string q0,.slice q1 qn1 qc1] 159 (0,0)):=by rw[hwb,hbb];exact heap_alloc_new _ _
   have hb2:Below wa.heap.size wa wb:=by rw[hwb];exact za2 _ _
   have hbr2:=hbr1.trans (hb2.mono hbr1.size)
   have pa2:=za0 hb2 pa
   have y0:=za1 pa2 0
   have z0:=za1 pb 0
   have y1:=za1 pa2 1
   have z1:=za1 pb 1
   simp only[List.getElem?_toArray,List.getElem?_cons_zero,List.getElem?_cons_succ] at y0 z0 y1 z1
   have hC:=Hf.out wb _ _ _ _ hbr2 (HR.out _ _ _ _ hp hbr2) (HR.out _ _ _ _ hq hbr2) (List.getElem_mem hkl) (List.getElem_mem hkm)
   have hnx:g l[k] m[k]=true→∀ j (h1:j < l.length) (h2:j < m.length),j < k+1→g l[j] m[j]=true:=fun h j h1 h2 hjk=>by
    by_cases e:j=k
    ·subst e;exact h
    exact hno j h1 h2 (by omega)
   have hbd:g l[k] m[k]=false→zcu g l m=false:=fun h=>zfu hkl hkm h
   obtain⟨e,he⟩ : ∃ e,e=g l[k] m[k]:=⟨_,rfl⟩
   rw[← he] at hC hnx hbd
   have k5:(0:Int)≤(k:Int):=by omega
   have k6:(k:Int) < (n:Int):=by omega
   have k7:(k:Int) < (n2:Int):=by have:=Hne.out;omega
   clear hpc hqc
   obtain⟨Hno,Hnx,Hbd,He,HC,Hpa,Hpb,Hpa2,Hb1,Hb2,Hbr,Hbr1,Hbr2,Hp,Hq⟩:=hd15 hno hnx hbd he hC pa pb pa2 hb1 hb2 hbr hbr1 hbr2 hp hq;clear hno hnx hbd he hC pa pb pa2 hb1 hb2 hbr hbr1 hbr2 hp hq
   go_upto_region 6 with (fail)
   rw[← hwa,← hba]
   clear hwa hba px0 px1
   go_upto_region 7 with (fail)
   rw[← hwb,← hbb]
   clear hwb hbb qx0 qx1
   go_wp2_with fail
   refine HC.out.mono ?_
   rintro e' w9 ⟨rfl,hb9⟩
   have hbw9:=Hbr2.out.trans (hb9.mono Hbr2.out.size)
   clear y0 z0 y1 z1
   obtain⟨Hb9,Hbw9⟩:=hd2 hb9 hbw9;clear hb9 hbw9
   cases e with
   | true =>
    have hq2:=Hnx.out rfl
    have Hq2:=hd hq2;clear hq2
    go_wp2_with fail
    go_roundw
    case rel=>exact⟨k+1,by omega,by go_num,Hq2.out,Hbw9.out⟩
    case measure=>simp[RowKit.intOf];omega
   | false =>
    have hff:r=false:=by rw[Hr.out];exact Hbd.out rfl
    have Hff:=hd hff;clear hff
    go_wp2_with fail
    go_ret
    exact⟨by rw[Hff.out];rfl,Hbw9.out⟩
  obtain rfl:n=k:=by omega
  have hff:r=true:=by
   rw[Hr.out]
   exact zdm (by rw[← Hn.out,← Hn2.out,Hne.out]) (fun j h1 h2=>hno j h1 h2 (by have:=Hn.out;omega))
  obtain⟨Hno,Hff,Hbr⟩:=hd3 hno hff hbr;clear hno hff hbr
  go_wp2_with fail
  go_ret
  exact⟨by rw[Hff.out];rfl,Hbr.out⟩
end

section
open Go.RowKit Go.Shelf Go.Lib VerN
attribute [local go_sem ↓] Go.wp_at_zero Go.wp_at_succ
def zor (cs:List Value):Prop:=∃ (p0:ByteArray) (p1:Option Addr) (pn1:Nat) (pc1:Nat) (p2:Option Addr) (pn2:Nat) (pc2:Nat) (p3:ByteArray) (p4:Option Addr) (pn4:Nat) (pc4:Nat) (p5:Option Addr) (pn5:Nat) (pc5:Nat) (p6:Int),cs = [.string p0,.slice p1 pn1 pc1,.slice p2 pn2 pc2,.string p3,.slice p4 pn4 pc4,.slice p5 pn5 pc5,.int .i64 p6]
theorem zq2 {α:Type} {R:Rd α} (hR:zdh R) (hsh:∀ W cs x,R W cs x→zor cs) {w:World} {v u:Value} {l m:List α} (h:zad 7 R w [v] l) (hm:zad 7 R w [u] m)
  {f:FuncId} (eg:∀ args w,(callFunc f args).run Tryz.prog w = .ok (.enter f args) w) {g:α→α→Bool}
  (hf:∀ W cs ds x y,Below w.heap.size w W→R W cs x→R W ds y→x∈l→y∈m→Calls Tryz.prog f #[.agg cs.toArray,.agg ds.toArray] W fun e w'=>e = .returned (.bool (g x y))∧Below W.heap.size W w') :
  Calls Tryz.prog 145 #[v,u,.func (.func f) #[] #[]] w fun e w'=>e = .returned (.bool (zcu g l m))∧Below w.heap.size w w':=by
 obtain⟨a,cap,rfl⟩:=zao h
 obtain⟨a2,cap2,rfl⟩:=zao hm
 obtain⟨-,hz,g1⟩:=zcj h
 obtain⟨-,hz2,g2⟩:=zcj hm
 obtain⟨n,hn⟩ : ∃ n,n=l.length:=⟨_,rfl⟩
 obtain⟨n2,hn2⟩ : ∃ n,n=m.length:=⟨_,rfl⟩
 obtain⟨r,hr⟩ : ∃ r,r=zcu g l m:=⟨_,rfl⟩
 rw[← hr]
 rw[← hn] at hz h ⊢
 rw[← hn2] at hz2 hm ⊢
 obtain⟨Hh,Hm,Hg1,Hg2,Hn,Hn2,Hr,Hf,HR,Hsh⟩:=hd10 h hm g1 g2 hn hn2 hr hf hR hsh;clear h hm g1 g2 hn hn2 hr hf hR hsh
 go_enter Tryz.func145,Tryz.ntmps145
 by_cases hne:n=n2
 case neg =>
  have k1:((n:Int) != (n2:Int))=true:=by simp;omega
  have hff:r=false:=by rw[Hr.out];exact zej (by rw[← Hn.out,← Hn2.out];exact hne)
  obtain⟨Hff,Hne⟩:=hd2 hff hne;clear hff hne
  go_wp2_with fail
  go_ret
  exact⟨by rw[Hff.out];rfl,Below.refl _ _⟩
 have k1:((n:Int) != (n2:Int))=false:=by simp;omega
 have Hne:=hd hne;clear hne
 go_wp2_with fail
 clear k1
 go_loopw [17] (fun i wr=>∃ k:Nat,k≤n∧i = .int .i64 k∧(∀ j (h1:j < l.length) (h2:j < m.length),j < k→g l[j] m[j]=true)∧Below w.heap.size w wr) (fun i _=>n - (RowKit.intOf i).toNat)
 case atStart=>exact⟨0,Nat.zero_le _,rfl,fun _ _ _ h=>by omega,Below.refl _ _⟩
 case round =>
  obtain⟨k,hk,rfl,hno,hbr⟩:=hrel
  by_cases hlt:k < n
  ·have hkl:k < l.length:=by have:=Hn.out;omega
   have hkm:k < m.length:=by have:=Hn2.out;have:=Hne.out;omega
   obtain⟨b,off,ecs,rfl,-,hpc,hp⟩:=Hg1.out k _ (List.getElem?_eq_getElem hkl)
   obtain⟨b2,off2,ecs2,rfl,-,hqc,hq⟩:=Hg2.out k _ (List.getElem?_eq_getElem hkm)
   obtain⟨p0,p1,pn1,pc1,p2,pn2,pc2,p3,p4,pn4,pc4,p5,pn5,pc5,p6,rfl⟩:=Hsh.out _ _ _ hp
   obtain⟨q0,q1,qn1,qc1,q2,qn2,qc2,q3,q4,qn4,qc4,q5,qn5,qc5,q6,rfl⟩:=Hsh.out _ _ _ hq
   have px0:=cell_later hbr (hpc 0 _ rfl)
   have px1:=cell_later hbr (hpc 1 _ rfl)
   have px2:=cell_later hbr (hpc 2 _ rfl)
   have px3:=cell_later hbr (hpc 3 _ rfl)
   have px4:=cell_later hbr (hpc 4 _ rfl)
   have px5:=cell_later hbr (hpc 5 _ rfl)
   have px6:=cell_later hbr (hpc 6 _ rfl)
   rw[Nat.add_zero] at px0
   obtain⟨wa,hwa⟩ : ∃ W,W=wr.alloc (.cells #[.string p0,.slice p1 pn1 pc1,.slice p2 pn2 pc2,.string p3,.slice p4 pn4 pc4,.slice p5 pn5 pc5,.int .i64 p6] 134):=⟨_,rfl⟩
   obtain⟨ba,hba⟩ : ∃ z,z=wr.heap.size:=⟨_,rfl⟩
   have pa:wa.heap[ba]? = some (.cells #[.string p0,.slice p1 pn1 pc1,.slice p2 pn2 pc2,.string p3,.slice p4 pn4 pc4,.slice p5 pn5 pc5,.int .i64 p6] 134 (0,0)):=by rw[hwa,hba];exact heap_alloc_new _ _
   have hb1:Below wr.heap.size wr wa:=by rw[hwa];exact za2 _ _
   have hbr1:=hbr.trans (hb1.mono hbr.size)
   have qx0:=cell_later hbr1 (hqc 0 _ rfl)
   have qx1:=cell_later hbr1 (hqc 1 _ rfl)
   have qx2:=cell_later hbr1 (hqc 2 _ rfl)
   have qx3:=cell_later hbr1 (hqc 3 _ rfl)
   have qx4:=cell_later hbr1 (hqc 4 _ rfl)
   have qx5:=cell_later hbr1 (hqc 5 _ rfl)
   have qx6:=cell_later hbr1 (hqc 6 _ rfl)
   rw[Nat.add_zero] at qx0
   obtain⟨wb,hwb⟩ : ∃ W,W=wa.alloc (.cells #[.string q0,.slice q1 qn1 qc1,.slice q2 qn2 qc2,.string q3,.slice q4 qn4 qc4,.slice q5 qn5 qc5,.int .i64 q6] 134):=⟨_,rfl⟩
   obtain⟨bb,hbb⟩ : ∃ z,z=wa.heap.size:=⟨_,rfl⟩
   have pb:wb.heap[bb]? = some (.cells #[.string q0,.slice q1 qn1 qc1,.slice q2 qn2 qc2,.string q3,.slice q4 qn4 qc4,.slice q5 qn5 qc5,.int .i64 q6] 134 (0,0)):=by rw[hwb,hbb];exact heap_alloc_new _ _
   have hb2:Below wa.heap.size wa wb:=by rw[hwb];exact za2 _ _
   have hbr2:=hbr1.trans (hb2.mono hbr1.size)
   have pa2:=za0 hb2 pa
   have y0:=za1 pa2 0
   have z0:=za1 pb 0
   have y1:=za1 pa2 1
   have z1:=za1 pb 1
   have y2:=za1 pa2 2
   have z2:=za1 pb 2
   have y3:=za1 pa2 3
   have z3:=za1 pb 3
   have y4:=za1 pa2 4
   have z4:=za1 pb 4
   have y5:=za1 pa2 5
   have z5:=za1 pb 5
   have y6:=za1 pa2 6
   have z6:=za1 pb 6
   simp only[List.getElem?_toArray,List.getElem?_cons_zero,List.getElem?_cons_succ] at y0 z0 y1 z1 y2 z2 y3 z3 y4 z4 y5 z5 y6 z6
   have hC:=Hf.out wb _ _ _ _ hbr2 (HR.out _ _ _ _ hp hbr2) (HR.out _ _ _ _ hq hbr2) (List.getElem_mem hkl) (List.getElem_mem hkm)
   have hnx:g l[k] m[k]=true→∀ j (h1:j < l.length) (h2:j < m.length),j < k+1→g l[j] m[j]=true:=fun h j h1 h2 hjk=>by
    by_cases e:j=k
    ·subst e;exact h
    exact hno j h1 h2 (by omega)
   have hbd:g l[k] m[k]=false→zcu g l m=false:=fun h=>zfu hkl hkm h
   obtain⟨e,he⟩ : ∃ e,e=g l[k] m[k]:=⟨_,rfl⟩
   rw[← he] at hC hnx hbd
   have k5:(0:Int)≤(k:Int):=by omega
   have k6:(k:Int) < (n:Int):=by omega
   have k7:(k:Int) < (n2:Int):=by have:=Hne.out;omega
   clear hpc hqc
   obtain⟨Hno,Hnx,Hbd,He,HC,Hpa,Hpb,Hpa2,Hb1,Hb2,Hbr,Hbr1,Hbr2,Hp,Hq⟩:=hd15 hno hnx hbd he hC pa pb pa2 hb1 hb2 hbr hbr1 hbr2 hp hq;clear hno hnx hbd he hC pa pb pa2 hb1 hb2 hbr hbr1 hbr2 hp hq
   go_upto_region 6 with (fail)
   rw[← hwa,← hba]
   clear hwa hba px0 px1 px2 px3 px4 px5 px6
   go_upto_region 7 with (fail)
   rw[← hwb,← hbb]
   clear hwb hbb qx0 qx1 qx2 qx3 qx4 qx5 qx6
   go_wp2_with fail
   refine HC.out.mono ?_
   rintro e' w9 ⟨rfl,hb9⟩
   have hbw9:=Hbr2.out.trans (hb9.mono Hbr2.out.size)
   clear y0 z0 y1 z1 y2 z2 y3 z3 y4 z4 y5 z5 y6 z6
   obtain⟨Hb9,Hbw9⟩:=hd2 hb9 hbw9;clear hb9 hbw9
   cases e with
   | true =>
    have hq2:=Hnx.out rfl
    have Hq2:=hd hq2;clear hq2
    go_wp2_with fail
    go_roundw
    case rel=>exact⟨k+1,by omega,by go_num,Hq2.out,Hbw9.out⟩
    case measure=>simp[RowKit.intOf];omega
   | false =>
    have hff:r=false:=by rw[Hr.out];exact Hbd.out rfl
    have Hff:=hd hff;clear hff
    go_wp2_with fail
    go_ret
    exact⟨by rw[Hff.out];rfl,Hbw9.out⟩
  obtain rfl:n=k:=by omega
  have hff:r=true:=by
   rw[Hr.out]
   exact zdm (by rw[← Hn.out,← Hn2.out,Hne.out]) (fun j h1 h2=>hno j h1 h2 (by have:=Hn.out;omega))
  obtain⟨Hno,Hff,Hbr⟩:=hd3 hno hff hbr;clear hno hff hbr
  go_wp2_with fail
  go_ret
  exact⟨by rw[Hff.out];rfl,Hbr.out⟩
end

section
open Go.RowKit Go.Shelf Go.Lib VerN
attribute [local go_sem ↓] Go.wp_at_zero Go.wp_at_succ
def zm4 (cs:List Value):Prop:=∃ (p0:ByteArray) (p1:Option Addr) (pn1:Nat) (pc1:Nat) (p2:Option Addr) (pn2:Nat) (pc2:Nat) (p3:ByteArray) (p4:Option Addr) (pn4:Nat) (pc4:Nat) (p5:Option Addr) (pn5:Nat) (pc5:Nat) (p6:Int),cs = [.string p0,.slice p1 pn1 pc1,.slice p2 pn2 pc2,.string p3,.slice p4 pn4 pc4,.slice p5 pn5 pc5,.int .i64 p6]
theorem zn9 {α:Type} {R:Rd α} (hR:zdh R) (hsh:∀ W cs x,R W cs x→zm4 cs) {w:World} {v u:Value} {l m:List α} (h:zad 7 R w [v] l) (hm:zad 7 R w [u] m)
  {f:FuncId} (eg:∀ args w,(callFunc f args).run Tryz.prog w = .ok (.enter f args) w) {g:α→α→Bool}
  (hf:∀ W cs ds x y,Below w.heap.size w W→R W cs x→R W ds y→x∈l→y∈m→Calls Tryz.prog f #[.agg cs.toArray,.agg ds.toArray] W fun e w'=>e = .returned (.bool (g x y))∧Below W.heap.size W w') :
  Calls Tryz.prog 147 #[v,u,.func (.func f) #[] #[]] w fun e w'=>e = .returned (.bool (zcu g l m))∧Below w.heap.size w w':=by
 obtain⟨a,cap,rfl⟩:=zao h
 obtain⟨a2,cap2,rfl⟩:=zao hm
 obtain⟨-,hz,g1⟩:=zcj h
 obtain⟨-,hz2,g2⟩:=zcj hm
 obtain⟨n,hn⟩ : ∃ n,n=l.length:=⟨_,rfl⟩
 obtain⟨n2,hn2⟩ : ∃ n,n=m.length:=⟨_,rfl⟩
 obtain⟨r,hr⟩ : ∃ r,r=zcu g l m:=⟨_,rfl⟩
 rw[← hr]
 rw[← hn] at hz h ⊢
 rw[← hn2] at hz2 hm ⊢
 obtain⟨Hh,Hm,Hg1,Hg2,Hn,Hn2,Hr,Hf,HR,Hsh⟩:=hd10 h hm g1 g2 hn hn2 hr hf hR hsh;clear h hm g1 g2 hn hn2 hr hf hR hsh
 go_enter Tryz.func147,Tryz.ntmps147
 by_cases hne:n=n2
 case neg =>
  have k1:((n:Int) != (n2:Int))=true:=by simp;omega
  have hff:r=false:=by rw[Hr.out];exact zej (by rw[← Hn.out,← Hn2.out];exact hne)
  obtain⟨Hff,Hne⟩:=hd2 hff hne;clear hff hne
  go_wp2_with fail
  go_ret
  exact⟨by rw[Hff.out];rfl,Below.refl _ _⟩
 have k1:((n:Int) != (n2:Int))=false:=by simp;omega
 have Hne:=hd hne;clear hne
 go_wp2_with fail
 clear k1
 go_loopw [17] (fun i wr=>∃ k:Nat,k≤n∧i = .int .i64 k∧(∀ j (h1:j < l.length) (h2:j < m.length),j < k→g l[j] m[j]=true)∧Below w.heap.size w wr) (fun i _=>n - (RowKit.intOf i).toNat)
 case atStart=>exact⟨0,Nat.zero_le _,rfl,fun _ _ _ h=>by omega,Below.refl _ _⟩
 case round =>
  obtain⟨k,hk,rfl,hno,hbr⟩:=hrel
  by_cases hlt:k < n
  ·have hkl:k < l.length:=by have:=Hn.out;omega
   have hkm:k < m.length:=by have:=Hn2.out;have:=Hne.out;omega
   obtain⟨b,off,ecs,rfl,-,hpc,hp⟩:=Hg1.out k _ (List.getElem?_eq_getElem hkl)
   obtain⟨b2,off2,ecs2,rfl,-,hqc,hq⟩:=Hg2.out k _ (List.getElem?_eq_getElem hkm)
   obtain⟨p0,p1,pn1,pc1,p2,pn2,pc2,p3,p4,pn4,pc4,p5,pn5,pc5,p6,rfl⟩:=Hsh.out _ _ _ hp
   obtain⟨q0,q1,qn1,qc1,q2,qn2,qc2,q3,q4,qn4,qc4,q5,qn5,qc5,q6,rfl⟩:=Hsh.out _ _ _ hq
   have px0:=cell_later hbr (hpc 0 _ rfl)
   have px1:=cell_later hbr (hpc 1 _ rfl)
   have px2:=cell_later hbr (hpc 2 _ rfl)
   have px3:=cell_later hbr (hpc 3 _ rfl)
   have px4:=cell_later hbr (hpc 4 _ rfl)
   have px5:=cell_later hbr (hpc 5 _ rfl)
   have px6:=cell_later hbr (hpc 6 _ rfl)
   rw[Nat.add_zero] at px0
   obtain⟨wa,hwa⟩ : ∃ W,W=wr.alloc (.cells #[.string p0,.slice p1 pn1 pc1,.slice p2 pn2 pc2,.string p3,.slice p4 pn4 pc4,.slice p5 pn5 pc5,.int .i64 p6] 197):=⟨_,rfl⟩
   obtain⟨ba,hba⟩ : ∃ z,z=wr.heap.size:=⟨_,rfl⟩
   have pa:wa.heap[ba]? = some (.cells #[.string p0,.slice p1 pn1 pc1,.slice p2 pn2 pc2,.string p3,.slice p4 pn4 pc4,.slice p5 pn5 pc5,.int .i64 p6] 197 (0,0)):=by rw[hwa,hba];exact heap_alloc_new _ _
   have hb1:Below wr.heap.size wr wa:=by rw[hwa];exact za2 _ _
   have hbr1:=hbr.trans (hb1.mono hbr.size)
   have qx0:=cell_later hbr1 (hqc 0 _ rfl)
   have qx1:=cell_later hbr1 (hqc 1 _ rfl)
   have qx2:=cell_later hbr1 (hqc 2 _ rfl)
   have qx3:=cell_later hbr1 (hqc 3 _ rfl)
   have qx4:=cell_later hbr1 (hqc 4 _ rfl)
   have qx5:=cell_later hbr1 (hqc 5 _ rfl)
   have qx6:=cell_later hbr1 (hqc 6 _ rfl)
   rw[Nat.add_zero] at qx0
   obtain⟨wb,hwb⟩ : ∃ W,W=wa.alloc (.cells #[.string q0,.slice q1 qn1 qc1,.slice q2 qn2 qc2,.string q3,.slice q4 qn4 qc4,.slice q5 qn5 qc5,.int .i64 q6] 197):=⟨_,rfl⟩
   obtain⟨bb,hbb⟩ : ∃ z,z=wa.heap.size:=⟨_,rfl⟩
   have pb:wb.heap[bb]? = some (.cells #[.string q0,.slice q1 qn1 qc1,.slice q2 qn2 qc2,.string q3,.slice q4 qn4 qc4,.slice q5 qn5 qc5,.int .i64 q6] 197 (0,0)):=by rw[hwb,hbb];exact heap_alloc_new _ _
   have hb2:Below wa.heap.size wa wb:=by rw[hwb];exact za2 _ _
   have hbr2:=hbr1.trans (hb2.mono hbr1.size)
   have pa2:=za0 hb2 pa
   have y0:=za1 pa2 0
   have z0:=za1 pb 0
   have y1:=za1 pa2 1
   have z1:=za1 pb 1
   have y2:=za1 pa2 2
   have z2:=za1 pb 2
   have y3:=za1 pa2 3
   have z3:=za1 pb 3
   have y4:=za1 pa2 4
   have z4:=za1 pb 4
   have y5:=za1 pa2 5
   have z5:=za1 pb 5
   have y6:=za1 pa2 6
   have z6:=za1 pb 6
   simp only[List.getElem?_toArray,List.getElem?_cons_zero,List.getElem?_cons_succ] at y0 z0 y1 z1 y2 z2 y3 z3 y4 z4 y5 z5 y6 z6
   have hC:=Hf.out wb _ _ _ _ hbr2 (HR.out _ _ _ _ hp hbr2) (HR.out _ _ _ _ hq hbr2) (List.getElem_mem hkl) (List.getElem_mem hkm)
   have hnx:g l[k] m[k]=true→∀ j (h1:j < l.length) (h2:j < m.length),j < k+1→g l[j] m[j]=true:=fun h j h1 h2 hjk=>by
    by_cases e:j=k
    ·subst e;exact h
    exact hno j h1 h2 (by omega)
   have hbd:g l[k] m[k]=false→zcu g l m=false:=fun h=>zfu hkl hkm h
   obtain⟨e,he⟩ : ∃ e,e=g l[k] m[k]:=⟨_,rfl⟩
   rw[← he] at hC hnx hbd
   have k5:(0:Int)≤(k:Int):=by omega
   have k6:(k:Int) < (n:Int):=by omega
   have k7:(k:Int) < (n2:Int):=by have:=Hne.out;omega
   clear hpc hqc
   obtain⟨Hno,Hnx,Hbd,He,HC,Hpa,Hpb,Hpa2,Hb1,Hb2,Hbr,Hbr1,Hbr2,Hp,Hq⟩:=hd15 hno hnx hbd he hC pa pb pa2 hb1 hb2 hbr hbr1 hbr2 hp hq;clear hno hnx hbd he hC pa pb pa2 hb1 hb2 hbr hbr1 hbr2 hp hq
   go_upto_region 6 with (fail)
   rw[← hwa,← hba]
   clear hwa hba px0 px1 px2 px3 px4 px5 px6
   go_upto_region 7 with (fail)
   rw[← hwb,← hbb]
   clear hwb hbb qx0 qx1 qx2 qx3 qx4 qx5 qx6
   go_wp2_with fail
   refine HC.out.mono ?_
   rintro e' w9 ⟨rfl,hb9⟩
   have hbw9:=Hbr2.out.trans (hb9.mono Hbr2.out.size)
   clear y0 z0 y1 z1 y2 z2 y3 z3 y4 z4 y5 z5 y6 z6
   obtain⟨Hb9,Hbw9⟩:=hd2 hb9 hbw9;clear hb9 hbw9
   cases e with
   | true =>
    have hq2:=Hnx.out rfl
    have Hq2:=hd hq2;clear hq2
    go_wp2_with fail
    go_roundw
    case rel=>exact⟨k+1,by omega,by go_num,Hq2.out,Hbw9.out⟩
    case measure=>simp[RowKit.intOf];omega
   | false =>
    have hff:r=false:=by rw[Hr.out];exact Hbd.out rfl
    have Hff:=hd hff;clear hff
    go_wp2_with fail
    go_ret
    exact⟨by rw[Hff.out];rfl,Hbw9.out⟩
  obtain rfl:n=k:=by omega
  have hff:r=true:=by
   rw[Hr.out]
   exact zdm (by rw[← Hn.out,← Hn2.out,Hne.out]) (fun j h1 h2=>hno j h1 h2 (by have:=Hn.out;omega))
  obtain⟨Hno,Hff,Hbr⟩:=hd3 hno hff hbr;clear hno hff hbr
  go_wp2_with fail
  go_ret
  exact⟨by rw[Hff.out];rfl,Hbr.out⟩
end

section
open Go.RowKit Go.Shelf Go.Lib VerN
attribute [local go_sem ↓] Go.wp_at_zero Go.wp_at_succ
def zm3 (cs:List Value):Prop:=∃ (p0:ByteArray) (p1:Option Addr) (pn1:Nat) (pc1:Nat) (p2:Int),cs = [.string p0,.slice p1 pn1 pc1,.int .i64 p2]
theorem zn8 {α:Type} {R:Rd α} (hR:zdh R) (hsh:∀ W cs x,R W cs x→zm3 cs) {w:World} {v u:Value} {l m:List α} (h:zad 3 R w [v] l) (hm:zad 3 R w [u] m)
  {f:FuncId} (eg:∀ args w,(callFunc f args).run Tryz.prog w = .ok (.enter f args) w) {g:α→α→Bool}
  (hf:∀ W cs ds x y,Below w.heap.size w W→R W cs x→R W ds y→x∈l→y∈m→Calls Tryz.prog f #[.agg cs.toArray,.agg ds.toArray] W fun e w'=>e = .returned (.bool (g x y))∧Below W.heap.size W w') :
  Calls Tryz.prog 86 #[v,u,.func (.func f) #[] #[]] w fun e w'=>e = .returned (.bool (zcu g l m))∧Below w.heap.size w w':=by
 obtain⟨a,cap,rfl⟩:=zao h
 obtain⟨a2,cap2,rfl⟩:=zao hm
 obtain⟨-,hz,g1⟩:=zcj h
 obtain⟨-,hz2,g2⟩:=zcj hm
 obtain⟨n,hn⟩ : ∃ n,n=l.length:=⟨_,rfl⟩
 obtain⟨n2,hn2⟩ : ∃ n,n=m.length:=⟨_,rfl⟩
 obtain⟨r,hr⟩ : ∃ r,r=zcu g l m:=⟨_,rfl⟩
 rw[← hr]
 rw[← hn] at hz h ⊢
 rw[← hn2] at hz2 hm ⊢
 obtain⟨Hh,Hm,Hg1,Hg2,Hn,Hn2,Hr,Hf,HR,Hsh⟩:=hd10 h hm g1 g2 hn hn2 hr hf hR hsh;clear h hm g1 g2 hn hn2 hr hf hR hsh
 go_enter Tryz.func86,Tryz.ntmps86
 by_cases hne:n=n2
 case neg =>
  have k1:((n:Int) != (n2:Int))=true:=by simp;omega
  have hff:r=false:=by rw[Hr.out];exact zej (by rw[← Hn.out,← Hn2.out];exact hne)
  obtain⟨Hff,Hne⟩:=hd2 hff hne;clear hff hne
  go_wp2_with fail
  go_ret
  exact⟨by rw[Hff.out];rfl,Below.refl _ _⟩
 have k1:((n:Int) != (n2:Int))=false:=by simp;omega
 have Hne:=hd hne;clear hne
 go_wp2_with fail
 clear k1
 go_loopw [17] (fun i wr=>∃ k:Nat,k≤n∧i = .int .i64 k∧(∀ j (h1:j < l.length) (h2:j < m.length),j < k→g l[j] m[j]=true)∧Below w.heap.size w wr) (fun i _=>n - (RowKit.intOf i).toNat)
 case atStart=>exact⟨0,Nat.zero_le _,rfl,fun _ _ _ h=>by omega,Below.refl _ _⟩
 case round =>
  obtain⟨k,hk,rfl,hno,hbr⟩:=hrel
  by_cases hlt:k < n
  ·have hkl:k < l.length:=by have:=Hn.out;omega
   have hkm:k < m.length:=by have:=Hn2.out;have:=Hne.out;omega
   obtain⟨b,off,ecs,rfl,-,hpc,hp⟩:=Hg1.out k _ (List.getElem?_eq_getElem hkl)
   obtain⟨b2,off2,ecs2,rfl,-,hqc,hq⟩:=Hg2.out k _ (List.getElem?_eq_getElem hkm)
   obtain⟨p0,p1,pn1,pc1,p2,rfl⟩:=Hsh.out _ _ _ hp
   obtain⟨q0,q1,qn1,qc1,q2,rfl⟩:=Hsh.out _ _ _ hq
   have px0:=cell_later hbr (hpc 0 _ rfl)
   have px1:=cell_later hbr (hpc 1 _ rfl)
   have px2:=cell_later hbr (hpc 2 _ rfl)
   rw[Nat.add_zero] at px0
   obtain⟨wa,hwa⟩ : ∃ W,W=wr.alloc (.cells #[.string p0,.slice p1 pn1 pc1,.int .i64 p2] 125):=⟨_,rfl⟩
   obtain⟨ba,hba⟩ : ∃ z,z=wr.heap.size:=⟨_,rfl⟩
   have pa:wa.heap[ba]? = some (.cells #[.string p0,.slice p1 pn1 pc1,.int .i64 p2] 125 (0,0)):=by rw[hwa,hba];exact heap_alloc_new _ _
   have hb1:Below wr.heap.size wr wa:=by rw[hwa];exact za2 _ _
   have hbr1:=hbr.trans (hb1.mono hbr.size)
   have qx0:=cell_later hbr1 (hqc 0 _ rfl)
   have qx1:=cell_later hbr1 (hqc 1 _ rfl)
   have qx2:=cell_later hbr1 (hqc 2 _ rfl)
   rw[Nat.add_zero] at qx0
   obtain⟨wb,hwb⟩ : ∃ W,W=wa.alloc (.cells #[.string q0,.slice q1 qn1 qc1,.int .i64 q2] 125):=⟨_,rfl⟩
   obtain⟨bb,hbb⟩ : ∃ z,z=wa.heap.size:=⟨_,rfl⟩
   have pb:wb.heap[bb]? = some (.cells #[.string q0,.slice q1 qn1 qc1,.int .i64 q2] 125 (0,0)):=by rw[hwb,hbb];exact heap_alloc_new _ _
   have hb2:Below wa.heap.size wa wb:=by rw[hwb];exact za2 _ _
   have hbr2:=hbr1.trans (hb2.mono hbr1.size)
   have pa2:=za0 hb2 pa
   have y0:=za1 pa2 0
   have z0:=za1 pb 0
   have y1:=za1 pa2 1
   have z1:=za1 pb 1
   have y2:=za1 pa2 2
   have z2:=za1 pb 2
   simp only[List.getElem?_toArray,List.getElem?_cons_zero,List.getElem?_cons_succ] at y0 z0 y1 z1 y2 z2
   have hC:=Hf.out wb _ _ _ _ hbr2 (HR.out _ _ _ _ hp hbr2) (HR.out _ _ _ _ hq hbr2) (List.getElem_mem hkl) (List.getElem_mem hkm)
   have hnx:g l[k] m[k]=true→∀ j (h1:j < l.length) (h2:j < m.length),j < k+1→g l[j] m[j]=true:=fun h j h1 h2 hjk=>by
    by_cases e:j=k
    ·subst e;exact h
    exact hno j h1 h2 (by omega)
   have hbd:g l[k] m[k]=false→zcu g l m=false:=fun h=>zfu hkl hkm h
   obtain⟨e,he⟩ : ∃ e,e=g l[k] m[k]:=⟨_,rfl⟩
   rw[← he] at hC hnx hbd
   have k5:(0:Int)≤(k:Int):=by omega
   have k6:(k:Int) < (n:Int):=by omega
   have k7:(k:Int) < (n2:Int):=by have:=Hne.out;omega
   clear hpc hqc
   obtain⟨Hno,Hnx,Hbd,He,HC,Hpa,Hpb,Hpa2,Hb1,Hb2,Hbr,Hbr1,Hbr2,Hp,Hq⟩:=hd15 hno hnx hbd he hC pa pb pa2 hb1 hb2 hbr hbr1 hbr2 hp hq;clear hno hnx hbd he hC pa pb pa2 hb1 hb2 hbr hbr1 hbr2 hp hq
   go_upto_region 6 with (fail)
   rw[← hwa,← hba]
   clear hwa hba px0 px1 px2
   go_upto_region 7 with (fail)
   rw[← hwb,← hbb]
   clear hwb hbb qx0 qx1 qx2
   go_wp2_with fail
   refine HC.out.mono ?_
   rintro e' w9 ⟨rfl,hb9⟩
   have hbw9:=Hbr2.out.trans (hb9.mono Hbr2.out.size)
   clear y0 z0 y1 z1 y2 z2
   obtain⟨Hb9,Hbw9⟩:=hd2 hb9 hbw9;clear hb9 hbw9
   cases e with
   | true =>
    have hq2:=Hnx.out rfl
    have Hq2:=hd hq2;clear hq2
    go_wp2_with fail
    go_roundw
    case rel=>exact⟨k+1,by omega,by go_num,Hq2.out,Hbw9.out⟩
    case measure=>simp[RowKit.intOf];omega
   | false =>
    have hff:r=false:=by rw[Hr.out];exact Hbd.out rfl
    have Hff:=hd hff;clear hff
    go_wp2_with fail
    go_ret
    exact⟨by rw[Hff.out];rfl,Hbw9.out⟩
  obtain rfl:n=k:=by omega
  have hff:r=true:=by
   rw[Hr.out]
   exact zdm (by rw[← Hn.out,← Hn2.out,Hne.out]) (fun j h1 h2=>hno j h1 h2 (by have:=Hn.out;omega))
  obtain⟨Hno,Hff,Hbr⟩:=hd3 hno hff hbr;clear hno hff hbr
  go_wp2_with fail
  go_ret
  exact⟨by rw[Hff.out];rfl,Hbr.out⟩
end
end Go.Proofs.YteailgjiifdgcaaGreatDoor
