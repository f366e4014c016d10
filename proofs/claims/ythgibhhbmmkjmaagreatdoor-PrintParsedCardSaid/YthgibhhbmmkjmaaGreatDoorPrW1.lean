/- Walks and plain facts. Condition: none beyond what each says. -/
import Derived.Test.YthgibhhbmmkjmaaGreatDoorPrW0
import Derived.Test.YthgibhhbmmkjmaaGreatDoorCards
import Derived.Test.YthgibhhbmmkjmaaGreatDoorRows
import Derived.Test.YthgibhhbmmkjmaaGreatDoorTie
set_option linter.unusedVariables false
set_option linter.unusedSimpArgs false
set_option maxRecDepth 10000
set_option maxHeartbeats 40000000
namespace Go.Proofs
open Shelf
def Tryz.aaz:Go.Shelf.Ren:=⟨fun|156=>38|165=>70|166=>37|169=>18|240=>69|241=>102|276=>101|277=>131|n=>n,fun|31=>41|9=>9|3=>3|4=>4|0=>0|20=>20|72=>59|76=>105|70=>56|37=>57|75=>104|127=>108|164=>166|5=>5|80=>64|n=>n,fun|n=>n⟩
theorem Tryz.lays156:Go.Proofs.Lays.n156 Tryz.prog Tryz.aaz:=by repeat' first|kernel_rfl|(intro w;kernel_rfl)|decide|constructor
theorem Tryz.RK:Builder.Extra Tryz.prog Tryz.aaz:={
 sizeBuilder:=by kernel_rfl
 liesBuilder:=by kernel_rfl
 t5:=Tryz.underlying5
 a5:=Tryz.isAgg5
 z5:=Tryz.sizeOf5
 v5:=Tryz.zeroValue5
 infoByte:=by kernel_rfl
 cellsByte:=by kernel_rfl
 sizeByte:=by kernel_rfl
 neB5:=by decide }
open RowKit in
theorem Tryz.strings_Join(bk o c:Nat)(xs:List ByteArray)(sep:ByteArray)(w:World)(aCu:∀(j:Nat) x,xs[j]?=some x→w.cell? ⟨bk,o+j,none⟩=some (.string x))(jM:bk<w.heap.size)(hN:xs.length≤140737488355328)(BR:xs.length≤c)(fT:(Lib.join (xs.map (·.data.toList)) sep.data.toList).length≤140737488355328):
  Calls Tryz.prog 38 #[.slice (some ⟨bk,o,none⟩) xs.length c,.string sep] w fun e w'=>e=.returned (.string ⟨(Lib.join (xs.map (·.data.toList)) sep.data.toList).toArray⟩)∧Below w.heap.size w w':=Any.strings_Join Tryz.lays156 Tryz.RK bk o c xs sep w aCu jM hN BR fT
def Tryz.lays103_ren:Go.Shelf.Ren:=⟨fun|103=>96|210=>118|206=>145|n=>n,fun|9=>9|4=>4|24=>28|3=>3|n=>n,fun|n=>n⟩
theorem Tryz.lays103:Go.Proofs.Lays.n103 Tryz.prog Tryz.lays103_ren:=by repeat' first|kernel_rfl|(intro w;kernel_rfl)|decide|constructor
open RowKit in
theorem Tryz.strings_CutPrefix(s p:ByteArray)(w:World):
  Calls Tryz.prog 96 #[.string s,.string p] w fun e w'=>e=.returned (.tuple #[.string ⟨(Lib.trimPrefix s.data.toList p.data.toList).toArray⟩,.bool (Lib.hasPrefix s.data.toList p.data.toList)])∧w'=w:=Any.strings_CutPrefix Tryz.lays103 s p w
def Tryz.laysM171_ren:Go.Shelf.Ren:=⟨fun|171=>163|243=>176|246=>190|283=>197|284=>198|285=>199|286=>200|129=>204|317=>203|318=>205|319=>206|320=>207|337=>208|338=>209|n=>n,fun|3=>3|9=>9|2=>2|4=>4|171=>244|0=>0|53=>237|37=>57|5=>5|173=>247|212=>254|51=>230|20=>20|213=>255|46=>220|232=>258|233=>259|n=>n,fun|17=>5|18=>6|19=>7|n=>n⟩
theorem Tryz.laysM171:Go.Proofs.LaysM.n171 Tryz.prog Tryz.laysM171_ren:=by repeat' first|kernel_rfl|(intro w;kernel_rfl)|decide|constructor
open RowKit Go.Sort Lib in
theorem Tryz.strconv_Itoa(n:Int)(h0 : -9223372036854775808≤n)(h1:n≤9223372036854775807)(w:World)(aCi:Lib.TabIs Tryz.prog w "internal/strconv.uint64pow10" .u64 Lib.pow10Tab):
  Calls Tryz.prog 163 #[.int .i64 n] w fun e w'=>e=.returned (.string ⟨(Lib.itoa n).toArray⟩)∧∃k os,w'=grow (w.drewN k) os:=Any.strconv_Itoa Tryz.laysM171 n h0 h1 w aCi
def Tryz.laysC172_ren:Go.Shelf.Ren:=⟨fun|172=>162|244=>174|245=>175|247=>185|279=>186|280=>187|281=>188|282=>189|287=>194|316=>195|171=>163|205=>196|321=>201|322=>202|243=>176|246=>190|283=>197|284=>198|285=>199|286=>200|129=>204|317=>203|318=>205|319=>206|320=>207|337=>208|338=>209|n=>n,fun|9=>9|3=>3|75=>104|76=>105|4=>4|5=>5|167=>223|37=>57|0=>0|85=>224|2=>2|168=>226|53=>237|175=>238|46=>220|210=>242|127=>108|145=>252|143=>250|21=>21|171=>244|173=>247|212=>254|51=>230|20=>20|213=>255|232=>258|233=>259|80=>64|n=>n,fun|15=>3|16=>4|17=>5|18=>6|19=>7|n=>n⟩
theorem Tryz.abm:Go.Proofs.LaysC.n172 Tryz.prog Tryz.laysC172_ren:=by repeat' first|kernel_rfl|(intro w;kernel_rfl)|decide|constructor
open RowKit in
theorem Tryz.strconv_Atoi_ok(s:ByteArray)(z_:s.size≤9223372036854775806)(v:Int)(h:Lib.atoiAll s.data.toList=.ok v)(w:World):
  Calls Tryz.prog 162 #[.string s] w fun e w'=>e=.returned (.tuple #[.int .i64 v,.nilIface])∧(w'=w∨∃t,w'=Lib.bytesWorld w 5 t):=Any.strconv_Atoi_ok Tryz.abm s z_ v h w
open RowKit in
theorem Tryz.strconv_Atoi_syntax_var(s:ByteArray)(Zf:s.size≤281474976710656)(h:Lib.atoiAll s.data.toList=Lib.atoiAll [])(tp:TypeId)(p:Value)(w:World)(Bu:w.var? Tryz.prog "strconv.ErrSyntax" =some #[.iface tp p]):
  Calls Tryz.prog 162 #[.string s] w fun e w'=>∃N,e=.returned (.tuple #[.int .i64 0,.iface 226 (.pointer (some ⟨N,0,none⟩))])∧w.heap.size≤N∧w'.heap[N]?=some (.cells #[.string ⟨#[65,116,111,105]⟩,.string s,.iface tp p] 242 (0,0))∧Below w.heap.size w w':=Any.strconv_Atoi_syntax_var Tryz.abm s Zf h tp p w Bu
open RowKit in
theorem Tryz.strconv_Atoi_range_var(s:ByteArray)(Zf:s.size≤281474976710656)(h:Lib.atoiAll s.data.toList=.range)(tp:TypeId)(p:Value)(w:World)(Bu:w.var? Tryz.prog "strconv.ErrRange" =some #[.iface tp p]):
  Calls Tryz.prog 162 #[.string s] w fun e w'=>∃N,e=.returned (.tuple #[.int .i64 (Lib.atoiSat s.data.toList),.iface 226 (.pointer (some ⟨N,0,none⟩))])∧w.heap.size≤N∧w'.heap[N]?=some (.cells #[.string ⟨#[65,116,111,105]⟩,.string s,.iface tp p] 242 (0,0))∧Below w.heap.size w w':=Any.strconv_Atoi_range_var Tryz.abm s Zf h tp p w Bu
def Tryz.lays143_ren:Go.Shelf.Ren:=⟨fun|143=>147|219=>164|217=>177|225=>178|224=>179|267=>180|266=>191|314=>192|n=>n,fun|9=>9|3=>3|4=>4|5=>5|46=>220|146=>231|51=>230|n=>n,fun|1=>0|n=>n⟩
theorem Tryz.lays143:Go.Proofs.Lays.n143 Tryz.prog Tryz.lays143_ren:=by repeat' first|kernel_rfl|(intro w;kernel_rfl)|decide|constructor
open RowKit Lib in
theorem Tryz.strings_Index_one(s:ByteArray)(c:UInt8)(w:World):
  Calls Tryz.prog 147 #[.string s,.string ⟨#[c]⟩] w fun e w'=>e=.returned (.int .i64 (Lib.indexByte s.data.toList c))∧w'=w:=Any.strings_Index_one Tryz.lays143 s c w
def Tryz.lays144_ren:Go.Shelf.Ren:=⟨fun|144=>120|143=>147|219=>164|217=>177|225=>178|224=>179|267=>180|266=>191|314=>192|n=>n,fun|9=>9|4=>4|3=>3|5=>5|46=>220|146=>231|51=>230|n=>n,fun|1=>0|n=>n⟩
theorem Tryz.lays144:Go.Proofs.Lays.n144 Tryz.prog Tryz.lays144_ren:=by repeat' first|kernel_rfl|(intro w;kernel_rfl)|decide|constructor
open RowKit Lib in
theorem Tryz.strings_Contains_one(s:ByteArray)(c:UInt8)(w:World):
  Calls Tryz.prog 120 #[.string s,.string ⟨#[c]⟩] w fun e w'=>e=.returned (.bool (decide (0≤Lib.indexByte s.data.toList c)))∧w'=w:=Any.strings_Contains_one Tryz.lays144 s c w
def Tryz.lays145_ren:Go.Shelf.Ren:=⟨fun|145=>115|220=>144|219=>164|217=>177|225=>178|224=>179|267=>180|266=>191|314=>192|n=>n,fun|9=>9|4=>4|59=>176|3=>3|5=>5|46=>220|146=>231|51=>230|n=>n,fun|1=>0|n=>n⟩
theorem Tryz.lays145:Go.Proofs.Lays.n145 Tryz.prog Tryz.lays145_ren:=by repeat' first|kernel_rfl|(intro w;kernel_rfl)|decide|constructor
open RowKit Lib in
theorem Tryz.strings_Cut(s sep:ByteArray)(m:Int)(w:World)(hs:s.size<4294967281)(hm:w.cell? ⟨0,0,none⟩=some (.int .i64 m)):
  Calls Tryz.prog 115 #[.string s,.string sep] w fun e w'=>e=.returned (.tuple #[.string ⟨(Lib.cut s.data.toList sep.data.toList).1.toArray⟩,.string ⟨(Lib.cut s.data.toList sep.data.toList).2.1.toArray⟩,.bool (Lib.cut s.data.toList sep.data.toList).2.2])∧∃n,w'=w.drewN n:=Any.strings_Cut Tryz.lays145 s sep m w hs hm
def Tryz.laysM143_ren:Go.Shelf.Ren:=⟨fun|143=>147|219=>164|217=>177|225=>178|224=>179|267=>180|266=>191|314=>192|n=>n,fun|9=>9|3=>3|4=>4|5=>5|46=>220|146=>231|51=>230|n=>n,fun|1=>0|n=>n⟩
theorem Tryz.laysM143:Go.Proofs.LaysM.n143 Tryz.prog Tryz.laysM143_ren:=by repeat' first|kernel_rfl|(intro w;kernel_rfl)|decide|exact fun w h=>Go.Proofs.cell_of_shapedOpen_int (zero:=#[.int .i64 0]) (t:=3) h (of_decide_eq_true (by kernel_rfl)) (by kernel_rfl) rfl (by kernel_rfl) (by kernel_rfl) Tryz.underlying3|constructor
end Go.Proofs
namespace Go.Proofs.YthgibhhbmmkjmaaGreatDoor
open Go.Proofs.Tryz
variable {B Bp Bv N b bs bytes c c1 c2 c3 cap d3 d4 e2 f g hi i j k lo m m2 n n1 n2 pb r sz x xb:Nat}
variable {S T:Nat→Prop}
variable {W W' w w' w0 w1 w3:World}
variable {a a1 a2 b2 b3 d2:Option Addr}
variable {args cs tmps:Array Value}
variable {css:List (List Value)}
variable {e ty:TypeId}
variable {l pre:List ByteArray}
variable {q s:ByteArray}
variable {u v v' v1 v2 y z:Value}
variable {p:List UInt8}
variable {t:Nat→Nat}
section
open RowKit
theorem E2{k:IntKind}{a b:Int}(h:a=b):Ending.returned (.int k a)=.returned (.int k b):=by rw[h]
theorem mu{a b:Bool}(h:a=b):Ending.returned (.bool a)=.returned (.bool b):=by rw[h]
theorem dU{a:World}(h:Below B a w)(n:Nat):Below B a (w.drewN n):=⟨h.os,h.tape,h.output,h.size,h.block⟩
structure up(P:Program)(t e:TypeId)(z:Value)(size bytes:Nat):Prop where
 slice:P.underlying t=some (.slice e)
 info:(P.info? e).map (fun i=>(i.zero,i.size,i.bytes))=some (some z,size,bytes)
 zero:z.cells.size=size
 pos:0<size
theorem zu6{a:World}{row:Option Nat}(h:w.grownBy w1 none)(k:w1.grownBy a row):w.grownBy a row :=
 ⟨k.os.trans h.os,k.tape.trans h.tape,k.output.trans h.output,fu h.size k.size,
  fun b c d=>(k.block b (jq c h.size) d).trans (h.block b c ae)⟩
theorem zoc(h:Below w.heap.size w w'):w.grownBy w' none :=
 ⟨h.os,h.tape,h.output,h.size,fun k a _=>h.block k a⟩
theorem zjr{P:Program}(w:World)(base:Nat)(t ty e:TypeId)(i:TypeInfo)(z:Value)(size bytes:Nat)(f:P.underlying t=some (.slice e))(hi:P.info? e=some i)(o:i.zero=some z)
  (q:i.size=size) (r:i.bytes=bytes) (A:z.cells.size=size) (B:0<size)
  (v:Value) (n:Nat) (xs:List Value) (k:w.ownsRow base e size v n xs)
  (a:Addr) (m c:Nat) (b:List Value) (d:b.length=m*size) (l:∀j u,b[j]?=some u→w.cell? (a.add j)=some u) (h1:∀u∈b,u.oneCell'=true)
  (s:n+m≤maxLen) (p:(n+m)*bytes≤140737488355328) (C:base≤w.heap.size) :
  ∃v' w',(Builtin.append_ #[t,t] ty #[v,.slice (some a) m c]).run P w=.ok v' w'∧w'.ownsRow base e size v' (n+m) (xs++b)∧w.grownBy w' v.ownBlock∧(v'.ownBlock=v.ownBlock∨v'.ownBlock=some w.heap.size):=by
 obtain⟨v',w',hr,F,K,L⟩:=run_append_own (P:=P) w base t ty e i z size bytes f hi o q r A B v n xs k a m c b d l h1 s p C;refine⟨v',w',hr,F,K,?_⟩;subst q;subst r;have X:n+m≤9223372036854775807:=by simp only[maxLen]at s;omega
 rcases k.2 with⟨rfl,rfl⟩|⟨g,cap,x,rfl,_,N,_,_,R,_⟩
 ·by_cases S:m=0
  ·left
   have:=L.2 ⟨rfl,S⟩;rw[this]
  right
  have jl:=run_append_nil (P:=P) w t ty e i z f hi o a m c b d l Z Z (by have T:=p;simp only[og]at T;omega);exact WM
 by_cases y:n+m≤cap
 ·left
  have U:n*i.size+b.length≤x.size:=by rw[d,R,←Nat.add_mul];exact NX _ y
  have jl:=run_append_room (P:=P) w t ty e i f hi g n cap x N a m c b d l h1 y U;exact WM
 right
 have W:∀j u,xs[j]?=some u→w.cell? ((⟨g,0,none⟩:Addr).add j)=some u:=k.cells (g:=g) rfl;have jl:=run_append_grow (P:=P) w t ty e i z f hi o ⟨g,0,none⟩ n cap xs k.1 W a m c b d l Z Z (growslice_fits Z p);exact WM
def mh(w:World)(v v':Value):Prop:=∀k,v'.ownBlock=some k→v.ownBlock=some k∨w.heap.size≤k
theorem Eb{P:Program}{t:TypeId}{size:Nat}(kE:up P t e z size bytes){o:Oper}{a:Act}{K:Act→World→Prop}{Q:Exit→Act→World→Prop}
  (s x:Operand) (ho:o.op=.call { callee:=.builtin .append,args:=#[s,x],argTypes:=#[t,t] })
  (base:Nat) (v:Value) (n:Nat) (xs:List Value) (hs:a.eval s=v) (d:w.ownsRow base e size v n xs)
  (m:Nat) (b:Array Value) (hx:a.eval x=.slice (some ⟨w.heap.size,0,none⟩) m m) (hl:b.size=m*size) (h1:∀u∈b.toList,u.oneCell'=true)
  (f:(n+m)*bytes≤140737488355328) (g:n+m≤maxLen) (_:base≤w.heap.size)
  (h:∀v' w',w'.ownsRow base e size v' (n+m) (xs++b.toList)→w.grownBy w' v.ownBlock→mh w v v'→K (a.put o.dst v') w') :
  o.wp P a (w.alloc (.cells b e)) K Q:=by
 obtain⟨i,hi,l,p,q⟩:=F_ kE.info;obtain⟨v',w',hr,h2,h3,c⟩:=zjr (P:=P) (w.alloc (.cells b e)) base t o.type e i z size bytes kE.slice hi l p q kE.zero kE.pos v n xs (d.alloc _) ⟨w.heap.size,0,none⟩ m m b.toList F4 (by intro j u hu;rw[tX,og,SD];simpa using hu) h1 g f aX;refine anp ?_;refine h v' w' h2 (zu6 (World.grownBy_alloc w _ none) h3) ?_;intro k hk;rcases c with c|c
 ·exact .inl (by rw[←c];exact hk)
 right
 rw[c]at hk;simp at hk;omega
theorem kZ{P:Program}{t:TypeId}{size:Nat}(kE:up P t e z size bytes){c:Array Oper}{rest:List Oper}{o:Oper}{a:Act}{Q:Exit→Act→World→Prop}
  (d:o.guard=none) (s x:Operand) (f:o.op=.call { callee:=.builtin .append,args:=#[s,x],argTypes:=#[t,t] })
  (base:Nat) (v:Value) (n:Nat) (xs:List Value) (g:a.eval s=v) (i:w.ownsRow base e size v n xs)
  (m:Nat) (b:Array Value) (j:a.eval x=.slice (some ⟨w.heap.size,0,none⟩) m m) (k:b.size=m*size) (h1:∀u∈b.toList,u.oneCell'=true)
  (l:(n+m)*bytes≤140737488355328) (p:n+m≤maxLen) (q:base≤w.heap.size)
  (h:∀v' w',w'.ownsRow base e size v' (n+m) (xs++b.toList)→w.grownBy w' v.ownBlock→mh w v v'→wpList P c Q rest (a.put o.dst v') w') :
  wpList P c Q (o::rest) a (w.alloc (.cells b e)) :=
 wpList_plain d fun _ r=>Eb kE s x f base v n xs g i m b j k h1 l p q fun v' w' h2 h3 h4=>r _ _ (h v' w' h2 h3 h4)
theorem iX{base:Nat}{size:Nat}{xs:List Value}(h:Below B w0 w)(a:w.ownsRow base e size v n xs)(b:B≤base)(c:w.grownBy w' v.ownBlock)(d:B≤w.heap.size):Below B w0 w' :=
 h.grown c d fun k f=>fu b (a.lt k f).1
theorem fh{base:Nat}{size:Nat}{xs:List Value}(a:w.ownsRow base e size v n xs)(b:Below w.heap.size w w'):w'.ownsRow base e size v n xs :=
 a.kept (zoc b) (by cases c:v.ownBlock<;>simp)
theorem ET{base:Nat}{size:Nat}{xs:List Value}(a:w.ownsRow base e size v n xs)(_:B≤base):w.ownsRow B e size v n xs:=by
 refine⟨a.1,?_⟩;rcases a.2 with h|⟨g,cap,b,c,_,r⟩
 ·exact .inl h
 exact .inr ⟨g,cap,b,c,Z,r⟩
theorem AH{base:Nat}{size:Nat}{xs:List Value}(h:w.ownsRow base e size v n xs)(_:0<n):
  ∃g cap,v=.slice (some ⟨g,0,none⟩) n cap∧base≤g∧g<w.heap.size∧n≤cap∧cap≤maxLen∧∀j u,xs[j]?=some u→w.cell? ⟨g,j,none⟩=some u:=by
 rcases h.2 with⟨_,rfl⟩|⟨g,cap,_,rfl,a,b,c,d,_,_⟩
 ·omega
 refine⟨g,cap,rfl,a,(bS.1 b).1,c,d,fun j u f=>?_⟩;have:=h.cells (g:=g) rfl j u f
 rwa [tX,og]at this
theorem PR{P:Program}{t:TypeId}{size:Nat}(kE:up P t e z size bytes){c:Array Oper}{rest:List Oper}{o:Oper}{a:Act}{Q:Exit→Act→World→Prop}
  (d:o.guard=none) (s x:Operand) (f:o.op=.call { callee:=.builtin .append,args:=#[s,x],argTypes:=#[t,t] })
  (base:Nat) (v:Value) (n:Nat) (xs:List Value) (i:a.eval s=v) (j:w.ownsRow base e size v n xs)
  (m:Nat) (_:0<m) (b:Array Value) (k:a.eval x=.slice (some ⟨w.heap.size,0,none⟩) m m) (l:b.size=m*size) (h1:∀u∈b.toList,u.oneCell'=true)
  (p:(n+m)*bytes≤140737488355328) (q:n+m≤maxLen) (r:base≤w.heap.size)
  (h:∀g cap w',w'.ownsRow base e size (.slice (some ⟨g,0,none⟩) (n+m) cap) (n+m) (xs++b.toList)→w.grownBy w' v.ownBlock→mh w v (.slice (some ⟨g,0,none⟩) (n+m) cap)→wpList P c Q rest (a.put o.dst (.slice (some ⟨g,0,none⟩) (n+m) cap)) w') :
  wpList P c Q (o::rest) a (w.alloc (.cells b e)):=by
 refine kZ kE d s x f base v n xs i j m b k l h1 p q r ?_;exact amx
theorem xl{P:Program}{t:TypeId}{size:Nat}(kE:up P t e z size bytes){c:Array Oper}{o:Oper}{a:Act}{K:Act→World→Prop}{Q:Exit→Act→World→Prop}{X:Prop}
  (d:o.guard=none) (s x:Operand) (f:o.op=.call { callee:=.builtin .append,args:=#[s,x],argTypes:=#[t,t] })
  (base:Nat) (v:Value) (n:Nat) (xs:List Value) (i:a.eval s=v) (j:w.ownsRow base e size v n xs)
  (m:Nat) (_:0<m) (b:Array Value) (k:a.eval x=.slice (some ⟨w.heap.size,0,none⟩) m m) (l:b.size=m*size) (h1:∀u∈b.toList,u.oneCell'=true)
  (p:(n+m)*bytes≤140737488355328) (q:n+m≤maxLen) (r:base≤w.heap.size)
  (h:∀g cap w',w'.ownsRow base e size (.slice (some ⟨g,0,none⟩) (n+m) cap) (n+m) (xs++b.toList)→w.grownBy w' v.ownBlock→mh w v (.slice (some ⟨g,0,none⟩) (n+m) cap)→K (a.put o.dst (.slice (some ⟨g,0,none⟩) (n+m) cap)) w') :
  if Region.wanted o (yielded c a.tmps)=true then Oper.wp P o a (w.alloc (.cells b e)) K Q else X:=by
 have y:Region.wanted o (yielded c a.tmps)=true:=by simp[Region.wanted,d]
 rw[M y];refine Eb kE s x f base v n xs i j m b k l h1 p q r ?_;exact amx
structure am(S:Nat→Prop)(w w':World):Prop where
 os:w'.os=w.os
 tape:w'.tape=w.tape
 output:w'.output=w.output
 size:w.heap.size≤w'.heap.size
 block:∀k,k<w.heap.size→¬S k→w'.heap[k]?=w.heap[k]?
theorem am.refl(S:Nat→Prop)(w:World):am S w w:=⟨rfl,rfl,rfl,aE _,fun _ _ _=>rfl⟩
theorem am.trans{a b c:World}(h:am S a b)(k:am T b c)(e:∀i,i<a.heap.size→T i→S i):am S a c :=
 ⟨k.os.trans h.os,k.tape.trans h.tape,k.output.trans h.output,fu h.size k.size,
  fun i hi d=>(k.block i (jq hi h.size) (fun ht=>d (e i hi ht))).trans (h.block i hi d)⟩
theorem am.mono{a b:World}(h:am S a b)(c:∀i,i<a.heap.size→S i→T i):am T a b :=
 (am.refl T a).trans h c
theorem am.alloc{a:World}(h:am S a w)(o:Obj):am S a (w.alloc o) :=
 h.trans (T:=S) ⟨rfl,rfl,rfl,ae,fun k b _=>Below.heap_alloc _ _ _ b⟩ (fun _ _ h=>h)
theorem am.drewN{a:World}(h:am S a w)(n:Nat):am S a (w.drewN n):=⟨h.os,h.tape,h.output,h.size,h.block⟩
theorem am.drew{a:World}(h:am S a w):am S a w.drew:=⟨h.os,h.tape,h.output,h.size,h.block⟩
theorem am.setCell{a:World}(h:am S a w){p:Addr}(b:a.heap.size≤p.block∨S p.block)(u:Value):am S a (w.setCell p u) :=
 h.trans (T:=fun k=>k=p.block) ⟨rfl,rfl,rfl,by simp[World.setCell],fun k _ hk=>AF _ _ _ _ Z⟩ (fun i hi e=>by rcases b with h|h;omega;rw[e];exact h)
theorem am.grown{a:World}{row:Option Nat}(h:am S a w)(b:w.grownBy w' row)(c:∀k,row=some k→a.heap.size≤k∨S k):am S a w' :=
 h.trans (T:=fun k=>some k=row) ⟨b.os,b.tape,b.output,b.size,fun k hk bL=>b.block k hk bL⟩ (fun i hi e=>by rcases c i e.symm with h|h;omega;exact h)
theorem am.below{a:World}(h:am S a w)(_:B≤a.heap.size)(b:∀k,S k→B≤k):Below B a w :=
 ⟨h.os,h.tape,h.output,h.size,fun k c=>h.block k Z (fun hs=>by have:=b k hs;omega)⟩
theorem am.ce{a:World}(h:Below a.heap.size a w):am S a w:=⟨h.os,h.tape,h.output,h.size,fun k b _=>h.block k b⟩
theorem am.cell(h:am S w w'){p:Addr}(a:p.block<w.heap.size)(b:¬S p.block):w'.cell? p=w.cell? p:=yk (h.block p.block a b)
theorem am.o8(h:am (fun _=>False) w w'){p:Addr}(a:w.cell? p=some u):w'.cell? p=some u:=(h.cell (wH w p a) (fun h=>h)).trans a
theorem am.owns(h:am S w w'){base:Nat}{size:Nat}{xs:List Value}(a:w.ownsRow base e size v n xs)(c:∀k,v.ownBlock=some k→¬S k):w'.ownsRow base e size v n xs:=by
 refine⟨a.1,?_⟩;rcases a.2 with d|⟨g,cap,f,rfl,i,b,rest⟩
 ·exact .inl d
 exact .inr ⟨g,cap,f,rfl,i,by rw[h.block g (bS.1 b).1 (c g rfl)];exact b,rest⟩
def Sl(w:World)(v:Value)(n:Nat)(cells:List Value):Prop :=
 ∃a cap,v=.slice a n cap∧n≤cap∧cap≤maxLen∧∀j u,cells[j]?=some u→∃b off,a=some ⟨b,off,none⟩∧w.cell? ⟨b,off+j,none⟩=some u
theorem Sl.below{cells:List Value}(h:Sl w v n cells)(c:Below w.heap.size w w'):Sl w' v n cells:=by
 obtain⟨a,cap,rfl,h1,d,e⟩:=h;refine⟨a,cap,rfl,h1,d,fun j u hu=>?_⟩;obtain⟨b,off,rfl,hc⟩:=e j u hu;exact⟨b,off,rfl,ab c hc⟩
theorem Sl.abh{base:Nat}{size:Nat}{xs:List Value}(h:w.ownsRow base e size v n xs):Sl w v n xs:=by
 rcases h.2 with⟨rfl,rfl⟩|⟨g,cap,_,rfl,_,_,b,c,_,_⟩
 ·refine⟨none,0,rfl,aE _,bj _,fun j u a=>?_⟩;have d:xs=[]:=oT (by simpa using h.1);subst d;simp at a
 refine⟨some ⟨g,0,none⟩,cap,rfl,b,c,fun j u a=>⟨g,0,rfl,?_⟩⟩;have:=h.cells (g:=g) rfl j u a
 rwa [tX]at this
theorem tH{size:Nat}{xs:List Value}(h:w.ownsRow B e size v n xs):∀k,v.ownBlock=some k→∃cs,w.heap[k]?=some (.cells cs e (0,0)):=by
 intro k a;rcases h.2 with⟨h1,_⟩|⟨g,cap,_,h1,_,b,_⟩
 ·rw[h1]at a;simp[Value.ownBlock]at a
 rw[h1]at a;simp[Value.ownBlock]at a;subst a;exact⟨_,b⟩
theorem zp{b:Nat}{a:TypeId}{size d:Nat}{f:Nat}{xs g:List Value}(h:w.ownsRow B e size v n xs)(i:w.ownsRow b a d v' f g)(j:e≠a):∀k,v.ownBlock=some k→v'.ownBlock≠some k:=by
 intro k l m;obtain⟨c,hc⟩:=tH h k l;obtain⟨c',hc'⟩:=tH i k m;rw[hc]at hc';simp at hc';exact j hc'.2
theorem dM{t:TypeId}{size:Nat}{xs:List Value}{fr:Nat×Nat}(h:w.ownsRow B e size v n xs)(a:w.heap[x]?=some (.cells cs t fr))(b:e≠t):v.ownBlock≠some x:=by
 intro d;obtain⟨c,hc⟩:=tH h x d;rw[hc]at a;simp at a;exact b a.2.1
theorem J{p:Nat}{t:TypeId}{fr:Nat×Nat}(h:w.heap[p]?=some (.cells cs t fr))(i:Nat):w.cell? ⟨p,i,none⟩=cs[i]?:=cell_of_row w p i cs t fr h
theorem aG{p:Nat}{t:TypeId}(h:w.heap[p]?=some (.cells cs t (0,0)))(i:Nat):w.frozen? ⟨p,i,none⟩=false:=frozen_of_row w p i cs t h
theorem bI{o:Obj}(h:w.heap[f]?=some o)(a:am S w w')(b:¬S f):w'.heap[f]?=some o :=
 (a.block f (bS.1 h).1 b).trans h
theorem bg{size:Nat}{xs:List Value}(h:w.ownsRow B e size v n xs):∃a cap,v=.slice a n cap:=by
 rcases h.2 with⟨h1,b⟩|⟨g,cap,_,h1,_⟩
 ·exact⟨none,0,by rw[h1,b]⟩
 exact⟨_,cap,h1⟩
theorem aN{a:World}(h:am (fun k=>k=x) a w)(i:Nat)(u:Value):am (fun k=>k=x) a (w.setCell ⟨x,i,none⟩ u):=am.setCell (S:=fun k=>k=x) h (p:=⟨x,i,none⟩) (.inr rfl) u
theorem zcw{row:Option Nat}(h:w.drew.grownBy w' row):w.grownBy w' row:=⟨h.os,h.tape,h.output,h.size,h.block⟩
theorem G(h:Below w.heap.size w w'){o:Obj}(a:w.heap[k]?=some o):w'.heap[k]?=some o:=(h.block k (bS.1 a).1).trans a
theorem eS(h:w.grownBy w' v.ownBlock):am (fun k=>v.ownBlock=some k) w w':=⟨h.os,h.tape,h.output,h.size,fun k hk bL=>h.block k hk (fun e=>bL e.symm)⟩
theorem aS(w:World)(o:Obj):Below w.heap.size w (w.alloc o):=(aL _ _).alloc (aE _) _
def JI(t:TypeId)(w w':World):Prop:=∀(k:Nat)(cs:Array Value)(fr:Nat×Nat),w.heap[k]?=some (.cells cs t fr)→w'.heap[k]?=some (.cells cs t fr)
theorem JI.refl(t:TypeId)(w:World):JI t w w:=fun _ _ _ h=>h
theorem JI.trans{t:TypeId}{a b c:World}(h:JI t a b)(k:JI t b c):JI t a c:=fun i cs fr h1=>k i cs fr (h i cs fr h1)
theorem dx{o:Obj}(h:w.heap.size=n):(w.alloc o).heap[n]?=some o:=by subst h;exact dq w o
abbrev Rd(α:Type):=World→List Value→α→Prop
def RInt(k:IntKind):Rd Int:=fun _ cs n=>cs=[.int k n]∧(Lit.int k n).wf=true
def RBool:Rd Bool:=fun _ cs b=>cs=[.bool b]
def qr:Rd ByteArray:=fun _ cs s=>cs=[.string s]∧s.size≤maxLen
def ct{α:Type}(sz:Nat)(R:Rd α):Rd (List α):=fun w cs l=>
 ∃a cap,cs=[.slice a l.length cap]∧l.length≤cap∧cap≤maxLen∧
  ∀i x,l[i]?=some x→∃b off hH,a=some ⟨b,off,none⟩∧hH.length=sz∧(∀j u,hH[j]?=some u→w.cell? ⟨b,off+i*sz+j,none⟩=some u)∧R w hH x
def RNil:Rd Unit:=fun _ cs _=>cs=[]
def kD{α β:Type}(sz:Nat)(R:Rd α)(S:Rd β):Rd (α×β):=fun w cs x=>∃c1 c2,cs=c1++c2∧c1.length=sz∧R w c1 x.1∧S w c2 x.2
def nJ{α:Type}(R:Rd α):Prop:=∀w w' cs a,R w cs a→Below w.heap.size w w'→R w' cs a
theorem stays_str:nJ qr:=fun _ _ _ _ h _=>h
theorem bz{α:Type}{R:Rd α}(d:nJ R):nJ (ct sz R):=by
 rintro w w' cs l ⟨a,cap,rfl,h1,e,f⟩ c;refine⟨a,cap,rfl,h1,e,fun i x hi=>?_⟩;obtain⟨b,off,hH,rfl,h4,h5,h6⟩:=f i x hi;exact⟨b,off,hH,rfl,h4,fun j u hu=>ab c (h5 j u hu),d _ _ _ _ h6 c⟩
def ic{α:Type}(P:Program)(t:TypeId)(R:Rd α):Prop :=
 ∀{aP:Type} (e9:TypeId×Value→aP) (w:World) (base:Nat) (spare:Nat→Bool) (DU:Bool) (fuel:Nat) (cs:List Value) (x:DataW aP×List MemPlace),
  DataW.trod e9 P w base spare DU fuel t cs=some x→∃a,R w cs a
theorem zmq{P:Program}{t:TypeId}{k:IntKind}(a:P.underlying t=some (.int k)):ic P t (RInt k):=by
 intro aP e9 w base _ _ _ cs x h;obtain⟨n,h1,_,h3⟩:=DataW.trod_int a h;exact⟨n,h1,h3⟩
theorem ydy{P:Program}{t:TypeId}(a:P.underlying t=some .bool):ic P t RBool:=by
 intro aP e9 w base _ _ _ cs x h;obtain⟨n,h1,_⟩:=DataW.trod_bool a h;exact⟨n,h1⟩
theorem zr{P:Program}{t:TypeId}(a:P.underlying t=some .string):ic P t qr:=by
 intro aP e9 w base _ _ _ cs x h;obtain⟨n,h1,_,h3⟩:=DataW.trod_string a h;exact⟨n,h1,h3⟩
theorem AW{α:Type}{P:Program}{t:TypeId}{R:Rd α}(o:P.underlying t=some (.slice e))(p:P.cellsOf e=sz)(c:0<sz)(q:ic P e R):ic P t (ct sz R):=by
 intro aP e9 w base r s _ cs x h;rcases Go.Deep.open_slice o h with⟨rfl,_⟩|⟨a,len,cap,m,n,ml,_,rfl,_,_,v,A,_,f⟩
 ·exact⟨[],none,0,rfl,aE _,bj _,fun i x hi=>vm⟩
 have S:len≤m:=by rw[A];split<;>omega
 have B:∀i,i<len→∃y:α,∃cs',w.cells? base (a.add (i*P.cellsOf e)) (P.cellsOf e)=some cs'∧R w cs' y:=by intro i hi;obtain⟨cs',h1,d⟩:=f i Z;obtain⟨y,hy⟩:=q e9 w base r s n cs' _ d;exact⟨y,cs',h1,hy⟩
 have C:∀k,k≤len→∃l:List α,l.length=k∧∀i y,l[i]?=some y→∃cs',w.cells? base (a.add (i*P.cellsOf e)) (P.cellsOf e)=some cs'∧R w cs' y:=by
  intro k
  induction k with
  |zero=>exact fun _=>⟨[],rfl,fun i y hi=>vm⟩
  |succ k F=>
   intro _;obtain⟨l,h1,d⟩:=F Z;obtain⟨y,cs',h3,h4⟩:=B k Z;refine⟨l++[y],by simp[h1],fun i z c=>?_⟩;rw[List.getElem?_append]at c;split at c
   ·exact d i z c
   have K:i=k:=by have:=(ie.1 c).1;simp at this;omega
   subst K;rw[h1,sS]at c;simp at c;subst c;exact⟨cs',h3,h4⟩
 obtain⟨l,h1,d⟩:=C len (aE _);refine⟨l,some a,cap,by rw[h1],Z,v,fun i y hi=>?_⟩;obtain⟨cs',h3,h4⟩:=d i y hi;obtain⟨_,h5,h6⟩:=World.cells?_some h3;obtain⟨b,off,spot⟩:=a;have L:spot=none:=by obtain⟨cs0,g3,_⟩:=f 0 atv;obtain⟨_,g5,g6⟩:=World.cells?_some g3;have h0:=g6 0 Z;have:0<cs0.length:=Z;rw[bR this]at h0;have:=World.cell?_spot h0;simpa [Addr.add] using this
 subst L;refine⟨b,off,cs',rfl,Z,fun j u g=>?_,h4⟩;have N:j<P.cellsOf e:=by have:=(ie.1 g).1;omega
 have:=h6 j N;rw[tX,tX,g,p]at this;exact this
def zla{β:Type}(P:Program)(N:Nat)(fs:List Field)(off:Nat)(S:Rd β):Prop :=
 off≤N∧∀{aP:Type} (e9:TypeId×Value→aP) (w:World) (base:Nat) (spare:Nat→Bool) (DU:Bool) (n:Nat) (cs:List Value),cs.length=N→
  (∀f∈fs,∃x,DataW.trod e9 P w base spare DU n f.type ((cs.drop f.offset).take (P.cellsOf f.type))=some x)→∃b,S w (cs.drop off) b
theorem zo{P:Program}:zla P N [] N RNil :=
 ⟨aE _,fun _ _ _ _ _ _ cs a _=>⟨(),by simp[RNil,a]⟩⟩
theorem iL{P:Program}{f:Field}{c:List Field}{off:Nat}{α β:Type}{R:Rd α}{S:Rd β}(d:f.offset=off)(e:P.cellsOf f.type=sz)(i:ic P f.type R)
  (h:zla P N c (off+sz) S):zla P N (f::c) off (kD sz R S):=by
 obtain⟨_,j⟩:=h;refine⟨Z,fun e9 w base spare DU n cs hN hf=>?_⟩;obtain⟨x,hx⟩:=hf f ae;obtain⟨a,ha⟩:=i e9 w base spare DU n _ _ hx;obtain⟨b,hb⟩:=j e9 w base spare DU n cs hN (fun g hg=>hf g (by simp[hg]));refine⟨(a,b),(cs.drop off).take sz,cs.drop (off+sz),?_,?_,?_,hb⟩
 ·rw[←List.drop_drop,mi]
 ·simp;omega
 rw[d,e]at ha;exact ha
theorem zm{P:Program}{t:TypeId}{a:Array Field}{β:Type}{S:Rd β}(c:P.underlying t=some (.struct a))(h:zla P (P.cellsOf t) a.toList 0 S):ic P t S:=by
 intro aP e9 w base d e _ cs x g;obtain⟨xs,n,_,_,hl,fT,hf⟩:=DataW.trod_struct c g
 obtain⟨b,hb⟩:=h.2 e9 w base d e n cs hl (by
  intro f j;obtain⟨i,hi⟩:=List.mem_iff_getElem?.1 j;have h1:a[i]?=some f:=Te;have k:=hf i f h1;have l:i<xs.length:=by rw[fT];have:=(bS.1 h1).1;exact this
  exact⟨xs[i],by rw[k];simp[l]⟩)
 exact⟨b,Tg⟩
theorem ydz{P:Program}{r:Reach}{base:Nat}{t:TypeId}{a:Array Field}(b:P.underlying t=some (.struct a))(h:Value.okWide P w r base t v):∃cs,v=.agg cs:=by
 unfold Value.okWide at h;rw[b]at h;obtain⟨cs,h,_⟩:=h;exact⟨cs,h⟩
def OpensZ{α:Type}(P:Program)(t:TypeId)(R:Rd α):Prop :=
 ∀{aP:Type} (e9:TypeId×Value→aP) (w:World) (base:Nat) (spare:Nat→Bool) (DU:Bool) (fuel:Nat) (cs:List Value) (x:DataW aP×List MemPlace),
  DataW.trod e9 P w base spare DU fuel t cs=some x→(∀n∈x.1.weights P t,n≤reachBytes)→∃a,R w cs a
theorem opensZ_of{α:Type}{P:Program}{t:TypeId}{R:Rd α}(h:ic P t R):OpensZ P t R:=fun e9 w base a b c cs x d _=>h e9 w base a b c cs x d
theorem sized_arg{aP:Type}{P:Program}{b:List TypeId}{c:List (DataW aP)}(h:(DataW.weightsEach P b c).all (·≤reachBytes)=true){t:TypeId}{d:DataW aP}(e:b[j]?=some t)(O:c[j]?=some d):∀n∈d.weights P t,n≤reachBytes:=by
 intro n f;exact ed (qy.1 h _ (DataW.weights_mem_each e O n f))
theorem zta(h:s.data.toList.length≤reachBytes):s.size≤140737488351232:=by
 have e:reachBytes=140737488351232:=rfl;rw[e]at h;have e2:s.data.toList.length=s.size:=SF;omega
def Bld(B b:Nat)(bs:List UInt8)(w:World):Prop:=Lib.IsBuilder 59 5 B b (Lib.byteCells bs) w
theorem bld_size:(prog.info? 59).map (·.size)=some 2:=by kernel_rfl
theorem bld_lies:liesAt prog prog.depth 59 (2 / prog.cellsOf 59) 0 59 1=true:=by kernel_rfl
theorem So:(prog.info? 5).map (fun i=>(i.zero,i.size,i.bytes))=some (some (.int .u8 0),1,1):=by kernel_rfl
theorem bld_cells:prog.cellsOf 5=1:=by kernel_rfl
theorem bld_new(w:World):Bld w.heap.size w.heap.size [] (w.alloc (.cells #[.pointer none,.slice none 0 0] 59)):=Lib.fresh_isBuilder _ _ w
def pi(w w':World):Prop:=∀(k:Nat)(cs:Array Value)(t:TypeId)(fr:Nat×Nat),w.heap[k]?=some (.cells cs t fr)→t≠59→t≠5→w'.heap[k]?=some (.cells cs t fr)
theorem Kb(w:World):pi w w:=fun _ _ _ _ h _ _=>h
theorem pi.trans{a b c:World}(h:pi a b)(k:pi b c):pi a c:=fun i cs t fr h1 d e=>k i cs t fr (h i cs t fr h1 d e) d e
theorem py(h:Below w.heap.size w w'):pi w w':=fun k _ _ _ h1 _ _=>(h.block k (bS.1 h1).1).trans h1
theorem aae{fr:Nat×Nat}(hb:w.heap[b]?=some (.cells cs 59 fr))(i:Nat)(u:Value):pi w (w.setCell ⟨b,i,none⟩ u):=by
 exact ajg
theorem Pl{xs:List Value}(hg:w.grownBy w' v.ownBlock)(dG:w.ownsRow B 5 1 v n xs):pi w w':=by
 exact afo
theorem aaq{bs:List Value}(h:Lib.IsBuilder 59 5 B b bs w):
  Calls prog 69 #[.pointer (some ⟨b,0,none⟩)] w fun e w'=>e=.returned (.tuple #[])∧Lib.BuilderAt 59 5 B b (.pointer (some ⟨b,0,none⟩)) bs w'∧Below B w w'∧pi w w':=by
 exact apx
theorem A1{bs:List UInt8}(h:Bld B b bs w)(s:ByteArray)(_:bs.length+s.size≤1000000000)(_:B≤w.heap.size):
  Calls prog 37 #[.pointer (some ⟨b,0,none⟩),.string s] w fun e w'=>e=.returned (.tuple #[.int .i64 s.size,.nilIface])∧Bld B b (bs++s.data.toList) w'∧Below B w w'∧pi w w':=by
 obtain⟨j,hi,l,m,n⟩:=F_ So;refine agy ?_;intro hl HC Ex L hL;unfold Bld at h;rw[←hL]at h hl HC Ex;have r:L.length+s.size≤1000000000:=Z;revert hi l m n Ex hl h hL;refine fg ?_;intro Hi lO dv dZ MG Hl Hh HL;go_enter func37,ntmps37;go_wp2_with fail;refine VP ?_;intro w1 hB v c0 c1 Eh qq cZ cJ aB JP;go_wp2_with (at_builtin;refine Lib.wpList_append_own_string _ rfl _ _ 57 9 rfl B 5 j NY ox Hi.o lO.o dv.o dZ.o _ _ _ rfl cZ.o s rfl ?c3 ?c4 ?c5 ?_)
 case c3=>unfold maxLen;omega
 case c4=>omega
 case c5=>omega
 intro v' w2 Tn i _;have q:b<w1.heap.size:=(bS.1 qq.o).1;have af:w2.heap[b]?=some (.cells #[.pointer (some ⟨b,0,none⟩),v] 59 (0,0)):=by rw[i.block b q (fun e=>cJ.o e.symm)];exact qq.o
 refine WJ ?_;intro d1 f1;obtain⟨ao,n',cap,rfl⟩:∃ao n' cap,v'=.slice ao n' cap:=by exact alr
 revert i af Tn;refine fo ?_;intro Uh bh acz;go_wp2_with fail;go_ret2
 refine⟨rfl,?_,?_,?_⟩
 ·unfold Bld;rw[←MG.o];exact .inr (Lib.BuilderAt.put (T:=59) (e:=5) hB bh.o (bs':=L++Lib.strCells s) arm D)
 ·exact amb
 exact aof
theorem abi{l:List UInt8}(h:Bld B b l w)(h0:l≠[]):
  Calls prog 18 #[.pointer (some ⟨b,0,none⟩)] w fun e w'=>e=.returned (.string ⟨l.toArray⟩)∧Below B w w':=by
 obtain⟨p,_,v,jM,dG,bL⟩:∃p,Lib.BuilderAt 59 5 B b p (Lib.byteCells l) w:=by
  rcases h with h|h
  ·exact⟨_,h⟩
  exact⟨_,h⟩
 revert v jM dG bL;refine ahs ?_;intro Bz g cap cur jM dG bL Tl hg TQ xH pC PT;have c1:w.drew.cell? ⟨b,1,none⟩=some (.slice (some ⟨g,0,none⟩) l.length cap):=by have:w.drew.heap[b]?=some (.cells #[p,.slice (some ⟨g,0,none⟩) l.length cap] 59 (0,0)):=jM;rw[Gf this];rfl
 exact apz
theorem A0{T:TypeId}{p:Value}{bs:List Value}(h:Lib.BuilderAt T e B b p bs w)(hb:Below w.heap.size w w'):Lib.BuilderAt T e B b p bs w':=by
 exact aln
theorem pu{bs:List UInt8}(h:Bld B b bs w)(hb:Below w.heap.size w w'):Bld B b bs w':=by
 exact amq
theorem aar(w:World)(jM:w.heap[b]?=some (.cells #[.pointer none,.slice none 0 0] 59 (0,0))):
  Calls prog 18 #[.pointer (some ⟨b,0,none⟩)] w fun e w'=>e=.returned (.string ⟨#[]⟩)∧Below w.heap.size w w':=by
 have c1:w.drew.cell? ⟨b,1,none⟩=some (.slice none 0 0):=by have:w.drew.heap[b]?=some (.cells #[.pointer none,.slice none 0 0] 59 (0,0)):=jM;rw[Gf this];rfl
 exact adz
theorem zt9{α:Type}{R:Rd α}{c:List Value}{l:List α}(_:c.length=l.length)(h:w.ownsRow B e 1 v l.length c)(g:∀(i:Nat) u x,c[i]?=some u→l[i]?=some x→R w [u] x):ct 1 R w [v] l:=by
 obtain⟨a,cap,rfl,h1,k,m⟩:=Sl.abh h;refine⟨a,cap,rfl,h1,k,fun i f hi=>?_⟩;have o:=(ie.1 hi).1;have d:i<c.length:=Z;obtain⟨b,off,ha,hc⟩:=m i c[i] (bR d);refine⟨b,off,[c[i]],ha,rfl,fun j u hu=>?_,g i _ f (bR d) hi⟩;have n:j=0:=by have:=(ie.1 hu).1;simp at this;omega
 subst n;simp at hu;subst hu;simpa using hc
theorem IB{P:Program}{c:Func}{p q:Tmp}{d:TypeId}(h:c.results=#[.cell p ty,.cell q d]){a:Nat}{x:Value}{e f:TypeId}
  (hp:tmps.getD p undef=.pointer (some ⟨a,0,none⟩)) (g:tmps.getD q undef=.pointer (some ⟨b,0,none⟩))
  (i:w.heap[a]?=some (.cells #[x] e (0,0))) (j:w.heap[b]?=some (.cells #[y] f (0,0)))
  (k:(isAgg ty).run P w=.ok false w) (l:(isAgg d).run P w=.ok false w) :
  (results c tmps).run P w=.ok (.tuple #[x,y]) w:=by
 have m:w.cell? ⟨a,0,none⟩=some x:=J i 0;have n:w.cell? ⟨b,0,none⟩=some y:=J j 0;have o:tmps[p]?.getD undef=.pointer (some ⟨a,0,none⟩):=Mz;have r:tmps[q]?.getD undef=.pointer (some ⟨b,0,none⟩):=by simpa using g
 simp only[results,h];simp[E8,Result.andThen,go_sem,o,r,k,l,m,n]
theorem zpu{P:Program}{t:TypeId}{size:Nat}(kE:up P t e z size bytes)(w:World)(base:Nat)(ty:TypeId)
  (v:Value) (n:Nat) (xs:List Value) (o:w.ownsRow base e size v n xs)
  (p:Option Addr) (m c:Nat) (d:List Value) (s:d.length=m*size) (y:∀j u,d[j]?=some u→∃b off,p=some ⟨b,off,none⟩∧w.cell? ⟨b,off+j,none⟩=some u) (h1:∀u∈d,u.oneCell'=true)
  (A:n+m≤maxLen) (B:(n+m)*bytes≤140737488355328) (C:base≤w.heap.size) :
  ∃v' w',(Builtin.append_ #[t,t] ty #[v,.slice p m c]).run P w=.ok v' w'∧w'.ownsRow base e size v' (n+m) (xs++d)∧w.grownBy w' v.ownBlock∧mh w v v':=by
 obtain⟨i,hi,F,K,L⟩:=F_ kE.info
 cases p with
 |some a=>
  obtain⟨v',w',N,R,S,f⟩:=zjr (P:=P) w base t ty e i z size bytes kE.slice hi F K L kE.zero kE.pos v n xs o a m c d s (by intro j u hu;obtain⟨b,off,q,e2⟩:=y j u hu;cases q;rw[tX];exact e2) h1 A B C;refine⟨v',w',N,R,S,fun k l=>?_⟩;rcases f with f|f
  ·exact .inl (by rw[←f];exact l)
  right;rw[f]at l;simp at l;omega
 |none=>
  have T:d=[]:=by
   cases d with
   |nil=>rfl
   |cons x r=>obtain⟨b,off,q,_⟩:=y 0 x rfl;cases q
  subst T
  have U:m=0:=by
   have W:=kE.pos;rcases Nat.eq_zero_or_pos m with h|h
   ·exact h
   have:=Nat.mul_pos h W;simp at s;omega
  subst U;refine⟨v,w,?_,by simpa using o,World.grownBy.refl _ _,fun k l=>.inl l⟩;rcases o.2 with⟨rfl,rfl⟩|⟨g,cap,_,rfl,_,_,X,_⟩
  ·simp[Builtin.append_,run_underlying kE.slice,sizeOf,typeInfo,hi,Builtin.lenOf,Builtin.firstCells]
  simp[Builtin.append_,run_underlying kE.slice,sizeOf,typeInfo,hi,Builtin.lenOf,Builtin.firstCells,X,storeCells]
theorem zld{P:Program}{t:TypeId}{size:Nat}(kE:up P t e z size bytes){o:Oper}{a:Act}{K:Act→World→Prop}{Q:Exit→Act→World→Prop}
  (s x:Operand) (ho:o.op=.call { callee:=.builtin .append,args:=#[s,x],argTypes:=#[t,t] })
  (base:Nat) (v:Value) (n:Nat) (xs:List Value) (hs:a.eval s=v) (g:w.ownsRow base e size v n xs)
  (f:Option Addr) (m c:Nat) (d:List Value) (hx:a.eval x=.slice f m c) (i:d.length=m*size) (l:∀j u,d[j]?=some u→∃b off,f=some ⟨b,off,none⟩∧w.cell? ⟨b,off+j,none⟩=some u) (h1:∀u∈d,u.oneCell'=true)
  (p:(n+m)*bytes≤140737488355328) (q:n+m≤maxLen) (r:base≤w.heap.size)
  (h:∀v' w',w'.ownsRow base e size v' (n+m) (xs++d)→w.grownBy w' v.ownBlock→mh w v v'→K (a.put o.dst v') w') :
  o.wp P a w K Q:=by
 obtain⟨v',w',hr,y,A,B⟩:=zpu kE w base o.type v n xs g f m c d i l h1 q p r;refine anp ?_;exact h v' w' y A B
theorem vB{P:Program}{t:TypeId}{size:Nat}(kE:up P t e z size bytes){g:Array Oper}{rest:List Oper}{o:Oper}{a:Act}{Q:Exit→Act→World→Prop}
  (i:o.guard=none) (s x:Operand) (k:o.op=.call { callee:=.builtin .append,args:=#[s,x],argTypes:=#[t,t] })
  (base:Nat) (v:Value) (n:Nat) (xs:List Value) (l:a.eval s=v) (p:w.ownsRow base e size v n xs)
  (f:Option Addr) (m c:Nat) (d:List Value) (q:a.eval x=.slice f m c) (r:d.length=m*size) (y:∀j u,d[j]?=some u→∃b off,f=some ⟨b,off,none⟩∧w.cell? ⟨b,off+j,none⟩=some u) (h1:∀u∈d,u.oneCell'=true)
  (A:(n+m)*bytes≤140737488355328) (B:n+m≤maxLen) (C:base≤w.heap.size)
  (h:∀v' w',w'.ownsRow base e size v' (n+m) (xs++d)→w.grownBy w' v.ownBlock→mh w v v'→wpList P g Q rest (a.put o.dst v') w') :
  wpList P g Q (o::rest) a w :=
 wpList_plain i fun _ F=>zld kE s x k base v n xs l p f m c d q r y h1 A B C fun v' w' h2 h3 h4=>F _ _ (h v' w' h2 h3 h4)
theorem zxe{bs:List UInt8}(h:Bld B b bs w)(c:UInt8)(_:bs.length+1≤1000000000)(_:B≤w.heap.size):
  Calls prog 94 #[.pointer (some ⟨b,0,none⟩),.int .u8 c.toNat] w fun e w'=>e=.returned .nilIface∧Bld B b (bs++[c]) w'∧Below B w w'∧pi w w':=by
 obtain⟨F,hi,K,N,R⟩:=F_ So;have r:(Lib.byteCells bs).length=bs.length:=Vw bs;have HC:=aH (fun w=>aaq (w:=w) (B:=B) (b:=b) (bs:=Lib.byteCells bs));have m:Lib.byteCells bs++[.int .u8 c.toNat]=Lib.byteCells (bs++[c]):=by simp[Lib.byteCells]
 obtain⟨n,q⟩:=Y c.toNat;rw[←q]at m⊢;have aa:n<256:=by rw[q];exact c.toNat_lt
 obtain⟨L,s⟩:=Y (Lib.byteCells bs);unfold Bld at h;rw[←s]at h r HC m;have ab:L.length≤1000000000:=Z;revert hi K N R q m r h s;refine fK ?_;intro Hi lO dv dZ Hn MG Hl Hh HL;go_enter func94,ntmps94;go_wp2_with fail;refine VP ?_;intro w1 hB v c0 c1 Eh qq cZ cJ aB JP;go_wp2_with (at_builtin;refine wpList_append_own _ rfl _ _ 57 rfl B 5 F (.int .u8 0) 1 1 NY Hi.o lO.o dv.o dZ.o rfl D _ _ _ rfl (cZ.o.alloc _) ⟨w1.heap.size,0,none⟩ 1 1 [.int .u8 n] rfl rfl ?c1 ?c2 ?c3 ?c4 ?c5 ?_)
 case c1=>
  intro j u l
  match j,l with
  |0,l=>simp at l;subst l;simp[Addr.add]
 case c2=>intro u t;simp at t;subst t;rfl
 case c3=>unfold maxLen;omega
 case c4=>omega
 case c5=>simp;omega
 intro v' w2 y z _;have S:b<w1.heap.size:=(bS.1 qq.o).1;have af:w2.heap[b]?=some (.cells #[.pointer (some ⟨b,0,none⟩),v] 59 (0,0)):=by rw[z.block b aX (fun e=>cJ.o e.symm),Lib.alloc_old w1 _ b S];exact qq.o
 refine WJ ?_;intro d1 f1
 obtain⟨g,cap,rfl⟩:∃g cap,v'=.slice (some ⟨g,0,none⟩) (L.length+1) cap:=by
  rcases y.2 with⟨_,h0⟩|⟨g,cap,_,U,_⟩
  ·omega
  exact⟨g,cap,U⟩
 revert z af y;refine fo ?_;intro A C W;go_wp2_with fail;go_ret;refine⟨rfl,?_,?_,?_⟩
 ·unfold Bld;rw[←MG.o];exact .inr (Lib.BuilderAt.put (T:=59) (e:=5) hB C.o (bs':=L++[.int .u8 n]) (by simpa using W.o) D)
 ·exact ((aB.o.alloc Eh _).grown A.o aX (fun k X=>(cZ.o.lt k X).1)).setCell (p:=⟨b,1,none⟩) hB _
 exact ((JP.o.trans (py ((aL _ _).alloc (aE _) _))).trans (Pl A.o (cZ.o.alloc _))).trans (aae C.o 1 _)
theorem flat_get':∀{css:List (List Value)},(∀cs∈css,cs.length=k)→∀(i:Nat)(h:i<css.length)(j:Nat),j<k→css.flatten[i*k+j]?=css[i][j]?
 |[],_,i,h,_,_=>by simp at h
 |c::css,a,0,_,j,b=>by rw[Sn,AQ,og,pS (by rw[a c ae];exact b)];rfl
 |c::css,a,i+1,h,j,b=>by have d:=a c ae;rw[Sn,nC (by rw[d,F8];omega),d,show (i+1)*k+j-k=i*k+j from Tf];rw[flat_get' (fun x hx=>a x Oc) i w_ j b];rfl
theorem zih{α:Type}{R:Rd α}{css:List (List Value)}{l:List α}(k:0<sz)(_:css.length=l.length)(g:∀cs∈css,cs.length=sz)(h:w.ownsRow B e sz v l.length css.flatten)(m:∀(i:Nat) cs x,css[i]?=some cs→l[i]?=some x→R w cs x):ct sz R w [v] l:=by
 obtain⟨a,cap,rfl,h1,n,o⟩:=Sl.abh h;refine⟨a,cap,rfl,h1,n,fun i x hi=>?_⟩;have q:=(ie.1 hi).1;have f:i<css.length:=Z;have p:=g _ (eZ f);have d:∀c,c<sz→∀u,css[i][c]?=some u→∃b off,a=some ⟨b,off,none⟩∧w.cell? ⟨b,off+(i*sz+c),none⟩=some u:=fun c d u hu=>o (i*sz+c) u (by rw[flat_get' g i f c d];exact hu);obtain⟨b,off,ha,_⟩:=d 0 k (css[i][0]' Z) (bR Z);refine⟨b,off,css[i],ha,p,fun j u hu=>?_,m i _ x (bR f) hi⟩;have r:=(ie.1 hu).1;obtain⟨b',gK,ha',h5⟩:=d j Z u hu;rw[ha]at ha';cases ha';rw[rn];exact h5
end
namespace em
open RowKit
theorem len(s:ByteArray):s.data.toList.length=s.size:=by rw[ou];rfl
theorem at_(s:ByteArray)(k:Nat)(h:k<s.size):s.data.toList[k]'(by rw[len];exact h)=s[k]:=rfl
theorem ext{x y:ByteArray}(h:x.data.toList=y.data.toList):x=y:=by
 exact apc
theorem zf(s:ByteArray):s.toList=[]↔s.size=0:=by
 rw[DL,←len];exact List.length_eq_zero_iff.symm
theorem gu(x y:ByteArray):(x.toList==y.toList)=decide (x=y):=by
 rw[ByteArray.toList_eq,ByteArray.toList_eq];by_cases h:x=y
 ·subst h;simp
 rw[be h,JY];exact fun e=>h (ext e)
theorem ii(s:ByteArray):s.toList.isEmpty=decide (s.size=0):=by
 by_cases h:s.size=0
 ·rw[aO h,(zf s).2 h];rfl
 rw[be h,qw];intro e;rw[List.isEmpty_iff,zf]at e;exact h e
end em
section
open RowKit Lib
structure dN(w:World):Prop where
 tab:TabIs prog w "internal/strconv.uint64pow10" .u64 pow10Tab
 syn:∃tp p,w.var? prog "strconv.ErrSyntax" =some #[.iface tp p]
 rng:∃tp p,w.var? prog "strconv.ErrRange" =some #[.iface tp p]
 max:∃m,w.cell? ⟨0,0,none⟩=some (.int .i64 m)
theorem gTab:prog.globalNamed "internal/strconv.uint64pow10" =some 5:=by kernel_rfl
theorem gSyn:prog.globalNamed "strconv.ErrSyntax" =some 3:=by kernel_rfl
theorem gRng:prog.globalNamed "strconv.ErrRange" =some 4:=by kernel_rfl
theorem var_lt{n:String}(a:prog.globalNamed n=some g)(h:w.var? prog n=some cs)(h0:cs[0]?=some v):g<w.heap.size:=by
 have:=World.var?_cell a h 0;rw[h0]at this;exact wH w _ this
theorem dN.below(h:dN w)(a:Below w.heap.size w w'):dN w':=by
 obtain⟨c,p,b⟩:=h.syn;obtain⟨tq,q,hr⟩:=h.rng;obtain⟨m,hm⟩:=h.max;exact⟨var?_below a gTab (var_lt (v:=.int .u64 1) gTab h.tab rfl) h.tab,⟨c,p,var?_below a gSyn (var_lt gSyn b rfl) b⟩,⟨tq,q,var?_below a gRng (var_lt gRng hr rfl) hr⟩,⟨m,ab a hm⟩⟩
theorem dN.from(h:dN w)(a:w.heap.size≤B)(b:Below B w w'):dN w':=h.below (b.mono a)
theorem atoi_any(s:ByteArray)(_:s.size≤1000000)(d:dN w):
  Calls prog 162 #[.string s] w fun e w'=>((∃v,atoiAll s.data.toList=.ok v∧e=.returned (.tuple #[.int .i64 v,.nilIface]))∨
   ((∀v,atoiAll s.data.toList≠.ok v)∧∃(v:Int)(N:Nat),e=.returned (.tuple #[.int .i64 v,.iface 226 (.pointer (some ⟨N,0,none⟩))])))∧Below w.heap.size w w':=by
 obtain⟨f,p,a⟩:=d.syn;obtain⟨tq,q,hr⟩:=d.rng
 cases h:atoiAll s.data.toList with
 |ok v=>
  refine (Tryz.strconv_Atoi_ok s Z v h w).mono fun e w' ⟨b,g⟩=>⟨.inl ⟨v,rfl,b⟩,?_⟩;rcases g with rfl|⟨t,rfl⟩
  ·exact aL _ _
  exact bytesWorld_below _ _ _
 |range=>exact (Tryz.strconv_Atoi_range_var s Z h tq q w hr).mono fun e w' ⟨N,b,_,_,c⟩=>⟨.inr ⟨(fun v a=>by cases a),_,N,b⟩,c⟩
 |_=>exact (Tryz.strconv_Atoi_syntax_var s Z h f p w a).mono fun e w' ⟨N,b,_,_,c⟩=>⟨.inr ⟨(fun v a=>by cases a),0,N,b⟩,c⟩
theorem yen(w:World)(k:Nat)(os:Array Obj):Below w.heap.size w (Sort.grow (w.drewN k) os) :=
 ⟨rfl,rfl,rfl,by show w.heap.size≤(w.heap++os).size;rw[Array.size_append];omega,fun j a=>by show (w.heap++os)[j]?=w.heap[j]?;exact Array.getElem?_append_left a⟩
theorem itoa_any(n:Int)(h0 : -9223372036854775808≤n)(h1:n≤9223372036854775807)(a:dN w):
  Calls prog 163 #[.int .i64 n] w fun e w'=>e=.returned (.string ⟨(itoa n).toArray⟩)∧Below w.heap.size w w' :=
 (Tryz.strconv_Itoa n h0 h1 w a.tab).mono fun e w' ⟨b,k,os,c⟩=>⟨b,c ▸ yen w k os⟩
abbrev Hj:Rd (List ByteArray):=ct 1 qr
theorem lK(h:Hj w [v] l):∃a cap,v=.slice a l.length cap∧l.length≤9223372036854775807∧∀i (hi:i<l.length),∃b off,a=some ⟨b,off,none⟩∧w.cell? ⟨b,off+i,none⟩=some (.string l[i])∧l[i].size≤maxLen:=by
 obtain⟨a,cap,c,_,d,e⟩:=h;simp only[nj,lv]at c;unfold maxLen at d;refine⟨a,cap,c,Z,fun i hi=>?_⟩;obtain⟨b,off,hH,h1,h2,h3,h4,h5⟩:=e i l[i] (bR hi);subst h4;exact⟨b,off,h1,CY,h5⟩
theorem L_{l:List ByteArray}(h:w.ownsRow B 9 1 v n (l.map Value.string))(c:∀x∈l,x.size≤maxLen):Hj w [v] l:=by
 obtain rfl:n=l.length:=by have:=h.1;simp at this;omega
 refine zt9 ae h fun i u x a b=>?_;rw[rC,b]at a;cases a;exact⟨rfl,c x (uQ b)⟩
theorem iY(h:Hj w [v] l)(a:Below w.heap.size w w'):Hj w' [v] l:=bz stays_str _ _ _ _ h a
end
section
open ChangeShapes WideShapes ChangeAt RowKit Lib
abbrev Jv:List (String×DataW Unit):=Rows.printRecipeRow.laid
theorem gTabType:(prog.globals[5]?).map (·.type)=some 254:=by kernel_rfl
theorem gSynType:(prog.globals[3]?).map (·.type)=some 104:=by kernel_rfl
theorem gRngType:(prog.globals[4]?).map (·.type)=some 104:=by kernel_rfl
theorem star: "*" ++ "errors.errorString" = "*errors.errorString" :=by decide
theorem rowErr(u:TypeId)(h:prog.typeName? 3 u=some "*errors.errorString"):u=250 :=
 typeName_ptr_named (nm := "errors.errorString") (by rw[star];kernel_rfl) aA D u (by rw[star];exact h)
theorem cells_u64:prog.cellsOf 237=1:=by kernel_rfl
theorem cells_tab:prog.cellsOf 254=20:=by kernel_rfl
theorem ycj:prog.cellsOf 252=1:=by kernel_rfl
theorem yci:prog.cellsOf 9=1:=by kernel_rfl
theorem ybx(a:laidMetH prog Jv W)(d:W.ShapedOpen prog):dN W:=by
 rw[MakeChecks.laidMetH_plain _ _ _ aA]at a;have b:=a.tail.tail;have c:=b.tail.tail;have e:=c.tail;obtain⟨_,_,f,-,-,-⟩:=laid_sentinel c gRng gRngType underlying104 rowErr underlying250 underlying252 rfl rfl ox ycj yci;obtain⟨a1,s1,jo,-,-,-⟩:=laid_sentinel e gSyn gSynType underlying104 rowErr underlying250 underlying252 rfl rfl ox ycj yci;exact⟨tabIs_of_head (k:=.u64) (zs:=pow10Tab) gTab gTabType underlying254 underlying237 cells_u64 cells_tab b,⟨_,_,jo⟩,⟨_,_,f⟩,Tryz.laysM143.s1_3 W d⟩
theorem own:ownKnob prog.godebug=none:=by kernel_rfl
theorem laidOut:laidOutB prog=true:=by kernel_rfl
theorem zps(os:Os)(args:Array Value):((World.laidAll prog os Jv).forCall (fun _ _=>0) ⟨#[],args,[]⟩).Shaped prog:=World.shaped_of_ZipB (by kernel_rfl) (by kernel_rfl)
theorem zvd(os:Os)(args:Array Value):laidMetH prog Jv ((World.laidAll prog os Jv).forCall (fun _ _=>0) ⟨#[],args,[]⟩).memory:=by
 rw[MakeChecks.laidMetH_plain _ _ _ aA];exact laidMet_laidAll _ aA aA
end
section
namespace BT
open RowKit
def Bld(B b:Nat)(bs:List UInt8)(w:World):Prop:=Lib.IsBuilder 61 5 B b (Lib.byteCells bs) w
theorem bld_size:(prog.info? 59).map (·.size)=some 2:=by kernel_rfl
theorem bld_lies:liesAt prog prog.depth 61 (2 / prog.cellsOf 61) 0 59 1=true:=by kernel_rfl
theorem So:(prog.info? 5).map (fun i=>(i.zero,i.size,i.bytes))=some (some (.int .u8 0),1,1):=by kernel_rfl
theorem bld_cells:prog.cellsOf 5=1:=by kernel_rfl
theorem bld_new(w:World):Bld w.heap.size w.heap.size [] (w.alloc (.cells #[.pointer none,.slice none 0 0] 61)):=Lib.fresh_isBuilder _ _ w
def pi(w w':World):Prop:=∀(k:Nat)(cs:Array Value)(t:TypeId)(fr:Nat×Nat),w.heap[k]?=some (.cells cs t fr)→t≠61→t≠5→w'.heap[k]?=some (.cells cs t fr)
theorem Kb(w:World):pi w w:=fun _ _ _ _ h _ _=>h
theorem pi.trans{a b c:World}(h:pi a b)(k:pi b c):pi a c:=fun i cs t fr h1 d e=>k i cs t fr (h i cs t fr h1 d e) d e
theorem py(h:Below w.heap.size w w'):pi w w':=fun k _ _ _ h1 _ _=>(h.block k (bS.1 h1).1).trans h1
theorem aae{fr:Nat×Nat}(hb:w.heap[b]?=some (.cells cs 61 fr))(i:Nat)(u:Value):pi w (w.setCell ⟨b,i,none⟩ u):=by
 exact ajg
theorem Pl{xs:List Value}(hg:w.grownBy w' v.ownBlock)(dG:w.ownsRow B 5 1 v n xs):pi w w':=by
 exact afo
theorem aaq{bs:List Value}(h:Lib.IsBuilder 61 5 B b bs w):
  Calls prog 69 #[.pointer (some ⟨b,0,none⟩)] w fun e w'=>e=.returned (.tuple #[])∧Lib.BuilderAt 61 5 B b (.pointer (some ⟨b,0,none⟩)) bs w'∧Below B w w'∧pi w w':=by
 exact apx
theorem A1{bs:List UInt8}(h:Bld B b bs w)(s:ByteArray)(_:bs.length+s.size≤70368744177664)(_:B≤w.heap.size):
  Calls prog 37 #[.pointer (some ⟨b,0,none⟩),.string s] w fun e w'=>e=.returned (.tuple #[.int .i64 s.size,.nilIface])∧Bld B b (bs++s.data.toList) w'∧Below B w w'∧pi w w':=by
 obtain⟨j,hi,l,m,n⟩:=F_ So;refine agy ?_;intro hl HC Ex L hL;unfold Bld at h;rw[←hL]at h hl HC Ex;have r:L.length+s.size≤70368744177664:=Z;revert hi l m n Ex hl h hL;refine fg ?_;intro Hi lO dv dZ MG Hl Hh HL;go_enter func37,ntmps37;go_wp2_with fail;refine VP ?_;intro w1 hB v c0 c1 Eh qq cZ cJ aB JP;go_wp2_with (at_builtin;refine Lib.wpList_append_own_string _ rfl _ _ 57 9 rfl B 5 j NY ox Hi.o lO.o dv.o dZ.o _ _ _ rfl cZ.o s rfl ?c3 ?c4 ?c5 ?_)
 case c3=>unfold maxLen;omega
 case c4=>omega
 case c5=>omega
 intro v' w2 Tn i _;have q:b<w1.heap.size:=(bS.1 qq.o).1;have af:w2.heap[b]?=some (.cells #[.pointer (some ⟨b,0,none⟩),v] 61 (0,0)):=by rw[i.block b q (fun e=>cJ.o e.symm)];exact qq.o
 refine WJ ?_;intro d1 f1;obtain⟨ao,n',cap,rfl⟩:∃ao n' cap,v'=.slice ao n' cap:=by exact alr
 revert i af Tn;refine fo ?_;intro Uh bh acz;go_wp2_with fail;go_ret2
 refine⟨rfl,?_,?_,?_⟩
 ·unfold Bld;rw[←MG.o];exact .inr (Lib.BuilderAt.put (T:=61) (e:=5) hB bh.o (bs':=L++Lib.strCells s) arm D)
 ·exact amb
 exact aof
theorem abi{l:List UInt8}(h:Bld B b l w)(h0:l≠[]):
  Calls prog 18 #[.pointer (some ⟨b,0,none⟩)] w fun e w'=>e=.returned (.string ⟨l.toArray⟩)∧Below B w w':=by
 obtain⟨p,_,v,jM,dG,bL⟩:∃p,Lib.BuilderAt 61 5 B b p (Lib.byteCells l) w:=by
  rcases h with h|h
  ·exact⟨_,h⟩
  exact⟨_,h⟩
 revert v jM dG bL;refine ahs ?_;intro Bz g cap cur jM dG bL Tl hg TQ xH pC PT;have c1:w.drew.cell? ⟨b,1,none⟩=some (.slice (some ⟨g,0,none⟩) l.length cap):=by have:w.drew.heap[b]?=some (.cells #[p,.slice (some ⟨g,0,none⟩) l.length cap] 61 (0,0)):=jM;rw[Gf this];rfl
 exact apz
theorem A0{T:TypeId}{p:Value}{bs:List Value}(h:Lib.BuilderAt T e B b p bs w)(hb:Below w.heap.size w w'):Lib.BuilderAt T e B b p bs w':=by
 exact aln
theorem pu{bs:List UInt8}(h:Bld B b bs w)(hb:Below w.heap.size w w'):Bld B b bs w':=by
 exact amq
theorem aar(w:World)(jM:w.heap[b]?=some (.cells #[.pointer none,.slice none 0 0] 61 (0,0))):
  Calls prog 18 #[.pointer (some ⟨b,0,none⟩)] w fun e w'=>e=.returned (.string ⟨#[]⟩)∧Below w.heap.size w w':=by
 have c1:w.drew.cell? ⟨b,1,none⟩=some (.slice none 0 0):=by have:w.drew.heap[b]?=some (.cells #[.pointer none,.slice none 0 0] 61 (0,0)):=jM;rw[Gf this];rfl
 exact adz
end BT
end
section
open Go
section
variable {P:Program}{ops o:Array Oper}{Q:Exit→Act→World→Prop}{md:Region.Mode}{S:World→Prop}{fuel:Nat}{listed:Array Bool}{a:Act}{w:World}
theorem I7{id:Nat}(b:P.follows .mixedOrders=true)(c:ops.size=n)(d:S w.drew)(h:∀o,o=ops→wpAnyH P .any o Q S n (Array.replicate n false) a w.drew):(Code.region id ops true).wp P Q a w:=by
 subst c;exact xZ b d fun _=>h ops rfl
theorem aEz(d:o=ops)(i:Nat){b:Oper}(hi:ops[i]?=some b)(e:Region.noSelect ops=true)(f:Region.free md ops listed i=true)(g:(Region.ready md ops listed).contains i=true)
  (j:∀c a w,Q (.panic c) (a.put b.dst v) w→Q (.panic c) a w) (k:YieldsIf P ops S b v a) (l:S w) (h:wpAnyH P md o Q S fuel (listed.setIfInBounds i true) (a.put b.dst v) w):wpAnyH P md o Q S (fuel+1) listed a w:=by
 subst d;exact azx hi e f g j k l h
theorem OY(b:o=ops){rs:List Nat}(c:Region.ready md ops listed=rs)(d:rs≠[])(h:AllReadyH P md o Q S fuel listed a w rs):wpAnyH P md o Q S (fuel+1) listed a w:=by
 subst b;exact mr c d h
theorem xF(d:o=ops){i:Nat}{c:Oper}{rs:List Nat}(hi:ops[i]?=some c)(e:Region.wanted c (yielded ops a.tmps)=true)
  (h:∀b:Act→World→Prop,Shut (∀a w,S w→(S w→wpAnyH P md o Q S fuel (listed.setIfInBounds i true) a w)→b a w)→Oper.wp P c a w b Q) (f:AllReadyH P md o Q S fuel listed a w rs):AllReadyH P md o Q S fuel listed a w (i::rs):=by
 subst d;exact dO hi (fun b g=>by rw[M e];exact h b g) f
theorem Pr(b:o=ops)(c:Region.ready md ops listed=[])(h:Q .normal a w):wpAnyH P md o Q S fuel listed a w:=by
 subst b;exact awg c h fuel
end
theorem EL{P:Program}{f:FuncId}{w:World}{α:Type}{F:α→Value}{adl:α→World→Prop}{gR:Ending→World→Prop}(h:Calls P f args w fun e w'=>∃v,e=.returned (F v)∧adl v w')(k:∀v w',adl v w'→gR (.returned (F v)) w'):Calls P f args w gR :=
 h.mono fun e w' ⟨v,a,b⟩=>by rw[a];exact k v w' b
end
namespace av
open Lib
def oq(c:UInt8):Bool:=decide (48≤c.toNat)&&decide (c.toNat≤57)
def wR(c:UInt8):Bool:=decide (97≤c.toNat)&&decide (c.toNat≤122)
theorem ug(c:UInt8):oq c=true↔48≤c.toNat∧c.toNat≤57:=by unfold oq;simp
theorem Fl(c:UInt8):wR c=true↔97≤c.toNat∧c.toNat≤122:=by unfold wR;simp
def eN(acc:Nat)(l:List UInt8):Nat:=l.foldl (fun a c=>a*10+(c.toNat-48)) acc
theorem zrr:∀(l:List UInt8)(acc:Nat),acc≤eN acc l
 |[],_=>aE _
 |c::r,acc=>by have:=zrr r (acc*10+(c.toNat-48));unfold eN at *;simp only[List.foldl_cons];omega
theorem ybh:∀(l:List UInt8)(acc:Nat),l.all oq=true→eN acc l<9223372036854775808→parseUint10 acc l=.ok (eN acc l)
 |[],_,_,_=>rfl
 |c::r,acc,h,a=>by simp only[wK,fI]at h;have b:=(ug c).1 h.1;have d:eN (acc*10+(c.toNat-48)) r<9223372036854775808:=a;have e:=zrr r (acc*10+(c.toNat-48));unfold parseUint10;rw[M b,E Z,E Z,ybh r _ h.2 d];rfl
theorem zjv(l:List UInt8)(c:UInt8)(acc:Nat):eN acc (l++[c])=eN acc l*10+(c.toNat-48):=by unfold eN;rw[List.foldl_append];rfl
def lead(l:List UInt8):Bool:=decide (l=[48]) || decide (l.head?≠some 48)
theorem zvx{c:UInt8}(h:oq c=true):UInt8.ofNat (48+(c.toNat-48))=c:=by
 have:=(ug c).1 h;rw[show 48+(c.toNat-48)=c.toNat from Z];exact UInt8.ofNat_toNat
theorem snocInd{α:Type}{P:List α→Prop}(h0:P [])(h1:∀l c,P l→P (l++[c]))(l:List α):P l:=by
 have a:∀r:List α,P r.reverse:=by
  intro r
  induction r with
  |nil=>exact h0
  |cons c r b=>rw[List.reverse_cons];exact h1 _ _ b
 have:=a l.reverse
 rwa [List.reverse_reverse]at this
theorem zkq:∀(l:List UInt8),l≠[]→l.all oq=true→l.head?≠some 48→10 ^ (l.length-1)≤eN 0 l∧eN 0 l<10 ^ l.length:=by
 intro l
 induction l using snocInd with
 |h0=>intro h;exact absurd rfl h
 |h1 l c f=>
  intro _ O d;simp only[CX,wK,Fz,BK,fI]at O;have j:=(ug c).1 O.2;rw[zjv];by_cases b:l=[]
  ·subst b;have:c.toNat≠48:=fun e=>d (by have:c=48:=NZ.1 e;simp[this]);simp[eN];omega
  have g:l.head?≠some 48:=by
   match l,b with
   |a::r,_=>simpa using d
  have:=f b O.1 g;have m:0<l.length:=vk.2 b;obtain⟨k,i⟩:∃k,l.length=k+1:=⟨l.length-1,Z⟩;rw[bM,rD];rw[i]at this⊢;simp only[SA]at this⊢;rw[Nat.pow_succ,Nat.pow_succ];rw[Nat.pow_succ]at this;omega
theorem zzu:∀(l:List UInt8),l≠[]→l.all oq=true→lead l=true→decDigits (eN 0 l)=l:=by
 intro l
 induction l using snocInd with
 |h0=>intro h;exact absurd rfl h
 |h1 l c f=>
  intro _ O b;simp only[CX,wK,Fz,BK,fI]at O;have i:=(ug c).1 O.2;rw[zjv];by_cases d:l=[]
  ·subst d;rw[show eN 0 []=0 from rfl,AQ,og,decDigits,dif_pos Z,zvx O.2];rfl
  have e:l.head?≠some 48:=by
   match l,d with
   |a::r,_=>
    unfold lead at b;simp only[n_,fE]at b;rcases b with b|b
    ·simp at b
    simpa using b
  have g:=zkq l d O.1 e;have h1:1≤eN 0 l:=fu (Nat.pos_of_ne_zero ae) g.1;rw[decDigits,dif_neg Z,show (eN 0 l*10+(c.toNat-48)) / 10=eN 0 l from Z,show (eN 0 l*10+(c.toNat-48)) % 10=c.toNat-48 from Z,zvx O.2,f d O.1 (by unfold lead;simp only[Bool.or_eq_true,fE];exact .inr e)]
theorem dec_dig:∀u:Nat,(decDigits u).all oq=true∧decDigits u≠[]∧lead (decDigits u)=true∧eN 0 (decDigits u)=u:=by
 intro u
 induction u using Nat.strongRecOn with
 |_ u ih=>
  rw[decDigits];have dg:∀d,d<10→(UInt8.ofNat (48+d)).toNat=48+d:=fun d O=>by rw[UInt8.toNat_ofNat'];omega
  split
  ·rename_i h
   have e:=dg u h;refine⟨?_,ae,?_,?_⟩
   ·simp only[wK,Fz,BK];rw[ug,e];omega
   ·unfold lead;simp only[List.head?_cons,n_,fE];by_cases h0:u=0
    ·left;subst h0;rfl
    right
    refine aO fun e2=>?_;injection e2 with e2;rw[e2]at e;have:(48:UInt8).toNat=48:=rfl;omega
   show 0*10+((UInt8.ofNat (48+u)).toNat-48)=u
   rw[e];omega
  rename_i h
  have hi:=ih (u / 10) Z;have e:=dg (u % 10) Z;refine⟨?_,ae,?_,?_⟩
  ·rw[CX,hi.1,x8];simp only[wK,Fz,BK];rw[ug,e];omega
  ·have b:=hi.2.2.1;unfold lead at b⊢;simp only[n_,fE]at b⊢;right;rcases b with b|b
   ·exfalso
    have:=hi.2.2.2;rw[b]at this;have h0:eN 0 [48]=0:=rfl;omega
   match hm:decDigits (u / 10),hi.2.1,b with
   |a::r,_,b=>simpa using b
  rw[zjv,hi.2.2.2,e];omega
def NR(l:List UInt8):Bool:=match atoiAll l with
 |.ok v=>decide (0≤v)&&decide (v≤999999999)&&decide (itoa v=l)
 |_=>l.all wR&&!l.isEmpty
def lL(l:List UInt8):Bool:=!l.isEmpty&&l.all oq&&decide (l.length≤9)&&lead l
def fk(l:List UInt8):Bool:=!l.isEmpty&&l.all wR
theorem val_le{l:List UInt8}(h:lL l=true):eN 0 l≤999999999:=by
 unfold lL at h;simp only[fI,Ga,fE]at h;obtain⟨⟨⟨h1,b⟩,c⟩,a⟩:=h;have d:l≠[]:=fun e=>by subst e;simp at h1
 unfold lead at a;simp only[n_,fE]at a;rcases a with a|a
 ·subst a;decide
 have f:=(zkq l d b a).2;have:10 ^ l.length≤10 ^ 9:=SB D c;omega
theorem ycl{l:List UInt8}(h:lL l=true):atoiAll l=.ok (eN 0 l:Nat):=by
 have b:=val_le h;unfold lL at h;simp only[fI,Ga,fE]at h;obtain⟨⟨⟨h1,a⟩,_⟩,_⟩:=h
 match l,h1,a,b with
 |c::r,_,a,b=>
  have e:=(ug c).1 (by simp only[wK,fI]at a;exact a.1);rw[atoiAll_plain c r Z Z];have d:parseMag (c::r)=.ok (eN 0 (c::r)):=by unfold parseMag;rw[if_neg ae];exact ybh _ _ a Z
  rw[d];unfold signless;simp only;rw[E Z]
theorem zu1(u:Nat):itoa (u:Int)=decDigits u:=by unfold itoa;rw[if_neg (by omega)];simp
theorem read_is(l:List UInt8):NR l=(fk l || lL l):=by
 by_cases O:lL l=true
 ·rw[O,Bool.or_true];unfold NR;rw[ycl O];have j:=val_le O;have g:=O;unfold lL at g;simp only[fI,Ga,fE]at g;have k:l≠[]:=fun e=>by subst e;simp at g
  have e:=zzu l k g.1.1.2 g.2;simp only;rw[zu1,e,aO Z,aO Z,aO rfl];rfl
 rw[qw.2 O,Bool.or_false];unfold NR
 cases f:atoiAll l with
 |ok v=>
  simp only
  have n:fk l=false:=by
   match l,f with
   |[],f=>rfl
   |c::r,f=>
    unfold fk;by_cases m:wR c=true
    ·have:=(Fl c).1 m;rw[atoiAll_plain c r Z Z]at f;have o:parseMag (c::r)=parseMag []:=by rw[parseMag,E ae,parseUint10,E Z]<;>rfl
     rw[o]at f;cases f
    simp[m]
  rw[n];by_cases j:0≤v∧v≤999999999∧itoa v=l
  ·exfalso
   apply O
   obtain⟨u,rfl⟩:∃u:Nat,v=u:=⟨v.toNat,Z⟩;have i:=j.2.2;rw[zu1]at i;have b:=dec_dig u;rw[i]at b;unfold lL;have k:l.isEmpty=false:=by cases l with|nil=>exact absurd rfl b.2.1|cons _ _=>rfl
   rw[k,b.1,b.2.2.1]
   have p:l.length≤9:=by
    have d:=b.2.2.1;unfold lead at d;simp only[n_,fE]at d;rcases d with d|d
    ·rw[d];decide
    have q:=(zkq l b.2.1 b.1 d).1;rw[b.2.2.2]at q;by_cases s:l.length≤9
    ·exact s
    exfalso
    have:10 ^ 9≤10 ^ (l.length-1):=SB D Z;omega
   rw[aO p];rfl
  by_cases h0:0≤v
  ·by_cases h1:v≤999999999
   ·have i:¬itoa v=l:=fun e=>j ⟨h0,h1,e⟩;simp[i]
   simp[h1]
  simp[h0]
 |range=>unfold fk;simp only;rw[Bool.and_comm]
 |_=>unfold fk;simp only;rw[Bool.and_comm]
theorem val_lt:∀(a b:List UInt8)(x y:Nat),a.length=b.length→a.all oq=true→b.all oq=true→(eN x a<eN y b↔x<y∨(x=y∧a<b))
 |[],[],x,y,_,_,_=>by
  have:¬(([]:List UInt8) < []):=List.lt_irrefl _;show x<y↔_;simp[this]
 |c::a,e::b,x,y,hl,d,f=>by
  simp only[wK,fI]at d f;have n:=(ug c).1 d.1;have o:=(ug e).1 f.1;have j:=val_lt a b (x*10+(c.toNat-48)) (y*10+(e.toNat-48)) F4 d.2 f.2;show eN (x*10+(c.toNat-48)) a<eN (y*10+(e.toNat-48)) b↔_;rw[j,List.cons_lt_cons_iff];have k:c<e↔c.toNat<e.toNat:=UInt8.lt_iff_toNat_lt;have l:c=e↔c.toNat=e.toNat:=UInt8.toNat_inj.symm;rw[k,l];constructor
  ·rintro (h|⟨h,g⟩)
   ·by_cases i:x<y
    ·exact .inl i
    exact .inr ⟨Z,.inl Z⟩
   by_cases i:x<y
   ·exact .inl i
   exact .inr ⟨Z,.inr ⟨Z,g⟩⟩
  rintro (h|⟨h,g|⟨g,m⟩⟩)
  ·left;omega
  ·left;omega
  right;exact⟨Z,m⟩
theorem dig_lt{a b:List UInt8}(f:lL a=true)(g:lL b=true):eN 0 a<eN 0 b↔a.length<b.length∨(a.length=b.length∧a<b):=by
 have parts:∀{l:List UInt8},lL l=true→l≠[]∧l.all oq=true∧(l=[48]∨l.head?≠some 48):=fun {l} h=>by unfold lL lead at h;simp only[fI,Ga,n_,fE]at h;exact⟨fun e=>by subst e;simp at h,h.1.1.2,h.2⟩
 obtain⟨a1,a2,i⟩:=parts f;obtain⟨b1,b2,b3⟩:=parts g
 have d:∀{l:List UInt8},l≠[]→l.all oq=true→(l=[48]∨l.head?≠some 48)→eN 0 l<10 ^ l.length∧(2≤l.length→10 ^ (l.length-1)≤eN 0 l):=fun {l} h1 h2 c=>by
  rcases c with c|c
  ·subst c;exact⟨D,fun h=>by simp at h⟩
  have:=zkq l h1 h2 c;exact⟨this.2,fun _=>this.1⟩
 have j:=d a1 a2 i;have k:=d b1 b2 b3;have n:0<a.length:=vk.2 a1;have o:0<b.length:=vk.2 b1;rcases SC a.length b.length with h|h|h
 ·have:=k.2 Z;have m:10 ^ a.length≤10 ^ (b.length-1):=SB D Z;exact⟨fun _=>.inl h,fun _=>Z⟩
 ·rw[val_lt a b 0 0 h a2 b2];simp[h]
 have:=j.2 Z;have m:10 ^ b.length≤10 ^ (a.length-1):=SB D Z;exact⟨fun _=>Z,fun hh=>Z⟩
def Part(l:List UInt8):Prop:=l=[]∨fk l=true∨lL l=true
def kB(l:List UInt8):Int:=if l=[] then 1 else if fk l=true then 0 else 2
def jc(l:List UInt8):Int:=if fk l=true then 0 else (eN 0 l:Nat)
def mM(l:List UInt8):List UInt8:=if fk l=true then l else []
def B1(x y:Int):Int:=if x<y then -1 else if x > y then 1 else 0
def N8(x y:List UInt8):Int:=if x<y then -1 else if y<x then 1 else 0
def D0(a b:List UInt8):Int:=if B1 (kB a) (kB b)≠0 then B1 (kB a) (kB b) else if B1 (jc a) (jc b)≠0 then B1 (jc a) (jc b) else N8 (mM a) (mM b)
def In(l:List UInt8):Bool:=l.all oq&&!l.isEmpty
def eX(a b:List UInt8):Bool :=
 if a=b then false else if a=[] then In b else if b=[] then fk a else if fk a≠fk b then fk a else if In a&&decide (a.length≠b.length) then decide (a.length<b.length) else decide (a<b)
theorem NH{l:List UInt8}(h:fk l=true):In l=false∧lL l=false:=by
 match l with
 |[]=> exact⟨rfl,rfl⟩
 |c::r=>
  unfold fk at h;simp only[wK,fI]at h;have b:=(Fl c).1 h.2.1;have O:oq c=false:=by unfold oq;rw[decide_eq_true Z,decide_eq_false Z];rfl
  unfold In lL;simp[O]
theorem uj{l:List UInt8}(h:lL l=true):In l=true∧fk l=false∧l≠[]:=by
 have a:fk l=false:=by
  cases e:fk l
  ·rfl
  rw[(NH e).2]at h;cases h
 unfold lL at h;simp only[fI]at h;refine⟨by unfold In;rw[h.1.1.2,h.1.1.1];rfl,a,fun e=>by subst e;simp at h⟩
theorem Jj{l:List UInt8}(h:fk l=true):l≠[]:=fun e=>by subst e;simp[fk]at h
theorem zn7(x:Int):B1 x x=0:=by unfold B1;rw[if_neg (by omega),if_neg (by omega)]
theorem cmpW_self(x:List UInt8):N8 x x=0:=by unfold N8;rw[if_neg (List.lt_irrefl _),if_neg (List.lt_irrefl _)]
theorem dec_ne{a b:List UInt8}(h:a≠b)(h1:¬a<b):b<a:=by
 rcases List.le_total a b with d|d
 ·by_cases c:b<a
  ·exact c
  exact absurd (List.le_antisymm d (JZ.1 h1)) h
 by_cases c:b<a
 ·exact c
 exact absurd (List.le_antisymm (JZ.1 c) (JZ.1 h1)) h
theorem yb0:kB []=1:=rfl
theorem Bd{l:List UInt8}(h:fk l=true):kB l=0:=by unfold kB;rw[if_neg (Jj h),if_pos h]
theorem xq{l:List UInt8}(h:lL l=true):kB l=2:=by unfold kB;rw[if_neg (uj h).2.2,if_neg (by rw[(uj h).2.1];simp)]
theorem JO{a b:List UInt8}{x y:Int}(c:kB a=x)(d:kB b=y)(h:B1 x y≠0):D0 a b=B1 x y:=by unfold D0;rw[c,d,if_pos h]
theorem zym{a b:List UInt8}(d:Part a)(c:Part b):D0 a b=if eX a b=true then -1 else if eX b a=true then 1 else 0:=by
 by_cases g:a=b
 ·subst g;unfold D0 eX;rw[zn7,zn7,cmpW_self];simp
 have l:¬b=a:=fun e=>g e.symm;rcases d with d|d|d
 ·subst d;rcases c with c|c|c
  ·subst c;exact absurd rfl g
  ·have s:=Jj c;have O:=(NH c).1;have f:eX [] b=false:=by unfold eX;rw[if_neg g,if_pos rfl];exact O
   have e2:eX b []=true:=by unfold eX;rw[if_neg l,if_neg s,if_pos rfl];exact c
   rw[f,e2,JO yb0 (Bd c) D];rfl
  obtain⟨h1,h2,m⟩:=uj c;have f:eX [] b=true:=by unfold eX;rw[if_neg g,if_pos rfl];exact h1
  rw[f,JO yb0 (xq c) D];rfl
 ·have n:=Jj d;rcases c with c|c|c
  ·subst c;have f:eX a []=true:=by unfold eX;rw[if_neg g,if_neg n,if_pos rfl];exact d
   rw[f,JO (Bd d) yb0 D];rfl
  ·have k:=Jj c;have t:=(NH d).1;have u:=(NH c).1;have f:eX a b=decide (a<b):=by unfold eX;rw[if_neg g,if_neg n,if_neg k,if_neg (by rw[d,c];simp),t];rfl
   have e2:eX b a=decide (b<a):=by unfold eX;rw[if_neg l,if_neg k,if_neg n,if_neg (by rw[d,c];simp),u];rfl
   rw[f,e2];unfold D0 kB jc mM N8;simp only[E n,E k,M d,M c,zn7,vw,not_true_eq_false,Pq,fE]
  obtain⟨h1,h2,m⟩:=uj c;have f:eX a b=true:=by unfold eX;rw[if_neg g,if_neg n,if_neg m,if_pos (by rw[d,h2];simp)];exact d
  rw[f,JO (Bd d) (xq c) D];rfl
 obtain⟨g1,j,o⟩:=uj d;rcases c with c|c|c
 ·subst c;have f:eX a []=false:=by unfold eX;rw[if_neg g,if_neg o,if_pos rfl];exact j
  have e2:eX [] a=true:=by unfold eX;rw[if_neg l,if_pos rfl];exact g1
  rw[f,e2,JO (xq d) yb0 D];rfl
 ·have k:=Jj c;have f:eX a b=false:=by unfold eX;rw[if_neg g,if_neg o,if_neg k,if_pos (by rw[j,c];simp)];exact j
  have e2:eX b a=true:=by unfold eX;rw[if_neg l,if_neg k,if_neg o,if_pos (by rw[j,c];simp)];exact c
  rw[f,e2,JO (xq d) (Bd c) D];rfl
 obtain⟨h1,h2,m⟩:=uj c;have p:=dig_lt d c;have q:=dig_lt c d
 have f:eX a b=true↔eN 0 a<eN 0 b:=by
  unfold eX;rw[E g,E o,E m,E (by rw[j,h2];simp),g1,p];by_cases i:a.length=b.length
  ·simp[i]
  simp[i]
 have e2:eX b a=true↔eN 0 b<eN 0 a:=by
  unfold eX;rw[E l,E m,E o,E (by rw[j,h2];simp),h1,q];by_cases i:b.length=a.length
  ·simp[i]
  simp[i]
 have v:eN 0 a≠eN 0 b:=fun e=>by
  have n1:¬(a.length<b.length∨(a.length=b.length∧a<b)):=fun h=>by have:=p.2 h;omega
  have n2:¬(b.length<a.length∨(b.length=a.length∧b<a)):=fun h=>by have:=q.2 h;omega
  have i:a.length=b.length:=Z;exact n2 (.inr ⟨i.symm,dec_ne g fun h=>n1 (.inr ⟨i,h⟩)⟩)
 have w:jc a=(eN 0 a:Int):=by unfold jc;rw[if_neg (by rw[j];simp)]
 have x:jc b=(eN 0 b:Int):=by unfold jc;rw[if_neg DD]
 have r:∀z,B1 (eN 0 a:Int) (eN 0 b:Int)=z→z≠0→D0 a b=z:=fun z y h0=>by unfold D0;rw[xq d,xq c,zn7,E ae,w,x,y,M h0]
 rcases Nat.lt_or_gt_of_ne v with h|h
 ·rw[M (f.2 h)];exact r (-1) (by unfold B1;rw[if_pos Z]) D
 rw[E (fun A=>by have:=f.1 A;omega),M (e2.2 h)];exact r 1 (by unfold B1;rw[if_neg Z,if_pos Z]) D
def po(c:UInt8):List UInt8→List UInt8→List (List UInt8)
 |acc,[]=> [acc]
 |acc,x::r=>if x=c then acc::po c [] r else po c (acc++[x]) r
def ge(c:UInt8)(l:List UInt8):List (List UInt8):=po c [] l
theorem AU{c x:UInt8}(acc r:List UInt8)(h:x≠c):po c acc (x::r)=po c (acc++[x]) r:=by rw[po,E h]
theorem C4(c:UInt8)(acc r:List UInt8):po c acc (c::r)=acc::po c [] r:=by rw[po,M rfl]
theorem zwx(c:UInt8):∀(r acc:List UInt8),indexByte r c= -1→po c acc r=[acc++r]
 |[],acc,_=>SM
 |x::r,acc,h=>by
  unfold indexByte at h;split at h
  ·cases h
  rename_i hx
  have a:x≠c:=fun e=>hx (by rw[e];simp)
  have b:indexByte r c= -1:=by
   split at h
   ·rename_i e;exact beq_iff_eq.1 e
   have:=J0 r c;omega
  rw[AU _ _ a,zwx c r _ b,gq];rfl
theorem ycb(c:UInt8):∀(r acc:List UInt8)(i:Nat),indexByte r c=i→po c acc r=(acc++r.take i)::ge c (r.drop (i+1))
 |[],acc,i,h=>by unfold indexByte at h;omega
 |x::r,acc,i,h=>by
  unfold indexByte at h;split at h
  ·rename_i hx
   have a:x=c:=Q_;have hi:i=0:=Z;subst hi;subst a;rw[C4];simp[ge]
  rename_i hx
  have a:x≠c:=fun e=>hx (by rw[e];simp);split at h
  ·omega
  rename_i hm
  obtain⟨j,rfl⟩:∃j,i=j+1:=⟨i-1,by have:=J0 r c;have h0:indexByte r c≠-1:=fun e=>hm MJ;omega⟩;have b:indexByte r c=j:=Z;rw[AU _ _ a,ycb c r _ j b,gq];rfl
theorem zp5(c:UInt8):∀(r acc:List UInt8),1≤(po c acc r).length∧(po c acc r).length≤r.length+1
 |[],acc=>⟨aE _,aE _⟩
 |x::r,acc=>by
  by_cases h:x=c
  ·subst h;have:=zp5 x r [];rw[C4];simp only[fO];omega
  have:=zp5 c r (acc++[x]);rw[AU _ _ h];simp only[fO];omega
theorem Jq(c:UInt8)(l:List UInt8):1≤(ge c l).length∧(ge c l).length≤l.length+1:=zp5 c l []
theorem znj(c:UInt8):∀(r acc p:List UInt8),p∈po c acc r→p.length≤acc.length+r.length
 |[],acc,p,h=>by rw[show po c acc []=[acc] from rfl,gd]at h;subst h;omega
 |x::r,acc,p,h=>by
  by_cases a:x=c
  ·subst a;rw[C4]at h;rcases iC.1 h with rfl|h
   ·simp
   have:=znj x r [] p h;simp only[fO,tO]at this⊢;omega
  rw[AU _ _ a]at h;have:=znj c r _ p h;simp only[bM,fO,tO]at this⊢;omega
theorem zqv(c:UInt8):∀(a acc b:List UInt8),po c acc (a++c::b)=po c acc a++ge c b
 |[],acc,b=>by rw[ig,C4];rfl
 |x::r,acc,b=>by
  rw[ru];by_cases d:x=c
  ·subst d;rw[C4,C4,zqv x r [] b];rfl
  rw[AU _ _ d,AU _ _ d,zqv c r _ b]
theorem zww(c:UInt8)(a b:List UInt8):ge c (a++c::b)=ge c a++ge c b:=zqv c a [] b
def glue(c:UInt8):List (List UInt8)→List UInt8
 |[]=> []
 |[p]=> p
 |p::q::r=>p++c::glue c (q::r)
theorem Jy(c:UInt8):∀(r acc:List UInt8),glue c (po c acc r)=acc++r
 |[],acc=>SM
 |x::r,acc=>by
  by_cases a:x=c
  ·subst a;rw[C4];have h:=Jy x r [];have b:=(zp5 x r []).1
   match hm:po x [] r,b with
   |q::t,_=>rw[hm]at h;rw[glue,h];rfl
  rw[AU _ _ a,Jy c r,gq];rfl
theorem cutL_inj{c:UInt8}{a b:List UInt8}(h:ge c a=ge c b):a=b:=by
 have h1:=Jy c a [];have d:=Jy c b [];rw[show po c [] a=ge c a from rfl,h]at h1;rw[show po c [] b=ge c b from rfl]at d;rw[h1]at d;simpa using d
theorem zqu(c:UInt8)(r acc:List UInt8)(h:∀x∈r,x≠c):po c acc r=[acc++r]:=by
 induction r generalizing acc with
 |nil=>rw[h_];rfl
 |cons x r a=>rw[AU _ _ (h x ae),a _ fun y hy=>h y vy,gq];rfl
def eu(l:List UInt8):Bool:=fk l || lL l
theorem part_ne{l:List UInt8}(h:eu l=true):l≠[]:=by
 unfold eu at h;rcases n_ _ _ ▸ h with h|h
 ·exact Jj h
 exact (uj h).2.2
theorem part_of{l:List UInt8}(h:eu l=true):Part l:=by
 unfold eu at h;rcases n_ _ _ ▸ h with h|h
 ·exact .inr (.inl h)
 exact .inr (.inr h)
def gs(l:List UInt8):Bool:=decide (l≠[])&&decide (l.length≤40)&&(ge 46 l).all eu&&decide ((ge 46 l).length≤8)
theorem qB(l:List UInt8):gs l=true↔l≠[]∧l.length≤40∧(∀p∈ge 46 l,eu p=true)∧(ge 46 l).length≤8:=by
 unfold gs;simp[and_assoc]
def nG(x y:List (List UInt8)):Nat→Nat→Int
 |_,0=>0
 |i,n+1=>if D0 (x.getD i []) (y.getD i [])≠0 then D0 (x.getD i []) (y.getD i []) else nG x y (i+1) n
def me(a b:List UInt8):Int :=
 if gs a=false∧gs b=false then 0 else if gs a=false then -1 else if gs b=false then 1 else nG (ge 46 a) (ge 46 b) 0 (max (ge 46 a).length (ge 46 b).length)
structure Row{α:Type}(c:α→α→Int):Prop where
 tri:∀x y,c x y= -1∨c x y=0∨c x y=1
 neg:∀x y,c y x= -c x y
 trans:∀x y z,c x y≤0→c y z≤0→c x z≤0
theorem Row.lt1{α:Type}{c:α→α→Int}(h:Row c){x y z:α}(h1:c x y<0)(d:c y z≤0):c x z<0:=by
 by_cases e:c x z<0
 ·exact e
 have a:=h.neg x z;have b:=h.neg x y;have:=h.trans y z x d Z;omega
theorem Row.lt2{α:Type}{c:α→α→Int}(h:Row c){x y z:α}(h1:c x y≤0)(_:c y z<0):c x z<0:=by
 by_cases d:c x z<0
 ·exact d
 have a:=h.neg x z;have b:=h.neg y z;have:=h.trans z x y Z h1;omega
theorem Row.eq{α:Type}{c:α→α→Int}(h:Row c){x y z:α}(h1:c x y=0)(_:c y z=0):c x z=0:=by
 have a:=h.trans x y z Z Z;have b:=h.trans z y x (by rw[h.neg];omega) (by rw[h.neg];omega);have d:=h.neg x z;omega
def v8{α:Type}(c d:α→α→Int)(x y:α):Int:=if c x y≠0 then c x y else d x y
theorem Row.v8{α:Type}{c d:α→α→Int}(e:Row c)(O:Row d):Row (v8 c d):=by
 refine⟨fun x y=>?_,fun x y=>?_,fun x y z h1 h2=>?_⟩
 ·unfold av.v8;split
  ·exact e.tri x y
  exact O.tri x y
 ·unfold av.v8;have:=e.neg x y;by_cases h:c x y=0
  ·rw[E Z,E Z];exact O.neg x y
  rw[M Z,M Z];exact this
 unfold av.v8 at h1 h2⊢;by_cases a:c x y=0
 ·rw[E Z]at h1;by_cases b:c y z=0
  ·rw[E Z]at h2;rw[E (by rw[e.eq a b];omega)];exact O.trans x y z h1 h2
  rw[M b]at h2;have:=e.lt2 (x:=x) (by omega:c x y≤0) (by omega:c y z<0);rw[M Z];omega
 rw[M a]at h1
 have f:c y z≤0:=by
  by_cases b:c y z=0
  ·omega
  rw[M b]at h2;exact h2
 have:=e.lt1 (z:=z) (by omega:c x y<0) f;rw[M Z];omega
theorem Row.map{α β:Type}{c:α→α→Int}(h:Row c)(f:β→α):Row fun x y=>c (f x) (f y) :=
 ⟨fun x y=>h.tri _ _,fun x y=>h.neg _ _,fun x y z=>h.trans _ _ _⟩
theorem row_int:Row B1:=by
 refine⟨fun x y=>?_,fun x y=>?_,fun x y z=>?_⟩<;>unfold B1
 ·split
  ·exact .inl rfl
  split
  ·exact .inr (.inr rfl)
  exact .inr (.inl rfl)
 ·by_cases h1:x<y
  ·have b:¬y<x:=Z;simp[h1,b]
  by_cases a:y<x
  ·simp[h1,a]
  simp[h1,a]
 have le:∀x y:Int,(if x<y then (-1:Int) else if x > y then 1 else 0)≤0↔x≤y:=fun x y=>by
  by_cases h1:x<y
  ·rw[M h1];exact⟨fun _=>Z,fun _=>Z⟩
  rw[E h1];by_cases a:x > y
  ·rw[M a];exact⟨fun h=>Z,fun h=>Z⟩
  rw[E a];exact⟨fun _=>Z,fun _=>Z⟩
 rw[le,le,le];omega
theorem FV{x:List (List UInt8)}(h:i<x.length):x.getD i []=x[i]:=by rw[List.getD,bR h];rfl
theorem FW{x:List (List UInt8)}(h:x.length≤i):x.getD i []=[]:=by rw[List.getD,J4 h];rfl
theorem row_words:Row N8:=by
 have b:∀x y:List UInt8,x<y→¬y<x:=fun x y h1 a=>List.lt_irrefl x (List.lt_trans h1 a)
 have le:∀x y,N8 x y≤0↔x≤y:=fun x y=>by
  unfold N8;by_cases h1:x<y
  ·rw[M h1];exact⟨fun _=>JZ.1 (b _ _ h1),fun _=>Z⟩
  rw[E h1];by_cases a:y<x
  ·rw[M a];exact⟨fun h=>Z,fun h=>absurd a (JZ.2 h)⟩
  rw[E a];exact⟨fun _=>JZ.1 a,fun _=>Z⟩
 refine⟨fun x y=>?_,fun x y=>?_,fun x y z h1 a=>?_⟩
 ·unfold N8;split
  ·exact .inl rfl
  split
  ·exact .inr (.inr rfl)
  exact .inr (.inl rfl)
 ·unfold N8;by_cases h1:x<y
  ·rw[E (b _ _ h1),M h1,M h1];rfl
  by_cases a:y<x
  ·rw[M a,E h1,M a]
  rw[E a,E h1,E h1,E a];rfl
 rw[le]at h1 a⊢;exact List.le_trans h1 a
theorem zyl:D0=v8 (fun a b=>B1 (kB a) (kB b)) (v8 (fun a b=>B1 (jc a) (jc b)) (fun a b=>N8 (mM a) (mM b))):=by
 funext a b
 rfl
theorem row_parts:Row D0:=by
 rw[zyl];exact (row_int.map kB).v8 ((row_int.map jc).v8 (row_words.map mM))
theorem yay:∀(n i:Nat),Row fun x y=>nG x y i n
 |0,i=>⟨fun _ _=>.inr (.inl rfl),fun _ _=>rfl,fun _ _ _ _ _=>Gb _⟩
 |n+1,i=>(row_parts.map fun x:List (List UInt8)=>x.getD i []).v8 (yay n (i+1))
theorem zql(x y:List (List UInt8)):∀(n k i:Nat),x.length≤i+n→y.length≤i+n→nG x y i (n+k)=nG x y i n
 |0,0,_,_,_=>rfl
 |0,k+1,i,a,b=>by
  have e:nG x y i (k+1)=if D0 (x.getD i []) (y.getD i [])≠0 then D0 (x.getD i []) (y.getD i []) else nG x y (i+1) k:=rfl
  rw[og,e,FW Z,FW Z,E D];have:=zql x y 0 k (i+1) Z Z;rw[og]at this;exact this
 |n+1,k,i,a,b=>by rw[show n+1+k=(n+k)+1 from Z,nG,nG,zql x y n k (i+1) Z Z]
theorem from_any{x y:List (List UInt8)}(_:x.length≤N)(_:y.length≤N):nG x y 0 (max x.length y.length)=nG x y 0 N:=by
 have:=zql x y (max x.length y.length) (N-max x.length y.length) 0 Z Z;rw[show max x.length y.length+(N-max x.length y.length)=N from Z]at this;exact this.symm
theorem JJ(a b:List UInt8):me a b=if gs a=false∧gs b=false then 0 else if gs a=false then -1 else if gs b=false then 1 else nG (ge 46 a) (ge 46 b) 0 8:=by
 unfold me;cases ha:gs a
 ·simp
 cases hb:gs b
 ·simp
 have h1:=((qB a).1 ha).2.2.2;have c:=((qB b).1 hb).2.2.2;simp only[XY,TB,Pq];exact from_any h1 c
theorem CF:Row me:=by
 have R:=yay 8 0;refine⟨fun x y=>?_,fun x y=>?_,fun x y z=>?_⟩
 ·rw[JJ];split
  ·exact .inr (.inl rfl)
  split
  ·exact .inl rfl
  split
  ·exact .inr (.inr rfl)
  exact R.tri _ _
 ·rw[JJ,JJ];cases gs x<;>cases gs y<;>simp
  exact R.neg _ _
 rw[JJ,JJ,JJ];cases gs x<;>cases gs y<;>cases gs z<;>simp
 exact R.trans _ _ _
theorem pcmp_zero{a b:List UInt8}(d:Part a)(c:Part b)(h:D0 a b=0):a=b:=by
 rw[zym d c]at h;by_cases l:a=b
 ·exact l
 exfalso
 by_cases h1:eX a b=true
 ·rw[M h1]at h;cases h
 rw[E h1]at h;by_cases m:eX b a=true
 ·rw[M m]at h;cases h
 have f:=zym d c;rw[E h1,E m]at f;unfold D0 at f;by_cases g:B1 (kB a) (kB b)=0
 ·rw[E Z]at f;by_cases e2:B1 (jc a) (jc b)=0
  ·rw[E Z]at f;have r:kB a=kB b:=by unfold B1 at g;split at g;omega;split at g<;>omega
   have n:jc a=jc b:=by unfold B1 at e2;split at e2;omega;split at e2<;>omega
   have w:mM a=mM b:=by
    by_cases e:mM a=mM b
    ·exact e
    unfold N8 at f;by_cases k:mM a<mM b
    ·rw[M k]at f;omega
    rw[E k,M (dec_ne e k)]at f;omega
   apply l
   rcases d with rfl|d|d
   ·rcases c with rfl|c|c
    ·rfl
    ·rw[Bd c]at r;exact absurd r D
    rw[xq c]at r;exact absurd r D
   ·rcases c with rfl|c|c
    ·rw[Bd d]at r;exact absurd r D
    ·unfold mM at w;rwa [if_pos d,if_pos c]at w
    rw[Bd d,xq c]at r;omega
   rcases c with rfl|c|c
   ·rw[xq d]at r;exact absurd r D
   ·rw[xq d,Bd c]at r;omega
   have o:jc a=(eN 0 a:Nat):=by unfold jc;rw[if_neg (by rw[(uj d).2.1];simp)]
   have p:jc b=(eN 0 b:Nat):=by unfold jc;rw[if_neg (by rw[(uj c).2.1];simp)]
   have v:eN 0 a=eN 0 b:=Z;have i:=d;have j:=c;unfold lL at i j;simp only[fI]at i j;have g:=zzu a (uj d).2.2 i.1.1.2 i.2;have e2:=zzu b (uj c).2.2 j.1.1.2 j.2;rw[←g,←e2,v]
  rw[M e2]at f;omega
 rw[M g]at f;omega
theorem zmp{x:List (List UInt8)}(h:∀p∈x,eu p=true)(i:Nat):Part (x.getD i []):=by
 by_cases hi:i<x.length
 ·rw[FV hi];exact part_of (h _ (eZ hi))
 rw[FW Z];exact .inl rfl
theorem zwf{x y:List (List UInt8)}(a:∀p∈x,eu p=true)(b:∀p∈y,eu p=true):∀(n i:Nat),nG x y i n=0→∀j,i≤j→j<i+n→x.getD j []=y.getD j []
 |0,i,_,j,h1,c=>Z
 |n+1,i,h,j,h1,c=>by
  unfold nG at h;by_cases h0:D0 (x.getD i []) (y.getD i [])=0
  ·rw[E Z]at h;rcases Nat.eq_or_lt_of_le h1 with rfl|d
   ·exact pcmp_zero (zmp a i) (zmp b i) h0
   exact zwf a b n (i+1) h j d Z
  rw[M h0]at h;exact absurd h h0
theorem lists_eq{x y:List (List UInt8)}(a:∀p∈x,eu p=true)(b:∀p∈y,eu p=true)(h:∀j,j<max x.length y.length→x.getD j []=y.getD j []):x=y:=by
 have c:x.length=y.length:=by
  rcases SC x.length y.length with h1|h1|h1
  ·exfalso
   have:=h x.length Z;rw[FW (aE _),FV h1]at this;exact part_ne (b _ (eZ h1)) this.symm
  ·exact h1
  exfalso
  have:=h y.length Z;rw[FW (x:=y) (aE _),FV h1]at this;exact part_ne (a _ (eZ h1)) this
 refine Ia c fun i h1 d=>?_;have:=h i Z
 rwa [FV h1,FV d]at this
theorem zx4{a b:List UInt8}(h:me a b=0):a=b∨gs a=false∧gs b=false:=by
 unfold me at h;cases ha:gs a
 ·cases hb:gs b
  ·exact .inr ⟨rfl,rfl⟩
  rw[ha,hb]at h;simp at h
 cases hb:gs b
 ·rw[ha,hb]at h;simp at h
 rw[ha,hb]at h;simp only[XY,TB,Pq]at h;have h1:=((qB a).1 ha).2.2.1;have c:=((qB b).1 hb).2.2.1;exact .inl (cutL_inj (lists_eq h1 c fun j d=>zwf h1 c _ 0 h j (bj _) Z))
def y_(x y:List (List UInt8)):Nat→Nat→Bool
 |_,0=>false
 |i,n+1=>if eX (x.getD i []) (y.getD i [])=true then true else if eX (y.getD i []) (x.getD i [])=true then false else y_ x y (i+1) n
def oy(a b:List UInt8):Bool:=if gs a=false∨gs b=false then !gs a&&gs b else y_ (ge 46 a) (ge 46 b) 0 (max (ge 46 a).length (ge 46 b).length)
theorem zw5{x y:List (List UInt8)}(b:∀p∈x,eu p=true)(c:∀p∈y,eu p=true):∀(n i:Nat),y_ x y i n=decide (nG x y i n= -1)
 |0,_=>rfl
 |n+1,i=>by
  unfold y_ nG;rw[zym (zmp b i) (zmp c i)];by_cases h1:eX (x.getD i []) (y.getD i [])=true
  ·rw[M h1,M h1];rfl
  rw[E h1,E h1];by_cases a:eX (y.getD i []) (x.getD i [])=true
  ·rw[M a,M a];rfl
  rw[E a,E a,zw5 b c n (i+1)];rfl
theorem less_is(a b:List UInt8):oy a b=decide (me a b= -1):=by
 unfold oy me;cases ha:gs a
 ·cases hb:gs b<;>simp
 cases hb:gs b
 ·simp
 simp only[XY,Zy,TB,Pq];exact zw5 ((qB a).1 ha).2.2.1 ((qB b).1 hb).2.2.1 _ _
theorem ba_ext{x y:ByteArray}(h:x.data.toList=y.data.toList):x=y:=by
 exact apc
def ex(c:UInt8)(s:ByteArray):List ByteArray:=(ge c s.data.toList).map fun l=>⟨l.toArray⟩
theorem Nq(c:UInt8)(s:ByteArray):(ex c s).map (·.data.toList)=ge c s.data.toList:=by
 unfold ex;rw[wY];have:((fun x:ByteArray=>x.data.toList) ∘ fun l:List UInt8=>(⟨l.toArray⟩:ByteArray))=id:=by funext l;simp
 rw[this,List.map_id]
theorem rG(c:UInt8)(s:ByteArray):(ex c s).length=(ge c s.data.toList).length:=by unfold ex;rw[List.length_map]
theorem cutS_miss{c:UInt8}(h:indexByte s.data.toList c= -1):ex c s=[s]:=by
 unfold ex ge;rw[zwx c _ _ h,ig];simp
theorem cutS_hit{c:UInt8}(h:indexByte s.data.toList c=i):ex c s=s.extract 0 i::ex c (s.extract (i+1) s.size):=by
 have a:(⟨(s.data.toList.take i).toArray⟩:ByteArray)=s.extract 0 i:=ba_ext (by rw[extract_from_zero]);have e2:s.data.toList.drop (i+1)=(s.extract (i+1) s.size).data.toList:=(extract_to_end s (i+1)).symm;unfold ex;rw[show ge c s.data.toList=po c [] s.data.toList from rfl,ycb c _ _ i h,ig,eU,a,e2]
theorem index_lt{l:List UInt8}{c:UInt8}(h:indexByte l c=i):i<l.length:=by
 induction l generalizing i with
 |nil=>unfold indexByte at h;omega
 |cons x r a=>
  unfold indexByte at h;split at h
  ·simp;omega
  split at h
  ·omega
  rename_i hm
  have:=J0 r c;have h0:indexByte r c≠-1:=fun e=>hm MJ;have:=a (i:=i-1) Z;simp;omega
theorem dlen(s:ByteArray):s.data.toList.length=s.size:=by rw[ou];rfl
theorem Nn{c:UInt8}{p:ByteArray}(h:p∈ex c s):p.size≤s.size:=by
 unfold ex at h;obtain⟨l,h1,rfl⟩:=gb.1 h;have:=znj c _ _ _ h1;rw[dlen]at this;have e:(⟨l.toArray⟩:ByteArray).size=l.length:=rfl;rw[e];simp only[tO]at this;omega
def first(l:List UInt8):List UInt8:=(ge 46 l).getD 0 []
abbrev Sp:=List UInt8×List UInt8
def gO(l:List UInt8):Bool:=decide (l=[]) || gs l
def ja(a b:List UInt8):Bool:=decide (a≠[])&&decide (b≠[])&&decide (me a b<0)
def eg(s:Sp):Bool:=gO s.1&&gO s.2&&!ja s.2 s.1
def mO(a b:List UInt8):List UInt8:=if a=[]∨ja a b=true then b else a
def mS(a b:List UInt8):List UInt8:=if a=[]∨ja b a=true then b else a
def FK(a b:Sp):Sp:=(mO a.1 b.1,mS a.2 b.2)
def jS(a b:Sp):Bool:=eg a&&eg b&&eg (FK a b)
def lj(a b:Sp):Sp:=if eg a=true∧eg b=true then (if a.1≠[]∧b.1≠[] then mS a.1 b.1 else [],if a.2≠[]∧b.2≠[] then mO a.2 b.2 else []) else ([],[])
def FH(s:Sp):List UInt8:=if s.1=s.2∧s.1≠[] then s.1 else s.1++58::s.2
def textS(s:Sp):List UInt8:=if eg s=true then FH s else []
def le(a b:List UInt8):Prop:=me a b≤0
theorem le_refl(a:List UInt8):le a a:=by
 have:=CF.neg a a;unfold le;omega
theorem le_trans{a b c:List UInt8}(h1:le a b)(d:le b c):le a c:=CF.trans a b c h1 d
theorem not_le{a b:List UInt8}:¬le a b↔me b a<0:=by
 exact XC
theorem le_total(a b:List UInt8):le a b∨le b a:=by
 exact XC
theorem Jz{a b:List UInt8}:ja a b=false↔a=[]∨b=[]∨le b a:=by
 have h:¬me a b<0↔le b a:=by have:=CF.neg a b;unfold le;omega
 unfold ja;simp only[XZ,pQ,vw,Decidable.not_not,h];exact or_assoc
theorem Nu{a b:List UInt8}:ja a b=true↔a≠[]∧b≠[]∧¬le b a:=by
 unfold ja;simp only[fI,fE,not_le,and_assoc]
theorem Np(a b:List UInt8):ja a b=(decide (a≠[])&&decide (b≠[])&&oy a b):=by
 have c:=CF.tri a b;unfold ja;rw[less_is];congr 1;exact rz.2 ⟨fun h=>Z,fun h=>Z⟩
theorem Ns{l:List UInt8}:gO l=true↔l=[]∨gs l=true:=by unfold gO;simp
theorem nE{s:Sp}:eg s=true↔gO s.1=true∧gO s.2=true∧(s.1=[]∨s.2=[]∨le s.1 s.2):=by
 unfold eg;simp only[fI,Ga,and_assoc,Jz];constructor
 ·exact aju
 exact aju
def lh(lo v:List UInt8):Prop:=lo=[]∨le lo v
def sG(hi v:List UInt8):Prop:=hi=[]∨le v hi
theorem zjh(a b:List UInt8):mO a b=a∨mO a b=b:=by unfold mO;split;exact .inr rfl;exact .inl rfl
theorem zjx(a b:List UInt8):mS a b=a∨mS a b=b:=by unfold mS;split;exact .inr rfl;exact .inl rfl
theorem zp7{x a b:List UInt8}(h:x=a∨x=b)(_:gO a=true)(_:gO b=true):gO x=true:=by rcases h with rfl|rfl<;>assumption
theorem zzh{a b v:List UInt8}:lh (mO a b) v↔lh a v∧lh b v:=by
 unfold mO;by_cases h:a=[]∨ja a b=true
 ·rw[M h];refine⟨fun d=>⟨?_,d⟩,fun h=>h.2⟩;rcases h with h|h
  ·exact .inl h
  obtain⟨h1,c,g⟩:=Nu.1 h;rcases d with d|d
  ·exact absurd d c
  exact .inr (le_trans ((le_total a b).resolve_right g) d)
 rw[E h];refine⟨fun f=>⟨f,?_⟩,fun h=>h.1⟩;have h1:a≠[]:=fun e=>h (.inl e);have c:ja a b=false:=qw.2 fun e=>h (.inr e);rcases Jz.1 c with c|c|c
 ·exact absurd c h1
 ·exact .inl c
 rcases f with f|f
 ·exact absurd f h1
 exact .inr (le_trans c f)
theorem zuu{a b v:List UInt8}:sG (mS a b) v↔sG a v∧sG b v:=by
 unfold mS;by_cases h:a=[]∨ja b a=true
 ·rw[M h];refine⟨fun d=>⟨?_,d⟩,fun h=>h.2⟩;rcases h with h|h
  ·exact .inl h
  obtain⟨h1,c,g⟩:=Nu.1 h;rcases d with d|d
  ·exact absurd d h1
  exact .inr (le_trans d ((le_total b a).resolve_right g))
 rw[E h];refine⟨fun f=>⟨f,?_⟩,fun h=>h.1⟩;have h1:a≠[]:=fun e=>h (.inl e);have c:ja b a=false:=qw.2 fun e=>h (.inr e);rcases Jz.1 c with c|c|c
 ·exact .inl c
 ·exact absurd c h1
 rcases f with f|f
 ·exact absurd f h1
 exact .inr (le_trans f c)
theorem zzc{a b:Sp}(c:eg a=true)(d:eg b=true):gO (FK a b).1=true∧gO (FK a b).2=true :=
 ⟨zp7 (zjh _ _) (nE.1 c).1 (nE.1 d).1,zp7 (zjx _ _) (nE.1 c).2.1 (nE.1 d).2.1⟩
def refMayS(s:Sp):Bool:=gO s.1&&gO s.2&&(decide (s.1=[]) || decide (s.2=[]) || !oy s.2 s.1)
theorem refMay_is(s:Sp):refMayS s=eg s:=by
 unfold refMayS eg;rw[Np];by_cases h1:s.1=[]<;>by_cases a:s.2=[]<;>simp[h1,a]
def yb9(a b:Sp):Sp:=(if b.1≠[]∧(a.1=[]∨oy a.1 b.1=true) then b.1 else a.1,if b.2≠[]∧(a.2=[]∨oy b.2 a.2=true) then b.2 else a.2)
theorem ydg(a b:Sp):yb9 a b=FK a b:=by
 unfold yb9 FK mO mS;rw[Np,Np];refine zA ?_ ?_
 ·by_cases h1:b.1=[]<;>by_cases c:a.1=[]<;>simp[h1,c]
 by_cases h1:b.2=[]<;>by_cases c:a.2=[]<;>simp[h1,c]
theorem zzk{a b:Sp}(c:eg a=true)(d:eg b=true):gO (lj a b).1=true∧gO (lj a b).2=true:=by
 unfold lj;rw[M ⟨c,d⟩];refine⟨?_,?_⟩
 ·show gO (if a.1≠[]∧b.1≠[] then mS a.1 b.1 else [])=true
  split
  ·exact zp7 (zjx _ _) (nE.1 c).1 (nE.1 d).1
  rfl
 show gO (if a.2≠[]∧b.2≠[] then mO a.2 b.2 else [])=true
 split
 ·exact zp7 (zjh _ _) (nE.1 c).2.1 (nE.1 d).2.1
 rfl
theorem zmk{a b:List UInt8}(ha:a≠[])(d:b≠[]):le (mS a b) a∧le (mS a b) b∧mS a b≠[]:=by
 unfold mS;by_cases h:ja b a=true
 ·rw[M (.inr h)];obtain⟨_,_,f⟩:=Nu.1 h;exact⟨(le_total b a).resolve_right f,le_refl b,d⟩
 rw[E arz];rcases Jz.1 (qw.2 h) with c|c|c
 ·exact absurd c d
 ·exact absurd c ha
 exact⟨le_refl a,c,ha⟩
theorem NJ{a b:List UInt8}(ha:a≠[])(d:b≠[]):le a (mO a b)∧le b (mO a b)∧mO a b≠[]:=by
 unfold mO;by_cases h:ja a b=true
 ·rw[M (.inr h)];obtain⟨_,_,f⟩:=Nu.1 h;exact⟨(le_total a b).resolve_right f,le_refl b,d⟩
 rw[E arz];rcases Jz.1 (qw.2 h) with c|c|c
 ·exact absurd c ha
 ·exact absurd c d
 exact⟨le_refl a,c,ha⟩
theorem join_lo{a b:Sp}(c:eg a=true)(d:eg b=true):(lj a b).1=[]∨(a.1≠[]∧b.1≠[]∧(lj a b).1=mS a.1 b.1):=by
 unfold lj;rw[M ⟨c,d⟩];by_cases h:a.1≠[]∧b.1≠[]
 ·exact .inr ⟨h.1,h.2,M h⟩
 exact .inl (E h)
theorem join_hi{a b:Sp}(c:eg a=true)(d:eg b=true):(lj a b).2=[]∨(a.2≠[]∧b.2≠[]∧(lj a b).2=mO a.2 b.2):=by
 unfold lj;rw[M ⟨c,d⟩];by_cases h:a.2≠[]∧b.2≠[]
 ·exact .inr ⟨h.1,h.2,M h⟩
 exact .inl (E h)
theorem ybq{a b:Sp}(c:eg a=true)(d:eg b=true):eg (lj a b)=true:=by
 have e:=zzk c d;refine nE.2 ⟨e.1,e.2,?_⟩;rcases join_lo c d with h|⟨h1,f,g⟩
 ·exact .inl h
 rcases join_hi c d with h|⟨g1,i,j⟩
 ·exact .inr (.inl h)
 refine .inr (.inr ?_);rw[g,j];have k:=(nE.1 c).2.2.resolve_left h1 |>.resolve_left g1;exact le_trans (zmk h1 f).1 (le_trans k (NJ g1 i).1)
theorem zu7(c:UInt8):∀(a:List (List UInt8)) (x:UInt8),x∈glue c a→x=c∨∃p∈a,x∈p
 |[],x,h=>by unfold glue at h;simp at h
 |[p],x,h=>by unfold glue at h;exact .inr ⟨p,ae,h⟩
 |p::q::r,x,h=>by
  unfold glue at h;rcases ff.1 h with h|h
  ·exact .inr ⟨p,ae,h⟩
  rcases iC.1 h with h|h
  ·exact .inl h
  rcases zu7 c (q::r) x h with h|⟨d,b,e⟩
  ·exact .inl h
  exact .inr ⟨d,by simp at b⊢;exact .inr b,e⟩
theorem ydm(h:eu p=true):(58:UInt8) ∉ p:=by
 intro a;unfold eu at h;rcases n_ _ _ ▸ h with h|h
 ·unfold fk at h;simp only[fI,qy]at h;have:=(Fl _).1 (h.2 58 a);simp at this
 unfold lL at h;simp only[fI,qy]at h;have:=(ug _).1 (h.1.1.2 58 a);simp at this
theorem may_colon{l:List UInt8}(h:gs l=true):(58:UInt8) ∉ l:=by
 intro a;have b:=Jy 46 l [];rw[ig]at b;rw[←b]at a;rcases zu7 _ _ _ a with e|⟨p,c,a⟩
 ·exact absurd e D
 exact ydm (((qB l).1 h).2.2.1 p c) a
theorem zzz{l:List UInt8}(h:gO l=true):(58:UInt8) ∉ l:=by
 rcases Ns.1 h with h|h
 ·rw[h];simp
 exact may_colon h
theorem zil(c:UInt8):∀l:List UInt8,c ∉ l→indexByte l c= -1
 |[],_=>rfl
 |x::r,h=>by have a:x≠c:=fun e=>h (by simp[e]);have b:=zil c r (fun e=>h (by simp[e]));unfold indexByte;simp[a,b]
theorem zo1(c:UInt8):∀a b:List UInt8,c ∉ a→indexByte (a++c::b) c=a.length
 |[],_,_=>by show indexByte (c::_) c=_;unfold indexByte;simp
 |x::r,b,h=>by
  have d:x≠c:=fun e=>h (by simp[e]);have f:=zo1 c r b (fun e=>h (by simp[e]));show indexByte (x::(r++c::b)) c=_;unfold indexByte;rw[f];simp[d]
theorem UV{l:List UInt8}(h:(58:UInt8) ∉ l):cut l [58]=(l,[],false):=by
 unfold cut;rw[index_one,zil _ _ h,E Z]
theorem cut_at{a b:List UInt8}(h:(58:UInt8) ∉ a):cut (a++58::b) [58]=(a,b,true):=by
 unfold cut;rw[index_one,zo1 _ _ _ h,M Z];simp
theorem zm4(l:List UInt8):(58:UInt8) ∉ l∨∃a b,l=a++58::b∧(58:UInt8) ∉ a:=by
 by_cases h:(58:UInt8)∈l
 ·exact .inr (List.eq_append_cons_of_mem h)
 exact .inl h
def spO(l:List UInt8):Sp:=if (cut l [58]).2.2=true then ((cut l [58]).1,(cut l [58]).2.1) else ((cut l [58]).1,(cut l [58]).1)
def n0(l:List UInt8):Bool:=eg (spO l)&&decide (textS (spO l)=l)
def Bc(l:List UInt8):Sp:=if (ge 58 l).length=1 then (l,l) else ((ge 58 l).getD 0 [],(ge 58 l).getD 1 [])
def JB(l:List UInt8):Bool:=if (ge 58 l).length=1 then gs l else eg (Bc l)&&decide (FH (Bc l)=l)
theorem zvn{l:List UInt8}(h:(58:UInt8) ∉ l):spO l=(l,l):=by unfold spO;rw[UV h];rfl
theorem zyf{a b:List UInt8}(h:(58:UInt8) ∉ a):spO (a++58::b)=(a,b):=by unfold spO;rw[cut_at h];rfl
theorem Nr{l:List UInt8}(h:(58:UInt8) ∉ l):ge 58 l=[l]:=zqu 58 l [] (fun x a e=>h (e ▸ a))
theorem zzv{a b:List UInt8}(h:(58:UInt8) ∉ a):ge 58 (a++58::b)=a::ge 58 b:=by rw[zww,Nr h];rfl
theorem one_may(l:List UInt8):eg (l,l)=gO l:=by
 unfold eg;rw[Jz.2 (.inr (.inr (le_refl l)))];simp
theorem zsz{s:Sp}(h:eg s=true):textS s=FH s:=M h
theorem refOk_is(l:List UInt8)(e:(ge 58 l).length≤2):JB l=n0 l∧Bc l=spO l:=by
 rcases zm4 l with h|⟨a,b,rfl,h⟩
 ·have c:(ge 58 l).length=1:=by rw[Nr h];rfl
  have e2:Bc l=(l,l):=by unfold Bc;rw[if_pos c]
  refine⟨?_,by rw[e2,zvn h]⟩;unfold JB n0;rw[M c,zvn h,one_may];by_cases f:l=[]
  ·subst f;decide
  have d:gO l=gs l:=by unfold gO;rw[decide_eq_false f];rfl
  rw[d]
  cases hm:gs l with
  |false=>rfl
  |true=>
   have:eg (l,l)=true:=by rw[one_may,d,hm]
   rw[zsz this];unfold FH;rw[M ⟨rfl,f⟩];simp
 have h2:=zzv (b:=b) h;rw[h2]at e;have d:(58:UInt8) ∉ b:=by intro g;obtain⟨a',b',rfl,h'⟩:=List.eq_append_cons_of_mem g;rw[zzv h']at e;have:=(Jq 58 b').1;simp at e;have:=vk.1 (jq Nat.zero_lt_one this);contradiction
 rw[Nr d]at h2;have c:(ge 58 (a++58::b)).length≠1:=DD;have e2:Bc (a++58::b)=(a,b):=by unfold Bc;rw[if_neg c,h2];rfl
 refine⟨?_,by rw[e2,zyf h]⟩;unfold JB n0;rw[E c,e2,zyf h]
 cases hm:eg (a,b) with
 |false=>rfl
 |true=>rw[zsz hm]
theorem read_many{l:List UInt8}(c:2<(ge 58 l).length):n0 l=false:=by
 rcases zm4 l with h|⟨a,b,rfl,h⟩
 ·rw[Nr h]at c;simp at c
 rw[zzv h]at c;have d:(58:UInt8)∈b:=by refine Decidable.byContradiction fun e=>?_;rw[Nr e]at c;simp at c
 unfold n0;rw[zyf h]
 cases hm:eg (a,b) with
 |false=>rfl
 |true=>exact absurd d (zzz (nE.1 hm).2.1)
end av
section
open RowKit Lib av
theorem letOk_all{l:List UInt8}(h:fk l=true):∀x∈l,wR x=true:=by unfold fk at h;rw[Bool.and_eq_true]at h;exact List.all_eq_true.1 h.2
theorem digs_all{l:List UInt8}(h:In l=true):∀x∈l,oq x=true:=by unfold In at h;rw[Bool.and_eq_true]at h;exact List.all_eq_true.1 h.1
theorem zic(s:ByteArray)(_:s.size≤9223372036854775807)(w:World):Calls prog 160 #[.string s] w fun e w'=>e=.returned (.bool (fk s.data.toList))∧w=w':=by
 obtain⟨l,hl⟩:=Y s.data.toList;have f:l.length=s.size:=Of;obtain⟨r,hr⟩:=Y (fk l);rw[←hl,←hr];obtain⟨Hl,iH,Hr⟩:=aQ hl f hr;clear hl f hr;go_enter func160,ntmps160;go_wp2_with fail;go_loop [3] (fun i=>∃k:Nat,k≤s.size∧i=.int .i64 k∧(l.take k).all wR=true) (fun i=>s.size-(RowKit.intOf i).toNat)
 case atStart=>exact⟨0,bj _,rfl,ae⟩
 case round=>
  obtain⟨k,_,rfl,eC⟩:=hrel;by_cases m:k<s.size
  ·refine Gs ?_;intro aI n hn sC;refine akw ?_;intro fj e fF;have aj:¬(97≤n∧n≤122)→r=false:=fun h=>by rw[Hr.o,qw];intro h2;have:=(letOk_all h2) l[k] (eZ aI);rw[Fl,e,fj]at this;exact h this
   clear hn e aI;rcases rB n 97 with h1|h1
   ·have hf:=aj Z;have g:decide ((n:Int)<97)=true:=aO Z;exact Gp
   have g:decide ((n:Int)<97)=false:=be Z;rcases rB 122 n with h2|h2
   ·have hf:=aj Z;have j:decide (122<(n:Int))=true:=aO Z;exact Gp
   have j:decide (122<(n:Int))=false:=be Z;exact VZ
  obtain rfl:k=s.size:=Z;have xK:l.all wR=true:=F3;have hf:(!s.toList.isEmpty)=r:=by rw[Hr.o,em.ii];have h0:=iH.o;unfold fk;exact amf
  exact alv
theorem zm2(s:ByteArray)(_:s.size≤9223372036854775807)(w:World):Calls prog 136 #[.string s] w fun e w'=>e=.returned (.bool (In s.data.toList))∧w=w':=by
 obtain⟨l,hl⟩:=Y s.data.toList;have f:l.length=s.size:=Of;obtain⟨r,hr⟩:=Y (In l);rw[←hl,←hr];obtain⟨Hl,iH,Hr⟩:=aQ hl f hr;clear hl f hr;go_enter func136,ntmps136;go_wp2_with fail;go_loop [3] (fun i=>∃k:Nat,k≤s.size∧i=.int .i64 k∧(l.take k).all oq=true) (fun i=>s.size-(RowKit.intOf i).toNat)
 case atStart=>exact⟨0,bj _,rfl,ae⟩
 case round=>
  obtain⟨k,_,rfl,eC⟩:=hrel;by_cases p:k<s.size
  ·refine Gs ?_;intro aI n hn sC;have g:s[k].toNat=n:=hn.symm;have e:l[k]=s[k]:=Fs;have fF:48≤n→n≤57→(l.take (k+1)).all oq=true:=fun h1 h2=>by rw[pP aI,CX,eC];simp only[wK,Fz,BK,x8];rw[ug,e,g];exact⟨h1,h2⟩
   have aj:¬(48≤n∧n≤57)→r=false:=fun h=>by rw[Hr.o,qw];intro h2;have:=(digs_all h2) l[k] (eZ aI);rw[ug,e,g]at this;exact h this
   clear hn e aI;rcases rB n 48 with h1|h1
   ·have hf:=aj Z;have j:decide ((n:Int)<48)=true:=aO Z;exact Gp
   have j:decide ((n:Int)<48)=false:=be Z;rcases rB 57 n with h2|h2
   ·have hf:=aj Z;have m:decide (57<(n:Int))=true:=aO Z;exact Gp
   have m:decide (57<(n:Int))=false:=be Z;exact VZ
  obtain rfl:k=s.size:=Z;have xK:l.all oq=true:=F3;have hf:(!s.toList.isEmpty)=r:=by rw[Hr.o,em.ii];have h0:=iH.o;unfold In;exact amf
  exact alv
theorem lead_is{l:List UInt8}(a:l≠[]):lead l=(decide (l=[48]) || decide (l[0]'(vk.2 a)≠48)):=by
 match l,a with
 |x::r,_=>unfold lead;simp
theorem ydk(l:List UInt8):eu l=(fk l || (In l&&(decide (l.length≤9)&&lead l))):=by
 unfold eu lL In;cases l.isEmpty<;>cases l.all oq<;>cases decide (l.length≤9)<;>rfl
theorem part1_any(s:ByteArray)(R:s.size≤9223372036854775807)(w:World):Calls prog 141 #[.string s] w fun e w'=>e=.returned (.bool (eu s.data.toList))∧w=w':=by
 have t:=fun W=>zic s R W;have u:=fun W=>zm2 s R W;have m:=ydk s.data.toList;have p:=em.len s;have v:=fun h=>lead_is (l:=s.data.toList) h;obtain⟨r,hr⟩:=Y (eu s.data.toList);obtain⟨x,hx⟩:=Y (fk s.data.toList);obtain⟨y,hy⟩:=Y (In s.data.toList);rw[←hr]at m⊢;rw[←hx]at t m;rw[←hy]at u m
 cases x with
 |true=>
  have h0:r=true:=by rw[m];rfl
  obtain⟨HL,HD,z,A,B,C,F,K,H0⟩:=K7 t u m p v hr hx hy h0;clear t u m p v hr hx hy h0;go_enter func141,adk;go_wp2_with fail;refine (HL.o _).mono ?_;refine mT ?_;go_wp2_with fail;go_ret;exact KQ
 |false=>
  cases y with
  |false=>
   have h0:r=false:=by rw[m];rfl
   obtain⟨HL,HD,z,A,B,C,F,K,H0⟩:=K7 t u m p v hr hx hy h0;clear t u m p v hr hx hy h0;refine Rm ?_;exact KQ
  |true=>
   have S:s.data.toList≠[]:=fun e=>by rw[e]at hy;cases hy
   have h1:0<s.size:=by rw[←p];exact vk.2 S
   have q:r=(decide (s.size≤9)&&(decide (s.data.toList=[48]) || decide (s[0]≠48))):=by rw[m,v S,show decide (s.size≤9)=decide (s.data.toList.length≤9) by rw[p]];rfl
   obtain⟨n,hn⟩:=Y (s[0].toNat);have ad:n<256:=Yh;have aa:s[0].toNat=n:=hn.symm
   have L:decide (s[0]≠48)=decide (n≠48):=by
    by_cases h:s[0]=48
    ·rw[be w_,be];rw[hn,h];decide
    rw[aO h,aO];intro e;exact h (NZ.1 (by rw[aa,e];rfl))
   have N:(s.toList==[48])=decide (s.data.toList=[48]):=by
    rw[toList_data];by_cases h:s.data.toList=[48]
    ·rw[h];rfl
    rw[be h];exact JY.2 h
   rw[L]at q;by_cases T:s.size≤9
   ·have ab:decide ((s.size:Int)≤9)=true:=aO Z;obtain⟨b,U⟩:=Y (decide (s.data.toList=[48]));rw[←U]at N q;rw[aO T]at q;clear hn L U
    cases b with
    |true=>
     have h0:r=true:=by rw[q];rfl
     obtain⟨HL,HD,z,A,B,C,F,K,H0,X⟩:=GD t u m p v hr hx hy h0 q;clear t u m p v hr hx hy h0 q;refine Rm ?_;exact KQ
    |false=>
     have h0:((n:Int) !=48)=r:=by
      rw[q];by_cases h:n=48
      ·subst h;rfl
      rw[aO h];simp;omega
     obtain⟨HL,HD,z,A,B,C,F,K,H0,X⟩:=GD t u m p v hr hx hy h0 q;clear t u m p v hr hx hy h0 q;refine Rm ?_;exact⟨mu H0.o,rfl⟩
   have ab:decide ((s.size:Int)≤9)=false:=be Z;have h0:r=false:=by rw[q,be T];rfl
   clear hn L;obtain⟨HL,HD,z,A,B,C,F,K,H0,X,_⟩:=O2 t u m p v hr hx hy h0 q N;clear t u m p v hr hx hy h0 q N;refine Rm ?_;exact KQ
def NW(l:List UInt8)(r m:Int)(x:ByteArray):Prop:=r=kB l∧m=jc l∧x.data.toList=mM l
theorem QD{c:Func}{p u:Tmp}(d:c.results=#[.cell p 199,.tmp u]){R:Ending→World→Prop}{a:Act}{x b:Value}(e:a.tmps.getD p undef=.pointer (some ⟨g,0,none⟩))(f:a.tmps.getD u undef=b)
  (i:w.heap[g]?=some (.cells #[x,y,z] 199 (0,0))) (O:a.defers=[]) (j:R (.returned (.tuple #[.agg #[x,y,z],b])) w):bodyPost prog c R .ret a w:=by
 refine fZ (v:=.tuple #[.agg #[x,y,z],b]) ?_ O j;rw[results_cell_tmp d,e,f];simp only[asAddr,Q9,Result.andThen,It w g 199 199 _ _ _ i underlying199 rfl aA]
theorem QC{a b:Bool}(h:a=b):Ending.returned (.tuple #[v,.bool a])=.returned (.tuple #[v,.bool b]):=by rw[h]
theorem y9{t:TypeId}{x:Value}(h:w.heap[g]?=some (.cells #[x,y,z] t (0,0))):w.cell? ⟨g,0,none⟩=some x∧w.cell? ⟨g,1,none⟩=some y∧w.cell? ⟨g,2,none⟩=some z∧w.frozen? ⟨g,0,none⟩=false∧w.frozen? ⟨g,1,none⟩=false∧w.frozen? ⟨g,2,none⟩=false:=by
 have a:=J h 0;have b:=J h 1;have b2:=J h 2;simp only[aq,ar,aw]at a b b2;exact⟨a,b,b2,aG h 0,aG h 1,aG h 2⟩
theorem Qz{t:TypeId}{x:Value}(u v q:Value)(h:w.heap[g]?=some (.cells #[x,y,z] t (0,0))):(((w.setCell ⟨g,0,none⟩ u).setCell ⟨g,1,none⟩ v).setCell ⟨g,2,none⟩ q).heap[g]?=some (.cells #[u,v,q] t (0,0)):=by
 have a:=ag _ g 0 _ _ u h;have b:=ag _ g 1 _ _ v a;have c:=ag _ g 2 _ _ q b;exact c
theorem QA{a:World}(u v q:Value)(h:Below B a w)(b:B≤g):Below B a (((w.setCell ⟨g,0,none⟩ u).setCell ⟨g,1,none⟩ v).setCell ⟨g,2,none⟩ q) :=
 ((h.setCell (p:=⟨g,0,none⟩) b _).setCell (p:=⟨g,1,none⟩) b _).setCell (p:=⟨g,2,none⟩) b _
def ybb(l:List UInt8)(w:World)(e:Ending)(w':World):Prop :=
 (∃r m x,e=.returned (.tuple #[.agg #[.int .i64 r,.int .i64 m,.string x],.bool (eu l)])∧(eu l=true→NW l r m x))∧Below w.heap.size w w'
theorem read_part{l:List UInt8}(h:∀v,atoiAll l≠.ok v):eu l=fk l:=by
 have h1:=read_is l;unfold NR at h1;unfold eu;rw[←h1]
 cases ha:atoiAll l with
 |ok v=>exact absurd ha (h v)
 |range=>unfold fk;rw[Bool.and_comm]
 |_=>unfold fk;rw[Bool.and_comm]
theorem yba{l:List UInt8}{v:Int}(h:atoiAll l=.ok v):eu l=(decide (0≤v)&&decide (v≤999999999)&&decide (itoa v=l)):=by
 have h1:=read_is l;unfold NR at h1;rw[h]at h1;unfold eu;rw[←h1]
theorem num_part{l:List UInt8}{v:Int}(h:atoiAll l=.ok v)(b:eu l=true):NW l 2 v ⟨#[]⟩:=by
 have O:lL l=true:=by
  unfold eu at b;cases hl:fk l
  ·rw[hl]at b;simpa using b
  exfalso
  have h0:=yba h;rw[show eu l=true from b]at h0;have h1:=h0.symm;simp only[fI,fE]at h1;obtain⟨u,rfl⟩:∃u:Nat,v=u:=⟨v.toNat,Z⟩;have d:=h1.2;rw[zu1]at d;have c:=dec_dig u;rw[d]at c;have:=(NH hl).1;unfold In at this;rw[c.1]at this;have f:=c.2.1
  cases l with
  |nil=>exact f rfl
  |cons _ _=>simp at this
 have e:=ycl O;rw[h]at e;injection e with e;refine⟨(xq O).symm,?_,?_⟩
 ·rw[e];unfold jc;rw[if_neg (by rw[(uj O).2.1];simp)]
 unfold mM;rw[if_neg (by rw[(uj O).2.1];simp)]
theorem let_part{l:List UInt8}(a:fk l=true){x:ByteArray}(b:x.data.toList=l):NW l 0 0 x :=
 ⟨(Bd a).symm,by unfold jc;rw[if_pos a],by unfold mM;rw[if_pos a,b]⟩
theorem read_any(s:ByteArray)(B:s.size≤1000000)(q:dN w):Calls prog 143 #[.string s] w (ybb s.data.toList w):=by
 obtain⟨l,hl⟩:=Y s.data.toList;refine agm ?_;intro ai fB;have T:=atoi_any s Z (q.below ai);have ad:l.length=s.size:=Of;rw[←hl]at T⊢;revert hl ai fB T ad;refine bU ?_;intro Hl aB kl HA iH;go_enter func143,ntmps143;go_wp2_with fail;refine HA.o.mono ?_;rintro e w2 ⟨⟨v,hv,rfl⟩|⟨hv,v,N,rfl⟩,af⟩
 ·have m:=yba hv;have p:=G af kl.o;have t:=aB.o.trans (af.mono aB.o.size);have C:=atoiAll_bounds hv;obtain⟨F,c1,c2,f0,f1,f2⟩:=y9 p;have K:=num_part hv;by_cases h0:0≤v
  ·by_cases u:v≤999999999
   ·have A:decide (0≤v)=true:=aO h0;have L:decide (v≤999999999)=true:=aO u;have ag:=itoa_any v Z Z (q.below t)
    have z:(itoa v==s.toList)=eu l:=by
     rw[m,aO h0,aO u,toList_data,←Hl.o];simp only[Bool.and_self,x8];by_cases h:itoa v=l
     ·rw[h];simp
     rw[be h];exact JY.2 h
    revert B q hv m p t C K h0 u ag z;refine nL ?_;intro U R S y bY Hb W QE X ah ak kU;clear F c1 c2 f0 f1 f2 af;go_wp2_with fail;refine ak.o.mono ?_;rintro e w3 ⟨rfl,aM⟩;have aa:=G aM bY.o;obtain⟨F,c1,c2,f0,f1,f2⟩:=y9 aa;have al:=Hb.o.trans (aM.mono Hb.o.size);revert aM aa al;refine fo ?_;intro bK Cr eI;go_wp2_with fail;refine QD rfl rfl rfl (Qz _ _ _ Cr.o) rfl ?_;exact⟨⟨_,_,_,QC kU.o,QE.o⟩,QA _ _ _ eI.o (aE _)⟩
   have A:decide (0≤v)=true:=aO h0;have L:decide (v≤999999999)=false:=be u;have z:eu l=false:=by rw[m,be u];simp
   revert B q hv m p t C K h0 u z;refine kH ?_;intro U R S y bY Hb W QE X ah kU;exact ajk
  have A:decide (0≤v)=false:=be h0;have z:eu l=false:=by rw[m,be h0];simp
  revert B q hv m p t C K h0 z;refine dE ?_;intro U R S y bY Hb W QE X kU;exact ajk
 have m:=read_part hv;have p:=G af kl.o;have t:=aB.o.trans (af.mono aB.o.size);obtain⟨F,c1,c2,f0,f1,f2⟩:=y9 p;obtain⟨sz,a_⟩:=Y s.size;revert q hv m p t;refine bU ?_;intro R S y bY Hb;clear af;go_wp2_with fail;go_loop [6,30] (fun _ i=>∃k:Nat,k≤s.size∧i=.int .i64 k∧(l.take k).all wR=true) (fun _ i=>s.size-(RowKit.intOf i).toNat)
 case atStart=>exact⟨0,bj _,rfl,ae⟩
 case round=>
  obtain⟨k,_,rfl,eC⟩:=hrel;by_cases ao:k<s.size
  ·refine Gs ?_;intro aI n hn sC;refine akw ?_;intro fj e fF;have aj:¬(97≤n∧n≤122)→eu l=false:=fun h=>by rw[y.o,qw];intro h2;unfold fk at h2;rw[fI]at h2;have:=qy.1 h2.2 l[k] (eZ aI);rw[Fl,e,fj]at this;exact h this
   clear hn e aI;rcases rB n 97 with h1|h1
   ·have hf:=aj Z;have A:decide ((n:Int)<97)=true:=aO Z;exact agf
   have A:decide ((n:Int)<97)=false:=be Z;rcases rB 122 n with h2|h2
   ·have hf:=aj Z;have L:decide (122<(n:Int))=true:=aO Z;exact agf
   have L:decide (122<(n:Int))=false:=be Z;exact VZ
  obtain rfl:k=s.size:=Z;have ab:l.all wR=true:=F3
  have hf:eu l= !s.toList.isEmpty:=by
   rw[y.o];unfold fk;rw[ab,BK,em.ii];have:=iH.o
   cases l with
   |nil=>simp at this;rw[aO Z];rfl
   |cons x r=>simp at this;rw[be Z];rfl
  have an:eu l=true→NW l 0 0 s:=fun h=>let_part (by rw[←y.o];exact h) Hl.o.symm;revert eC ab hf an;refine bV ?_;intro jd TP Hf rq;go_wp2_with fail;refine QD rfl rfl rfl (Qz _ _ _ bY.o) rfl ?_;exact⟨⟨_,_,_,QC Hf.o.symm,rq.o⟩,QA _ _ _ Hb.o (aE _)⟩
end
namespace m8
variable {α:Type}
structure ww(lt:α→α→Bool):Prop where
 asymm:∀a b,lt a b=true→lt b a=false
 ntrans:∀a b c,lt b a=false→lt c b=false→lt c a=false
inductive Sw (lt:α→α→Bool) (l:List α):List α→Prop
 |refl:Sw lt l l
 |step (p:List α) (x y:α) (q:List α):Sw lt l (p++x::y::q)→lt y x=true→Sw lt l (p++y::x::q)
def gg(lt:α→α→Bool)(l:List α):Prop:=l.Pairwise fun a b=>lt b a=false
variable {lt:α→α→Bool}
theorem Sw.trans{a b c:List α}(h:Sw lt a b)(k:Sw lt b c):Sw lt a c:=by
 induction k with
 |refl=>exact h
 |step p x y q _ d e=>exact .step p x y q e d
theorem Sw.perm{a b:List α}(h:Sw lt a b):a.Perm b:=by
 induction h with
 |refl=>exact List.Perm.refl _
 |step p x y q _ _ c=>exact c.trans (SE _ (List.Perm.swap _ _ _))
theorem Sw.ctx{a b:List α}(h:Sw lt a b)(u v:List α):Sw lt (u++a++v) (u++b++v):=by
 induction h with
 |refl=>exact .refl
 |step p x y q _ d c=>have h1:u++(p++x::y::q)++v=(u++p)++x::y::(q++v):=ae;have e:u++(p++y::x::q)++v=(u++p)++y::x::(q++v):=ae;rw[h1]at c;rw[e];exact .step _ x y _ c d
theorem Sw.app{a b c d:List α}(h:Sw lt a b)(k:Sw lt c d):Sw lt (a++c) (b++d):=by
 have h1:=h.ctx [] c;have e:=k.ctx b [];simp only[ig,h_]at h1 e;exact h1.trans e
theorem Sw.over(x:α):∀(b:List α),(∀y∈b,lt y x=true)→Sw lt (x::b) (b++[x]):=by
 intro b
 induction b with
 |nil=>intro _;exact .refl
 |cons y b c=>intro h;have h1:Sw lt (x::y::b) (y::x::b):=.step [] x y b .refl (h y ae);have a:=(c (fun z hz=>h z (by simp[hz]))).ctx [y] [];simp only[h_]at a;exact h1.trans a
theorem Sw.blocks:∀(a b:List α),(∀x∈a,∀y∈b,lt y x=true)→Sw lt (a++b) (b++a):=by
 intro a
 induction a with
 |nil=>intro b _;rw[h_];exact .refl
 |cons x a d=>intro b h;have h1:=(d b (fun z hz=>h z (by simp[hz]))).ctx [x] [];have c:=(Sw.over x b (h x ae)).ctx [] a;simp only[h_,ig]at h1 c;have e:x::b++a=[x]++(b++a):=rfl;rw[e]at c;refine h1.trans (c.trans ?_);rw[gq];exact .refl
def eqv(lt:α→α→Bool)(a x:α):Bool:=!lt a x&&!lt x a
theorem eqv_of(h:ww lt){a x y:α}(b:eqv lt a x=true)(c:eqv lt a y=true):lt y x=false:=by
 unfold eqv at b c;simp only[fI,Ga]at b c;exact h.ntrans x a y b.1 c.2
theorem Sw.filter(h:ww lt){l m:List α}(k:Sw lt l m)(a:α):l.filter (eqv lt a)=m.filter (eqv lt a):=by
 induction k with
 |refl=>rfl
 |step p x y q _ b c=>
  rw[c];simp only[List.filter_append,N0];cases hx:eqv lt a x<;>cases hy:eqv lt a y<;>simp
  rw[eqv_of h hx hy]at b;cases b
theorem F1(h:ww lt)(a:α):lt a a=false:=by
 cases e:lt a a
 ·rfl
 have:=h.asymm a a e;rw[e]at this;exact this
theorem eqv_self(h:ww lt)(a:α):eqv lt a a=true:=by unfold eqv;rw[F1 h a];rfl
theorem uniq(h:ww lt):∀(a b:List α),a.Perm b→(∀x,a.filter (eqv lt x)=b.filter (eqv lt x))→gg lt a→gg lt b→a=b:=by
 intro a
 induction a with
 |nil=>intro b c _ _ _;exact c.nil_eq
 |cons x a k=>
  intro b c g i j
  match b with
  |[]=> exact absurd c.symm.nil_eq ae
  |y::b=>
   have h1:lt y x=false:=by
    have f:y∈x::a:=c.symm.subset ae;rcases iC.1 f with e|f
    ·rw[e];exact F1 h x
    exact (pR.1 i).1 y f
   have l:lt x y=false:=by
    have d:x∈y::b:=c.subset ae;rcases iC.1 d with e|d
    ·rw[e];exact F1 h y
    exact (pR.1 j).1 x d
   have m:eqv lt x y=true:=by unfold eqv;rw[h1,l];rfl
   have d:=g x;rw[N0,N0,M (eqv_self h x),M m]at d;injection d with jK _;subst jK;congr 1;refine k b (List.Perm.cons_inv c) (fun z=>?_) (pR.1 i).2 (pR.1 j).2;have:=g z;rw[N0,N0]at this;split at this
   ·injection this
   exact this
def ins(lt:α→α→Bool)(x:α):List α→List α
 |[]=> [x]
 |y::l=>if lt x y=true then x::y::l else y::ins lt x l
def cV(lt:α→α→Bool)(l:List α):List α:=l.foldl (fun r x=>ins lt x r) []
theorem mem_ins(x z:α)(l:List α):z∈ins lt x l↔z=x∨z∈l:=by
 induction l with
 |nil=>simp[ins]
 |cons y l a=>
  unfold ins;split
  ·simp
  simp only[iC,a];constructor
  ·exact anr
  exact anr
theorem yel(h:ww lt)(x:α)(l:List α)(c:gg lt l):gg lt (ins lt x l):=by
 induction l with
 |nil=>simp[ins,gg]
 |cons y l d=>
  have b:=pR.1 c;unfold ins;split
  ·rename_i jK
   refine pR.2 ⟨fun z a=>?_,c⟩;rcases iC.1 a with e|a
   ·rw[e];exact h.asymm _ _ jK
   exact h.ntrans x y z (h.asymm _ _ jK) (b.1 z a)
  rename_i jK
  refine pR.2 ⟨fun z a=>?_,d b.2⟩;rcases (mem_ins x z l).1 a with e|a
  ·rw[e];simpa using jK
  exact b.1 z a
theorem ins_sw(h:ww lt)(x:α)(l:List α)(i:gg lt l):Sw lt (l++[x]) (ins lt x l):=by
 induction l with
 |nil=>exact .refl
 |cons y l j=>
  have f:=pR.1 i;unfold ins;split
  ·rename_i jK
   have:∀z∈y::l,lt x z=true:=by
    intro z d;cases e:lt x z
    ·have h1:lt x y=false:=by
      rcases iC.1 d with e2|d
      ·rw[←e2];exact e
      exact h.ntrans y z x (f.1 z d) e
     rw[jK]at h1;cases h1
    rfl
   have c:=Sw.blocks (lt:=lt) (y::l) [x] (fun a k b g=>by simp at g;subst g;exact this a k);exact c
  have c:=(j f.2).ctx [y] [];simp only[h_]at c;exact c
theorem zqm(h:ww lt):∀(l r:List α),gg lt r→gg lt (l.foldl (fun r x=>ins lt x r) r)∧Sw lt (r++l) (l.foldl (fun r x=>ins lt x r) r):=by
 intro l
 induction l with
 |nil=>intro r a;exact⟨a,by rw[h_];exact .refl⟩
 |cons x l c=>intro r a;obtain⟨h1,h2⟩:=c (ins lt x r) (yel h x r a);refine⟨h1,?_⟩;have b:=(ins_sw h x r a).ctx [] l;simp only[ig]at b;have e:r++[x]++l=r++x::l:=ae;rw[e]at b;exact b.trans h2
theorem zl(h:ww lt)(l:List α):gg lt (cV lt l):=(zqm h l [] List.Pairwise.nil).1
theorem AR(h:ww lt)(l:List α):Sw lt l (cV lt l):=by
 have:=(zqm h l [] List.Pairwise.nil).2;rw[ig]at this;exact this
theorem Js(h:ww lt){l a:List α}(b:Sw lt l a)(c:gg lt a):a=cV lt l:=by
 have h1:=AR h l;exact uniq h a (cV lt l) (b.perm.symm.trans h1.perm) (fun x=>(b.filter h x).symm.trans (h1.filter h x)) c (zl h l)
theorem zxu(h:ww lt){l a:List α}(b:Sw lt l a):cV lt a=cV lt l:=Js h (b.trans (AR h a)) (zl h a)
theorem zoj(h:ww lt){l:List α}(a:gg lt l):cV lt l=l:=(Js h .refl a).symm
theorem zq(h:ww lt)(l:List α):(cV lt l).length=l.length:=(AR h l).perm.length_eq.symm
theorem mem_ssort(h:ww lt)(l:List α)(x:α):x∈cV lt l↔x∈l:=(AR h l).perm.symm.mem_iff
theorem zuz(h:ww lt)(a b:List α):cV lt (cV lt a++cV lt b)=cV lt (a++b):=zxu h ((AR h a).app (AR h b))
theorem yd4(l:List α)(x:α):cV lt (l++[x])=ins lt x (cV lt l):=by unfold cV;rw[List.foldl_append];rfl
theorem ssort_cut(h:ww lt)(c d e f:List α)(j:∀x∈d,∀y∈e,lt y x=true)(k:∀a∈c,∀b∈d,lt b a=false)(l:∀a∈e,∀b∈f,lt b a=false)(m:∀a∈c,∀b∈f,lt b a=false):
  cV lt (c++d++(e++f))=cV lt (c++e)++cV lt (d++f):=by
 symm
 apply Js h
 ·have h1:=(Sw.blocks d e j).ctx c f;have n:c++(d++e)++f=c++d++(e++f):=ae;have e2:c++(e++d)++f=(c++e)++(d++f):=ae;rw[n,e2]at h1;exact h1.trans ((AR h _).app (AR h _))
 refine sT.2 ⟨zl h _,zl h _,fun a g b i=>?_⟩;rw[mem_ssort h]at g i;rcases ff.1 g with g|g<;>rcases ff.1 i with i|i
 ·exact k a g b i
 ·exact m a g b i
 ·exact h.asymm _ _ (j b i a g)
 exact l a g b i
end m8
namespace av
open Lib m8
abbrev Pt:=Option (Bool×List UInt8)
def covS(s:Sp):Pt→Prop
 |none=>s.1=[]
 |some (false,p)=>lh s.1 p∧sG s.2 p
 |some (true,p)=>lh s.1 p∧(s.2=[]∨¬le s.2 p)
def Do(l:List Sp)(x:Pt):Prop:=∃s∈l,covS s x
def bef(a b:Sp):Prop:=a.2≠[]∧b.1≠[]∧¬le b.1 a.2
def Sep(l:List Sp):Prop:=(∀s∈l,eg s=true)∧l.Pairwise bef
theorem le_anti{a b:List UInt8}(c:gs a=true)(h1:le a b)(d:le b a):a=b:=by
 have f:=CF.neg a b;have e:me a b=0:=by unfold le at h1 d;omega
 rcases zx4 e with h|⟨h,_⟩
 ·exact h
 rw[c]at h;cases h
theorem zqc{a b:List UInt8}(h:¬le a b):le b a:=(le_total a b).resolve_left h
theorem may_lo{s:Sp}(h:eg s=true)(h1:s.1≠[]):gs s.1=true:=(Ns.1 (nE.1 h).1).resolve_left h1
theorem may_hi{s:Sp}(h:eg s=true)(h1:s.2≠[]):gs s.2=true:=(Ns.1 (nE.1 h).2.1).resolve_left h1
theorem bef_apart{a b:Sp}(h:bef a b)(x:Pt)(d:covS a x)(c:covS b x):False:=by
 obtain⟨h1,e,f⟩:=h
 match x,d,c with
 |none,_,c=>exact e c
 |some (false,p),d,c=>
  rcases d.2 with h|h
  ·exact h1 h
  rcases c.1 with k|k
  ·exact e k
  exact f (le_trans k h)
 |some (true,p),d,c=>
  rcases d.2 with h|h
  ·exact h1 h
  rcases c.1 with k|k
  ·exact e k
  exact f (le_trans k (zqc h))
theorem yce{s:Sp}(h:eg s=true):∃x,covS s x:=by
 by_cases h1:s.1=[]
 ·exact⟨none,h1⟩
 refine⟨some (false,s.1),.inr (le_refl _),?_⟩;rcases (nE.1 h).2.2 with k|k|k
 ·exact absurd k h1
 ·exact .inl k
 exact .inr k
theorem cov_lo{g:Sp}{gR:List Sp}(h:Sep (g::gR))(c:Do (g::gR) (some (false,p))):lh g.1 p:=by
 obtain⟨s,a,b⟩:=c;rcases iC.1 a with rfl|a
 ·exact b.1
 obtain⟨d,b2,b3⟩:=(pR.1 h.2).1 s a;rcases (nE.1 (h.1 g ae)).2.2 with k|k|k
 ·exact .inl k
 ·exact absurd k d
 rcases b.1 with m|m
 ·exact absurd m b2
 exact .inr (le_trans (le_trans k (zqc b3)) m)
theorem cov_bot{g:Sp}{gR:List Sp}(h:Sep (g::gR))(c:Do (g::gR) none):g.1=[]:=by
 obtain⟨s,a,b⟩:=c;rcases iC.1 a with rfl|a
 ·exact b
 exact absurd b ((pR.1 h.2).1 s a).2.1
theorem lo_half{f g:Sp}{F gR:List Sp}(b:Sep (f::F))(a:Sep (g::gR))(h:∀x,Do (f::F) x→Do (g::gR) x):(f.1=[]→g.1=[])∧(f.1≠[]→lh g.1 f.1):=by
 constructor
 ·intro e;exact cov_bot a (h none ⟨f,ae,e⟩)
 intro e;refine cov_lo a (h _ ⟨f,ae,.inr (le_refl _),?_⟩);rcases (nE.1 (b.1 f ae)).2.2 with k|k|k
 ·exact absurd k e
 ·exact .inl k
 exact .inr k
theorem lo_eq{f g:Sp}{F gR:List Sp}(a:Sep (f::F))(b:Sep (g::gR))(h:∀x,Do (f::F) x↔Do (g::gR) x):f.1=g.1:=by
 obtain⟨a1,a2⟩:=lo_half a b fun x=>(h x).1;obtain⟨b1,b2⟩:=lo_half b a fun x=>(h x).2;by_cases e:f.1=[]
 ·rw[e,a1 e]
 have e2:g.1≠[]:=fun k=>e (b1 k);rcases a2 e with k|k
 ·exact absurd k e2
 rcases b2 e2 with m|m
 ·exact absurd m e
 exact le_anti (may_lo (a.1 f ae) e) m k
theorem zzo{f g:Sp}{F gR:List Sp}(c:Sep (g::gR))(e:f.1=g.1)(h:∀x,Do (f::F) x→Do (g::gR) x)(d:g.2≠[]):f.2≠[]∧le f.2 g.2:=by
 by_cases a:f.2=[]∨¬le f.2 g.2
 ·exfalso
  have j:lh f.1 g.2:=by
   rw[e];rcases (nE.1 (c.1 g ae)).2.2 with k|k|k
   ·exact .inl k
   ·exact absurd k d
   exact .inr k
  obtain⟨s,b,i⟩:=h (some (true,g.2)) ⟨f,ae,j,a⟩;rcases iC.1 b with rfl|b
  ·rcases i.2 with k|k
   ·exact d k
   exact k (le_refl _)
  obtain⟨_,b2,b3⟩:=(pR.1 c.2).1 s b;rcases i.1 with k|k
  ·exact b2 k
  exact b3 k
 exact⟨fun k=>a (.inl k),N9.1 fun k=>a (.inr k)⟩
theorem hi_eq{f g:Sp}{F gR:List Sp}(a:Sep (f::F))(b:Sep (g::gR))(e:f.1=g.1)(h:∀x,Do (f::F) x↔Do (g::gR) x):f.2=g.2:=by
 by_cases e2:g.2=[]
 ·rw[e2];refine N9.1 fun k=>?_;exact (zzo a e.symm (fun x=>(h x).2) k).1 e2
 obtain⟨a1,a2⟩:=zzo b e (fun x=>(h x).1) e2;obtain⟨_,b2⟩:=zzo a e.symm (fun x=>(h x).2) a1;exact le_anti (may_hi (a.1 f ae) a1) a2 b2
theorem ycd{f:Sp}{F:List Sp}(h:Sep (f::F))(x:Pt):Do F x↔Do (f::F) x∧¬covS f x:=by
 constructor
 ·rintro⟨s,a,b⟩;exact⟨⟨s,by simp[a],b⟩,fun k=>bef_apart ((pR.1 h.2).1 s a) x k b⟩
 rintro⟨⟨s,a,b⟩,c⟩;rcases iC.1 a with rfl|a
 ·exact absurd b c
 exact⟨s,a,b⟩
theorem Sep.tail{f:Sp}{F:List Sp}(h:Sep (f::F)):Sep F:=⟨fun s a=>h.1 s (by simp[a]),(pR.1 h.2).2⟩
theorem sep_one:∀(F gR:List Sp),Sep F→Sep gR→(∀x,Do F x↔Do gR x)→F=gR
 |[],[],_,_,_=>rfl
 |[],g::gR,_,a,h=>by obtain⟨x,c⟩:=yce (a.1 g ae);obtain⟨s,hs,_⟩:=(h x).2 ⟨g,ae,c⟩;simp at hs
 |f::F,[],b,_,h=>by obtain⟨x,c⟩:=yce (b.1 f ae);obtain⟨s,hs,_⟩:=(h x).1 ⟨f,ae,c⟩;simp at hs
 |f::F,g::gR,b,a,h=>by have d:=lo_eq b a h;have e2:=hi_eq b a d h;obtain rfl:f=g:=zA d e2;rw[sep_one F gR b.tail a.tail fun x=>by rw[ycd b,ycd a,h x]]
def okb(lo hi:List UInt8):Prop:=lo=[]∨hi=[]∨le lo hi
theorem okb_bef{a b:Sp}:okb b.1 a.2↔¬bef a b:=by
 unfold okb bef;constructor
 ·rintro (h|h|h) ⟨h1,c,d⟩
  ·exact c h
  ·exact h1 h
  exact d h
 intro h;by_cases c:b.1=[]
 ·exact .inl c
 by_cases h1:a.2=[]
 ·exact .inr (.inl h1)
 exact .inr (.inr (N9.1 fun k=>h ⟨h1,c,k⟩))
theorem zl5{lo h k:List UInt8}:okb lo (mS h k)↔okb lo h∧okb lo k:=by
 by_cases e:lo=[]
 ·unfold okb;simp[e]
 have a:∀x,okb lo x↔sG x lo:=fun x=>⟨fun h=>h.resolve_left e,fun h=>.inr h⟩;rw[a,a,a];exact zuu
theorem zvw{x y hi:List UInt8}:okb (mO x y) hi↔okb x hi∧okb y hi:=by
 by_cases e:hi=[]
 ·unfold okb;simp[e]
 have a:∀x,okb x hi↔lh x hi:=fun x=>⟨fun h=>h.elim .inl fun h=>.inr (h.resolve_left e),fun h=>h.elim .inl fun h=>.inr (.inr h)⟩;rw[a,a,a];exact zzh
theorem zze{s:Sp}(h:eg s=true):okb s.1 s.2:=(nE.1 h).2.2
theorem zos{a b:Sp}(c:eg a=true)(d:eg b=true):jS a b=true↔¬bef a b∧¬bef b a:=by
 unfold jS;rw[c,d,x8,x8,nE];obtain⟨h1,e⟩:=zzc c d;rw[←okb_bef,←okb_bef];constructor
 ·rintro⟨_,_,h⟩;have h:okb (mO a.1 b.1) (mS a.2 b.2):=h;rw[zvw,zl5,zl5]at h;exact⟨h.2.1,h.1.2⟩
 rintro⟨f,g⟩;refine⟨h1,e,?_⟩;show okb (mO a.1 b.1) (mS a.2 b.2);rw[zvw,zl5,zl5];exact⟨⟨zze c,g⟩,f,zze d⟩
theorem sooner_or{a b:List UInt8}(c:a≠[])(d:b≠[])(p:List UInt8):le (mS a b) p↔le a p∨le b p:=by
 obtain⟨h1,f,_⟩:=zmk c d;constructor
 ·intro h;rcases zjx a b with e|e
  ·rw[e]at h;exact .inl h
  rw[e]at h;exact .inr h
 rintro (h|h)
 ·exact le_trans h1 h
 exact le_trans f h
theorem later_or{a b:List UInt8}(c:a≠[])(d:b≠[])(p:List UInt8):le p (mO a b)↔le p a∨le p b:=by
 obtain⟨h1,f,_⟩:=NJ c d;constructor
 ·exact amt
 rintro (h|h)
 ·exact le_trans h h1
 exact le_trans h f
theorem later_nle{a b:List UInt8}(c:a≠[])(d:b≠[])(p:List UInt8):¬le (mO a b) p↔¬le a p∨¬le b p:=by
 obtain⟨h1,f,_⟩:=NJ c d;constructor
 ·exact amt
 rintro (h|h) k
 ·exact h (le_trans h1 k)
 exact h (le_trans f k)
theorem Nl{a b:Sp}(c:eg a=true)(d:eg b=true):lj a b=(if a.1≠[]∧b.1≠[] then mS a.1 b.1 else [],if a.2≠[]∧b.2≠[] then mO a.2 b.2 else []):=by
 unfold lj;rw[if_pos ⟨c,d⟩]
theorem zsa{a b:Sp}(d:eg a=true)(f:eg b=true)(p:List UInt8):lh (lj a b).1 p↔lh a.1 p∨lh b.1 p:=by
 rw[Nl d f];by_cases h:a.1≠[]∧b.1≠[]
 ·have e:=sooner_or h.1 h.2 p;have n:=(zmk h.1 h.2).2.2;simp only[M h];unfold lh;simp only[h.1,h.2,n,TC,e]
 simp only[E h];refine⟨fun _=>?_,fun _=>.inl rfl⟩;by_cases h1:a.1=[]
 ·exact .inl (.inl h1)
 by_cases c:b.1=[]
 ·exact .inr (.inl c)
 exact absurd ⟨h1,c⟩ h
theorem join_nil{a b:Sp}(d:eg a=true)(e:eg b=true):(lj a b).1=[]↔a.1=[]∨b.1=[]:=by
 rw[Nl d e];by_cases h:a.1≠[]∧b.1≠[]
 ·have n:=(zmk h.1 h.2).2.2;simp only[M h,n,h.1,h.2,Zy]
 simp only[E h,true_iff];by_cases h1:a.1=[]
 ·exact .inl h1
 by_cases c:b.1=[]
 ·exact .inr c
 exact absurd ⟨h1,c⟩ h
theorem yeh{a b:Sp}(c:eg a=true)(d:eg b=true)(p:List UInt8):sG (lj a b).2 p↔sG a.2 p∨sG b.2 p:=by
 rw[Nl c d];by_cases h:a.2≠[]∧b.2≠[]
 ·have e:=later_or h.1 h.2 p;have n:=(NJ h.1 h.2).2.2;simp only[M h];unfold sG;simp only[h.1,h.2,n,TC,e]
 simp only[E h];refine⟨fun _=>?_,fun _=>.inl rfl⟩;exact aki
theorem join_gap{a b:Sp}(c:eg a=true)(d:eg b=true)(p:List UInt8):((lj a b).2=[]∨¬le (lj a b).2 p)↔(a.2=[]∨¬le a.2 p)∨(b.2=[]∨¬le b.2 p):=by
 rw[Nl c d];by_cases h:a.2≠[]∧b.2≠[]
 ·have e:=later_nle h.1 h.2 p;have n:=(NJ h.1 h.2).2.2;simp only[M h,h.1,h.2,n,TC,e]
 simp only[E h,axb,true_iff];exact aki
theorem cross{a b:Sp}(h:¬bef a b)(_:lh a.1 p)(_:sG b.2 p):sG a.2 p∨lh b.1 p:=by
 by_cases h1:sG a.2 p
 ·exact .inl h1
 by_cases c:lh b.1 p
 ·exact .inr c
 exfalso
 have a1:a.2≠[]:=fun e=>h1 (.inl e);have d:b.1≠[]:=fun e=>c (.inl e);have a2:¬le p a.2:=fun e=>h1 (.inr e);have b2:¬le b.1 p:=fun e=>c (.inr e);exact h ⟨a1,d,fun k=>b2 (le_trans k (zqc a2))⟩
theorem zwy{a b:Sp}(h:¬bef a b)(_:lh a.1 p)(_:b.2=[]∨¬le b.2 p):(a.2=[]∨¬le a.2 p)∨lh b.1 p:=by
 by_cases h1:a.2=[]∨¬le a.2 p
 ·exact .inl h1
 by_cases c:lh b.1 p
 ·exact .inr c
 exfalso
 have a1:a.2≠[]:=fun e=>h1 (.inl e);have d:b.1≠[]:=fun e=>c (.inl e);have a2:le a.2 p:=N9.1 fun e=>h1 (.inr e);have b2:¬le b.1 p:=fun e=>c (.inr e);exact h ⟨a1,d,fun k=>b2 (le_trans k a2)⟩
theorem ybr{a b:Sp}(c:eg a=true)(d:eg b=true)(f:jS a b=true)(x:Pt):covS (lj a b) x↔covS a x∨covS b x:=by
 obtain⟨h1,e⟩:=(zos c d).1 f
 match x with
 |none=>exact join_nil c d
 |some (false,p)=>
  show lh _ p∧sG _ p↔(lh _ p∧sG _ p)∨(lh _ p∧sG _ p)
  rw[zsa c d,yeh c d];constructor
  ·rintro⟨l|l,u|u⟩
   ·exact .inl ⟨l,u⟩
   ·rcases cross h1 l u with k|k
    ·exact .inl ⟨l,k⟩
    exact .inr ⟨k,u⟩
   ·rcases cross e l u with k|k
    ·exact .inr ⟨l,k⟩
    exact .inl ⟨k,u⟩
   exact .inr ⟨l,u⟩
  exact amr
 |some (true,p)=>
  show lh _ p∧(_∨_)↔(lh _ p∧(_∨_))∨(lh _ p∧(_∨_))
  rw[zsa c d,join_gap c d];constructor
  ·rintro⟨l|l,u|u⟩
   ·exact .inl ⟨l,u⟩
   ·rcases zwy h1 l u with k|k
    ·exact .inl ⟨l,k⟩
    exact .inr ⟨k,u⟩
   ·rcases zwy e l u with k|k
    ·exact .inr ⟨l,k⟩
    exact .inl ⟨k,u⟩
   exact .inr ⟨l,u⟩
  exact amr
def aau(a b:List UInt8):Bool:=decide (b≠[])&&(decide (a=[]) || decide (me a b<0))
def loLe(a b:List UInt8):Prop:=a=[]∨(b≠[]∧le a b)
theorem zzg{a b:List UInt8}:aau b a=false↔loLe a b:=by
 have h:¬me b a<0↔le a b:=by exact XC
 unfold aau loLe;simp only[XZ,MK,pQ,vw,Decidable.not_not,h]
def abc(out:List Sp)(x:Sp):List Sp:=match out.getLast? with
 |some z=>if jS z x=true then out.dropLast++[lj z x] else out++[x]
 |none=>[x]
def ybi(l:List Sp):List Sp:=l.foldl abc []
theorem addS_nil(x:Sp):abc [] x=[x]:=rfl
theorem zxf(bT:List Sp)(z x:Sp):abc (bT++[z]) x=if jS z x=true then bT++[lj z x] else bT++[z,x]:=by
 unfold abc;simp
theorem yej{z x:Sp}(a:eg z=true)(b:eg x=true)(h:loLe z.1 x.1):(lj z x).1=z.1:=by
 rw[Nl a b];by_cases h1:z.1≠[]∧x.1≠[]
 ·simp only[M h1];unfold mS;rcases h with h|h
  ·exact absurd h h1.1
  rw[E];rintro (k|k)
  ·exact h1.1 k
  exact (Nu.1 k).2.2 h.2
 simp only[E h1];rcases h with h|h
 ·exact h.symm
 by_cases e:z.1=[]
 ·exact e.symm
 exact absurd ⟨e,h.1⟩ h1
theorem yco{z x:Sp}(c:eg z=true)(a:eg x=true)(h:loLe z.1 x.1)(b:jS z x=false):bef z x:=by
 refine N9.1 fun d=>?_;have:¬(¬bef z x∧¬bef x z):=fun k=>by rw[(zos c a).2 k]at b;cases b
 refine this ⟨d,?_⟩;rintro⟨e,b2,b3⟩;rcases h with h|⟨h1,h⟩
 ·exact b2 h
 rcases zze a with k|k|k
 ·exact h1 k
 ·exact e k
 exact b3 (le_trans h k)
theorem bef_lo{o z x:Sp}(h:bef o z)(a:loLe z.1 x.1):bef o x:=by
 obtain⟨h1,b,c⟩:=h;rcases a with k|⟨d,k⟩
 ·exact absurd k b
 exact⟨h1,d,fun m=>c (le_trans k m)⟩
def Lo(a b:Sp):Prop:=loLe a.1 b.1
theorem add_sep{bT:List Sp}{x:Sp}{r:List Sp}(e:Sep bT)(c:eg x=true)(j:∀z,bT.getLast?=some z→∀y∈x::r,Lo z y)(k:(x::r).Pairwise Lo):
  Sep (abc bT x)∧(∀z,(abc bT x).getLast?=some z→∀y∈r,Lo z y)∧∀p,Do (abc bT x) p↔Do bT p∨covS x p:=by
 rcases A8 bT with rfl|⟨Q,z,rfl⟩
 ·rw[addS_nil];refine⟨⟨fun s a=>by rw[gd.1 a];exact c,ae⟩,fun z hz y hy=>?_,fun p=>?_⟩
  ·simp at hz;subst hz;exact (pR.1 k).1 y hy
  unfold Do;simp
 rw[A9]at *;rw[zxf];have f:Lo z x:=j z ae x ae;have d:eg z=true:=e.1 z ae;obtain⟨l,_,m⟩:=sT.1 e.2
 cases hm:jS z x with
 |true=>
  rw[M rfl];have g:=yej d c f;refine⟨⟨fun s a=>?_,?_⟩,fun s a y hy=>?_,fun p=>?_⟩
  ·rcases ff.1 a with h|h
   ·exact e.1 s (by simp[h])
   rw[gd.1 h];exact ybq d c
  ·refine sT.2 ⟨l,ae,fun o i s a=>?_⟩;rw[gd.1 a];obtain⟨b1,b2,b3⟩:=m o i z ae;exact⟨b1,by rw[g];exact b2,by rw[g];exact b3⟩
  ·simp at a;subst a;show loLe _ _;rw[g];exact j z ae y vy
  have n:=ybr d c hm p;unfold Do;simp only[ff,gd,or_and_right,exists_or,Sh,n,or_assoc]
 |false=>
  rw[E ae];have hb:=yco d c f hm;refine⟨⟨fun s a=>?_,?_⟩,fun s a y hy=>?_,fun p=>?_⟩
  ·rcases ff.1 a with h|h
   ·exact e.1 s (by simp[h])
   rcases iC.1 h with rfl|h
   ·exact d
   rw[gd.1 h];exact c
  ·refine sT.2 ⟨l,Tg,fun o i s a=>?_⟩;have b:=m o i z ae;rcases iC.1 a with rfl|h
   ·exact b
   rw[gd.1 h];exact bef_lo b f
  ·simp at a;subst a;exact (pR.1 k).1 y hy
  unfold Do;simp only[ff,gd,iC,List.not_mem_nil,TA,or_and_right,exists_or,Sh,or_assoc]
theorem ybv:∀(r bT:List Sp),Sep bT→(∀s∈r,eg s=true)→(∀z,bT.getLast?=some z→∀y∈r,Lo z y)→r.Pairwise Lo→Sep (r.foldl abc bT)∧∀p,Do (r.foldl abc bT) p↔Do bT p∨Do r p
 |[],bT,a,_,_,_=>⟨a,fun p=>by simp[Do]⟩
 |x::r,bT,a,b,d,c=>by obtain⟨h1,e,f⟩:=add_sep a (b x ae) d c;obtain⟨k1,k2⟩:=ybv r (abc bT x) h1 (fun s hs=>b s (by simp[hs])) e (pR.1 c).2;refine⟨k1,fun p=>?_⟩;rw[EJ,k2 p,f p];unfold Do;simp only[iC,or_and_right,exists_or,Sh,or_assoc]
theorem merge_sep{r:List Sp}(a:∀s∈r,eg s=true)(b:r.Pairwise Lo):Sep (ybi r)∧∀p,Do (ybi r) p↔Do r p:=by
 obtain⟨h1,c⟩:=ybv r [] ⟨fun s hs=>by simp at hs,List.Pairwise.nil⟩ a (fun z hz=>by simp at hz) b;exact⟨h1,fun p=>by rw[ybi,c p];simp[Do]⟩
theorem sep_of{r:List Sp}(c:∀s∈r,eg s=true)(d:r.Pairwise Lo)(e:r.Pairwise fun a b=>jS a b=false):Sep r:=by
 refine⟨c,?_⟩;refine (List.pairwise_and_iff.2 ⟨d,e⟩).imp_of_mem ?_;intro a b f g h;exact yco (c a f) (c b g) h.1 h.2
theorem zub{a b:List Sp}(h:a.Perm b)(p:Pt):Do a p↔Do b p:=by
 unfold Do;simp only[h.mem_iff]
end av
section
open RowKit Lib Go.Sort
def AX(x y:Int):Int:=if x<y then -1 else if y<x then 1 else 0
theorem zr2(x y:Int)(w:World):Calls prog 169 #[.int .i64 x,.int .i64 y] w fun e w'=>e=.returned (.int .i64 (AX x y))∧w=w':=by
 by_cases h1:x<y
 ·have e:AX x y= -1:=by unfold AX;rw[if_pos h1]
  rw[e];clear e;exact WE
 have b:y≤x:=Z;by_cases a:y<x
 ·have e:AX x y=1:=by unfold AX;rw[if_neg h1,if_pos a]
  rw[e];clear e h1;exact WE
 have e:AX x y=0:=by unfold AX;rw[if_neg h1,if_neg a]
 obtain rfl:x=y:=Z;rw[e];clear e h1 a b;exact WE
def ph(l:List Int):Int:=match l with
 |[]=> 0
 |x::r=>if x≠0 then x else ph r
theorem orOf_snoc(l:List Int)(k:Nat)(h:k<l.length)(h0:ph (l.take k)=0):ph (l.take (k+1))=l[k]:=by
 induction l generalizing k with
 |nil=>simp at h
 |cons x r a=>
  match k with
  |0=>simp[ph];intro h;simp[h]
  |k+1=>
   have h1:x=0:=by
    rw[Si,ph]at h0;split at h0
    ·rename_i hx;exact absurd h0 hx
    rename_i hx;simpa using hx
   subst h1;have:=a k w_ (by simpa [ph] using h0);simpa [ph] using this
theorem orOf_all(l:List Int)(k:Nat)(h:ph (l.take k)≠0):ph l=ph (l.take k):=by
 induction l generalizing k with
 |nil=>simp
 |cons x r a=>
  match k with
  |0=>simp[ph]at h
  |k+1=>
   rw[Si,ph]at h⊢;rw[ph];split
   ·rfl
   rename_i hx
   rw[E hx]at h;exact a k h
theorem or_any(b off cap:Nat)(l:List Int)(w:World)(r:l.length≤1000)(p:∀i x,l[i]?=some x→w.cell? ⟨b,off+i,none⟩=some (.int .i64 x)):
  Calls prog 168 #[.slice (some ⟨b,off,none⟩) l.length cap] w fun e w'=>e=.returned (.int .i64 (ph l))∧w=w':=by
 obtain⟨n,m⟩:=Y l.length;rw[←m]at r⊢;obtain⟨Hn,Hc⟩:=ak m p;clear m p;go_enter func168,ntmps168;go_wp2_with fail;go_loop [8] (fun i=>∃k:Nat,k≤n∧i=.int .i64 k∧ph (l.take k)=0) (fun i=>n-(RowKit.intOf i).toNat)
 case atStart=>exact⟨0,bj _,rfl,by simp[ph]⟩
 case round=>
  obtain⟨k,_,rfl,h0⟩:=hrel;by_cases y:k<n
  ·have aI:k<l.length:=gl;obtain⟨x,hx⟩:=Y (l[k]'aI);have c:=Hc.o k x lD;have f:=orOf_snoc l k aI h0;rw[←hx]at f;by_cases g:x=0
   ·have s:(x !=0)=false:=by rw[g];rfl
    have h1:ph (l.take (k+1))=0:=by rw[f,g]
    revert h0 hx f g h1;refine bU ?_;intro q t u v j;refine cK ?_;go_round
    case rel=>exact⟨k+1,Z,cj,j.o⟩
    case measure=>exact gT
   have s:(x !=0)=true:=by simpa using g
   have h1:ph l=x:=by rw[orOf_all l (k+1) (by rw[f];exact g),f]
   revert h0 hx f g h1;refine bU ?_;intro q t u v j;go_wp2_with fail;go_ret;exact⟨E2 (by rw[j.o]),rfl⟩
  have h1:ph l=0:=by rw[←h0,lH gl]
  obtain⟨q,j⟩:=ak h0 h1;clear h0 h1;go_wp2_with fail;go_ret;exact⟨E2 (by rw[j.o]),rfl⟩
end
section
open RowKit Lib av
theorem ybm(x y:ByteArray):Op.bytesLess x.toList y.toList=decide (x.data.toList<y.data.toList):=by
 rw[Go.Proofs.bytesLess_eq,toList_data,toList_data]
theorem zx5(x y:ByteArray)(w:World):Calls prog 170 #[.string x,.string y] w fun e w'=>e=.returned (.int .i64 (N8 x.data.toList y.data.toList))∧w=w':=by
 obtain⟨p,hp⟩:=Y (Op.bytesLess x.toList y.toList);obtain⟨q,hq⟩:=Y ((x.toList==y.toList))
 have e:N8 x.data.toList y.data.toList=if p=true then -1 else if q=true then 0 else 1:=by
  unfold N8;rw[hp,hq,ybm,em.gu];by_cases h1:x.data.toList<y.data.toList
  ·rw[M h1,aO h1];rfl
  rw[E h1,be h1];by_cases c:x=y
  ·rw[aO c,E (by rw[c];exact List.lt_irrefl _)];rfl
  rw[be c,M (dec_ne (fun e=>c (em.ext e)) h1)];rfl
 rw[e];have d:=hp.symm;have f:=hq.symm;clear e
 cases p with
 |true=>exact Wc
 |false=>
  cases q with
  |true=>exact Wc
  |false=>exact Wc
theorem ba_list{x y:ByteArray}:x=y↔x.data.toList=y.data.toList:=⟨fun h=>by rw[h],em.ext⟩
theorem mc(s:ByteArray):s.data.toList=[]↔s.size=0:=by rw[←em.len];exact List.length_eq_zero_iff.symm
theorem zso(s t:ByteArray)(p:s.size≤9223372036854775807)(u:t.size≤9223372036854775807)(w:World):Calls prog 156 #[.string s,.string t] w fun e w'=>e=.returned (.bool (eX s.data.toList t.data.toList))∧w=w':=by
 obtain⟨r,hr⟩:=Y (eX s.data.toList t.data.toList);have hq:=hr;unfold eX at hq;rw[←hr];by_cases uF:s=t
 ·have F:(s.toList==t.toList)=true:=by rw[em.gu];exact aO uF
  have h0:r=false:=by rw[hq,M (ba_list.1 uF)]
  revert hr hq uF h0;refine bV ?_;intro Hr Hq Qe H0;go_enter Qw,Qx;go_wp2_with fail;go_ret;exact KQ
 have F:(s.toList==t.toList)=false:=by rw[em.gu];exact be uF
 rw[E (fun h=>uF (ba_list.2 h))]at hq;by_cases m:s.size=0
 ·have K:s.toList.isEmpty=true:=by rw[em.ii];exact aO m
  have h0:r=In t.data.toList:=by rw[hq,M ((mc s).2 m)]
  have hD:=zm2 t u w;exact ail
 have K:s.toList.isEmpty=false:=by rw[em.ii];exact be m
 rw[E (fun h=>m ((mc s).1 h))]at hq;by_cases n:t.size=0
 ·have L:t.toList.isEmpty=true:=by rw[em.ii];exact aO n
  have h0:r=fk s.data.toList:=by rw[hq,M ((mc t).2 n)]
  have hD:=zic s p w;exact ail
 have L:t.toList.isEmpty=false:=by rw[em.ii];exact be n
 rw[E (fun h=>n ((mc t).1 h))]at hq;have hL:=zic s p w;have hM:=zic t u w;have hD:=zm2 s p w;obtain⟨x,hx⟩:=Y (fk s.data.toList);obtain⟨y,hy⟩:=Y (fk t.data.toList);obtain⟨z,hz⟩:=Y (In s.data.toList);rw[←hx]at hL hq;rw[←hy]at hM hq;rw[←hz]at hD hq;by_cases jK:x=y
 ·rw[E (by simpa using jK)]at hq;have N:(x==y)=true:=by rw[jK];simp
  have v:decide (s.data.toList.length≠t.data.toList.length)=((s.size:Int) !=(t.size:Int)):=by
   rw[em.len,em.len];by_cases h:s.size=t.size
   ·rw[h];simp
   rw[aO h];simp;omega
  rw[v]at hq;obtain⟨b,q⟩:=Y (((s.size:Int) !=(t.size:Int)));have A:=q.symm;rw[←q]at hq;have B:decide (s.data.toList.length<t.data.toList.length)=decide (s.size<t.size):=by rw[em.len,em.len]
  rw[B]at hq;have C:=ybm s t;rw[←C]at hq;clear v B C q
  cases z with
  |true=>
   cases b with
   |true=>
    have h0:r=decide (s.size<t.size):=by rw[hq];rfl
    exact ajb
   |false=>
    have h0:r=Op.bytesLess s.toList t.toList:=by rw[hq];rfl
    exact ajb
  |false=>
   have h0:r=Op.bytesLess s.toList t.toList:=by rw[hq];rfl
   obtain⟨Hr,Hq,H0,Qe,HL,HM,HD,Hx,Hy,Hz,VB,_⟩:=Bx hr hq h0 uF hL hM hD hx hy hz jK A;clear hr hq h0 uF hL hM hD hx hy hz jK A;exact adu
 rw[M (by simpa using jK)]at hq;have N:(x==y)=false:=by simpa using jK
 revert hr uF hL hx hM hy hq hD hz jK;refine dE ?_;intro Hr Qe HL Hx HM Hy Hq HD Hz VB;go_enter Qw,Qx;go_wp2_with fail;refine HL.o.mono ?_;refine mT ?_;go_wp2_with fail;refine mU ?_;refine mT ?_;go_wp2_with fail;refine HL.o.mono ?_;refine mT ?_;go_wp2_with fail;go_ret;exact⟨mu Hq.o.symm,rfl⟩
theorem zkt{a:List ByteArray}(h:w.ownsRow B 9 1 v n (a.map Value.string))(i:Nat)(hi:i<a.length):
  ∃g cap,v=.slice (some ⟨g,0,none⟩) n cap∧w.cell? ⟨g,i,none⟩=some (.string a[i]):=by
 have c:n=a.length:=asv;obtain⟨g,cap,rfl,_,_,_,_,b⟩:=AH h Z;exact⟨g,cap,rfl,b i _ (by rw[rC,bR hi];rfl)⟩
def qD:ByteArray:=⟨#[]⟩
theorem at1_any{c:List ByteArray}(h:w.ownsRow B 9 1 v n (c.map Value.string))(_:n≤1000000)(i:Nat)(_:i≤1000000):
  Calls prog 157 #[v,.int .i64 i] w fun e w'=>e=.returned (.string (c.getD i qD))∧w=w':=by
 have f:n=c.length:=asv;by_cases hi:i<n
 ·have j:i<c.length:=Z;obtain⟨g,cap,rfl,k⟩:=zkt h i j;have e:c.getD i qD=c[i]:=by rw[List.getD,bR j];rfl
  rw[e];obtain⟨x,d⟩:=Y (c[i]);rw[←d]at k⊢;have l:(i:Int)<(n:Int):=Z;have m:decide ((i:Int)<(n:Int))=true:=aO l;clear e f;obtain⟨o,Hx⟩:=ak h d;clear h d;go_enter func157,ntmps157;exact DO
 obtain⟨a,cap,rfl⟩:=bg h;have e:c.getD i qD=qD:=by rw[List.getD,J4 Z];rfl
 rw[e];have m:decide ((i:Int)<(n:Int))=false:=be Z;clear e f;have o:=O h;clear h;go_enter func157,ntmps157;exact DO
theorem zwo:up prog 41 9 (.string ⟨#[]⟩) 1 16:=⟨Sj,by kernel_rfl,rfl,by decide⟩
def sH(c:UInt8)(l:List UInt8)(k f:Nat)(done:List (List UInt8)):Prop:=f≤k∧((k≤l.length∧ge c l=done++po c ((l.take k).drop f) (l.drop k))∨(k=l.length+1∧ge c l=done))
theorem sH.start(c:UInt8)(l:List UInt8):sH c l 0 0 []:=⟨aE _,.inl ⟨bj _,rfl⟩⟩
theorem sH.skip{c:UInt8}{l:List UInt8}{done:List (List UInt8)}(h:sH c l k f done)(a:k<l.length)(b:l[k]≠c):sH c l (k+1) f done:=by
 obtain⟨_,⟨_,h⟩|⟨h,_⟩⟩:=h
 ·refine⟨Z,.inl ⟨Z,?_⟩⟩;rw[h,rK a,AU _ _ b,pP a,List.drop_append_of_le_length (by rw[tZ];omega)]
 omega
theorem sH.hit{c:UInt8}{l:List UInt8}{done:List (List UInt8)}(h:sH c l k f done)(a:k<l.length)(b:l[k]=c):sH c l (k+1) (k+1) (done++[(l.take k).drop f]):=by
 obtain⟨_,⟨_,h⟩|⟨h,_⟩⟩:=h
 ·refine⟨aE _,.inl ⟨Z,?_⟩⟩;have e:(l.take (k+1)).drop (k+1)=[]:=F7 (by rw[tZ];omega);rw[h,rK a,b,C4,e];simp
 omega
theorem sH.last{c:UInt8}{l:List UInt8}{done:List (List UInt8)}(h:sH c l k f done)(a:k=l.length):sH c l (k+1) (k+1) (done++[(l.take k).drop f]):=by
 obtain⟨_,⟨_,h⟩|⟨h,_⟩⟩:=h
 ·refine⟨aE _,.inr ⟨Z,?_⟩⟩;rw[h,a,F7 (aE _)];rfl
 omega
theorem sH.len{c:UInt8}{l:List UInt8}{done:List (List UInt8)}(h:sH c l k f done):done.length≤l.length+1:=by
 have h1:=(Jq c l).2;obtain⟨_,⟨_,h⟩|⟨_,h⟩⟩:=h
 ·rw[h,bM]at h1;omega
 rw[h]at h1;exact h1
abbrev strL(ps:List (List UInt8)):List Value:=ps.map fun l=>.string ⟨l.toArray⟩
theorem cutS_vals(c:UInt8)(s:ByteArray):(ex c s).map Value.string=strL (ge c s.data.toList):=by unfold ex strL;rw[List.map_map];rfl
theorem NK(s:ByteArray)(_:s.size≤1000000)(c:Nat)(_:c<256)(w:World):Calls prog 140 #[.string s,.int .u8 c] w fun e w'=>∃v,e=.returned v∧w'.ownsRow w.heap.size 9 1 v (ex (UInt8.ofNat c) s).length ((ex (UInt8.ofNat c) s).map Value.string)∧Below w.heap.size w w':=by
 obtain⟨l,hl⟩:=Y s.data.toList;have T:l.length=s.size:=Of;obtain⟨d,O⟩:=Y (UInt8.ofNat c);have U:d.toNat=c:=by rw[O];simp;omega
 rw[cutS_vals,rG,←hl,←O];have W:(w.alloc (.cells #[] 9)).ownsRow w.heap.size 9 1 (.slice (some ⟨w.heap.size,0,none⟩) 0 0) 0 []:=wG (base:=w.heap.size) (e:=9) (size:=1) w #[] 0 (aE _) D rfl;have X:Below w.heap.size w (w.alloc (.cells #[] 9)):=aS _ _;revert hl T O U W X;refine bX ?_;intro Hl z _ L aa ab;go_enter func140,ntmps140;go_wp2_with fail;go_loopw [5,6,7] (fun o fr i wr=>∃(k f:Nat) (done:List (List UInt8)) (a:Option Addr) (cap m:Nat),sH d l k f done∧k≤s.size+1∧m=done.length∧i=.int .i64 k∧fr=.int .i64 f∧o=.slice a m cap∧wr.ownsRow w.heap.size 9 1 o m (strL done)∧Below w.heap.size w wr) (fun _ _ i _=>s.size+1-(RowKit.intOf i).toNat)
 case atStart=>exact⟨0,0,[],_,_,0,sH.start d l,bj _,rfl,rfl,rfl,rfl,aa.o,ab.o⟩
 case round=>
  obtain⟨k,f,done,a,cap,m,j,_,q,rfl,rfl,rfl,A,r⟩:=hrel;have N:=j.len;rw[z.o]at N;have al:=j.1;rw[←q]at N;have B:∀p:ByteArray,∀u∈(#[Value.string p]:Array Value).toList,u.oneCell'=true:=dW;have g1:(m+1)*16≤140737488355328:=Z;have g2:m+1≤maxLen:=cY;have g3:w.heap.size≤wr.heap.size:=r.size;have C:(s.extract f k)=⟨((l.take k).drop f).toArray⟩:=em.ext (by rw[Jd,←Hl.o,←List.drop_take]);rcases rB s.size k with h1|h1
  ·have ad:decide ((k:Int)≤(s.size:Int))=false:=be Z
   have ae:ge d l=done:=by
    obtain⟨_,⟨h2,_⟩|⟨_,h2⟩⟩:=j
    ·have:=z.o;omega
    exact h2
   revert j q A r B C ae;refine eb ?_;intro K Hm cZ eI Cq QN af;go_wp2_with fail;go_ret;exact⟨_,rfl,by rw[af.o,←Hm.o];exact cZ.o,eI.o⟩
  have ad:decide ((k:Int)≤(s.size:Int))=true:=aO Z;have an:(f:Int)≤(k:Int):=Z;have ao:(k:Int)≤(s.size:Int):=Z;rcases Nat.eq_or_lt_of_le h1 with h2|h2
  ·have ag:((k:Int)==(s.size:Int))=true:=DD;have t:=j.last (by rw[z.o];exact h2);revert j q A r B C h2 t;refine fg ?_;intro K Hm cZ eI Cq QN _ dV;exact adm
  have ag:((k:Int)==(s.size:Int))=false:=l9;have R:k<l.length:=by rw[z.o];exact h2
  obtain⟨n,hn⟩:=Y (s[k].toNat);have aq:n<256:=aaf;have S:s[k].toNat=n:=hn.symm;have e:l[k]=s[k]:=Fs
  have F:l[k]=d↔n=c:=by
   rw[e];constructor
   ·intro h;rw[←S,h];exact L.o
   intro h;exact NZ.1 (by rw[S,h,L.o])
  clear hn e;by_cases y:n=c
  ·have ah:((n:Int)==(c:Int))=true:=by rw[y];simp
   have t:=j.hit R (F.2 y);revert j q A r B C F y t;refine fK ?_;intro K Hm cZ eI Cq QN ai aj dV;exact adm
  have ah:((n:Int)==(c:Int))=false:=l9;have t:=j.skip R (fun h=>y (F.1 h));revert j q A r B C F y t;refine fK ?_;intro K Hm cZ eI Cq QN ai aj dV;refine cK ?_;go_roundw
  case rel=>exact⟨k+1,f,done,a,cap,m,dV.o,Z,Hm.o,cj,cj,rfl,cZ.o,eI.o⟩
  case measure=>exact gT
theorem may_parts(s:ByteArray):gs s.data.toList=(decide (s.size≠0)&&decide (s.size≤40)&&(ex 46 s).all (fun p=>eu p.data.toList)&&decide ((ex 46 s).length≤8)):=by
 unfold gs;rw[←Nq,List.all_map,em.len,gi];have e:decide (s.data.toList≠[])=decide (s.size≠0):=rz.2 (not_congr (mc s));rw[e];rfl
theorem NI(s:ByteArray)(F:s.size≤1000000)(w:World):Calls prog 112 #[.string s] w fun e w'=>e=.returned (.bool (gs s.data.toList))∧Below w.heap.size w w':=by
 have hm:=may_parts s;obtain⟨r,hr⟩:=Y (gs s.data.toList);rw[←hr]at hm⊢;by_cases h0:s.size=0
 ·have K:s.toList.isEmpty=true:=F5;have hf:r=false:=by rw[hm,be (p:=s.size≠0) (by simpa using h0)];rfl
  exact aiv
 have K:s.toList.isEmpty=false:=DG;by_cases ai:40<s.size
 ·have L:decide ((40:Int)<(s.size:Int))=true:=aO Z;have hf:r=false:=by rw[hm,be (p:=s.size≤40) Z];simp
  exact aiv
 have L:decide ((40:Int)<(s.size:Int))=false:=be Z;have u:=NK s F 46 Z w;rw[show UInt8.ofNat 46=(46:UInt8) from rfl]at u;obtain⟨j,m⟩:=Y (ex 46 s);have N:r=(j.all (fun p=>eu p.data.toList)&&decide (j.length≤8)):=by rw[hm,aO h0,aO (by omega:s.size≤40),m];rfl
 have R:∀p∈j,p.size≤1000000:=fun p y=>by rw[m]at y;have:=Nn y;omega
 have S:j.length≤41:=by rw[m,rG];have:=(Jq 46 s.data.toList).2;rw[em.len]at this;omega
 rw[←m]at u;revert hm hr u m N R;refine bX ?_;intro Hm Hr T _ z U;go_enter func112,ntmps112;go_wp2_with fail;refine T.o.mono ?_;rintro e w1 ⟨v,rfl,dG,hb⟩;obtain⟨a,cap,rfl⟩:=bg dG;obtain⟨n,hn⟩:=Y j.length;rw[←hn]at dG S⊢;revert hb dG hn;refine fo ?_;intro Hb cZ Hn;go_wp2_with fail;go_loop [4,16] (fun _ i=>∃k:Nat,k≤n∧i=.int .i64 k∧(j.take k).all (fun p=>eu p.data.toList)=true) (fun _ i=>n-(RowKit.intOf i).toNat)
 case atStart=>exact⟨0,bj _,rfl,ae⟩
 case round=>
  obtain⟨k,_,rfl,l⟩:=hrel;by_cases W:k<n
  ·have t:k<j.length:=by rw[←Hn.o];exact W
   obtain⟨g,_,A,X⟩:=zkt cZ.o k t;simp only[rL]at A;obtain⟨ha,aBk⟩:=A;subst ha;clear aBk;obtain⟨x,hx⟩:=Y (j[k]);rw[←hx]at X;have B:=part1_any x (by have:=U.o x (by rw[hx];exact eZ t);omega) w1;obtain⟨q,hq⟩:=Y (eu x.data.toList);rw[←hq]at B;have aj:(k:Int)<(n:Int):=Z;have aa:q=true→(j.take (k+1)).all (fun p=>eu p.data.toList)=true:=fun h=>by rw[pP t,CX,l,←hx];simp only[wK,Fz,BK,x8];rw[←hq];exact h
   have ab:q=false→r=false:=fun h=>by rw[z.o,qw];intro h2;rw[fI]at h2;have:=qy.1 h2.1 j[k] (eZ t);rw[←hx,←hq,h]at this;cases this
   revert l hx B hq aa ab;refine bX ?_;intro ad _ HP _ af ag;go_wp2_with fail;refine qJ ?_;rintro e w2 ⟨rfl,rfl⟩
   cases q with
   |true=>
    have C:=af.o rfl;have ah:=O C;clear C;go_wp2_with fail;go_round
    case rel=>exact⟨k+1,Z,cj,ah.o⟩
    case measure=>exact gT
   |false=>
    have hf:=ag.o rfl;have Hf:=O hf;clear hf;go_wp2_with fail;go_ret;exact⟨mu Hf.o.symm,Hb.o⟩
  obtain rfl:k=n:=Z
  have hf:decide ((k:Int)≤8)=r:=by
   rw[z.o,←Hn.o];rw[lH (by rw[←Hn.o];exact aE _)]at l;rw[l,x8];by_cases h:k≤8
   ·rw[aO h,aO];omega
   rw[be h,be];omega
  obtain⟨ad,Hf⟩:=ak l hf;clear l hf;go_wp2_with fail;go_ret;exact⟨mu Hf.o,Hb.o⟩
theorem zmz(c:UInt8)(s:ByteArray)(i:Nat):((ex c s).getD i qD).data.toList=(ge c s.data.toList).getD i []:=by
 rw[←Nq];by_cases h:i<(ex c s).length
 ·rw[FV (by rw[gi];exact h),DI,List.getD,bR h];rfl
 rw[FW (by rw[gi];omega),List.getD,J4 Z];rfl
theorem zwe(c:UInt8)(s:ByteArray)(_:s.size≤1000000)(i:Nat):((ex c s).getD i qD).size≤1000000:=by
 by_cases h:i<(ex c s).length
 ·rw[List.getD,bR h];have:=Nn (eZ h);show (ex c s)[i].size≤1000000;omega
 rw[List.getD,J4 Z];decide
theorem Jo(a b:ByteArray)(ab:a.size≤1000000)(ad:b.size≤1000000)(w:World):Calls prog 133 #[.string a,.string b] w fun e w'=>e=.returned (.bool (oy a.data.toList b.data.toList))∧Below w.heap.size w w':=by
 obtain⟨r,t⟩:=Y (oy a.data.toList b.data.toList);have A:=fun W=>NI a ab W;have B:=fun W=>NI b ad W;obtain⟨p,hp⟩:=Y (gs a.data.toList);obtain⟨q,hq⟩:=Y (gs b.data.toList);have s:r=if p=false∨q=false then !p&&q else y_ (ge 46 a.data.toList) (ge 46 b.data.toList) 0 (max (ge 46 a.data.toList).length (ge 46 b.data.toList).length):=by rw[t,hp,hq];rfl
 rw[←t];rw[←hp]at A;rw[←hq]at B
 cases p with
 |false=>
  have h0:q=r:=by rw[s];simp
  obtain⟨al,z,K,an,ao,ae,L⟩:=oD t A B hp hq s h0;clear t A B hp hq s h0;go_enter func133,ntmps133;go_wp2_with fail;refine (z.o _).mono ?_;rintro e w1 ⟨rfl,ai⟩;have aa:=z.o w1;obtain⟨aB,rk⟩:=ak ai aa;clear ai aa;go_wp2_with fail;refine rk.o.mono ?_;rintro e w2 ⟨rfl,af⟩;have R:=aB.o.trans (af.mono aB.o.size);have C:=K.o w2;revert af R C;refine fo ?_;intro bh bK qk;go_wp2_with fail;refine qk.o.mono ?_;rintro e w3 ⟨rfl,bA⟩;have F:=bK.o.trans (bA.mono bK.o.size);obtain⟨dL,cQ⟩:=ak bA F;clear bA F;go_wp2_with fail;go_ret;exact⟨mu L.o,cQ.o⟩
 |true=>
  cases q with
  |false=>
   have h0:r=false:=by rw[s];rfl
   obtain⟨al,z,K,an,ao,ae,L⟩:=oD t A B hp hq s h0;clear t A B hp hq s h0;go_enter func133,ntmps133;go_wp2_with fail;refine (z.o _).mono ?_;rintro e w1 ⟨rfl,ai⟩;have C:=K.o w1;obtain⟨aB,qk⟩:=ak ai C;clear ai C;go_wp2_with fail;refine qk.o.mono ?_;rintro e w2 ⟨rfl,af⟩;have R:=aB.o.trans (af.mono aB.o.size);have aa:=z.o w2;revert af R aa;refine fo ?_;intro bh bK rk;go_wp2_with fail;refine rk.o.mono ?_;rintro e w3 ⟨rfl,bA⟩;have F:=bK.o.trans (bA.mono bK.o.size);obtain⟨dL,cQ⟩:=ak bA F;clear bA F;go_wp2_with fail;go_ret;exact⟨mu L.o.symm,cQ.o⟩
  |true=>
   obtain⟨ag,S⟩:=Y (ex 46 a);obtain⟨qs,wg⟩:=Y (ex 46 b);obtain⟨xs,tt⟩:=Y (ge 46 a.data.toList);obtain⟨ys,vM⟩:=Y (ge 46 b.data.toList);have h0:r=y_ xs ys 0 (max xs.length ys.length):=by rw[s,tt,vM];rfl
   obtain⟨m,T⟩:=Y xs.length;obtain⟨n,hn⟩:=Y ys.length;have aN:m≤8:=by rw[T,tt];exact ((qB _).1 hp.symm).2.2.2
   have aP:n≤8:=by rw[hn,vM];exact ((qB _).1 hq.symm).2.2.2
   have ah:=fun W=>NK a ab 46 Z W;have aj:=fun W=>NK b ad 46 Z W;rw[show UInt8.ofNat 46=(46:UInt8) from rfl,rG,←tt,←T,←S]at ah;rw[show UInt8.ofNat 46=(46:UInt8) from rfl,rG,←vM,←hn,←wg]at aj;rw[←T,←hn]at h0;obtain⟨N,hN⟩:=Y (max m n);rw[←hN]at h0;have aq:∀i,(ag.getD i qD).data.toList=xs.getD i []:=fun i=>by rw[S,tt];exact zmz 46 a i
   have ar:∀i,(qs.getD i qD).data.toList=ys.getD i []:=fun i=>by rw[wg,vM];exact zmz 46 b i
   have au:∀i,(ag.getD i qD).size≤1000000:=fun i=>by rw[S];exact zwe 46 a ab i
   have av:∀i,(qs.getD i qD).size≤1000000:=fun i=>by rw[wg];exact zwe 46 b ad i
   obtain⟨al,z,K,an,ao,ae,L,_,_,_,_,_,_,aw,ax,aE⟩:=ke t A B hp hq s h0 S wg tt vM T hn ah aj aq;obtain⟨Hgy,Hzx,Hzy,HN⟩:=kg ar au av hN;clear t A B hp hq s h0 S wg tt vM T hn ah aj aq ar au av hN;go_enter func133,ntmps133;go_wp2_with fail;refine (z.o _).mono ?_;rintro e w1 ⟨rfl,ai⟩;have C:=K.o w1;obtain⟨aB,qk⟩:=ak ai C;clear ai C;go_wp2_with fail;refine qk.o.mono ?_;rintro e w2 ⟨rfl,af⟩;have R:=aB.o.trans (af.mono aB.o.size);have aF:=aw.o w2;revert af R aF;refine fo ?_;intro bh bK yW;go_wp2_with fail;refine yW.o.mono ?_;rintro e w3 ⟨v1,rfl,o1,bA⟩;have F:=bK.o.trans (bA.mono bK.o.size);have aG:=ax.o w3;obtain⟨a1,azy,rfl⟩:=bg o1;revert bA F aG o1;refine bV ?_;intro dL cQ IY Q8;go_wp2_with fail;refine IY.o.mono ?_;rintro e w4 ⟨v2,rfl,o2,cX⟩;have aH:=cQ.o.trans (cX.mono cQ.o.size);have aI:=fh Q8.o cX;obtain⟨a2,tY,rfl⟩:=bg o2;revert cX aH aI o2;refine bV ?_;intro je kM Ho3 Ho2;clear Q8 aw ax yW IY qk z K aB bh bK dL cQ je;go_wp2_with fail;go_loop [7] (fun i=>∃k:Nat,k≤N∧i=.int .i64 k∧r=y_ xs ys k (N-k)) (fun i=>N-(RowKit.intOf i).toNat)
   case atStart=>exact⟨0,bj _,rfl,L.o⟩
   case round=>
    obtain⟨k,_,rfl,U⟩:=hrel;by_cases aQ:k<N
    ·obtain⟨x,X⟩:=Y (ag.getD k qD);obtain⟨y,hy⟩:=Y (qs.getD k qD);have ay:=at1_any Ho3.o Z k OQ;have az:=at1_any Ho2.o Z k OQ;rw[←X]at ay;rw[←hy]at az;have aA:=zso x y (by rw[X];have:=Hzx.o k;omega) (by rw[hy];have:=Hzy.o k;omega) w4;have aC:=zso y x (by rw[hy];have:=Hzy.o k;omega) (by rw[X];have:=Hzx.o k;omega) w4;obtain⟨u,hu⟩:=Y (eX x.data.toList y.data.toList);obtain⟨v,s⟩:=Y (eX y.data.toList x.data.toList);rw[←hu]at aA;rw[←s]at aC;have aJ:r=if u=true then true else if v=true then false else y_ xs ys (k+1) (N-(k+1)):=by rw[U,show N-k=(N-(k+1))+1 from Z,y_,hu,s,X,hy,aE.o,Hgy.o]
     have aK:(k<m)∨(¬k<m∧k<n):=OQ;revert U X hy ay az aA hu aC s aJ;refine dE ?_;intro aL _ _ HX HY ER _ vY ae ga;rcases aK with h1|⟨h1,_⟩
     ·have aD:decide ((k:Int)<(m:Int))=true:=aO Z;exact ald
     have aD:decide ((k:Int)<(m:Int))=false:=be Z;have aM:decide ((k:Int)<(n:Int))=true:=aO Z;exact ald
    obtain rfl:k=N:=Z;have aD:decide (k<m)=false:=be OQ;have aM:decide (k<n)=false:=be OQ;have hf:r=false:=by rw[U,sS];rfl
    obtain⟨aL,Hf⟩:=ak U hf;clear U hf;exact Xa
end
section
open RowKit Shelf
def Lets{β:Type}(b:Nat)(xz:β→World→Prop):Prop:=∀s W (i:Nat) u,xz s W→xz s (W.setCell ⟨b,i,none⟩ u)
def ot(S:Nat→Prop)(W W':World):Prop:=∀k,S k→W'.heap[k]?=W.heap[k]?
theorem ot.refl(S:Nat→Prop)(W:World):ot S W W:=fun _ _=>rfl
theorem ot.trans{A B C:World}(h:ot S A B)(k:ot S B C):ot S A C:=fun i hi=>(k i hi).trans (h i hi)
theorem ot.below(a:∀k,S k→k<W.heap.size)(h:Below W.heap.size W W'):ot S W W':=fun k b=>h.block k (a k b)
theorem ot.put{l:Nat}(h:¬S l)(o:Obj):ot S W (W.putObj l o):=fun k a=>tV (fun e=>h (by rw[←e];exact a))
theorem ot.set{p:Addr}(h:¬S p.block)(u:Value):ot S W (W.setCell p u):=fun k a=>AF _ _ _ _ (fun e=>h (by rw[←e];exact a))
def SeqOwn{α:Type}(F:Fence)(n:Nat)(P:Program)(g:Nat)(lb:Array Value)(e9:α→Value)(K:Nat→Prop)(b:Nat)(Px:List α→α→Prop)(S Sp:List α→Prop)(w:World):Prop :=
 ∀(l:Nat)(xz Jx:List α→World→Prop)(W:World),Below w.heap.size w W→AbidesFrom W.heap.size xz→AbidesFrom W.heap.size Jx→Lets b xz→Lets b Jx→
  (∀pre x W1,xz pre W1→Px pre x→YieldAt F (n-1) P l #[e9 x] W1 fun e W'=>
   (e=.returned (.bool true)∧xz (pre++[x]) W'∧ot K W1 W')∨(e=.returned (.bool false)∧Jx (pre++[x]) W'))→
  xz [] W→
  CallsIn F n P g (#[.func (.yield l) #[] #[]]++lb) W fun e W'=>(∃v,e=.returned v)∧((∃xs,S xs∧xz xs W')∨(∃pre,Sp pre∧Jx pre W'))
def ownEnd{α:Type}(B:Nat)(K:Nat→Prop)(xy Ix:List α→World→Prop)(xs:List α)(W:World):Exit→Act→World→Prop
 |.normal,_,W'=>KeepsFrom B W W'∧ot K W W'∧xy xs W'
 |.ret,_,W'=>KeepsFrom B W W'∧Ix xs W'
 |_,_,_=>False
theorem ah{o:Obj}(h:W.heap[k]?=some o)(a:k≠b):(W.setCell ⟨b,i,none⟩ u).heap[k]?=some o :=
 (AF _ _ _ _ a).trans h
variable {F:Fence}{n:Nat}{P:Program}
theorem zle{α:Type}{g:Operand}{U:Array Tmp}{assign body:Code}{Q:Exit→Act→World→Prop}{a:Act}{w:World}
  (ao:F.round=none) (h1:1≤n) {gf:Nat} {X:Array Value} (aq:a.eval g=.func (.func gf) #[] X) (ar:F.fn gf) (au:∀args w,(callFunc gf args).run P w=.ok (.enter gf args) w)
  {e9:α→Value} {R:Nat→Prop} {b:Nat} {ag:List α→α→Prop} {S Sp:List α→Prop} {w0:World} (av:SeqOwn F (n-1) P gf X e9 R b ag S Sp w0)
  (aw:∀k,R k→k<w.heap.size) (_:b<w.heap.size) (ai:Below w0.heap.size w0 w) (ax:U.size=1)
  (xy T:List α→World→Prop) (z:OwnFrom w.heap.size xy) (ab:OwnFrom w.heap.size T) (ay:Lets b xy) (az:Lets b T) (h0:xy [] w) (aj:α→Act)
  (aA:∀(l:Nat)(x:α)(W:World)(K:Act→World→Prop),K (aj x) W→
   assign.wpIn (F.inRound l) (n-1-1) P (Exit.then K (fun _ _ _=>False)) { tmps:=(U.zip #[e9 x]).foldl (fun t (p,v)=>t.setIfInBounds p v) a.tmps,defers:=[] } W)
  (aB:∀(l:Nat)(pre:List α)(x:α)(W:World),xy pre W→ag pre x→body.wpIn (F.inRound l) (n-1-1) P (ownEnd w.heap.size R xy T (pre++[x]) W) (aj x) W)
  (aC:∀(ml:Nat)(xs:List α)(W:World),w.heap.size≤ml→S xs→xy xs W→W.heap[ml]?=some (.deferred (some []))→Q .normal { a with defers:={ target:=.collected ml,args:=#[] }::a.defers } W)
  (aD:∀(ml:Nat)(pre:List α)(W:World),w.heap.size≤ml→Sp pre→T pre W→W.heap[ml]?=some (.deferred (some []))→Code.ret.wpIn F n P Q { a with defers:={ target:=.collected ml,args:=#[] }::a.defers } W) :
  (Code.rangeFunc g U assign body).wpIn F n P Q a w:=by
 refine wpIn_rangeFunc fun fn aF=>?_;rw[ao];obtain⟨rec,A7⟩:∃rec:LoopState→Option Code→Loop,rec=fun st pe=>{ state:=st,pending:=pe,fn,tmps:=a.tmps,params:=U,assign,body,defers:=w.heap.size }:=⟨_,rfl⟩;obtain⟨W1,aK⟩:=mq ((w.alloc (.deferred (some []))).alloc (.loop (rec .ready none)))
 have aG:W1.heap[w.heap.size+1]?=some (.loop (rec .ready none)):=by
  rw[←aK];have:=World.alloc_heap_new (w.alloc (.deferred (some []))) (.loop (rec .ready none))
  rwa [Oi]at this
 have aH:W1.heap[w.heap.size]?=some (.deferred (some [])):=by rw[←aK];exact (Below.heap_alloc _ _ _ ae).trans (World.alloc_heap_new w _)
 have aI:xy [] W1:=by rw[←aK];exact z.alloc _ (z.alloc _ h0)
 have aV:W1.heap.size=w.heap.size+2:=by rw[←aK];simp
 have aJ:Below w0.heap.size w0 W1:=by rw[←aK];exact ai.trans ((((aL _ w).alloc (aE _) _).alloc ae _).mono ai.size)
 refine⟨w.heap.size+1,[{ target:=.collected w.heap.size,args:=#[] }],W1,{ target:=.fn (.func gf) X,args:=#[.func (.yield (w.heap.size+1)) #[] #[]] },W1,gf,
  #[.func (.yield (w.heap.size+1)) #[] #[]]++X,W1,?_,?_,?_,?_,fun _=>h1,?_⟩
 ·rw[←aK,A7];exact run_enterLoop_outer _ _ _ _ _
 ·simp only[resolve,aq];simp[go_sem]
 ·intro _ ak;simp[Target.leads]at ak;subst ak;exact ar
 ·simp[invoke,go_sem,au]
 have aa:∀{A B:World} {row:Option Nat} {k:Nat} {o:Obj},A.grownBy B row→(∀r,row=some r→W1.heap.size≤r∧∃o:Obj,A.heap[r]?=some o∧o.isWalk=true)→k<W1.heap.size→A.heap[k]?=some o→B.heap[k]?=some o:=fun j c C ho=>
  (j.block _ (bS.1 ho).1 (fun e=>by have:=(c _ e.symm).1;omega)).trans ho
 have al:∀{A:World} {row:Option Nat},(∀r,row=some r→W1.heap.size≤r∧∃o:Obj,A.heap[r]?=some o∧o.isWalk=true)→(∀r,row=some r→w.heap.size≤r∧∃o:Obj,A.heap[r]?=some o∧o.isCells=false):=fun c r e=>by obtain⟨h2,o,h3,h4⟩:=c r e;exact⟨Z,o,h3,Obj.not_cells_of_walk h4⟩
 refine (av (w.heap.size+1)
  (fun pre W=>xy pre W∧W.heap[w.heap.size+1]?=some (.loop (rec .ready none))∧W.heap[w.heap.size]?=some (.deferred (some [])))
  (fun pre W=>T pre W∧W.heap[w.heap.size+1]?=some (.loop (rec .done (some .ret)))∧W.heap[w.heap.size]?=some (.deferred (some [])))
  W1 aJ
  (fun s A B row d j c=>⟨z s A B row d.1 j (al c),aa j c Z d.2.1,aa j c Z d.2.2⟩)
  (fun s A B row d j c=>⟨ab s A B row d.1 j (al c),aa j c Z d.2.1,aa j c Z d.2.2⟩)
  (fun s W i u d=>⟨ay s W i u d.1,ah d.2.1 Z,ah d.2.2 Z⟩)
  (fun s W i u d=>⟨az s W i u d.1,ah d.2.1 Z,ah d.2.2 Z⟩)
  ?_ ⟨aI,aG,aH⟩).mono ?_
 ·
  rintro pre x W ⟨hi,f,C⟩ aM;have aN:w.heap.size+1<W.heap.size:=(bS.1 f).1;have ad:=run_yield (P:=P) (args:=#[e9 x]) f (by rw[A7];exact ax.symm);rw[A7]at ad;refine⟨fn,_,assign,body,ad,roundIn_of_wpIn aF (aA _ x W _ ?_)⟩;clear ad;refine⟨_,run_beginRound f (by rw[A7]),?_⟩;obtain⟨W2,eh⟩:∃W2,W2=W.putObj (w.heap.size+1) (.loop { rec .ready none with state:=.busy }):=⟨_,rfl⟩;rw[←eh];have aO:W2.heap[w.heap.size+1]?=some (.loop { rec .ready none with state:=.busy }):=by rw[eh];exact World.putObj_heap_same aN
  have aP:W2.heap[w.heap.size]?=some (.deferred (some [])):=by rw[eh];exact (tV Z).trans C
  have an:¬R (w.heap.size+1):=fun h=>by have:=aw _ h;omega
  have aQ:ot R W W2:=by rw[eh];exact ot.put an _
  have aR:xy pre W2:=by rw[eh];exact z.putObj _ hi Z f rfl
  refine wpIn_mono (aB _ pre x W2 aR aM) ?_
  have fin:∀(m:Option Code)(q:World),KeepsFrom w.heap.size W2 q→
    ∃W4,W4=q.putObj (w.heap.size+1) (.loop (rec (if m.isNone then .ready else .done) m))∧(Instr.endRound (w.heap.size+1) m).run P q=.ok (.bool m.isNone) W4∧
    q.heap[w.heap.size+1]?=some (.loop { rec .ready none with state:=.busy })∧
    W4.heap[w.heap.size+1]?=some (.loop (rec (if m.isNone then .ready else .done) m))∧W4.heap[w.heap.size]?=some (.deferred (some [])):=fun m q L=>by
   have y:=L.same _ _ Z aO rfl;have c:=run_endRound (P:=P) m y;refine⟨_,rfl,?_,y,World.putObj_heap_same (bS.1 y).1,(tV Z).trans (L.same _ _ (aE _) aP rfl)⟩;rw[A7]at c⊢;exact c
  rintro e aW q N
  cases e with
  |normal=>
   obtain⟨L,aS,af⟩:=N;obtain⟨W4,e4,c,y,hl4,hk4⟩:=fin none q L;refine⟨_,_,c,.inl ⟨rfl,⟨?_,hl4,hk4⟩,?_⟩⟩
   ·rw[e4];exact z.putObj _ af Z y rfl
   rw[e4];exact (aQ.trans aS).trans (ot.put an _)
  |ret=>obtain⟨L,af⟩:=N;obtain⟨W4,e4,c,y,hl4,hk4⟩:=fin (some .ret) q L;refine⟨_,_,c,.inr ⟨rfl,?_,hl4,hk4⟩⟩;rw[e4];exact ab.putObj _ af Z y rfl
  |exit id=>exact N.elim
  |goto t=>exact N.elim
  |panic aX=>exact N.elim
  |outgrown=>exact N.elim
 rintro e W2 ⟨⟨v,rfl⟩,(⟨xs,aT,hi,f,C⟩|⟨pre,aU,hi,f,C⟩)⟩
 ·have c:=run_endLoop (P:=P) f (by rw[A7];simp);rw[A7]at c;exact⟨none,_,c,aC _ xs _ (aE _) aT (z.putObj _ hi Z f rfl) ((tV Z).trans C)⟩
 have c:=run_endLoop (P:=P) f (by rw[A7];simp);rw[A7]at c;exact⟨some .ret,_,c,aD _ pre _ (aE _) aU (ab.putObj _ hi Z f rfl) ((tV Z).trans C)⟩
end
section
open RowKit Shelf Lib av
attribute [local go_sem] Oper.semAt_some
structure H8(Bs Bp Bv:Nat)(c:UInt8)(r:ByteArray)(W:World):Prop where
 s:W.heap[Bs]?=some (.cells #[.string r] 9 (0,0))
 p:W.heap[Bp]?=some (.cells #[.string ⟨#[c]⟩] 9 (0,0))
 v:W.heap[Bv]?=some (.cells #[.int .i64 0] 3 (0,0))
theorem H8.below{Bs a:Nat}{c:UInt8}{r:ByteArray}(h:H8 Bs Bp Bv c r W)(b:Below a W W')(h1:Bs<a)(d:Bp<a)(e:Bv<a):H8 Bs Bp Bv c r W' :=
 ⟨(b.block _ h1).trans h.s,(b.block _ d).trans h.p,(b.block _ e).trans h.v⟩
abbrev Three(Bs Bp Bv:Nat)(k:Nat):Prop:=k=Bs∨k=Bp∨k=Bv
theorem H8.keeps{Bs:Nat}{c:UInt8}{r:ByteArray}(h:H8 Bs Bp Bv c r W)(a:ot (Three Bs Bp Bv) W W'):H8 Bs Bp Bv c r W' :=
 ⟨(a _ (.inl rfl)).trans h.s,(a _ (.inr (.inl rfl))).trans h.p,(a _ (.inr (.inr rfl))).trans h.v⟩
theorem H8.set{Bs:Nat}{c:UInt8}{r:ByteArray}(h:H8 Bs Bp Bv c r W)(b:Bp≠Bs)(d:Bv≠Bs)(a:ByteArray):H8 Bs Bp Bv c a (W.setCell ⟨Bs,0,none⟩ (.string a)) :=
 ⟨ag _ Bs 0 _ _ _ h.s,ah h.p b,ah h.v d⟩
theorem H8.cells{Bs:Nat}{c:UInt8}{r:ByteArray}(h:H8 Bs Bp Bv c r W):
  W.cell? ⟨Bs,0,none⟩=some (.string r)∧W.cell? ⟨Bp,0,none⟩=some (.string ⟨#[c]⟩)∧W.cell? ⟨Bv,0,none⟩=some (.int .i64 0)∧W.frozen? ⟨Bs,0,none⟩=false :=
 ⟨J h.s 0,J h.p 0,J h.v 0,aG h.s 0⟩
def left(Bs:Nat)(W:World):Nat:=match W.cell? ⟨Bs,0,none⟩ with
 |some (.string r)=>r.size
 |_=>0
theorem left_is{Bs:Nat}{c:UInt8}{r:ByteArray}(h:H8 Bs Bp Bv c r W):left Bs W=r.size:=by unfold left;rw[h.cells.1]
theorem ybe{zs rest:List ByteArray}{x:ByteArray}(h:zs=pre++x::rest):pre++[x] <+: zs:=⟨rest,by rw[h];simp⟩
theorem zpo(n:Nat)(_:1≤n)(Bs Bp Bv:Nat)(c:UInt8)(s:ByteArray)(_:s.size≤1000000)(w:World)(h1:Bs<w.heap.size)(X:Bp<w.heap.size)(aa:Bv<w.heap.size)(A:Bp≠Bs)(B:Bv≠Bs)(C:H8 Bs Bp Bv c s w):
  SeqOwn Fence.wide n prog 172 #[.pointer (some ⟨Bp,0,none⟩),.pointer (some ⟨Bs,0,none⟩),.pointer (some ⟨Bv,0,none⟩)] (fun x:ByteArray=>Value.string x) (Three Bs Bp Bv) Bs (fun pre x=>x.size≤s.size∧pre++[x] <+: ex c s) (fun ys=>ys=ex c s) (fun pre=>pre <+: ex c s) w:=by
 intro l xz _ W F ab ad af ag K h0;obtain⟨zs,Zk⟩:=Y (ex c s);rw[←Zk];have L:H8 Bs Bp Bv c s W:=C.below F h1 X aa;obtain⟨d1,d2,d3,d4⟩:=L.cells;have au:((1:Int)==0)=false:=rfl;revert C F ab ad af ag Zk L;refine fg ?_;intro Hb HW HJ HJx HL HLx Hzs cr;refine callsIn_of_wp func172 rfl trivial ?_ rfl;simp only[ntmps172,Ad,fO,tO,Nat.reduceAdd,Nat.reduceSub,Rc,Re,Rf,Rg,ig,ru]
 gi_wp2
 gi_loopw [7,8] (fun _ _ wr=>∃(pre:List ByteArray)(r:ByteArray),zs=pre++ex c r∧H8 Bs Bp Bv c r wr∧xz pre wr∧r.size≤s.size) (fun _ _ wr=>left Bs wr)
 case atStart=>exact⟨[],s,Hzs.o,cr.o,h0,aE _⟩
 case round=>
  obtain⟨pre,r,j,k,m,N⟩:=hrel;obtain⟨d1,d2,d3,d4⟩:=k.cells;have R:=left_is k;have p:=Tryz.strings_Index_one r c wr;obtain⟨v,IC⟩:=Y (indexByte r.data.toList c);rw[←IC]at p;by_cases q:v= -1
  ·have S:zs=pre++[r]:=by rw[j,cutS_miss (by rw[←IC,q])]
   obtain⟨ah,tmps,ai,aj,ak,t⟩:=K pre r wr m ⟨N,by rw[←Hzs.o,S];exact List.prefix_refl _⟩;have al:decide (v<0)=true:=aO Z;revert j k m N R p IC q S;refine fK ?_;intro Hz cU HJs Hr Hl HI Hvd Hm Jc
   gi_wp2
   refine⟨trivial,(AP.2 HI.o).mono ?_⟩;rintro e an ⟨rfl,rfl⟩
   gi_wp2
   refine t.mono ?_;rintro e ao (⟨rfl,u,y⟩|⟨rfl,z⟩)
   ·gi_wp2
    go_end0
    exact⟨⟨_,rfl⟩,.inl ⟨_,Jc.o.symm,u⟩⟩
   gi_wp2
   go_end0
   exact⟨⟨_,rfl⟩,.inr ⟨_,by rw[Jc.o];exact List.prefix_refl _,z⟩⟩
  obtain⟨i,hi⟩:∃i:Nat,v=i:=⟨v.toNat,by have:=J0 r.data.toList c;omega⟩;subst hi;have aq:=index_lt IC.symm;rw[em.len]at aq;have T:zs=pre++r.extract 0 i::ex c (r.extract (i+1) r.size):=by rw[j,cutS_hit IC.symm]
  obtain⟨ah,tmps,ai,aj,ak,t⟩:=K pre (r.extract 0 i) wr m ⟨aX,by rw[←Hzs.o];exact ybe T⟩;have al:decide ((i:Int)<0)=false:=be Z;have av:(i:Int)≤(r.size:Int):=Z;have ar:(r.extract (i+1) r.size).size=r.size-(i+1):=ae;revert j k m R p IC q T ar;refine fK ?_;intro Hz cU HJs Hl HI Hvd Hm dZ ir
  gi_wp2
  refine⟨trivial,(AP.2 HI.o).mono ?_⟩;rintro e an ⟨rfl,rfl⟩
  gi_wp2
  refine t.mono ?_;rintro e ao (⟨rfl,u,y⟩|⟨rfl,z⟩)
  ·have U:=cU.o.keeps y;obtain⟨d1,d2,d3,d4⟩:=U.cells;revert u y U;refine fo ?_;intro HJ3 IA bK
   gi_wp2
   go_roundw
   case rel=>exact⟨pre++[r.extract 0 i],r.extract (i+1) r.size,by rw[dZ.o];simp,bK.o.set A B _,HL.o _ _ 0 _ HJ3.o,by rw[ir.o];omega⟩
   case measure=>rw[left_is (bK.o.set A B _),Hl.o,ir.o];omega
  gi_wp2
  refine fZ (results_none rfl _ _ _) rfl ?_;exact⟨⟨_,rfl⟩,.inr ⟨_,ybe dZ.o,z⟩⟩
abbrev NT:Nat:=172
def AY(l:List UInt8):List Value:=[.int .i64 (kB l),.int .i64 (jc l),.string ⟨(mM l).toArray⟩]
def sM(ps:List (List UInt8)):List Value:=ps.flatMap AY
theorem zqb(a:List (List UInt8))(l:List UInt8):sM (a++[l])=sM a++AY l:=by simp[sM]
theorem ydn{l:List UInt8}{r m:Int}{x:ByteArray}(h:NW l r m x):AY l=[.int .i64 r,.int .i64 m,.string x]:=by
 obtain⟨rfl,rfl,h⟩:=h;unfold AY;rw[←h]
theorem znr(s:ByteArray)(c:UInt8)(w:World):Calls prog 142 #[.string s,.string ⟨#[c]⟩] w fun e w'=>
  e=.returned (.func (.func NT) #[] #[.pointer (some ⟨w.heap.size+1,0,none⟩),.pointer (some ⟨w.heap.size,0,none⟩),.pointer (some ⟨w.heap.size+1+1,0,none⟩)])∧
  w'=((w.alloc (.cells #[.string s] 9)).alloc (.cells #[.string ⟨#[c]⟩] 9)).alloc (.cells #[.int .i64 0] 3):=by
 go_enter func142,ntmps142;go_wp2;go_ret;exact Gz
structure PI(w W:World)(pre:List ByteArray):Prop where
 bm:Below w.heap.size w W
 r2:W.heap[w.heap.size]?=some (.cells #[.slice none 0 0] 173 (0,0))
 r3:W.heap[w.heap.size+1]?=some (.cells #[.bool false] 4 (0,0))
 out:∃v,W.heap[w.heap.size+1+1]?=some (.cells #[v] 173 (0,0))∧W.ownsRow (w.heap.size+6) 199 3 v pre.length (sM (pre.map (·.data.toList)))
 ok:∀p∈pre,eu p.data.toList=true
 len:pre.length≤8
structure PX(w W:World)(pre:List ByteArray):Prop where
 bm:Below w.heap.size w W
 r2:W.heap[w.heap.size]?=some (.cells #[.slice none 0 0] 173 (0,0))
 r3:W.heap[w.heap.size+1]?=some (.cells #[.bool false] 4 (0,0))
 bad:(∃p∈pre,eu p.data.toList=false)∨8<pre.length
theorem CJ{row:Option Nat}{o:Obj}(a:W.grownBy W' row)(b:∀r,row=some r→B≤r)(_:k<B)(h:W.heap[k]?=some o):W'.heap[k]?=some o :=
 (a.block k (bS.1 h).1 (fun e=>by have:=b k e.symm;omega)).trans h
theorem zia(m:Nat):OwnFrom B (fun (_:List ByteArray) W=>m≤W.heap.size):=fun _ _ _ _ h hg _=>fu h hg.size
theorem PI.own(_:w.heap.size+6≤B):OwnFrom B (fun (pre:List ByteArray) W=>PI w W pre):=by
 rintro pre W W' row h a hr;have uM:∀r,row=some r→B≤r:=fun r e=>(hr r e).1;obtain⟨v,hv,aY⟩:=h.out;refine⟨h.bm.grown a h.bm.size (fun k e=>YS),CJ a uM Z h.r2,CJ a uM Z h.r3,⟨v,CJ a uM Z hv,aY.kept a ?_⟩,h.ok,h.len⟩;exact ahw
theorem PX.own(_:w.heap.size+6≤B):OwnFrom B (fun (pre:List ByteArray) W=>PX w W pre):=by
 exact ahg
theorem sr{size:Nat}{xs:List Value}(h:W.ownsRow B e size v n xs){p:Nat}(_:p<B)(i:Nat)(u:Value):(W.setCell ⟨p,i,none⟩ u).ownsRow B e size v n xs:=by
 refine h.kept (row:=some p) ⟨rfl,rfl,rfl,by simp[World.setCell],fun k _ a=>AF _ _ _ _ (fun e=>a (by rw[e]))⟩ ?_;rcases h.2 with⟨rfl,_⟩|⟨g,cap,_,rfl,_,_⟩
 ·exact .inl rfl
 exact .inr fun b=>by simp[Value.ownBlock]at b;omega
theorem PI.lets(w:World):Lets (w.heap.size+1+1+1) (fun (pre:List ByteArray) W=>PI w W pre):=by
 rintro pre W i u h;obtain⟨v,hv,aY⟩:=h.out;exact⟨h.bm.setCell (p:=⟨w.heap.size+1+1+1,i,none⟩) YT _,ah h.r2 Z,ah h.r3 Z,⟨v,ah hv Z,sr aY Z i u⟩,h.ok,h.len⟩
theorem PX.lets(w:World):Lets (w.heap.size+1+1+1) (fun (pre:List ByteArray) W=>PX w W pre):=by
 exact akb
abbrev sb(w:World):Nat→Prop:=Three (w.heap.size+1+1+1) (w.heap.size+1+1+1+1) (w.heap.size+1+1+1+1+1)
theorem zgf(h:Below W.heap.size W W'):KeepsFrom B W W':=⟨h.size,fun k o _ a _=>G h a⟩
theorem PI.size(h:PI w W pre)(_:w.heap.size+6≤W.heap.size):∀k,sb w k→k<W.heap.size:=by
 rintro k (rfl|rfl|rfl)<;>omega
theorem lit3(w:World)(x y z:Value)(t:TypeId)(a:w.heap.size=n):∀j u,[x,y,z][j]?=some u→(w.alloc (.cells #[x,y,z] t)).cell? ((⟨n,0,none⟩:Addr).add j)=some u:=by
 intro j u b;subst a;rw[tX,og,SD];simpa using b
theorem PI.add{W3:World}{x:ByteArray}{tmp:Obj}(h:PI w W pre)(hs:w.heap.size+6≤W.heap.size)(a:Below W.heap.size W W3) 
  (b:W.heap[w.heap.size+1+1]?=some (.cells #[v] 173 (0,0))) (c:W.ownsRow (w.heap.size+6) 199 3 v pre.length (sM (pre.map (·.data.toList))))
  (d:w1.ownsRow (w.heap.size+6) 199 3 v' (pre.length+1) (sM (pre.map (·.data.toList))++AY x.data.toList)) (hg:(W3.alloc tmp).grownBy w1 v.ownBlock) (hx:eu x.data.toList=true) (_:pre.length≠8) :
  KeepsFrom B W (w1.setCell ⟨w.heap.size+1+1,0,none⟩ v')∧ot (sb w) W (w1.setCell ⟨w.heap.size+1+1,0,none⟩ v')∧PI w (w1.setCell ⟨w.heap.size+1+1,0,none⟩ v') (pre++[x])∧w1.heap[w.heap.size+1+1]?=some (.cells #[v] 173 (0,0))∧w.heap.size+6≤(w1.setCell ⟨w.heap.size+1+1,0,none⟩ v').heap.size:=by
 have aM:Below W.heap.size W (W3.alloc tmp):=a.alloc a.size _;have To:(W3.alloc tmp).ownsRow (w.heap.size+6) 199 3 v pre.length (sM (pre.map (·.data.toList))):=fh c aM;refine aji ?_;intro old;refine⟨?_,?_,⟨?_,ah (old Z h.r2) Z,ah (old Z h.r3) Z,⟨v',ag _ _ 0 _ _ _ (old Z b),?_⟩,?_,?_⟩,old Z b,ata⟩
 ·exact aff
 ·exact agq
 ·exact aih
 ·rw[oP,List.map_singleton,zqb,bM];exact sr d Z 0 v'
 ·exact amk
 have:=h.len;rw[bM,rD];omega
theorem PI.no{b:World}{x:ByteArray}(h:PI w W pre)(_:w.heap.size+6≤W.heap.size)(hb:Below W.heap.size W b)(a:eu x.data.toList=false∨pre.length=8):
  KeepsFrom B W ((b.setCell ⟨w.heap.size,0,none⟩ (.slice none 0 0)).setCell ⟨w.heap.size+1,0,none⟩ (.bool false))∧PX w ((b.setCell ⟨w.heap.size,0,none⟩ (.slice none 0 0)).setCell ⟨w.heap.size+1,0,none⟩ (.bool false)) (pre++[x]):=by
 refine aew ?_;rcases a with a|a
 ·exact .inl ⟨x,ae,a⟩
 right;rw[bM,rD];omega
theorem info_part:(prog.info? 199).map (fun i=>(i.zero,i.size,i.bytes))=some (some (.agg #[.int .i64 0,.int .i64 0,.string ⟨#[]⟩]),3,32):=by kernel_rfl
def zqa(l:List UInt8)(w:World)(e:Ending)(w':World):Prop :=
 ∃v,e=.returned (.tuple #[v,.bool (gs l)])∧(gs l=true→w'.ownsRow w.heap.size 199 3 v (ge 46 l).length (sM (ge 46 l)))∧(gs l=false→v=.slice none 0 0)∧Below w.heap.size w w'
theorem may_no{pre:List ByteArray}(h:pre <+: ex 46 s)(a:(∃p∈pre,eu p.data.toList=false)∨8<pre.length):gs s.data.toList=false:=by
 rw[qw];intro b;obtain⟨_,_,h1,h2⟩:=(qB _).1 b;rcases a with⟨p,c,d⟩|a
 ·have:=h1 p.data.toList (by rw[←Nq];exact gb.2 ⟨p,h.subset c,rfl⟩);rw[d]at this;cases this
 have:=h.length_le;rw[rG]at this;omega
theorem may_yes{s:ByteArray}(h0:s.size≠0)(a:s.size≤40)(b:∀p∈ex 46 s,eu p.data.toList=true)(c:(ex 46 s).length≤8):gs s.data.toList=true:=by
 rw[qB];refine⟨fun e=>h0 (by rw[←em.len,e];rfl),by rw[em.len];exact a,fun p hp=>?_,by rw[←rG];exact c⟩;rw[←Nq]at hp;obtain⟨x,hx,rfl⟩:=gb.1 hp;exact b x hx
theorem zq9(s:ByteArray)(ax:s.size≤1000000)(hD:dN w):Calls prog 113 #[.string s] w (zqa s.data.toList w):=by
 refine (AP (n:=8)).1 ?_;refine callsIn_of_wp_marks func113 rfl trivial ?_ rfl;simp only[ntmps113,Ad,fO,tO,Nat.reduceAdd,Nat.reduceSub,Rc,Re,Rf,Rg,ig,ru];by_cases h0:s.size=0
 ·have k1:s.toList.isEmpty=true:=F5;have hm:gs s.data.toList=false:=by rw[qw];intro h;exact ((qB _).1 h).1 (List.length_eq_zero_iff.1 (by rw[em.len];exact h0))
  exact afz
 by_cases bf:40<s.size
 ·have k1:s.toList.isEmpty=false:=DG;have ay:decide ((40:Int)<(s.size:Int))=true:=aO Z;have hm:gs s.data.toList=false:=by rw[qw];intro h;have:=((qB _).1 h).2.1;rw[em.len]at this;omega
  exact afz
 have k1:s.toList.isEmpty=false:=DG;have ay:decide ((40:Int)<(s.size:Int))=false:=be Z;have af:=znr s 46 (((w.alloc (.cells #[.slice none 0 0] 173)).alloc (.cells #[.bool false] 4)).alloc (.cells #[.slice none 0 0] 173));obtain⟨ai,HD⟩:=ak af hD;clear af hD
 gi_wp2
 refine⟨trivial,(AP.2 ai.o).mono ?_⟩;rintro e bk ⟨rfl,rfl⟩
 gi_wp2
 have aj:H8 (w.heap.size+1+1+1) (w.heap.size+1+1+1+1) (w.heap.size+1+1+1+1+1) 46 s ((((((w.alloc (.cells #[.slice none 0 0] 173)).alloc (.cells #[.bool false] 4)).alloc (.cells #[.slice none 0 0] 173)).alloc (.cells #[.string s] 9)).alloc (.cells #[.string ⟨#[46]⟩] 9)).alloc (.cells #[.int .i64 0] 3)):=by have a1:=dx (w:=(((w.alloc (.cells #[.slice none 0 0] 173)).alloc (.cells #[.bool false] 4)).alloc (.cells #[.slice none 0 0] 173))) (o:=.cells #[.string s] 9) (n:=w.heap.size+1+1+1) ae;have a2:=dx (w:=((((w.alloc (.cells #[.slice none 0 0] 173)).alloc (.cells #[.bool false] 4)).alloc (.cells #[.slice none 0 0] 173)).alloc (.cells #[.string s] 9))) (o:=.cells #[.string ⟨#[46]⟩] 9) (n:=w.heap.size+1+1+1+1) ae;have a3:=dx (w:=(((((w.alloc (.cells #[.slice none 0 0] 173)).alloc (.cells #[.bool false] 4)).alloc (.cells #[.slice none 0 0] 173)).alloc (.cells #[.string s] 9)).alloc (.cells #[.string ⟨#[46]⟩] 9))) (o:=.cells #[.int .i64 0] 3) (n:=w.heap.size+1+1+1+1+1) ae;exact ape
 obtain⟨t,A⟩:=Y (((((((w.alloc (.cells #[.slice none 0 0] 173)).alloc (.cells #[.bool false] 4)).alloc (.cells #[.slice none 0 0] 173)).alloc (.cells #[.string s] 9)).alloc (.cells #[.string ⟨#[46]⟩] 9)).alloc (.cells #[.int .i64 0] 3)));have bl:t.heap.size=w.heap.size+6:=by rw[A];simp
 rw[←A]at aj⊢;have az:PI w t []:=by rw[A];refine Wn ?_;intro k1;refine⟨(((((((aL _ w).alloc (aE _) _).alloc ae _).alloc aX _).alloc aX _).alloc aX _).alloc aX _),k1 (k1 (k1 (k1 (k1 (dx rfl))))),k1 (k1 (k1 (k1 (dx ae)))),⟨_,k1 (k1 (k1 (dx ae))),pd _ _ _ _⟩,(fun p hp=>by cases hp),bj _⟩
 have bn:=O A;clear A
 refine zle rfl Z (gf:=NT) rfl trivial (mQ func172 aA rfl) (zpo 7 Z _ _ _ 46 s ax t Z Z Z Z Z aj)
  (fun k hk=>YV) Z (aL _ _) rfl
  (fun pre W=>w.heap.size+6≤W.heap.size∧PI w W pre) (fun pre W=>w.heap.size+6≤W.heap.size∧PX w W pre) (OwnFrom.and (zia _) (PI.own Z)) (OwnFrom.and (zia _) (PX.own Z)) (fun pre W i u h=>⟨Ta,PI.lets w pre W i u h.2⟩) (fun pre W i u h=>⟨Ta,PX.lets w pre W i u h.2⟩) ⟨Z,az⟩
  (fun x=>{ tmps:=#[.string s,undef,.pointer (some ⟨w.heap.size,0,none⟩),.pointer (some ⟨w.heap.size+1,0,none⟩),.pointer (some ⟨w.heap.size+1+1,0,none⟩),.string x,undef,undef,.string s,.bool false,.bool false,.string s,.int .i64 (s.size:Int),.bool false,.bool false,.string s,
   .func (.func NT) #[] #[.pointer (some ⟨w.heap.size+1+1+1+1,0,none⟩),.pointer (some ⟨w.heap.size+1+1+1,0,none⟩),.pointer (some ⟨w.heap.size+1+1+1+1+1,0,none⟩)],.string x,undef,undef,undef,undef,undef,undef,undef,undef,undef,undef,undef,undef,undef,undef,undef,undef,undef],defers:=[] }) ?assign ?body ?done ?stop
 case assign=>
  intro l x W K z
  gi_wp2
  exact z
 case body=>
  rintro l pre x W ⟨C,h⟩ ⟨aB,_⟩;obtain⟨v,hv,aY⟩:=h.out;obtain⟨a,cap,rfl⟩:=bg aY;have R:=read_any x Z (HD.o.below h.bm);obtain⟨b,hb⟩:=Y (eu x.data.toList);obtain⟨m,hm⟩:=Y pre.length;have al:W.cell? ⟨w.heap.size+1+1,0,none⟩=some (.slice a pre.length cap):=J hv 0;unfold ybb at R;rw[←hb]at R;revert h aB hv aY R al;refine bX ?_;intro Hh Hx Hv bY HR LS
  gi_wp2
  refine⟨trivial,(CallsIn.inRound l (AP.2 HR.o)).mono ?_⟩;rintro e W2 ⟨⟨r,q,y,rfl,aC⟩,S⟩;have N:Below W.heap.size W (W2.alloc (.cells #[.int .i64 r,.int .i64 q,.string y] 199)):=S.alloc S.size _;have T:=G N Hh.o.r2;have U:=G N Hh.o.r3;have d0:(W2.alloc (.cells #[.int .i64 r,.int .i64 q,.string y] 199)).cell? ⟨w.heap.size+1+1,0,none⟩=some (.slice a pre.length cap):=ab N LS.o;have d1:(W2.alloc (.cells #[.int .i64 r,.int .i64 q,.string y] 199)).cell? ⟨w.heap.size,0,none⟩=some (.slice none 0 0):=J T 0;have d2:(W2.alloc (.cells #[.int .i64 r,.int .i64 q,.string y] 199)).cell? ⟨w.heap.size+1,0,none⟩=some (.bool false):=J U 0;have f1:=aG T 0;have f2:=aG U 0;revert hb hm S aC N T U;refine eb ?_;intro Hb Hm bh iA bK ga gZ;clear ai
  cases b with
  |false=>have F:=Hh.o.no (B:=t.heap.size) C bK.o (.inl Hb.o.symm);refine aiz ?_;intro oE;have cd:=O F;clear F;exact Xw
  |true=>
   by_cases L:pre.length=8
   ·have F:=Hh.o.no (B:=t.heap.size) C bK.o (x:=x) (.inr L);refine aiz ?_;intro oE;have aD:((pre.length:Int)==8)=true:=by rw[L];rfl
    obtain⟨cd,an⟩:=ak F L;clear F L;exact Xw
   have aD:((pre.length:Int)==8)=false:=l9;have X:=Hh.o.len;have aF:=fh bY.o bK.o;have ao:=ydn (iA.o rfl);obtain⟨aI,hi,aJ,aK,aM⟩:=F_ info_part;have au:=fun(w1:World)(v':Value)=>Hh.o.add (B:=t.heap.size) C bK.o Hv.o bY.o (w1:=w1) (v':=v') (x:=x) (tmp:=.cells #[.int .i64 r,.int .i64 q,.string y] 199);rw[ao]at au;have av:w.heap.size+6≤(W2.alloc (.cells #[.int .i64 r,.int .i64 q,.string y] 199)).heap.size:=by have:=bK.o.size;omega
   have g1:pre.length+1≤maxLen:=cY;have aN:(pre.length+1)*32≤140737488355328:=Z;have aP:w.heap.size+6≤((W2.alloc (.cells #[.int .i64 r,.int .i64 q,.string y] 199)).alloc (.cells #[.int .i64 r,.int .i64 q,.string y] 199)).heap.size:=by simp at av⊢;omega
   have aQ:=lit3 (W2.alloc (.cells #[.int .i64 r,.int .i64 q,.string y] 199)) (.int .i64 r) (.int .i64 q) (.string y) 199 (n:=W2.heap.size+1) ae;have aR:∀u∈[Value.int .i64 r,.int .i64 q,.string y],u.oneCell'=true:=dW;revert L X aF ao au av g1 aN aP aQ aR;refine kH ?_;intro an _ aT _ aU _ aV aW aZ a6 a7
   gi_wp2_with (gi_at_builtin;refine wpListIn_append_own _ rfl _ _ 173 rfl (w.heap.size+6) 199 aI (.agg #[.int .i64 0,.int .i64 0,.string ⟨#[]⟩]) 3 32 underlying173 hi aJ aK aM rfl D _ _ _ rfl (aT.o.alloc _) ⟨W2.heap.size+1,0,none⟩ 1 1 [.int .i64 r,.int .i64 q,.string y] rfl rfl a6.o a7.o aV.o aW.o aZ.o ?_;intro v' w1 aa aw _;obtain⟨g',cap',rfl⟩:=ownsRow_succ aa;have eH:=aU.o w1 _ aa aw Hb.o.symm an.o;clear aa aw;refine Hid.o ?_)
   exact ahq
 case done=>
  rintro ml bo W hD rfl ⟨C,h⟩ z;obtain⟨v,hv,aY⟩:=h.out;obtain⟨a,cap,rfl⟩:=bg aY;have al:W.cell? ⟨w.heap.size+1+1,0,none⟩=some (.slice a (ex 46 s).length cap):=J hv 0;have c1:=J h.r2 0;have c2:=J h.r3 0;have f1:=aG h.r2 0;have f2:=aG h.r3 0;simp only[aq,ar]at c1 c2;have hm:=may_yes h0 Z h.ok h.len;revert h hv aY hm;refine bV ?_;intro Hh Hv bY Hm
  gi_wp2
  have ad:((W.setCell ⟨w.heap.size,0,none⟩ (.slice a (ex 46 s).length cap)).setCell ⟨w.heap.size+1,0,none⟩ (.bool true)).heap[ml]?=some (.deferred (some [])):=ah (ah z Z) Z;have a8:=ah (b:=w.heap.size+1) (i:=0) (u:=.bool true) (ag W w.heap.size 0 _ _ (.slice a (ex 46 s).length cap) Hh.o.r2) Z;have ba:=ag _ (w.heap.size+1) 0 _ _ (.bool true) (ah (b:=w.heap.size) (i:=0) (u:=.slice a (ex 46 s).length cap) Hh.o.r3 Z);have bb:Below w.heap.size w ((W.setCell ⟨w.heap.size,0,none⟩ (.slice a (ex 46 s).length cap)).setCell ⟨w.heap.size+1,0,none⟩ (.bool true)):=(Hh.o.bm.setCell (p:=⟨w.heap.size,0,none⟩) (aE _) _).setCell (p:=⟨w.heap.size+1,0,none⟩) R_ _;have bc:((W.setCell ⟨w.heap.size,0,none⟩ (.slice a (ex 46 s).length cap)).setCell ⟨w.heap.size+1,0,none⟩ (.bool true)).ownsRow (w.heap.size+6) 199 3 (.slice a (ex 46 s).length cap) (ge 46 s.data.toList).length (sM (ge 46 s.data.toList)):=by have X:=rG 46 s;rw[←X,←Nq];have:=sr (sr bY.o (p:=w.heap.size) Z 0 (.slice a (ex 46 s).length cap)) (p:=w.heap.size+1) Z 0 (.bool true);exact this
  refine⟨ae,.inl ⟨_,_,rfl,Rh ad,?_⟩⟩;refine⟨_,IB rfl rfl rfl ((tV Z).trans a8) ((tV Z).trans ba) (isAgg173 _) (IP _),?_⟩;refine⟨_,by rw[Hm.o],fun _=>ET (ownsRow_putObj bc _ ad rfl) Z,fun h=>YX,bb.trans (belowK_b (w:=w) (aE _) _ ml _ _ Z ad rfl rfl)⟩
 case stop=>
  rintro ml pre W hD bd ⟨C,h⟩ z;have hm:=may_no bd h.bad;have Hm:=O hm;clear hm
  gi_wp2
  refine⟨ae,.inl ⟨_,_,rfl,Rh z,?_⟩⟩;refine⟨_,IB rfl rfl rfl ((tV Z).trans h.r2) ((tV Z).trans h.r3) (isAgg173 _) (IP _),?_⟩;refine⟨_,by rw[Hm.o],fun h=>YX,fun _=>rfl,h.bm.trans (belowK_b (w:=w) (aE _) _ ml _ _ Z z rfl rfl)⟩
end
section
open RowKit Lib av
theorem zlj{b:Func}{p:Tmp}(c:b.results=#[.cell p 199]){R:Ending→World→Prop}{a:Act}{x:Value}(d:a.tmps.getD p undef=.pointer (some ⟨g,0,none⟩))
  (e:w.heap[g]?=some (.cells #[x,y,z] 199 (0,0))) (O:a.defers=[]) (f:R (.returned (.agg #[x,y,z])) w):bodyPost prog b R .ret a w :=
 fZ (yx c a.tmps w g _ _ _ _ d e underlying199 rfl aA) O f
theorem zhb:∀(a:List (List UInt8)) (i j:Nat) (h:i<a.length),j<3→(sM a)[i*3+j]?=(AY a[i])[j]?
 |p::r,0,j,_,b=>by simp only[sM,oR,AQ,og,awm];rw[pS (by simpa [AY] using b)]
 |p::r,i+1,j,h,b=>by
  have:=zhb r i j w_ b;simp only[sM,oR,aCj]at this⊢;rw[nC (by simp[AY];omega),←this];congr 1;simp[AY];omega
theorem ydj{a:List (List UInt8)}(h:w.ownsRow B 199 3 v n (sM a))(_:n=a.length)(i:Nat)(hi:i<a.length):
  ∃g cap,v=.slice (some ⟨g,0,none⟩) n cap∧n≤cap∧w.cell? ⟨g,i*3,none⟩=some (.int .i64 (kB a[i]))∧w.cell? ⟨g,i*3+1,none⟩=some (.int .i64 (jc a[i]))∧w.cell? ⟨g,i*3+2,none⟩=some (.string ⟨(mM a[i]).toArray⟩):=by
 obtain⟨g,cap,rfl,_,_,h1,_,b⟩:=AH h Z;exact⟨g,cap,rfl,h1,b _ _ (zhb a i 0 hi Z),b _ _ (zhb a i 1 hi Z),b _ _ (zhb a i 2 hi Z)⟩
theorem at_any{j:List (List UInt8)}(h:w.ownsRow B 199 3 v j.length (sM j))(m:j.length≤8)(i:Nat)(_:i<8):
  Calls prog 167 #[v,.int .i64 i] w fun e w'=>e=.returned (.agg #[.int .i64 (kB (j.getD i [])),.int .i64 (jc (j.getD i [])),.string ⟨(mM (j.getD i [])).toArray⟩])∧Below w.heap.size w w':=by
 refine agm ?_;intro ai fB;by_cases hi:i<j.length
 ·obtain⟨g,cap,rfl,q,l,c1,c2⟩:=ydj h rfl i hi;rw[FV hi];have d0:=ab ai l;have d1:=ab ai c1;have d2:=ab ai c2;obtain⟨n,hn⟩:=Y j.length;obtain⟨x,hx⟩:=Y (kB j[i]);obtain⟨y,hy⟩:=Y (jc j[i]);obtain⟨z,hz⟩:=Y ((⟨(mM j[i]).toArray⟩:ByteArray));rw[←hx]at l d0⊢;rw[←hy]at c1 d1⊢;rw[←hz]at c2 d2⊢;rw[←hn]at h m hi q⊢;have p:(i:Int)<(n:Int):=Z;have r:decide ((i:Int)<(n:Int))=true:=aO p;revert ai fB h hn hx hy hz;refine eb ?_;intro aB kl Hh Hn Hx Hy Hz;clear l c1 c2;go_enter func167,ntmps167;go_wp2_with fail;exact zlj rfl rfl (dx rfl) rfl ⟨by rw[Hx.o,Hy.o,Hz.o],aS _ _⟩
 obtain⟨a,cap,rfl⟩:=bg h;rw[FW Z];obtain⟨n,hn⟩:=Y j.length;rw[←hn]at h m hi⊢;have p:decide ((i:Int)<(n:Int))=false:=be Z;revert ai fB h hn;refine bV ?_;intro aB kl Hh Hn;go_enter func167,ntmps167;refine cK ?_;exact zlj rfl rfl (dx rfl) rfl ⟨rfl,aS _ _⟩
end
section
open Shelf RowKit Lib Go.Sort av
theorem or3(r a b c:Int)(h:(if a≠0 then a else if b≠0 then b else c)=r):ph [a,b,c]=r:=by
 rw[←h];unfold ph ph ph ph;split
 ·rfl
 split
 ·rfl
 split
 ·rfl
 rename_i h;simpa using Eq.symm w_
theorem or3_any(c1 c2 c3 r:Int)(b:ph [c1,c2,c3]=r)(W:World):Calls prog 168 #[.slice (some ⟨W.heap.size,0,none⟩) 3 3] (W.alloc (.cells #[.int .i64 c1,.int .i64 c2,.int .i64 c3] 3)).drew fun e w'=>e=.returned (.int .i64 r)∧(W.alloc (.cells #[.int .i64 c1,.int .i64 c2,.int .i64 c3] 3)).drew=w':=by
 rw[←b]
 exact or_any W.heap.size 0 3 [c1,c2,c3] _ ae (by
  intro i x a;show (W.alloc (.cells #[.int .i64 c1,.int .i64 c2,.int .i64 c3] 3)).cell? ⟨W.heap.size,0+i,none⟩=_;rw[og,SD]
  match i,a with
  |0,a=>simpa using a
  |1,a=>simpa using a
  |2,a=>simpa using a)
theorem zlf(a b:ByteArray)(aK:a.size≤1000000)(K:b.size≤1000000)(L:dN w):
  Calls prog 152 #[.string a,.string b] w fun e w'=>e=.returned (.int .i64 (me a.data.toList b.data.toList))∧Below w.heap.size w w':=by
 obtain⟨r,R⟩:=Y (me a.data.toList b.data.toList);have S:=zq9 a aK L;have T:=fun(W:World)(h:Below w.heap.size w W)=>zq9 b K (L.below h);obtain⟨ps,Ti⟩:=Y (ge 46 a.data.toList);obtain⟨qs,wg⟩:=Y (ge 46 b.data.toList);obtain⟨p,hp⟩:=Y (gs a.data.toList);obtain⟨q,hq⟩:=Y (gs b.data.toList);have aN:r=if p=false∧q=false then 0 else if p=false then -1 else if q=false then 1 else nG ps qs 0 (max ps.length qs.length):=by rw[R,hp,hq,Ti,wg];rfl
 have aO:p=true→ps.length≤8:=fun h=>by rw[Ti];exact ((qB _).1 (by rw[←hp];exact h)).2.2.2
 have aP:q=true→qs.length≤8:=fun h=>by rw[wg];exact ((qB _).1 (by rw[←hq];exact h)).2.2.2
 rw[←R];unfold zqa at S T;rw[←Ti,←hp]at S;rw[←wg,←hq]at T;revert L R Ti wg S hp T hq aN aO aP;refine kH ?_;intro _ _ _ _ HP _ au _ awf av aw;go_enter func152,ntmps152;go_wp2_with fail;refine qJ ?_;rintro e w1 ⟨v1,rfl,jo,cz,ai⟩;have aR:=au.o w1 ai;revert jo cz ai aR;refine bV ?_;intro En oY aB yj;go_wp2_with fail;refine yj.o.mono ?_;rintro e w2 ⟨v2,rfl,hv2,cS,af⟩;have K:=aB.o.trans (af.mono aB.o.size);revert hv2 cS af K;refine bV ?_;intro Eo fV bh Hb
 cases p with
 |false=>
  cases q with
  |false=>have h0:r=0:=Tb;exact Wv
  |true=>have h0:r= -1:=Tb;exact Wv
 |true=>
  cases q with
  |false=>have h0:r=1:=Tb;exact Wv
  |true=>
   have aT:=av.o rfl;have aU:=aw.o rfl;have U:=fh (En.o rfl) bh.o;have X:=Eo.o rfl;obtain⟨a1,_,rfl⟩:=bg U;obtain⟨a2,tY,rfl⟩:=bg X;have h0:r=nG ps qs 0 (max ps.length qs.length):=Tb;obtain⟨m,hm⟩:=Y ps.length;obtain⟨n,hn⟩:=Y qs.length;rw[←hm]at aT U h0⊢;rw[←hn]at aU X h0⊢;obtain⟨N,hN⟩:=Y (max m n);rw[←hN]at h0;have bb:N≤8:=Z;have bc:max (m:Int) (n:Int)=(N:Int):=Z;revert U hm X hn h0;refine bU ?_;intro Q8 Hm Ho2 Hn H0;clear En Eo oY fV awf av aw HP au yj;go_wp2_with fail;go_loopw [41] (fun i wr=>∃k:Nat,k≤N∧i=.int .i64 k∧r=nG ps qs k (N-k)∧Below w2.heap.size w2 wr) (fun i _=>N-(RowKit.intOf i).toNat)
   case atStart=>exact⟨0,bj _,rfl,H0.o,aL _ _⟩
   case round=>
    obtain⟨k,_,rfl,C,v⟩:=hrel;by_cases bd:k<N
    ·have aa:=fh Q8.o v;have ad:=fh Ho2.o v;have ag:=Hm.o;have ah:=Hn.o;rw[ag]at aa;rw[ah]at ad;have s:=at_any aa Z k Z;have t:=fun(W:World)(h:Below wr.heap.size wr W)=>at_any (fh ad h) Z k Z;rw[←ag]at s;rw[←ah]at t;obtain⟨x,hx⟩:=Y (ps.getD k []);obtain⟨y,hy⟩:=Y (qs.getD k []);rw[←hx]at s;rw[←hy]at t;have ax:r=if D0 x y≠0 then D0 x y else nG ps qs (k+1) (N-(k+1)):=by rw[C,show N-k=(N-(k+1))+1 from Z,hx,hy];rfl
     obtain⟨c,aj⟩:=Y (D0 x y);rw[←aj]at ax;obtain⟨r1,fB⟩:=Y (kB x);obtain⟨m1,pI⟩:=Y (jc x);obtain⟨t1,jn⟩:=Y ((⟨(mM x).toArray⟩:ByteArray));obtain⟨r2,Y4⟩:=Y (kB y);obtain⟨m2,jP⟩:=Y (jc y);obtain⟨t2,ht2⟩:=Y ((⟨(mM y).toArray⟩:ByteArray));rw[←fB,←pI,←jn]at s;rw[←Y4,←jP,←ht2]at t;obtain⟨c1,pA⟩:=Y (AX r1 r2);obtain⟨c2,gX⟩:=Y (AX m1 m2);obtain⟨c3,jj⟩:=Y (N8 t1.data.toList t2.data.toList);have ay:=fun W=>zr2 r1 r2 W;have az:=fun W=>zr2 m1 m2 W;have aA:=fun W=>zx5 t1 t2 W;rw[←pA]at ay;rw[←gX]at az;rw[←jj]at aA;have hF:=or3_any c1 c2 c3 c (or3 c c1 c2 c3 (by rw[aj,pA,gX,jj,fB,Y4,pI,jP,jn,ht2];rfl));clear fB Y4 pI jP jn ht2 pA gX jj aj ag ah;revert C v aa ad hx hy ax s t ay az aA hF;refine zN ?_;intro aV al fG q9 Hx Hy ga HA HB TZ qW yW HF;go_wp2_with fail;refine HA.o.mono ?_;rintro e w3 ⟨rfl,aM⟩;have aC:=HB.o w3 aM;obtain⟨Md,bK⟩:=ak aC aM;clear aC aM;clear HB;go_wp2_with fail;refine Md.o.mono ?_;rintro e w4 ⟨rfl,bA⟩;have aD:=al.o.trans ((bK.o.trans (bA.mono bK.o.size)).mono al.o.size);obtain⟨dL,cQ⟩:=ak bA aD;clear bA aD;obtain⟨A,s⟩:=Y (Obj.cells #[.int .i64 r1,.int .i64 m1,.string t1] 199);obtain⟨B,t⟩:=Y (Obj.cells #[.int .i64 r2,.int .i64 m2,.string t2] 199);obtain⟨pa,hpa⟩:=Y w4.heap.size;obtain⟨pb,oA⟩:=Y (w4.heap.size+1);obtain⟨W0,bw⟩:=Y ((w4.alloc A).alloc B);have aE:W0.heap[pa]?=some (.cells #[.int .i64 r1,.int .i64 m1,.string t1] 199 (0,0)):=by rw[bw,hpa];exact G (aS _ _) (by rw[s];exact dq _ _)
     have aF:W0.heap[pb]?=some (.cells #[.int .i64 r2,.int .i64 m2,.string t2] 199 (0,0)):=by rw[bw,oA,t,show w4.heap.size+1=(w4.alloc A).heap.size from ae];exact dq _ _
     have aW:Below w2.heap.size w2 W0:=by rw[bw];exact (cQ.o.alloc cQ.o.size _).alloc (by have:=cQ.o.size;simp;omega) _
     obtain⟨aG,aH,aI,_,_,_⟩:=y9 aE;obtain⟨y0,y1,y2,_,_,_⟩:=y9 aF;revert s t hpa oA bw aE aF aW;refine fg ?_;intro HA HB l8 kU U5 HX HY HbW;go_upto_region 13 with fail;rw[←HA.o,←HB.o,←U5.o,←kU.o,←l8.o];have aX:W0.cell? ⟨pa,0,none⟩=some (.int .i64 r1)∧W0.cell? ⟨pa,1,none⟩=some (.int .i64 m1)∧W0.cell? ⟨pa,2,none⟩=some (.string t1)∧W0.cell? ⟨pb,0,none⟩=some (.int .i64 r2)∧W0.cell? ⟨pb,1,none⟩=some (.int .i64 m2)∧W0.cell? ⟨pb,2,none⟩=some (.string t2):=⟨aG,aH,aI,y0,y1,y2⟩
     have aY:∀o,(W0.drew.alloc o).cell? ⟨pa,0,none⟩=some (.int .i64 r1)∧(W0.drew.alloc o).cell? ⟨pa,1,none⟩=some (.int .i64 m1)∧(W0.drew.alloc o).cell? ⟨pa,2,none⟩=some (.string t1)∧(W0.drew.alloc o).cell? ⟨pb,0,none⟩=some (.int .i64 r2)∧(W0.drew.alloc o).cell? ⟨pb,1,none⟩=some (.int .i64 m2)∧(W0.drew.alloc o).cell? ⟨pb,2,none⟩=some (.string t2):=fun o=>
      ⟨ab (aS W0.drew o) aG,ab (aS W0.drew o) aH,ab (aS W0.drew o) aI,ab (aS W0.drew o) y0,ab (aS W0.drew o) y1,ab (aS W0.drew o) y2⟩
     have aZ:∀o,Below w2.heap.size w2 (W0.alloc o).drew:=fun o=>(HbW.o.alloc HbW.o.size o).drew;revert aX aY aZ;refine fo ?_;intro HS nX aAt;clear HA HB U5 l8 kU HX HY
     go_region_held3 (fun w'=>w'.cell? ⟨pa,0,none⟩=some (.int .i64 r1)∧w'.cell? ⟨pa,1,none⟩=some (.int .i64 m1)∧w'.cell? ⟨pa,2,none⟩=some (.string t1)∧w'.cell? ⟨pb,0,none⟩=some (.int .i64 r2)∧w'.cell? ⟨pb,1,none⟩=some (.int .i64 m2)∧w'.cell? ⟨pb,2,none⟩=some (.string t2)) (first|exact HS.o|exact nX.o _) (first
      |(go_at_call_of 169 (Value.int .i64 r1);refine (TZ.o _).mono ?_;rintro e an ⟨rfl,rfl⟩)
      |(go_at_call_of 169 (Value.int .i64 m1);refine (qW.o _).mono ?_;rintro e an ⟨rfl,rfl⟩)
      |(go_at_call_of 170 (Value.string t1);refine (yW.o _).mono ?_;rintro e an ⟨rfl,rfl⟩)
      |(go_at_call 168;refine (HF.o W0).mono ?_;rintro e an ⟨rfl,rfl⟩))
     all_goals
      have z:=aAt.o (.cells #[.int .i64 c1,.int .i64 c2,.int .i64 c3] 3);generalize (W0.alloc (.cells #[.int .i64 c1,.int .i64 c2,.int .i64 c3] 3)).drew=be at z⊢;by_cases u:c=0
      ·have a6:(c !=0)=false:=by rw[u];rfl
       have F:r=nG ps qs (k+1) (N-(k+1)):=by rw[ga.o,E (by rw[u];simp)]
       obtain⟨aJ,a7,ao⟩:=aQ z u F;clear z u F;go_wp2_with fail;go_roundw
       case rel=>exact⟨k+1,Z,cj,ao.o,aJ.o⟩
       case measure=>exact gT
      have a6:(c !=0)=true:=by simpa using u
      have F:r=c:=by rw[ga.o,M u]
      have aq:=Hb.o.trans (z.mono Hb.o.size);revert z u F aq;refine bV ?_;intro aJ a7 ao ar;go_wp2_with fail;go_ret;exact⟨E2 ao.o.symm,ar.o⟩
    obtain rfl:k=N:=Z;have a8:r=0:=by rw[C,sS];rfl
    have aq:=Hb.o.trans (v.mono Hb.o.size);revert v C a8 aq;refine bV ?_;intro al aV ba ar;go_wp2_with fail;go_ret;exact⟨E2 ba.o.symm,ar.o⟩
end
section
open RowKit Lib av
theorem sW{kE:Ending}(h:Below w.heap.size w W)(c:Calls prog f args W fun e w'=>e=kE∧Below W.heap.size W w'):Calls prog f args W fun e w'=>e=kE∧Below w.heap.size w w' :=
 c.mono fun _ _ ⟨a,b⟩=>⟨a,h.trans (b.mono h.size)⟩
theorem zrp(s:ByteArray)(i:s.size≤1000000)(f:dN w):Calls prog 86 #[.string s] w fun e w'=>e=.returned (.bool (gs s.data.toList))∧Below w.heap.size w w':=by
 have d:=zq9 s i f;unfold zqa at d;obtain⟨p,g⟩:=Y (gs s.data.toList);rw[←g]at d⊢;obtain⟨HP,Hp,HD⟩:=aQ d g f;clear d g f;go_enter func86,ntmps86;go_wp2_with fail;refine qJ ?_;rintro e w1 ⟨v,rfl,_,_,ai⟩;have aB:=O ai;clear ai;exact RQ
theorem zxa(h:s.size=0):gO s.data.toList=true:=by unfold gO;rw[(mc s).2 h];rfl
theorem yck(h:s.size≠0):gO s.data.toList=gs s.data.toList:=by unfold gO;rw[decide_eq_false (fun e=>h ((mc s).1 e))];rfl
theorem zxb(s:ByteArray)(i:s.size≤1000000)(d:dN w):Calls prog 149 #[.string s] w fun e w'=>e=.returned (.bool (gO s.data.toList))∧Below w.heap.size w w':=by
 by_cases h0:s.size=0
 ·rw[zxa h0];have j:s.toList.isEmpty=true:=F5;have l:=O d;clear d;go_enter func149,ntmps149;refine cK ?_;exact Gv
 have f:=zrp s i d;rw[yck h0];have j:s.toList.isEmpty=false:=DG;obtain⟨p,g⟩:=Y (gs s.data.toList);rw[←g]at f⊢;obtain⟨HP,Hp,l⟩:=aQ f g d;clear f g d;go_enter func149,ntmps149;exact Xu
theorem zs4(s:ByteArray)(f:s.size≤1000000)(w:World):Calls prog 132 #[.string s] w fun e w'=>e=.returned (.bool (gO s.data.toList))∧Below w.heap.size w w':=by
 by_cases h0:s.size=0
 ·rw[zxa h0];have g:s.toList.isEmpty=true:=F5;go_enter func132,ntmps132;refine cK ?_;exact Gv
 have c:=NI s f w;rw[yck h0];have g:s.toList.isEmpty=false:=DG;obtain⟨p,d⟩:=Y (gs s.data.toList);rw[←d]at c⊢;obtain⟨HP,Hp⟩:=ak c d;clear c d;go_enter func132,ntmps132;exact Xu
theorem ahead_l{a b:ByteArray}(h:a.size=0):ja a.data.toList b.data.toList=false:=by unfold ja;rw[(mc a).2 h];rfl
theorem ahead_r{a b:ByteArray}(h:b.size=0):ja a.data.toList b.data.toList=false:=by unfold ja;rw[(mc b).2 h];simp
theorem ahead_c{a b:ByteArray}(h:a.size≠0)(k:b.size≠0):ja a.data.toList b.data.toList=decide (me a.data.toList b.data.toList<0):=by
 have h1:decide (a.data.toList≠[])=true:=aO (fun e=>h ((mc a).1 e));have c:decide (b.data.toList≠[])=true:=aO (fun e=>k ((mc b).1 e));unfold ja;rw[h1,c];rfl
theorem zr8(a b:ByteArray)(g:a.size≤1000000)(i:b.size≤1000000)(hD:dN w):Calls prog 150 #[.string a,.string b] w fun e w'=>e=.returned (.bool (ja a.data.toList b.data.toList))∧Below w.heap.size w w':=by
 by_cases h0:a.size=0
 ·rw[ahead_l h0];have j:a.toList.isEmpty=true:=F5;exact ana
 have j:a.toList.isEmpty=false:=DG;by_cases h1:b.size=0
 ·rw[ahead_r h1];have l:b.toList.isEmpty=true:=by rw[em.ii,aO h1]
  exact ana
 have l:b.toList.isEmpty=false:=by rw[em.ii,be h1]
 have d:=zlf a b g i hD;rw[ahead_c h0 h1];obtain⟨p,f⟩:=Y (me a.data.toList b.data.toList);rw[←f]at d⊢;obtain⟨HP,Hp,HD⟩:=aQ d f hD;clear d f hD;go_enter func150,ntmps150;exact Xu
def mN(a b:ByteArray):ByteArray:=if a.size=0∨ja a.data.toList b.data.toList=true then b else a
def mR(a b:ByteArray):ByteArray:=if a.size=0∨ja b.data.toList a.data.toList=true then b else a
theorem zji(a b:ByteArray):(mN a b).data.toList=mO a.data.toList b.data.toList:=by
 unfold mN mO;simp only[mc];split<;>rfl
theorem zi3(a b:ByteArray):(mR a b).data.toList=mS a.data.toList b.data.toList:=by
 unfold mR mS;simp only[mc];split<;>rfl
theorem zlx{a b:ByteArray}(_:a.size≤n)(_:b.size≤n):(mN a b).size≤n:=by unfold mN;split<;>assumption
theorem zjy{a b:ByteArray}(_:a.size≤n)(_:b.size≤n):(mR a b).size≤n:=by unfold mR;split<;>assumption
theorem zw7(a b:ByteArray)(f:a.size≤1000000)(g:b.size≤1000000)(hD:dN w):Calls prog 155 #[.string a,.string b] w fun e w'=>e=.returned (.string (mN a b))∧Below w.heap.size w w':=by
 by_cases h0:a.size=0
 ·have hv:mN a b=b:=by unfold mN;rw[if_pos (.inl h0)]
  rw[hv];have i:a.toList.isEmpty=true:=F5;obtain⟨HD,Hv⟩:=ak hD hv;clear hD hv;go_enter func155,ntmps155;go_wp2_with fail;exact Gv
 have i:a.toList.isEmpty=false:=DG;have hA:=zr8 a b f g hD;obtain⟨p,hp⟩:=Y (ja a.data.toList b.data.toList);rw[←hp]at hA
 cases p with
 |true=>
  have hv:mN a b=b:=by unfold mN;rw[if_pos (.inr hp.symm)]
  exact ain
 |false=>
  have hv:mN a b=a:=by unfold mN;rw[if_neg ats]
  exact ain
theorem zrx(a b:ByteArray)(f:a.size≤1000000)(g:b.size≤1000000)(hD:dN w):Calls prog 154 #[.string a,.string b] w fun e w'=>e=.returned (.string (mR a b))∧Below w.heap.size w w':=by
 by_cases h0:a.size=0
 ·have hv:mR a b=b:=by unfold mR;rw[if_pos (.inl h0)]
  rw[hv];have i:a.toList.isEmpty=true:=F5;obtain⟨HD,Hv⟩:=ak hD hv;clear hD hv;go_enter func154,ntmps154;go_wp2_with fail;exact Gv
 have i:a.toList.isEmpty=false:=DG;have hA:=zr8 b a g f hD;obtain⟨p,hp⟩:=Y (ja b.data.toList a.data.toList);rw[←hp]at hA
 cases p with
 |true=>
  have hv:mR a b=b:=by unfold mR;rw[if_pos (.inr hp.symm)]
  exact aio
 |false=>
  have hv:mR a b=a:=by unfold mR;rw[if_neg ats]
  exact aio
theorem eG{a:World}(h:Below w.heap.size w a)(k:Below a.heap.size a W):Below w.heap.size w W:=h.trans (k.mono h.size)
theorem zt5(lo hi:ByteArray)(w W:World)(h:Below (w.alloc (.cells #[.string lo,.string hi] 51)).heap.size (w.alloc (.cells #[.string lo,.string hi] 51)) W):W.cell? ⟨w.heap.size,0,none⟩=some (.string lo)∧W.cell? ⟨w.heap.size,1,none⟩=some (.string hi):=by
 have h1:=G h (dq w (.cells #[.string lo,.string hi] 51));exact⟨J h1 0,J h1 1⟩
theorem JM(s:ByteArray):s.toList.isEmpty=decide (s.data.toList=[]):=by rw[em.ii];exact rz.2 (mc s).symm
theorem E4(lo hi:ByteArray)(j:lo.size≤1000000)(l:hi.size≤1000000)(g:dN w):Calls prog 124 #[.agg #[.string lo,.string hi]] w fun e w'=>e=.returned (.bool (eg (lo.data.toList,hi.data.toList)))∧Below w.heap.size w w':=by
 refine R5 ?_;intro W0 bw nb ck hw de c0 c1 cM;have m:=fun(W:World)(k:Below W0.heap.size W0 W)=>sW k (zxb lo j (g.below (eG hw k)));have n:=fun(W:World)(k:Below W0.heap.size W0 W)=>sW k (zxb hi l (g.below (eG hw k)));have s:=fun(W:World)(k:Below W0.heap.size W0 W)=>sW k (zr8 hi lo l j (g.below (eG hw k)));obtain⟨p,hp⟩:=Y (gO lo.data.toList);obtain⟨q,hq⟩:=Y (gO hi.data.toList);obtain⟨r,hr⟩:=Y (ja hi.data.toList lo.data.toList);have t:eg (lo.data.toList,hi.data.toList)=(p&&q&&!r):=by rw[hp,hq,hr];rfl
 rw[←hp]at m;rw[←hq]at n;rw[←hr]at s;rw[t];clear t hp hq hr g;revert hw de cM m n s;refine bX ?_;intro Hw cU cr HA u HC;go_enter func124,ntmps124;go_upto_region 1 with (fail);refine mn ?_;clear bw ck;go_wp2_with fail;refine Xd ?_;intro w1 c0 c1 aB
 cases p with
 |false=>exact KD
 |true=>
  go_wp2_with fail
  refine (u.o _ aB.o).mono ?_;rintro e v ⟨rfl,i⟩;obtain⟨c0,c1⟩:=cU.o _ i;have bh:=O i;clear i
  cases q with
  |false=>exact RL
  |true=>exact ahd
theorem Ng(lo hi:ByteArray)(i:lo.size≤1000000)(j:hi.size≤1000000)(w:World):Calls prog 103 #[.agg #[.string lo,.string hi]] w fun e w'=>e=.returned (.bool (eg (lo.data.toList,hi.data.toList)))∧Below w.heap.size w w':=by
 refine R5 ?_;intro W0 bw nb ck hw de c0 c1 cM;have l:=fun(W:World)(k:Below W0.heap.size W0 W)=>sW k (zs4 lo i W);have m:=fun(W:World)(k:Below W0.heap.size W0 W)=>sW k (zs4 hi j W);have n:=fun(W:World)(k:Below W0.heap.size W0 W)=>sW k (Jo hi lo j i W);obtain⟨p,hp⟩:=Y (gO lo.data.toList);obtain⟨q,hq⟩:=Y (gO hi.data.toList);obtain⟨r,hr⟩:=Y (oy hi.data.toList lo.data.toList);obtain⟨d1,k1⟩:=mq lo.toList.isEmpty;obtain⟨d2,k2⟩:=mq hi.toList.isEmpty;have s:eg (lo.data.toList,hi.data.toList)=(p&&q&&(d1 || d2 || !r)):=by rw[←refMay_is,hp,hq,hr,←k1,←k2,JM,JM];rfl
 rw[←hp]at l;rw[←hq]at m;rw[←hr]at n;rw[s];clear s hp hq hr;revert hw de cM l m n;refine bX ?_;intro Hw cU cr HA t HC;go_enter func103,ntmps103;go_upto_region 1 with (fail);refine mn ?_;clear bw ck;go_wp2_with fail;refine Xd ?_;intro w1 c0 c1 aB
 cases p with
 |false=>exact KD
 |true=>
  go_wp2_with fail
  refine (t.o _ aB.o).mono ?_;rintro e u ⟨rfl,g⟩;obtain⟨c0,c1⟩:=cU.o _ g;have bh:=O g;clear g
  cases q with
  |false=>exact RL
  |true=>
   cases d1 with
   |false=>
    cases d2 with
    |false=>exact ahd
    |true=>exact RL
   |true=>exact RL
def txR(lo hi:ByteArray):ByteArray:=if lo=hi∧lo.size≠0 then lo else lo++⟨#[58]⟩++hi
def txS(lo hi:ByteArray):ByteArray:=if eg (lo.data.toList,hi.data.toList)=true then txR lo hi else ⟨#[]⟩
theorem zsl(h a:ByteArray):(h++⟨#[58]⟩++a).data.toList=h.data.toList++58::a.data.toList:=by
 rw[fz,fz,gq];rfl
theorem yf6(h a:ByteArray):(h++⟨#[58]⟩++a).size=h.size+1+a.size:=by
 rw[←em.len,zsl,bM,fO,em.len,em.len];omega
theorem ba_eq{a b:ByteArray}:a=b↔a.data.toList=b.data.toList:=⟨fun h=>by rw[h],em.ext⟩
theorem yah(lo hi:ByteArray):(txR lo hi).data.toList=FH (lo.data.toList,hi.data.toList):=by
 unfold txR FH;simp only[ba_eq,vw,mc];split
 ·rfl
 exact zsl _ _
theorem zsx(lo hi:ByteArray):(txS lo hi).data.toList=textS (lo.data.toList,hi.data.toList):=by
 unfold txS textS;split
 ·exact yah _ _
 rfl
theorem zsy(lo hi:ByteArray):(txR lo hi).size≤lo.size+1+hi.size:=by
 unfold txR;split
 ·omega
 rw[yf6];exact aE _
theorem zpy(lo hi:ByteArray)(_:lo.size≤1000000)(_:hi.size≤1000000)(w:World):Calls prog 106 #[.agg #[.string lo,.string hi]] w fun e w'=>e=.returned (.string (txR lo hi))∧Below w.heap.size w w':=by
 refine R5 ?_;intro W0 bw nb ck hw de c0 c1 cM;refine aoi ?_;intro d1 k1 d2 k2 e0;have d:txR lo hi=if d2=true then (if d1=true then lo++⟨#[58]⟩++hi else lo) else lo++⟨#[58]⟩++hi:=by rw[←k1,←k2,em.ii,em.gu];unfold txR;exact aov
 rw[d];clear d;obtain⟨Hw,_,cr⟩:=aQ hw de cM;clear hw de cM;go_enter func106,ntmps106;go_upto_region 1 with (fail);refine mn ?_;clear bw ck
 cases d2 with
 |false=>exact Xc
 |true=>
  cases d1 with
  |false=>exact Xc
  |true=>exact Xc
theorem zjw(lo hi:ByteArray)(j:lo.size≤1000000)(l:hi.size≤1000000)(f:dN w):Calls prog 100 #[.agg #[.string lo,.string hi]] w fun e w'=>e=.returned (.string (txS lo hi))∧Below w.heap.size w w':=by
 refine R5 ?_;intro W0 bw nb ck hw de c0 c1 cM;refine aoi ?_;intro d1 k1 d2 k2 e0;have g:=fun(W:World)(k:Below W0.heap.size W0 W)=>sW k (E4 lo hi j l (f.below (eG hw k)));refine KN ?_;intro p hp;have i:txS lo hi=if p=true then (if d2=true then (if d1=true then lo++⟨#[58]⟩++hi else lo) else lo++⟨#[58]⟩++hi) else ⟨#[]⟩:=by rw[←k1,←k2,em.ii,em.gu];unfold txS txR;rw[←hp];exact aov
 rw[i];rw[←hp]at g;clear i hp f;revert hw de cM g;refine bV ?_;intro Hw cU cr HA;go_enter func100,ntmps100;go_upto_region 1 with (fail);refine mn ?_;clear bw ck;go_wp2_with fail;refine Xd ?_;intro w1 c0 c1 aB
 cases p with
 |false=>exact KD
 |true=>
  cases d2 with
  |false=>exact KD
  |true=>
   cases d1 with
   |false=>exact KD
   |true=>exact KD
theorem OZ{c:Func}{p u:Tmp}(d:c.results=#[.cell p 51,.tmp u]){R:Ending→World→Prop}{a:Act}{x b:Value}(e:a.tmps.getD p undef=.pointer (some ⟨g,0,none⟩))(f:a.tmps.getD u undef=b)
  (i:w.heap[g]?=some (.cells #[x,y] 51 (0,0))) (O:a.defers=[]) (j:R (.returned (.tuple #[.agg #[x,y],b])) w):bodyPost prog c R .ret a w:=by
 refine fZ (v:=.tuple #[.agg #[x,y],b]) ?_ O j;rw[results_cell_tmp d,e,f];simp only[asAddr,Q9,Result.andThen,It w g 51 51 _ _ _ i Oj rfl aA]
theorem aCo{b:Func}{p:Tmp}(c:b.results=#[.cell p 51]){R:Ending→World→Prop}{a:Act}{x:Value}(d:a.tmps.getD p undef=.pointer (some ⟨g,0,none⟩))(e:w.heap[g]?=some (.cells #[x,y] 51 (0,0)))(O:a.defers=[])(f:R (.returned (.agg #[x,y])) w):bodyPost prog b R .ret a w :=
 fZ (yx c a.tmps w g _ _ _ _ d e Oj rfl aA) O f
theorem cP{t:TypeId}{x:Value}(h:w.heap[g]?=some (.cells #[x,y] t (0,0))):w.cell? ⟨g,0,none⟩=some x∧w.cell? ⟨g,1,none⟩=some y∧w.frozen? ⟨g,0,none⟩=false∧w.frozen? ⟨g,1,none⟩=false :=
 ⟨J h 0,J h 1,aG h 0,aG h 1⟩
theorem GC{t:TypeId}{x:Value}(u v:Value)(h:w.heap[g]?=some (.cells #[x,y] t (0,0))):((w.setCell ⟨g,0,none⟩ u).setCell ⟨g,1,none⟩ v).heap[g]?=some (.cells #[u,v] t (0,0)):=by
 have a:=ag _ g 0 _ _ u h;have b:=ag _ g 1 _ _ v a;exact b
theorem ik{a:World}(u v:Value)(h:Below B a w)(b:B≤g):Below B a ((w.setCell ⟨g,0,none⟩ u).setCell ⟨g,1,none⟩ v):=(h.setCell (p:=⟨g,0,none⟩) b _).setCell (p:=⟨g,1,none⟩) b _
theorem tf{a b c d:ByteArray}{p q:Bool}(h1:a=c)(e:b=d)(f:p=q):Ending.returned (.tuple #[.agg #[.string a,.string b],.bool p])=.returned (.tuple #[.agg #[.string c,.string d],.bool q]):=by rw[h1,e,f]
def spB(s:ByteArray):ByteArray×ByteArray:=if (cut s.data.toList [58]).2.2=true then (⟨(cut s.data.toList [58]).1.toArray⟩,⟨(cut s.data.toList [58]).2.1.toArray⟩) else (⟨(cut s.data.toList [58]).1.toArray⟩,⟨(cut s.data.toList [58]).1.toArray⟩)
def spV(s:ByteArray):ByteArray×ByteArray:=if n0 s.data.toList=true then spB s else (⟨#[]⟩,⟨#[]⟩)
theorem zol(s:ByteArray):((spB s).1.data.toList,(spB s).2.data.toList)=spO s.data.toList:=by
 unfold spB spO;split<;>rfl
theorem zqs(s:ByteArray):(cut s.data.toList [58]).1.length≤s.size∧(cut s.data.toList [58]).2.1.length≤s.size:=by
 rw[←em.len];rcases zm4 s.data.toList with h|⟨a,b,c,h⟩
 ·rw[UV h];exact⟨aE _,bj _⟩
 rw[c,cut_at h];constructor<;>simp
 omega
theorem zv2(s:ByteArray)(_:s.size≤100000)(q:dN w):Calls prog 146 #[.string s] w fun e w'=>e=.returned (.tuple #[.agg #[.string (spV s).1,.string (spV s).2],.bool (n0 s.data.toList)])∧Below w.heap.size w w':=by
 obtain⟨W0,bw⟩:=Y (w.alloc (.cells #[.string ⟨#[]⟩,.string ⟨#[]⟩] 51));refine RZ ?_;intro nb ck hw;have v:W0.heap[nb]?=some (.cells #[.string ⟨#[]⟩,.string ⟨#[]⟩] 51 (0,0)):=Tc;obtain⟨lo,BL⟩:∃x:ByteArray,x=⟨(cut s.data.toList [58]).1.toArray⟩:=⟨_,rfl⟩;obtain⟨hi,P9⟩:∃x:ByteArray,x=⟨(cut s.data.toList [58]).2.1.toArray⟩:=⟨_,rfl⟩;obtain⟨two,Yp⟩:∃x:Bool,x=(cut s.data.toList [58]).2.2:=⟨_,rfl⟩;have y:spB s=if two=true then (lo,hi) else (lo,lo):=by unfold spB;rw[←BL,←P9,←Yp]
 have z:lo.size≤100000:=by have:=(zqs s).1;rw[BL];show (cut s.data.toList [58]).1.toArray.size≤_;simp;omega
 have A:hi.size≤100000:=by have:=(zqs s).2;rw[P9];show (cut s.data.toList [58]).2.1.toArray.size≤_;simp;omega
 obtain⟨_,r⟩:=(q.below hw).max;have t:=Tryz.strings_Cut s ⟨#[58]⟩ _ W0 Z r;clear r;simp only[←BL,←P9,←Yp]at t;revert q hw v BL P9 Yp y t;refine fg ?_;intro HD Hw cU Hlo Hhi aEu HB HC;go_enter func146,ntmps146;go_upto_region 1 with (fail);refine mn ?_;have u:w.heap.size≤nb:=jg ck.symm;clear bw ck;have iP:=O u;clear u;go_wp2_with fail;refine HC.o.mono ?_;rintro e w1 ⟨rfl,n,rfl⟩;have m:Below W0.heap.size W0 (W0.drewN n):=dU (aL _ _) n;generalize W0.drewN n=l at m⊢;have aB:=O m;clear m
 cases two with
 |true=>
  go_upto_region 5 with (fail)
  obtain⟨W2,eh⟩:=Y (l.alloc (.cells #[.string lo,.string hi] 51));obtain⟨g,hg⟩:=Y l.heap.size;have af:Below W0.heap.size W0 W2:=att;have jk:W2.heap[g]?=some (.cells #[.string lo,.string hi] 51 (0,0)):=atu;have jl:=G af cU.o;have hA:=fun(W:World)(k:Below W2.heap.size W2 W)=>sW k (E4 lo hi Z Z (HD.o.below (eG Hw.o (af.trans (k.mono af.size)))));have hT:=fun(W:World)(k:Below W2.heap.size W2 W)=>sW k (zjw lo hi Z Z (HD.o.below (eG Hw.o (af.trans (k.mono af.size)))));refine KN ?_;intro p hp;obtain⟨tx,tC⟩:=Y (txS lo hi);obtain⟨d,k1⟩:=mq ((tx.toList==s.toList));have GO:spB s=(lo,hi):=by rw[HB.o];rfl
  have dz:n0 s.data.toList=(p&&d):=by exact ama
  have DX:spV s=if (p&&d)=true then (lo,hi) else (⟨#[]⟩,⟨#[]⟩):=by unfold spV;rw[dz,GO]
  exact amg
 |false=>
  go_upto_region 5 with (fail)
  obtain⟨W2,eh⟩:=Y (l.alloc (.cells #[.string lo,.string lo] 51));obtain⟨g,hg⟩:=Y l.heap.size;have af:Below W0.heap.size W0 W2:=att;have jk:W2.heap[g]?=some (.cells #[.string lo,.string lo] 51 (0,0)):=atu;have jl:=G af cU.o;have hA:=fun(W:World)(k:Below W2.heap.size W2 W)=>sW k (E4 lo lo Z Z (HD.o.below (eG Hw.o (af.trans (k.mono af.size)))));have hT:=fun(W:World)(k:Below W2.heap.size W2 W)=>sW k (zjw lo lo Z Z (HD.o.below (eG Hw.o (af.trans (k.mono af.size)))));obtain⟨p,hp⟩:=Y (eg (lo.data.toList,lo.data.toList));obtain⟨tx,tC⟩:=Y (txS lo lo);obtain⟨d,k1⟩:=mq ((tx.toList==s.toList));have GO:spB s=(lo,lo):=by rw[HB.o];rfl
  have dz:n0 s.data.toList=(p&&d):=by exact ama
  have DX:spV s=if (p&&d)=true then (lo,lo) else (⟨#[]⟩,⟨#[]⟩):=by unfold spV;rw[dz,GO]
  exact amg
abbrev JH(x y:Value):Obj:=.cells #[x,y] 51 (0,0)
theorem pbox1_0(w:World)(x y:Value):(w.alloc (.cells #[x,y] 51)).heap[w.heap.size]?=some (JH x y):=dq _ _
theorem zto(w:World)(x y z u:Value):((w.alloc (.cells #[x,y] 51)).alloc (.cells #[z,u] 51)).heap[w.heap.size]?=some (JH x y):=G (aS _ _) (dq _ _)
theorem ztn(w:World)(x y z u:Value):((w.alloc (.cells #[x,y] 51)).alloc (.cells #[z,u] 51)).heap[w.heap.size+1]?=some (JH z u):=dx (by simp)
theorem ztm(w:World)(x y z u p q:Value):(((w.alloc (.cells #[x,y] 51)).alloc (.cells #[z,u] 51)).alloc (.cells #[p,q] 51)).heap[w.heap.size]?=some (JH x y):=G (aS _ _) (zto _ _ _ _ _)
theorem ztl(w:World)(x y z u p q:Value):(((w.alloc (.cells #[x,y] 51)).alloc (.cells #[z,u] 51)).alloc (.cells #[p,q] 51)).heap[w.heap.size+1]?=some (JH z u):=G (aS _ _) (ztn _ _ _ _ _)
theorem ztk(w:World)(x y z u p q:Value):(((w.alloc (.cells #[x,y] 51)).alloc (.cells #[z,u] 51)).alloc (.cells #[p,q] 51)).heap[w.heap.size+1+1]?=some (JH p q):=dx (by simp)
theorem spn_eqs(s t a b:ByteArray)(W:World):(binOp .eql 51 (.agg #[.string s,.string t]) (.agg #[.string a,.string b])).run prog W=.ok (.bool (decide (s=a)&&decide (t=b))) W:=by
 have e:=ox;have c:prog.underlying 51=some (.struct (prog.fieldsOf 51)):=aA;have d:prog.stoodInHeld 51=false:=aA;rw[run_eql_struct,show (10000:Nat)=9999+1 from rfl,Sk W 9999 51 _ _ c d];simp only[Program.fieldsOf,Oj];exact V4
def mtV(lo hi lp hj:ByteArray):ByteArray×ByteArray:=if jS (lo.data.toList,hi.data.toList) (lp.data.toList,hj.data.toList)=true then (mN lo lp,mR hi hj) else (⟨#[]⟩,⟨#[]⟩)
theorem zu4(P:Prop)[Decidable P](x y:ByteArray):(if P then x else y).data.toList=if P then x.data.toList else y.data.toList:=by split<;>rfl
def jnV(lo hi lp hj:ByteArray):ByteArray×ByteArray:=if eg (lo.data.toList,hi.data.toList)=true∧eg (lp.data.toList,hj.data.toList)=true then (if lo.size≠0∧lp.size≠0 then mR lo lp else ⟨#[]⟩,if hi.size≠0∧hj.size≠0 then mN hi hj else ⟨#[]⟩) else (⟨#[]⟩,⟨#[]⟩)
theorem jnV_data(lo hi a b:ByteArray):((jnV lo hi a b).1.data.toList,(jnV lo hi a b).2.data.toList)=lj (lo.data.toList,hi.data.toList) (a.data.toList,b.data.toList):=by
 unfold jnV lj;split
 ·simp only[vw,mc];exact zA (by rw[←zi3];exact zu4 _ _ _) (by rw[←zji];exact zu4 _ _ _)
 rfl
theorem zZ{a b c d:ByteArray}(h1:a=c)(e:b=d):Ending.returned (.agg #[.string a,.string b])=.returned (.agg #[.string c,.string d]):=by rw[h1,e]
def CutBox(w0:World)(x y:ByteArray)(v:Value)(W:World):Prop:=∃g,v=.pointer (some ⟨g,0,none⟩)∧W.heap[g]?=some (.cells #[.string x,.string y] 51 (0,0))∧Below w0.heap.size w0 W
theorem meet_any(lo hi lp hj:ByteArray)(hl:lo.size≤1000000)(hh:hi.size≤1000000)(gG:lp.size≤1000000)(zW:hj.size≤1000000)(hD:dN w):Calls prog 153 #[.agg #[.string lo,.string hi],.agg #[.string lp,.string hj]] w fun e w'=>e=.returned (.tuple #[.agg #[.string (mtV lo hi lp hj).1,.string (mtV lo hi lp hj).2],.bool (jS (lo.data.toList,hi.data.toList) (lp.data.toList,hj.data.toList))])∧Below w.heap.size w w':=by
 refine RT ?_;intro w0 bw nb ck hw cM ha a0 a1 a2 a3 hb b0 b1 b2 b3 hr r0 r1 r2 r3;have A:=zlx hl gG;have B:=zjy hh zW;obtain⟨lt,e8⟩:=Y (mN lo lp);obtain⟨st,bJ⟩:=Y (mR hi hj);rw[←e8]at A;rw[←bJ]at B;refine alh ?_;intro hA hB;have C:=fun(W:World)(k:Below w0.heap.size w0 W)=>E4 lt st A B (hD.below (eG hw k));have F:=fun(W:World)(k:Below w0.heap.size w0 W)=>zw7 lo lp hl gG (hD.below (eG hw k));have K:=fun(W:World)(k:Below w0.heap.size w0 W)=>zrx hi hj hh zW (hD.below (eG hw k));refine KN ?_;intro p hp;obtain⟨q,hq⟩:=Y (eg (lp.data.toList,hj.data.toList));obtain⟨s,hs⟩:=Y (eg (lt.data.toList,st.data.toList));have L:jS (lo.data.toList,hi.data.toList) (lp.data.toList,hj.data.toList)=(p&&q&&s):=by unfold jS FK;rw[hp,hq,hs,e8,bJ,zji,zi3]
 have T:mtV lo hi lp hj=if (p&&q&&s)=true then (lt,st) else (⟨#[]⟩,⟨#[]⟩):=by unfold mtV;rw[L,e8,bJ]
 have U:w.heap.size≤nb+1+1:=Z;rw[←e8]at F;rw[←bJ]at K;rw[←hp]at hA;rw[←hq]at hB;rw[←hs]at C;clear hp hq hs e8 bJ;revert hD hw cM ha hb hr F K hA hB C L T U;refine Sa ?_;intro _ Hw X Ha Hb Hr N R aa ab ad ev oB iP;go_enter func153,ntmps153;go_upto_region 1 with (fail);refine mn ?_;clear bw ck;have u:∀w',Below w0.heap.size w0 w'→w'.cell? ⟨nb,0,none⟩=some (.string lo)∧w'.cell? ⟨nb,1,none⟩=some (.string hi)∧w'.cell? ⟨nb+1,0,none⟩=some (.string lp)∧w'.cell? ⟨nb+1,1,none⟩=some (.string hj):=fun W k=>by have h1:=cP (G k Ha.o);have S:=cP (G k Hb.o);exact⟨h1.1,h1.2.1,S.1,S.2.1⟩
 go_cut [6] (fun x W=>CutBox w0 lt st x W)
 case first=>
  have H:=dU X.o 1;have di:=u _ H;have t:=aH u;clear u
  go_region_held3 (fun w'=>w'.cell? ⟨nb,0,none⟩=some (.string lo)∧w'.cell? ⟨nb,1,none⟩=some (.string hi)∧w'.cell? ⟨nb+1,0,none⟩=some (.string lp)∧w'.cell? ⟨nb+1,1,none⟩=some (.string hj)) (first|exact di|exact t.o _ (H.alloc H.size _)|exact t.o _ (ik _ _ H y)|go_keep) (first
   |(go_at_call 155;refine (N.o _ od).mono ?_;rintro e z ⟨rfl,r⟩;(try (replace zu:=G r zu;obtain⟨z0,z1,z2,z3⟩:=cP zu));replace H:=Below.trans od (r.mono (Below.size od));replace di:=t.o _ H)
   |(go_at_call 155;refine (N.o _ Ki).mono ?_;rintro e z ⟨rfl,r⟩;have zu:=G r (dq _ _);have y:=H.size;obtain⟨z0,z1,z2,z3⟩:=cP zu;replace H:=Below.trans Ki (r.mono (Below.size Ki));replace di:=t.o _ H)
   |(go_at_call 154;refine (R.o _ od).mono ?_;rintro e z ⟨rfl,r⟩;(try (replace zu:=G r zu;obtain⟨z0,z1,z2,z3⟩:=cP zu));replace H:=Below.trans od (r.mono (Below.size od));replace di:=t.o _ H)
   |(go_at_call 154;refine (R.o _ Ki).mono ?_;rintro e z ⟨rfl,r⟩;have zu:=G r (dq _ _);have y:=H.size;obtain⟨z0,z1,z2,z3⟩:=cP zu;replace H:=Below.trans Ki (r.mono (Below.size Ki));replace di:=t.o _ H))
  all_goals
   go_wp2_with fail
   go_meet
   first
    |exact⟨_,rfl,dq _ _,H.alloc H.size _⟩
    |exact⟨_,rfl,GC _ _ zu,ik _ _ H y⟩
 case rest=>
  obtain⟨_,rfl,ho,v⟩:=hcut;have ha:=G v Ha.o;have hb:=G v Hb.o;have hr:=G v Hr.o;clear Ha a0 a1 a2 a3 Hb b0 b1 b2 b3 Hr r0 r1 r2 r3 u;obtain⟨a0,a1,a2,a3⟩:=cP ha;obtain⟨b0,b1,b2,b3⟩:=cP hb;obtain⟨r0,r1,r2,r3⟩:=cP hr;obtain⟨o0,o1,o2,o3⟩:=cP ho;revert ho v ha hb hr;refine bU ?_;intro Ho aB Ha Hb Hr;go_wp2_with fail;refine (aa.o _ aB.o).mono ?_;refine OD ?_;intro w2 hs af;revert a0 a1 a2 a3 b0 b1 b2 b3 r0 r1 r2 r3 Ha Hb Hr;refine Bj ?_;intro ha a0 a1 a2 a3 hb b0 b1 b2 b3 hr r0 r1 r2 r3;have ho:=G hs Ho.o;clear Ho o0 o1 o2 o3;obtain⟨o0,o1,o2,o3⟩:=cP ho;revert hs af ha hb hr ho;refine bX ?_;intro Hs bh Ha Hb Hr Ho
  cases p with
  |false=>
   go_wp2_with fail
   refine zI ?_;exact⟨tf gU gU YY,ik _ _ (eG Hw.o bh.o) iP.o⟩
  |true=>
   go_wp2_with fail
   refine (ab.o _ bh.o).mono ?_;rintro e w3 ⟨rfl,hs⟩;have ae:=bh.o.trans (hs.mono bh.o.size);revert a0 a1 a2 a3 b0 b1 b2 b3 r0 r1 r2 r3 o0 o1 o2 o3 Ha Hb Hr Ho;refine tc ?_;intro ha a0 a1 a2 a3 hb b0 b1 b2 b3 hr r0 r1 r2 r3 ho o0 o1 o2 o3;revert hs ae ha hb hr ho;refine bX ?_;intro Hs bK Ha Hb Hr Ho
   cases q with
   |false=>
    go_wp2_with fail
    refine zI ?_;exact⟨tf gU gU YY,ik _ _ (eG Hw.o bK.o) iP.o⟩
   |true=>
    go_wp2_with fail
    refine (ad.o _ bK.o).mono ?_;revert a0 a1 a2 a3 b0 b1 b2 b3 r0 r1 r2 r3 o0 o1 o2 o3 Ha Hb Hr Ho;refine Gn ?_;intro w4 a0 a1 a2 a3 b0 b1 b2 b3 r0 r1 r2 r3 o0 o1 o2 o3 Hs dL Ha Hb Hr Ho
    cases s with
    |false=>exact amz
    |true=>exact amz
theorem zw8(lo hi f g:ByteArray)(u:lo.size≤1000000)(y:hi.size≤1000000)(z:f.size≤1000000)(A:g.size≤1000000)(l:dN w):Calls prog 128 #[.agg #[.string lo,.string hi],.agg #[.string f,.string g]] w fun e w'=>e=.returned (.bool (jS (lo.data.toList,hi.data.toList) (f.data.toList,g.data.toList)))∧Below w.heap.size w w':=by
 obtain⟨w0,bw⟩:=Y ((w.alloc (.cells #[.string lo,.string hi] 51)).alloc (.cells #[.string f,.string g] 51));obtain⟨nb,ck⟩:=Y w.heap.size;have m:Below w.heap.size w w0:=by rw[bw];exact (aS _ _).alloc (aS _ _).size _
 have B:Below w0.heap.size w0 w0:=aL _ _;have i:w0.heap[nb]?=some (.cells #[.string lo,.string hi] 51 (0,0)):=by rw[bw,ck];exact zto _ _ _ _ _
 obtain⟨n,a1,a2,q⟩:=cP i;have j:w0.heap[nb+1]?=some (.cells #[.string f,.string g] 51 (0,0)):=by rw[bw,ck];exact ztn _ _ _ _ _
 obtain⟨r,s,b2,b3⟩:=cP j;have t:=fun(W:World)(k:Below w0.heap.size w0 W)=>meet_any lo hi f g u y z A (l.below (eG m k));obtain⟨p,hp⟩:=Y (jS (lo.data.toList,hi.data.toList) (f.data.toList,g.data.toList));obtain⟨v,hv⟩:=Y (mtV lo hi f g);rw[←hp];rw[←hp,←hv]at t;clear hp hv l;revert m B i j t;refine bU ?_;intro Hw cr Ha Hb HA;go_enter func128,ntmps128;go_upto_region 1 with (fail);refine mn ?_;clear bw ck;go_wp2_with fail;refine Xq ?_;intro w1 hs ai;have i:=G hs Ha.o;clear Ha n a1 a2 q;obtain⟨n,a1,a2,q⟩:=cP i;have j:=G hs Hb.o;clear Hb r s b2 b3;obtain⟨r,s,b2,b3⟩:=cP j;revert hs ai i j;refine bV ?_;intro Hs aB Ha Hb;go_wp2_with fail;go_ret;exact⟨rfl,eG Hw.o (aB.o.alloc aB.o.size _)⟩
theorem ybs(lo hi lp hj:ByteArray)(hl:lo.size≤1000000)(hh:hi.size≤1000000)(gG:lp.size≤1000000)(zW:hj.size≤1000000)(hD:dN w):Calls prog 129 #[.agg #[.string lo,.string hi],.agg #[.string lp,.string hj]] w fun e w'=>e=.returned (.agg #[.string (jnV lo hi lp hj).1,.string (jnV lo hi lp hj).2])∧Below w.heap.size w w':=by
 refine RT ?_;intro w0 bw nb ck hw cM ha a0 a1 a2 a3 hb b0 b1 b2 b3 hr r0 r1 r2 r3;refine alh ?_;intro hA hB;have l:=fun(W:World)(k:Below w0.heap.size w0 W)=>zrx lo lp hl gG (hD.below (eG hw k));have m:=fun(W:World)(k:Below w0.heap.size w0 W)=>zw7 hi hj hh zW (hD.below (eG hw k));obtain⟨lt,e8⟩:=Y (mN hi hj);obtain⟨st,bJ⟩:=Y (mR lo lp);refine KN ?_;intro p hp;obtain⟨q,hq⟩:=Y (eg (lp.data.toList,hj.data.toList));obtain⟨d1,k1⟩:=mq lo.toList.isEmpty;obtain⟨d2,k2⟩:=mq lp.toList.isEmpty;obtain⟨d3,k3⟩:=mq hi.toList.isEmpty;obtain⟨d4,k4⟩:=mq hj.toList.isEmpty;have n:jnV lo hi lp hj=if p=true∧q=true then (if d1=false∧d2=false then st else ⟨#[]⟩,if d3=false∧d4=false then lt else ⟨#[]⟩) else (⟨#[]⟩,⟨#[]⟩):=by unfold jnV;rw[←hp,←hq,←e8,←bJ];simp only[←k1,←k2,←k3,←k4,em.ii,pQ,vw]
 have r:w.heap.size≤nb+1+1:=Z;rw[←e8]at m;rw[←bJ]at l;rw[←hp]at hA;rw[←hq]at hB;clear hp hq e8 bJ hD;revert hw cM ha hb hr m l hA hB n r;refine kH ?_;intro Hw cr Ha Hb Hr HL s HA t oB iP;go_enter func129,ntmps129;go_upto_region 1 with (fail);refine mn ?_;clear bw ck;go_wp2_with fail;refine Xq ?_;intro w1 hs ai;revert a0 a1 a2 a3 b0 b1 b2 b3 r0 r1 r2 r3 Ha Hb Hr;refine Bj ?_;intro ha a0 a1 a2 a3 hb b0 b1 b2 b3 hr r0 r1 r2 r3;revert hs ai ha hb hr;refine bU ?_;intro Hs aB Ha Hb Hr
 cases p with
 |false=>
  go_wp2_with fail
  refine zG ?_;exact⟨zZ gU gU,ik _ _ (eG Hw.o aB.o) iP.o⟩
 |true=>
  go_wp2_with fail
  refine (t.o _ aB.o).mono ?_;refine OD ?_;intro w2 hs af;revert a0 a1 a2 a3 b0 b1 b2 b3 r0 r1 r2 r3 Ha Hb Hr;refine Bj ?_;intro ha a0 a1 a2 a3 hb b0 b1 b2 b3 hr r0 r1 r2 r3;revert hs af ha hb hr;refine bU ?_;intro Hs bh Ha Hb Hr
  cases q with
  |false=>
   go_wp2_with fail
   refine zG ?_;exact⟨zZ gU gU,ik _ _ (eG Hw.o bh.o) iP.o⟩
  |true=>
   go_upto_region 4 with (fail)
   obtain⟨w3,hv⟩:=Y (w2.alloc (.cells #[.string ⟨#[]⟩,.string ⟨#[]⟩] 51));refine alo ?_;intro go hg hs aM Mf Mh Mi Mj;revert a0 a1 a2 a3 b0 b1 b2 b3 r0 r1 r2 r3 Ha Hb Hr;refine Bj ?_;intro ha a0 a1 a2 a3 hb b0 b1 b2 b3 hr r0 r1 r2 r3;have ho:w3.heap[go]?=some (.cells #[.string ⟨#[]⟩,.string ⟨#[]⟩] 51 (0,0)):=Td;obtain⟨o0,o1,o2,o3⟩:=cP ho;rw[←hv,←hg];clear hv hg;revert hs aM Mf Mh Mi Mj ha hb hr ho;refine dE ?_;intro Hs bK vh YB YC YD Ha Hb Hr Ho
   cases d1 with
   |false=>
    cases d2 with
    |false=>
     go_wp2_with fail
     refine (s.o _ bK.o).mono ?_;revert a0 a1 a2 a3 b0 b1 b2 b3 r0 r1 r2 r3 o0 o1 o2 o3 Ha Hb Hr Ho;refine Gn ?_;intro w4 a0 a1 a2 a3 b0 b1 b2 b3 r0 r1 r2 r3 o0 o1 o2 o3 Hs dL Ha Hb Hr Ho;go_upto_region 6 with (fail);obtain⟨w5,hv⟩:=Y (w4.setCell ⟨go,0,none⟩ (.string st));have aW:Below w0.heap.size w0 w5:=atw;revert a0 a1 a2 a3 b0 b1 b2 b3 r0 r1 r2 r3 Ha Hb Hr;refine KO ?_;intro ha a0 a1 a2 a3 hb b0 b1 b2 b3 hr r0 r1 r2 r3;have ho:w5.heap[go]?=some (.cells #[.string st,.string ⟨#[]⟩] 51 (0,0)):=OR;revert o0 o1 o2 o3 Ho hv;refine pV ?_;intro o0 o1 o2 o3;revert aW ha hb hr ho;refine bU ?_;intro cQ Ha Hb Hr Ho
     cases d3 with
     |false=>
      cases d4 with
      |false=>
       go_wp2_with fail
       refine (HL.o _ cQ.o).mono ?_;rintro e u ⟨rfl,hs⟩;have v:=cQ.o.trans (hs.mono cQ.o.size);revert a0 a1 a2 a3 b0 b1 b2 b3 r0 r1 r2 r3 o0 o1 o2 o3 Ha Hb Hr Ho;refine tc ?_;intro ha a0 a1 a2 a3 hb b0 b1 b2 b3 hr r0 r1 r2 r3 ho o0 o1 o2 o3;revert hs v ha hb hr ho;refine bX ?_;intro Hs je Ha Hb Hr Ho;go_upto_region 8 with (fail);obtain⟨w7,hv⟩:=Y (u.setCell ⟨go,1,none⟩ (.string lt));revert a0 a1 a2 a3 b0 b1 b2 b3 Ha Hb;refine akm ?_;intro lP ha a0 a1 a2 a3 hb b0 b1 b2 b3 hr;clear Hr r0 r1 r2 r3;obtain⟨r0,r1,r2,r3⟩:=cP hr;have ho:w7.heap[go]?=some (.cells #[.string st,.string lt] 51 (0,0)):=tL;revert o0 o1 o2 o3 Ho hv;refine pV ?_;intro o0 o1 o2 o3;revert lP ha hb hr ho;refine bU ?_;intro kM Ha Hb Hr Ho;go_wp2_with fail;refine zG ?_;exact⟨zZ gU gU,ik _ _ (eG Hw.o kM.o) iP.o⟩
      |true=>exact Wu
     |true=>exact Wu
    |true=>exact aoo
   |true=>exact aoo
end
namespace StbA
open Go.Sort m8
variable {α:Type}
theorem set_mid(p q:List α)(x y:α)(i:Nat)(hi:i=p.length):(p++x::q).set i y=p++y::q:=by subst hi;simp
def KW(tgt:List α)(m i j:Nat)(d:Array α):Prop:=∃p u v q,d.toList=p++u++v++q∧u.length=i∧v.length=j∧p.length+i=m∧tgt=p++v++u++q
theorem KW.start{d:Array α}{p u v q:List α}(h:d.toList=p++u++v++q)(hi:i=u.length)(a:j=v.length)(_:m=p.length+u.length):KW (p++v++u++q) m i j d:=⟨p,u,v,q,h,hi.symm,a.symm,by omega,rfl⟩
theorem KW.size{a:List α}{d:Array α}(h:KW a m i j d):d.size=a.length:=by
 obtain⟨p,u,v,q,h1,_,_,_,b⟩:=h;rw[←ou,h1,b];simp;omega
theorem KW.le{a:List α}{d:Array α}(h:KW a m i j d):i≤m∧m+j≤d.size:=by
 obtain⟨p,u,v,q,h1,_,_,_,_⟩:=h;rw[←ou,h1];simp;omega
theorem swo_of{lt:α→α→Bool}(h:ww lt):SWO lt:=⟨F1 h,fun x y z h1 a=>by
  cases e:lt x z
  ·have:=h.ntrans y z x (h.asymm _ _ a) e;rw[h1]at this;cases this
  rfl,fun x y z h1 a=>h.ntrans z y x a h1⟩
variable [Inhabited α]
theorem Jk{d:Array α}{p q:List α}{x:α}(h:d.toList=p++x::q)(hi:i=p.length):d[i]! =x:=by
 subst hi;have a:p.length<d.size:=by rw[←ou,h];simp
 rw[xe d _ a,←Array.getElem_toList];simp[h]
theorem zna(d:Array α)(i j:Nat):(swp d i j).toList=(d.toList.set i d[j]!).set j d[i]!:=by simp[swp]
theorem zpl{d:Array α}{p m q:List α}{x y:α}(h:d.toList=p++x::(m++y::q))(hi:i=p.length)(_:j=p.length+1+m.length):(swp d i j).toList=p++y::(m++x::q):=by
 have h1:d[i]! =x:=Jk h hi;have a:d[j]! =y:=Jk (p:=p++x::m) (q:=q) zC aX;rw[zna,h1,a,h,set_mid p _ x y i hi];have e:p++y::(m++y::q)=(p++y::m)++y::q:=ae;rw[e,set_mid _ _ _ _ _ aX];simp
theorem swp_comm(d:Array α)(i j:Nat):swp d i j=swp d j i:=by
 apply Array.ext'
 rw[zna,zna];by_cases h:i=j
 ·subst h;rfl
 exact List.set_comm _ _ h
theorem abp{d:Array α}{p m q:List α}{x y:α}(h:d.toList=p++x::(m++y::q))(hi:i=p.length)(a:j=p.length+1+m.length):(swp d j i).toList=p++y::(m++x::q):=by
 rw[swp_comm];exact zpl h hi a
def swr(d:Array α)(a b:Nat):Nat→Array α
 |0=>d
 |i+1=>swp (swr d a b i) (a+i) (b+i)
theorem size_swr(d:Array α)(a b n:Nat):(swr d a b n).size=d.size:=by
 induction n with
 |zero=>rfl
 |succ n c=>rw[swr,size_swp,c]
theorem swr_rev(d:Array α):∀(x y p m q:List α),x.length=y.length→d.toList=p++x.reverse++m++y.reverse++q→(swr d p.length (p.length+x.length+m.length) x.length).toList=p++y.reverse++m++x.reverse++q:=by
 intro x
 induction x with
 |nil=>intro y p m q hl h;obtain rfl:y=[]:=oT hl.symm;exact h
 |cons u x a=>
  intro y p m q hl h
  match y with
  |[]=> simp at hl
  |v::y=>have b:x.length=y.length:=F4;have h1:=a y p (u::m) (v::q) b zC;have e:p.length+(u::x).length+m.length=p.length+x.length+(u::m).length:=aX;rw[e,show (u::x).length=x.length+1 from rfl,swr];have c:=zpl (d:=swr d p.length (p.length+x.length+(u::m).length) x.length) (p:=p++y.reverse) (m:=m++x.reverse) (q:=q) (x:=u) (y:=v) sV (i:=p.length+x.length) (j:=p.length+x.length+(u::m).length+x.length) aX aX;rw[c];simp
theorem zpk{d:Array α}{p x m y q:List α}(hl:x.length=y.length)(h:d.toList=p++x++m++y++q){a:Nat}(c:a=p.length)(e:b=p.length+x.length+m.length)(f:n=x.length):(swr d a b n).toList=p++y++m++x++q:=by
 subst c e f;have:=swr_rev d x.reverse y.reverse p m q F4 w_;exact uu
theorem KW.gt{f:List α}{d:Array α}(h:KW f m i j d)(_:j<i):KW f m (i-j) j (swr d (m-i) m j):=by
 obtain⟨p,u,v,q,h1,k,_,_,l⟩:=h;have c:u=u.take j++u.drop j:=(mi _ _).symm;have e:(u.take j).length=j:=aX;have g:(u.drop j).length=i-j:=aX;generalize u.take j=x at c e;generalize u.drop j=y at c g;subst c;refine⟨p++v,y,x,q,?_,g,e,aX,by rw[l];simp⟩;have:=zpk (d:=d) (p:=p) (x:=x) (m:=y) (y:=v) (q:=q) Z sV (a:=m-i) (b:=m) (n:=j) Z (by simp at k;omega) e.symm;rw[this]
theorem KW.lt{e:List α}{d:Array α}(h:KW e m i j d)(_:i<j):KW e m i (j-i) (swr d (m-i) (m+j-i) i):=by
 obtain⟨p,u,v,q,h1,k,_,_,l⟩:=h;have c:v=v.take (j-i)++v.drop (j-i):=(mi _ _).symm;have f:(v.take (j-i)).length=j-i:=aX;have g:(v.drop (j-i)).length=i:=aX;generalize v.take (j-i)=x at c f;generalize v.drop (j-i)=y at c g;subst c;refine⟨p,y,x,u++q,?_,g,f,Z,by rw[l];simp⟩;have:=zpk (d:=d) (p:=p) (x:=u) (m:=x) (y:=y) (q:=q) Z sV (a:=m-i) (b:=m+j-i) (n:=i) Z Z k.symm;rw[this];simp
theorem KW.eq{tgt:List α}{d:Array α}(h:KW tgt m i i d):(swr d (m-i) m i).toList=tgt:=by
 obtain⟨p,u,v,q,h1,c,_,_,e⟩:=h;rw[e];have:=zpk (d:=d) (p:=p) (x:=u) (m:=[]) (y:=v) (q:=q) Z sV (a:=m-i) (b:=m) (n:=i) Z aX c.symm;rw[this];simp
def upN(d:Array α)(a:Nat):Nat→Array α
 |0=>d
 |n+1=>swp (upN d a n) (a+n) (a+n+1)
def dnN(d:Array α)(m:Nat):Nat→Array α
 |0=>d
 |n+1=>swp (dnN d m n) (m-n) (m-n-1)
theorem size_upN(d:Array α)(a n:Nat):(upN d a n).size=d.size:=by
 induction n with
 |zero=>rfl
 |succ n b=>rw[upN,size_swp,b]
theorem size_dnN(d:Array α)(a n:Nat):(dnN d a n).size=d.size:=by
 induction n with
 |zero=>rfl
 |succ n b=>rw[dnN,size_swp,b]
theorem upN_rev(d:Array α)(x:α)(p:List α):∀(v q:List α),d.toList=p++x::(v.reverse++q)→(upN d p.length v.length).toList=p++v.reverse++x::q:=by
 intro v
 induction v with
 |nil=>intro q h;simpa [upN] using h
 |cons y v a=>intro q h;have h1:=a (y::q) zC;have b:=zpl (d:=upN d p.length v.length) (p:=p++v.reverse) (m:=[]) (q:=q) (x:=x) (y:=y) sV (i:=p.length+v.length) (j:=p.length+v.length+1) ae ae;rw[show (y::v).length=v.length+1 from rfl,upN,b];simp
theorem upN_split{d:Array α}{x:α}{p v q:List α}(h:d.toList=p++x::(v++q)){a:Nat}(b:a=p.length)(c:n=v.length):(upN d a n).toList=p++v++x::q:=by
 subst b c;have:=upN_rev d x p v.reverse q w_;exact uu
theorem dnN_split'(d:Array α)(x:α)(q:List α)(m:Nat):∀(v p:List α),m=p.length+v.length→d.toList=p++v++x::q→(dnN d m v.length).toList=p++x::(v++q):=by
 intro v
 induction v with
 |nil=>intro p _ h;simpa [dnN] using h
 |cons y v a=>
  intro p b h;have e:m=p.length+(v.length+1):=by simpa using b
  have h1:=a (p++[y]) aX zC;have c:=abp (d:=dnN d m v.length) (p:=p) (m:=[]) (q:=v++q) (x:=y) (y:=x) sV (i:=m-v.length-1) (j:=m-v.length) Z aX;rw[show (y::v).length=v.length+1 from rfl,dnN,c];simp
theorem dnN_split{d:Array α}{x:α}{p v q:List α}(h:d.toList=p++v++x::q)(a:m=p.length+v.length)(b:n=v.length):(dnN d m n).toList=p++x::(v++q):=by
 subst b;exact dnN_split' d x q m v p a h
structure BS(f:Nat→Bool)(lo hi i j:Nat):Prop where
 l1:lo≤i
 l2:i≤j
 l3:j≤hi
 yes:∀c,lo≤c→c<i→f c=true
 no:∀c,j≤c→c<hi→f c=false
def Mono(f:Nat→Bool)(lo hi:Nat):Prop:=∀c c',lo≤c'→c'≤c→c<hi→f c=true→f c'=true
theorem BS.start(f:Nat→Bool)(h:lo≤hi):BS f lo hi lo hi:=⟨aE _,h,aE _,fun _ _ _=>by omega,fun _ _ _=>by omega⟩
theorem BS.left{f:Nat→Bool}{h:Nat}(b:Mono f lo hi)(a:BS f lo hi i j)(h1:i≤h)(d:h<j)(e:f h=true):BS f lo hi (h+1) j :=
 ⟨by have:=a.l1;omega,d,a.l3,fun c g k=>b h c g Z (by have:=a.l3;omega) e,a.no⟩
theorem BS.right{f:Nat→Bool}{h:Nat}(b:Mono f lo hi)(a:BS f lo hi i j)(h1:i≤h)(_:h<j)(d:f h=false):BS f lo hi i h :=
 ⟨a.l1,h1,by have:=a.l3;omega,a.yes,fun c g k=>by
  cases e:f c
  ·rfl
  have:=b c h (by have:=a.l1;omega) g k e;rw[d]at this;cases this⟩
variable {lt:α→α→Bool}
def FR(lt:α→α→Bool)(a b:Nat)(d:Array α):Prop:=∀i j,a≤i→i≤j→j<b→lt d[j]! d[i]! =false
theorem zja(h:ww lt){d:Array α}{p u q:List α}(O:d.toList=p++u++q)(f:gg lt u){a:Nat}(_:a=p.length)(_:b=p.length+u.length):FR lt a b d:=by
 intro i j hi c _;rcases XP c with c|rfl
 ·have l:=J_.1 f (i-a) (j-a) Z Z Z
  have g:∀k,(e:k-a<u.length)→a≤k→d[k]! =u[k-a]:=fun k e h1=>by
   refine Jk (p:=p++u.take (k-a)) (q:=u.drop (k-a+1)++q) ?_ aX;rw[O]
   conv=>lhs;rw[←mi (k-a) u,rK e]
   simp only[gq,ru]
  rw[g i Z hi,g j Z Z];exact l
 exact F1 h _
theorem Dt{d:Array α}{p u q:List α}(O:d.toList=p++u++q)(k:Nat)(b:k<u.length):d[p.length+k]! =u[k]:=by
 refine Jk (p:=p++u.take k) (q:=u.drop (k+1)++q) ?_ aX;rw[O]
 conv=>lhs;rw[←mi k u,rK b]
 simp only[gq,ru]
theorem mono_left(h:ww lt){d:Array α}{a:Nat}(f:FR lt m b d):Mono (fun c=>lt d[c]! d[a]!) m b:=by
 intro c c' h1 g i j;show lt d[c']! d[a]! =true;cases e:lt d[c']! d[a]!
 ·have:=h.ntrans _ _ _ e (f c' c h1 g i);rw[show lt d[c]! d[a]! =true from j]at this;cases this
 rfl
theorem one_left(h:ww lt){d:Array α}{p v q:List α}{x:α}(O:d.toList=p++x::(v++q))(w:gg lt v){a:Nat}(r:a=p.length)(_:m=a+1)(_:b=m+v.length)(j:BS (fun c=>lt d[c]! d[a]!) m b i i):
  (upN d a (i-1-a)).toList=p++cV lt (x::v)++q:=by
 have s:d[a]! =x:=Jk O r;have ak:d.toList=(p++[x])++v++q:=F6;have t:∀k,(f:k<v.length)→d[m+k]! =v[k]:=fun k f=>by have:=Dt ak k f;rw[show (p++[x]).length+k=m+k from aX]at this;exact this
 have C:=j.l1;have F:=j.l3;have u:∀y∈v.take (i-m),lt y x=true:=fun y g=>by obtain⟨k,f,rfl⟩:=oS g;simp only[tZ]at f;have:=j.yes (m+k) Z Z;rw[t k Z,s]at this;exact uu
 have e2:∀y∈v.drop (i-m),lt y x=false:=fun y g=>by obtain⟨k,f,rfl⟩:=oS g;simp only[xf]at f;have:=j.no (m+(i-m+k)) Z Z;rw[t _ Z,s]at this;exact uu
 have A:v=v.take (i-m)++v.drop (i-m):=(mi _ _).symm;have K:(v.take (i-m)).length=i-m:=aX;generalize v.take (i-m)=v1 at *;generalize v.drop (i-m)=v2 at *;subst A;have B:=upN_split (d:=d) (x:=x) (p:=p) (v:=v1) (q:=v2++q) F6 (a:=a) (n:=i-1-a) r Z;rw[B];have l:=sT.1 w
 have:v1++x::v2=cV lt (x::(v1++v2)):=by
  apply Js h
  ·have:=(Sw.over (lt:=lt) x v1 u).ctx [] v2;exact uu
  refine sT.2 ⟨l.1,pR.2 ⟨e2,l.2.1⟩,fun y g z o=>?_⟩;rcases iC.1 o with e|o
  ·rw[e];exact h.asymm _ _ (u y g)
  exact l.2.2 y g z o
 rw[←this];simp
theorem ye4(h:ww lt){d:Array α}{a:Nat}(b:FR lt a m d):Mono (fun c=>!lt d[m]! d[c]!) a m:=by
 intro c c' h1 e f g;have i:lt d[m]! d[c]! =false:=by simpa using g
 show (!lt d[m]! d[c']!)=true
 rw[h.ntrans _ _ _ (b c' c h1 e f) i];rfl
theorem one_right(h:ww lt){d:Array α}{p u q:List α}{x:α}(O:d.toList=p++u++x::q)(A:gg lt u){a:Nat}(l:a=p.length)(_:m=a+u.length)(j:BS (fun c=>!lt d[m]! d[c]!) a m i i):
  (dnN d m (m-i)).toList=p++cV lt (u++[x])++q:=by
 have s:d[m]! =x:=Jk O aX;have t:∀k,(g:k<u.length)→d[a+k]! =u[k]:=fun k g=>by have:=Dt (q:=x::q) O k g;rw[l];exact this
 have L:=j.l1;have N:=j.l3;have B:∀y∈u.take (i-a),lt x y=false:=fun y f=>by obtain⟨k,g,rfl⟩:=oS f;simp only[tZ]at g;have:=j.yes (a+k) Z Z;simp only[t k Z,s]at this;exact uu
 have e2:∀y∈u.drop (i-a),lt x y=true:=fun y f=>by obtain⟨k,g,rfl⟩:=oS f;simp only[xf]at g;have:=j.no (a+(i-a+k)) Z Z;simp only[t _ (show i-a+k<u.length from Z),s]at this;exact uu
 have C:u=u.take (i-a)++u.drop (i-a):=(mi _ _).symm;have R:(u.take (i-a)).length=i-a:=aX;have F:(u.drop (i-a)).length=m-i:=aX;generalize u.take (i-a)=v1 at *;generalize u.drop (i-a)=v2 at *;subst C;have K:=dnN_split (d:=d) (x:=x) (p:=p++v1) (v:=v2) (q:=q) F6 (m:=m) (n:=m-i) aX F.symm;rw[K];have o:=sT.1 A
 have:v1++x::v2=cV lt (v1++v2++[x]):=by
  apply Js h
  ·have:=(Sw.blocks (lt:=lt) v2 [x] (fun a l b w=>by simp at w;subst w;exact e2 a l)).ctx v1 [];exact uu
  refine sT.2 ⟨o.1,pR.2 ⟨fun y f=>h.asymm _ _ (e2 y f),o.2.1⟩,fun y f z r=>?_⟩;rcases iC.1 r with e|r
  ·rw[e];exact B y f
  exact o.2.2 y f z r
 rw[←this];simp
theorem mono_sym(h:ww lt){d:Array α}{a:Nat}(e:FR lt a m d)(f:FR lt m b d)(h1:a≤lo)(_:hi≤m)(_:n-hi ≥ m)(_:n-1-lo<b)(_:hi≤n):Mono (fun c=>!lt d[n-1-c]! d[c]!) lo hi:=by
 intro c c' _ g _ i;have j:lt d[n-1-c]! d[c]! =false:=by simpa using i
 show (!lt d[n-1-c']! d[c']!)=true
 have k:lt d[c]! d[c']! =false:=e c' c Z g Z;have e2:lt d[n-1-c']! d[n-1-c]! =false:=f (n-1-c) (n-1-c') Z Z Z;rw[h.ntrans _ _ _ (h.ntrans _ _ _ k j) e2];rfl
theorem sym_cut(h:ww lt){d:Array α}{p u v q:List α}(O:d.toList=p++u++v++q)(C:gg lt u)(F:gg lt v){a mid s:Nat}(W:a=p.length)(_:m=a+u.length)(_:b=m+v.length)
  (_:mid=(a+b) / 2) (_:n=mid+m) (_:a<b) (BL:(mid<m→lo=n-b∧hi=mid)∧(¬mid<m→lo=a∧hi=m)) (w:BS (fun c=>!lt d[n-1-c]! d[c]!) lo hi s s) :
  ∃l1 l2 r1 r2,u=l1++l2∧v=r1++r2∧a+l1.length=s∧m+r1.length=n-s∧cV lt (u++v)=cV lt (l1++r1)++cV lt (l2++r2):=by
 have ab:=w.l1;have ad:=w.l3
 have ae:a≤s∧s≤m∧m≤n-s∧n-s≤b:=by
  by_cases hc:mid<m
  ·obtain⟨rfl,rfl⟩:=BL.1 hc;omega
  obtain⟨rfl,rfl⟩:=BL.2 hc;omega
 have K:∀k,(f:k<u.length)→d[a+k]! =u[k]:=fun k f=>by have:=Dt (q:=v++q) (by rw[O];simp:d.toList=p++u++(v++q)) k f;rw[W];exact this
 have L:∀k,(f:k<v.length)→d[m+k]! =v[k]:=fun k f=>by have:=Dt O k f;rw[show (p++u).length+k=m+k from aX]at this;exact this
 refine⟨u.take (s-a),u.drop (s-a),v.take (n-s-m),v.drop (n-s-m),(mi _ _).symm,(mi _ _).symm,aX,aX,?_⟩
 have N:∀i j (hi:i<u.length) (g:j<u.length),i≤j→lt u[j] u[i]=false:=fun i j hi g l=>by
  rcases XP l with l|rfl
  ·exact J_.1 C i j hi g l
  exact F1 h _
 have R:∀i j (hi:i<v.length) (g:j<v.length),i≤j→lt v[j] v[i]=false:=fun i j hi g l=>by
  rcases XP l with l|rfl
  ·exact J_.1 F i j hi g l
  exact F1 h _
 have X:gg lt (u.take (s-a)++u.drop (s-a)):=by rw[mi];exact C
 have aa:gg lt (v.take (n-s-m)++v.drop (n-s-m)):=by rw[mi];exact F
 have S:=ssort_cut h (u.take (s-a)) (u.drop (s-a)) (v.take (n-s-m)) (v.drop (n-s-m)) ?_ (fun x o y r=>(sT.1 X).2.2 x o y r) (fun x o y r=>(sT.1 aa).2.2 x o y r) ?_
 ·rw[mi,mi]at S;exact S
 ·
  intro x o y r;obtain⟨k,f,rfl⟩:=oS o;obtain⟨j,g,rfl⟩:=oS r;simp only[xf]at f;simp only[tZ]at g
  simp only[List.getElem_drop,List.getElem_take]
  have T:s<hi:=by exact aow
  have z:=w.no s (aE _) T;have t:lt d[n-1-s]! d[s]! =true:=by simpa using z
  have A:d[s]! =u[s-a]' Z:=by rw[←K (s-a) Z];congr 1;omega
  have e2:d[n-1-s]! =v[n-1-s-m]' Z:=by rw[←L (n-1-s-m) Z];congr 1;omega
  rw[A,e2]at t;cases e:lt v[j] u[s-a+k]
  ·have h1:=N (s-a) (s-a+k) Z Z Z;have B:=R j (n-1-s-m) Z Z Z;have U:=h.ntrans _ _ _ (h.ntrans _ _ _ h1 e) B;rw[t]at U;cases U
  rfl
 intro x o y r;obtain⟨k,f,rfl⟩:=oS o;obtain⟨j,g,rfl⟩:=oS r;simp only[tZ]at f;simp only[xf]at g;simp only[List.getElem_drop,List.getElem_take];have T:lo<s:=by exact aow
 have z:=w.yes (s-1) Z Z;have t:lt d[n-1-(s-1)]! d[s-1]! =false:=by simpa using z
 have A:d[s-1]! =u[s-1-a]' Z:=by rw[←K (s-1-a) Z];congr 1;omega
 have e2:d[n-1-(s-1)]! =v[n-s-m]' Z:=by rw[←L (n-s-m) Z];congr 1;omega
 rw[A,e2]at t;have h1:=N k (s-1-a) Z Z Z;have B:=R (n-s-m) (n-s-m+j) Z Z Z;exact h.ntrans _ _ _ (h.ntrans _ _ _ h1 t) B
theorem zzn(lt:α→α→Bool)(p q a:List α):∀(j:Nat)(d:Array α),j<p.length+a.length→(∃x,d.toList=p++x++q∧Sw lt a x)→∃x,(insInner lt p.length j d).toList=p++x++q∧Sw lt a x:=by
 intro j
 induction j with
 |zero=>intro d _ h;rw[insInner];exact h
 |succ j n=>
  intro d _ h;rw[insInner];split
  ·rename_i hc
   simp only[fI,fE]at hc;refine n _ Z ?_;obtain⟨x,b,f⟩:=h;have t:x.length=a.length:=f.perm.length_eq.symm;have g:j-p.length<x.length:=Z;have k:j-p.length+1<x.length:=Z
   have e:x=x.take (j-p.length)++x[j-p.length]::x[j-p.length+1]::x.drop (j-p.length+2):=by
    conv=>lhs;rw[←mi (j-p.length) x,rK g,rK k]
   have g1:d[j]! =x[j-p.length]:=by rw[←Dt b (j-p.length) g];congr 1;omega
   have o:d[j+1]! =x[j-p.length+1]:=by rw[←Dt b (j-p.length+1) k];congr 1;omega
   have l:=hc.2;rw[g1,o]at l;have r:(x.take (j-p.length)).length=j-p.length:=aX;generalize x.take (j-p.length)=c at e r;generalize x.drop (j-p.length+2)=xb at e;generalize x[j-p.length]=y at *;generalize x[j-p.length+1]=z at *;subst e;have s:=abp (d:=d) (p:=p++c) (m:=[]) (q:=xb++q) (x:=y) (y:=z) (by rw[b];simp) (i:=j) (j:=j+1) aX aX;exact⟨c++z::y::xb,by rw[s];simp,.step c y z xb f l⟩
  exact h
theorem zzm(lt:α→α→Bool)(p q a:List α)(b:Nat)(_:b=p.length+a.length):∀(k i:Nat)(d:Array α),b-i≤k→(∃x,d.toList=p++x++q∧Sw lt a x)→∃x,(insOuter lt p.length b i d).toList=p++x++q∧Sw lt a x:=by
 intro k
 induction k with
 |zero=>intro i d c h;rw[insOuter,E Z];exact h
 |succ k e=>
  intro i d c h;rw[insOuter];split
  ·exact e _ _ Z (zzn lt p q a i d Z h)
  exact h
theorem zo0(h:ww lt){d:Array α}{p x q:List α}(O:d.toList=p++x++q){a:Nat}(f:a=p.length)(g:b=p.length+x.length):(insertionSort lt d a b).toList=p++cV lt x++q:=by
 subst f;obtain⟨y,c,e⟩:=zzm lt p q x b g b (p.length+1) d Z ⟨x,O,.refl⟩;have k:b≤d.size:=by rw[←ou,O];simp;omega
 have l:=(insertionSort_holds (lt:=lt) (swo_of h) d p.length b Z k).2;have n:y.length=x.length:=e.perm.length_eq.symm
 have:y=cV lt x:=by
  apply Js h e
  refine J_.2 fun i j hi m o=>?_;have:=l (p.length+i) (p.length+j) Z Z Z;rw[show insertionSort lt d p.length b=insOuter lt p.length b (p.length+1) d from rfl,Dt c i hi,Dt c j m]at this;exact this
 rw[←this];exact c
end StbA
section
open Lib av m8
def NU(a b:List UInt8):Int:=if a=b then 0 else if a=[] then -1 else if b=[] then 1 else me a b
theorem cmpLoI_lt(a b:List UInt8):decide (NU a b<0)=aau a b:=by
 have d:=CF.neg a a;have h0:¬me a a<0:=Z;unfold NU aau;by_cases h:a=b
 ·subst h;by_cases h1:a=[]
  ·simp[h1]
  simp[h1,h0]
 by_cases h1:a=[]
 ·subst h1;have c:b≠[]:=fun e=>h e.symm;simp[h,c]
 by_cases c:b=[]
 ·subst c;simp[h1]
 simp[h,h1,c]
theorem ye8{a b:List UInt8}(h:aau a b=true):aau b a=false:=by
 rw[zzg];unfold aau at h;simp only[fI,n_,fE]at h;obtain⟨h1,c|c⟩:=h
 ·exact .inl c
 refine .inr ⟨h1,?_⟩;unfold le;omega
theorem ye9{a b c:List UInt8}(h1:loLe a b)(d:loLe b c):loLe a c:=by
 rcases h1 with h|⟨e,h⟩
 ·exact .inl h
 rcases d with m|⟨f,m⟩
 ·exact absurd m e
 exact .inr ⟨f,le_trans h m⟩
abbrev h8:=ByteArray×ByteArray
def dS(s:h8):Sp:=(s.1.data.toList,s.2.data.toList)
theorem dS_inj{s t:h8}(h:dS s=dS t):s=t:=by
 have h1:=iB Prod.fst h;have a:=iB Prod.snd h;exact zA (em.ext h1) (em.ext a)
theorem ye7{l m:List h8}(h:l.map dS=m.map dS):l=m:=(XQ fun _ _ e=>dS_inj e).1 h
abbrev Tp:={ s:h8 // s.1.size≤9000∧s.2.size≤9000 }
instance:Inhabited Tp:=⟨⟨(⟨#[]⟩,⟨#[]⟩),by decide⟩⟩
def aas(x y:Tp):Int:=NU x.1.1.data.toList y.1.1.data.toList
theorem ltSp(x y:Tp):Go.Proofs.ltOf aas x y=aau (dS x.1).1 (dS y.1).1:=cmpLoI_lt _ _
theorem FI:ww (Go.Proofs.ltOf aas) where
 asymm a b h:=by rw[ltSp]at *;exact ye8 h
 ntrans a b c h1 h2:=by rw[ltSp,zzg]at *;exact ye9 h1 h2
def nH(l:List Tp):List Tp:=cV (Go.Proofs.ltOf aas) l
theorem zv3(l:List Tp):((nH l).map fun x=>dS x.1).Pairwise Lo:=by
 have h:=zl FI l;rw[List.pairwise_map];refine List.Pairwise.imp ?_ h;intro a b c;rw[ltSp,zzg]at c;exact c
theorem AV(l:List Tp):(nH l).Perm l:=(AR FI l).perm.symm
def H9(out:List h8)(x:h8):List h8:=match out.getLast? with
 |some z=>if jS (dS z) (dS x)=true then out.dropLast++[jnV z.1 z.2 x.1 x.2] else out++[x]
 |none=>[x]
def xr(l:List h8):List h8:=l.foldl H9 []
theorem jn_dS(z x:h8):dS (jnV z.1 z.2 x.1 x.2)=lj (dS z) (dS x):=jnV_data _ _ _ _
theorem ycp(x:h8):H9 [] x=[x]:=rfl
theorem zn8(bT:List h8)(z x:h8):H9 (bT++[z]) x=if jS (dS z) (dS x)=true then bT++[jnV z.1 z.2 x.1 x.2] else bT++[z]++[x]:=by
 unfold H9;simp
theorem addB_dS(bT:List h8)(x:h8):(H9 bT x).map dS=abc (bT.map dS) (dS x):=by
 rcases A8 bT with rfl|⟨Q,z,rfl⟩
 ·rfl
 rw[A9,zn8,oP,eU,Aq,zxf]
 cases jS (dS z) (dS x) with
 |true=>simp[jn_dS]
 |false=>simp
theorem fold_dS:∀(r bT:List h8),(r.foldl H9 bT).map dS=(r.map dS).foldl abc (bT.map dS)
 |[],bT=>rfl
 |x::r,bT=>by rw[EJ,eU,EJ,fold_dS r (H9 bT x),addB_dS]
theorem mergeB_dS(r:List h8):(xr r).map dS=ybi (r.map dS):=fold_dS r []
theorem zng:∀(r bT:List h8),(r.foldl H9 bT).length≤bT.length+r.length
 |[],bT=>ae
 |x::r,bT=>by
  have h:=zng r (H9 bT x)
  have:(H9 bT x).length≤bT.length+1:=by
   rcases A8 bT with rfl|⟨Q,z,rfl⟩
   ·simp[ycp]
   rw[A9,zn8];split<;>simp
  rw[EJ,fO];omega
def fJ(l:List Tp):List h8:=xr ((nH l).map (·.1))
def rM(l:List h8):Bool:=l.all fun s=>eg (dS s)
theorem No{l:List h8}:rM l=true↔∀s∈l.map dS,eg s=true:=by
 unfold rM;rw[qy];exact akg
theorem zov{l:List Tp}(h:rM (l.map (·.1))=true):Sep ((fJ l).map dS)∧∀p,Do ((fJ l).map dS) p↔Do ((l.map (·.1)).map dS) p:=by
 have e:((nH l).map (·.1)).map dS=(nH l).map fun x=>dS x.1:=by rw[wY];rfl
 have a:(((nH l).map (·.1)).map dS).Perm ((l.map (·.1)).map dS):=((AV l).map _).map _;have h1:=merge_sep (r:=((nH l).map (·.1)).map dS) (fun s b=>No.1 h s (a.mem_iff.1 b)) (by rw[e];exact zv3 l);unfold fJ;rw[mergeB_dS];exact⟨h1.1,fun p=>by rw[h1.2 p,zub a]⟩
theorem form_of{l:List Tp}(h:rM (l.map (·.1))=true){F:List h8}(hF:Sep (F.map dS))(a:∀p,Do (F.map dS) p↔Do ((l.map (·.1)).map dS) p):fJ l=F:=by
 obtain⟨h1,b⟩:=zov h;exact ye7 (sep_one _ _ h1 hF fun p=>by rw[b p,a p])
theorem ybu(l:List Tp):(fJ l).length≤l.length:=by
 have h:=zng ((nH l).map (·.1)) [];have a:=(AV l).length_eq;unfold fJ xr;simp only[gi,tO]at h;omega
def jnT(a b:Tp):Tp:=⟨jnV a.1.1 a.1.2 b.1.1 b.1.2,by
 have ha:=a.2;have hb:=b.2;have h0:(ByteArray.mk #[]).size≤9000:=D;unfold jnV;split
 ·exact agx
 exact⟨h0,h0⟩⟩
def mtT(a b:Tp):Bool:=jS (dS a.1) (dS b.1)
def mayT(l:List Tp):Prop:=∀s∈l,eg (dS s.1)=true
def abj(l:List Tp)(p:Pt):Prop:=Do (l.map fun x=>dS x.1) p
theorem ztw{l:List Tp}:mayT l↔rM (l.map (·.1))=true:=by
 rw[No];unfold mayT;rw[wY];exact akg
theorem mt_symm{a b:Tp}(c:eg (dS a.1)=true)(d:eg (dS b.1)=true)(h:mtT a b=false):mtT b a=false:=by
 unfold mtT at *;rw[qw]at *;intro k;have:=(zos d c).1 k;exact h ((zos c d).2 ⟨this.2,this.1⟩)
def MStep(l l':List Tp):Prop:=∃a b r,l.Perm (a::b::r)∧mtT a b=true∧l'=jnT a b::r
def Jm(l:List Tp):Prop:=l.Pairwise fun a b=>mtT a b=false
theorem zqw(a:Tp)(l:List Tp)(p:Pt):abj (a::l) p↔covS (dS a.1) p∨abj l p:=by
 unfold abj Do;simp only[eU,iC,or_and_right,exists_or,Sh]
theorem covT_perm{a b:List Tp}(h:a.Perm b)(p:Pt):abj a p↔abj b p:=zub (h.map _) p
theorem yd2{l d:List Tp}(f:mayT l)(h:MStep l d):mayT d∧(∀p,abj d p↔abj l p)∧d.length+1=l.length:=by
 obtain⟨a,b,r,c,k,rfl⟩:=h;have i:eg (dS a.1)=true:=f a (c.mem_iff.2 ae);have j:eg (dS b.1)=true:=f b (c.mem_iff.2 ae);have e:dS (jnT a b).1=lj (dS a.1) (dS b.1):=jn_dS a.1 b.1;refine⟨fun s g=>?_,fun p=>?_,?_⟩
 ·rcases iC.1 g with rfl|g
  ·rw[e];exact ybq i j
  exact f s (c.mem_iff.2 (by simp[g]))
 ·rw[covT_perm c,zqw,zqw,zqw,e,ybr i j k,or_assoc]
 have:=c.length_eq;simp only[fO]at *;omega
theorem ydh{l L:List Tp}(d:mayT l)(c:mayT L)(e:∀p,abj L p↔abj l p)(f:Jm L):fJ l=(nH L).map (·.1):=by
 refine form_of (ztw.1 d) ?_ fun p=>?_
 ·rw[wY];refine sep_of (fun s g=>?_) (zv3 L) ?_
  ·obtain⟨x,i,rfl⟩:=gb.1 g;exact c x ((AV L).mem_iff.1 i)
  rw[List.pairwise_map];have j:L.Pairwise fun a b=>(mtT a b=false∧eg (dS a.1)=true∧eg (dS b.1)=true):=f.imp_of_mem fun ha hb h=>⟨h,c _ ha,c _ hb⟩;have k:=((AV L).pairwise_iff (fun {a b} h=>⟨mt_symm h.2.1 h.2.2 h.1,h.2.2,h.2.1⟩)).2 j;exact k.imp fun h=>h.1
 rw[wY,wY];exact (zub ((AV L).map _) p).trans (e p)
theorem ydo{l:List Tp}(h:∀i k (hi:i<l.length) (a:k<l.length),i<k→mtT l[i] l[k]=false):Jm l:=by
 unfold Jm;rw[J_];intro i k hi a b;exact h i k hi a b
def gp{α:Type}[Inhabited α](l:List α)(i k:Nat):Nat→List α
 |0=>[]
 |n+1=>if n≠i∧n≠k then gp l i k n++[l[n]!] else gp l i k n
theorem zvs{α:Type}[Inhabited α](l:List α)(b:i<k):∀n,n≤l.length→(l.take n).Perm ((if i<n then [l[i]!] else [])++(if k<n then [l[k]!] else [])++gp l i k n)
 |0,_=>by simp[gp]
 |n+1,f=>by
  have a:=zvs l b n Z;have c:n<l.length:=Z;have e:l[n]! =l[n]:=xe l n c;rw[pP c];unfold gp;by_cases h1:n=i
  ·subst h1;rw[E (Nat.lt_irrefl _),E Z]at a;rw[M Z,E Z,E ae,e];simp only[ig,h_]at a⊢;exact (a.append_right _).trans XR
  by_cases d:n=k
  ·subst d;rw[M b,E (Nat.lt_irrefl _)]at a;rw[M Z,M Z,E ae,e];simp only[h_]at a;refine (a.append_right _).trans ?_;rw[gq,gq];exact SE _ XR
  rw[M (show n≠i∧n≠k from ⟨h1,d⟩),e,←gq];have c1:(i<n+1)=(i<n):=by apply propext;omega
  have c2:(k<n+1)=(k<n):=by apply propext;omega
  simp only[c1,c2];exact a.append_right _
theorem pick_all{α:Type}[Inhabited α](l:List α)(b:i<k)(a:k<l.length):l.Perm (l[i]'(by omega)::l[k]::gp l i k l.length):=by
 have h:=zvs l b l.length (aE _);rw[List.take_length,M Z,M a,xe l i Z,xe l k a]at h;exact h
theorem ybg{α:Type}[Inhabited α](l:List α)(i k:Nat):∀n,(gp l i k n).length≤n
 |0=>by simp[gp]
 |n+1=>by
  have:=ybg l i k n;unfold gp;split
  ·simp;omega
  omega
theorem step_of{l:List Tp}(a:i<k)(b:k<l.length)(h:mtT (l[i]'(by omega)) l[k]=true):MStep l (jnT (l[i]'(by omega)) l[k]::gp l i k l.length) :=
 ⟨_,_,_,pick_all l a b,h,rfl⟩
end
section
open RowKit Lib av
theorem ret_i{a b:Int}(h:a=b):Ending.returned (.int .i64 a)=.returned (.int .i64 b):=by rw[h]
theorem zrd(lo hi lp hj:ByteArray)(j:lo.size≤1000000)(l:lp.size≤1000000)(g:dN w):Calls prog 127 #[.agg #[.string lo,.string hi],.agg #[.string lp,.string hj]] w fun e w'=>e=.returned (.int .i64 (NU lo.data.toList lp.data.toList))∧Below w.heap.size w w':=by
 refine ahi ?_;intro W0 bw nb ck hw c0 d0;have m:(lo.toList==lp.toList)=decide (lo.data.toList=lp.data.toList):=by rw[em.gu];exact rz.2 ba_eq
 have n:lo.toList.isEmpty=decide (lo.data.toList=[]):=JM lo;have s:lp.toList.isEmpty=decide (lp.data.toList=[]):=JM lp;have t:=sW hw (zlf lo lp j l (g.below hw));obtain⟨p,f⟩:=Y (decide (lo.data.toList=lp.data.toList));obtain⟨q,hq⟩:=Y (decide (lo.data.toList=[]));obtain⟨r,hr⟩:=Y (decide (lp.data.toList=[]));have u:NU lo.data.toList lp.data.toList=if p=true then 0 else if q=true then -1 else if r=true then 1 else me lo.data.toList lp.data.toList:=by rw[f,hq,hr];simp only[fE];rfl
 rw[←f]at m;rw[←hq]at n;rw[←hr]at s;clear f hq hr;revert g hw t u;refine bV ?_;intro _ Hw HP Hv;go_enter func127,ntmps127;go_upto_region 1 with (fail);refine mn ?_;clear bw ck
 cases p with
 |true=>exact Xl
 |false=>
  cases q with
  |true=>exact Xl
  |false=>
   cases r with
   |true=>exact Xl
   |false=>
    go_wp2_with fail
    refine qJ ?_;rintro e w1 ⟨rfl,i⟩;have v:=O i;clear i;go_wp2_with fail;go_ret;exact⟨ret_i MB,v.o⟩
theorem less_lt(a b:List UInt8):oy a b=decide (me a b<0):=by
 rw[less_is];have:=CF.tri a b;exact rz.2 ⟨fun h=>Z,fun h=>Z⟩
theorem yf8(lo hi lp hj:ByteArray)(j:lo.size≤1000000)(l:lp.size≤1000000)(w:World):Calls prog 105 #[.agg #[.string lo,.string hi],.agg #[.string lp,.string hj]] w fun e w'=>e=.returned (.bool (aau lp.data.toList lo.data.toList))∧Below w.heap.size w w':=by
 refine ahi ?_;intro W0 bw nb ck hw c0 d0;have m:lo.toList.isEmpty=decide (lo.data.toList=[]):=JM lo;have n:lp.toList.isEmpty=decide (lp.data.toList=[]):=JM lp;have d:=sW hw (Jo lp lo l j W0);rw[less_lt]at d;obtain⟨q,hq⟩:=Y (decide (lo.data.toList=[]));obtain⟨r,hr⟩:=Y (decide (lp.data.toList=[]));obtain⟨s,hs⟩:=Y (decide (me lp.data.toList lo.data.toList<0))
 have f:aau lp.data.toList lo.data.toList=(!q&&(r || s)):=by
  unfold aau;rw[hq,hr,hs];congr 1;by_cases h:lo.data.toList=[]<;>simp[h]
 rw[←hq]at m;rw[←hr]at n;rw[←hs]at d;clear hq hr hs;obtain⟨HP,g,Hv⟩:=aQ d hw f;clear d hw f;go_enter func105,ntmps105;go_upto_region 1 with (fail);refine mn ?_;clear bw ck
 cases q with
 |true=>
  go_wp2_with fail
  go_ret;exact⟨MB,g.o⟩
 |false=>
  cases r with
  |true=>
   go_wp2_with fail
   go_ret;exact⟨MB,g.o⟩
  |false=>
   go_wp2_with fail
   refine qJ ?_;rintro e w1 ⟨rfl,i⟩;have p:=O i;clear i;go_wp2_with fail;go_ret;exact⟨MB,p.o⟩
end
end Go.Proofs.YthgibhhbmmkjmaaGreatDoor
