/- Small words that the other texts use. Condition: none beyond what each says. -/
import Derived.Shelf.Strings.OnBuilder
import Derived.Shelf.Small.Wraps
import Derived.Shelf.Strconv.Itoa3
import Derived.Shelf.Strconv.ErrVarAll
import Derived.Shelf.Strings.Shaped
import Derived.Shelf.Unicode.DecodeSlow
import Derived.WalkSpells
import Derived.WalkLawsBesides
import Derived.StillTailTactics
import Derived.Deep.RegionLawGrows
import Derived.LaidMore
import Derived.Lay
import Derived.SevenTiedAt
import Derived.Stop.LaidErr
import Derived.Deep.DeepHandedRow
import Derived.Lib.SplitLaws
import Derived.RangeFuncNested
import Derived.OwnWalkIn
import Derived.TacticsInMore
import Derived.LoopNIn
import Derived.LoopIn
import Derived.Deep.RegionHeld3
import Derived.Lib.SmallJoins
import Derived.Deep.DeepCutAuto
import Derived.Shelf.SlSortCmp.Insertion
import Derived.Shelf.SlSortCmp.QuietGrown
import Derived.Laws.EntriesVeiled
import Derived.Deep.DrawnRows
import Derived.Deep.CutBlock
import Derived.Test.YthgibhhbmmkjmaaGreatDoorProg
set_option linter.defProp false
set_option maxRecDepth 10000
set_option maxHeartbeats 40000000
theorem Go.RowKit.Hid.o{p:Prop}(h:Go.RowKit.Hid p):p:=h
namespace Go.Proofs.YthgibhhbmmkjmaaGreatDoor
open Go Go.RowKit Go.Lib
variable {P Q:Prop}
def ae(h:P:=by simp):=h
def Z(h:P:=by omega):=h
def F4(h:P:=by simpa using hl):=h
def aX(h:P:=by simp;omega):=h
def aA(h:P:=by kernel_rfl):=h
def D(h:P:=by decide):=h
def vm(h:P:=by simp at hi):=h
def atv(h:P:=by have:=(ie.1 hi).1;omega):=h
def Te(h:P:=by simpa using hi):=h
def Tg(h:P:=by simpa using hb):=h
def SF(h:P:=by rw[ou];rfl):=h
def arm(h:P:=by simpa [Lib.strCells_length] using acz.o):=h
def avp(h:P:=by unfold maxLen at xH;omega):=h
def DD(h:P:=by rw[h2];simp):=h
def SM(h:P:=by rw[h_];rfl):=h
def Q_(h:P:=by simpa using hx):=h
def MJ(h:P:=by rw[e];rfl):=h
def vy(h:P:=by simp[hy]):=h
def arz(h:P:=by rintro (e|e);exact ha e;exact h e):=h
def Of(h:P:=by rw[hl];exact em.len s):=h
def aaf(h:P:=by rw[hn];exact s[k].toNat_lt):=h
def Fs(h:P:=by simp only[Hl.o];rfl):=h
def cj(h:P:=by go_num):=h
def F3(h:P:=by rw[lH (by have:=iH.o;omega)]at eC;exact eC):=h
def Yh(h:P:=by rw[hn];exact s[0].toNat_lt):=h
def w_(h:P:=by simpa using h):=h
def gl(h:P:=by have:=Hn.o;omega):=h
def lD(h:P:=by rw[hx];exact bR aI):=h
def asv(h:P:=by have:=h.1;rw[gi]at this;omega):=h
def dW(h:P:=by simp[Value.oneCell']):=h
def cY(h:P:=by unfold maxLen;omega):=h
def l9(h:P:=by rw[JY];omega):=h
def F5(h:P:=by rw[em.ii,aO h0]):=h
def DG(h:P:=by rw[em.ii,be h0]):=h
def OQ(h:P:=by have:=HN.o;omega):=h
def Vh(h:P:=by rw[ga.o];rfl):=h
def Mz(h:P:=by simpa using hp):=h
def YS(h:P:=by have:=uM k e;omega):=h
def YT(h:P:=by show w.heap.size≤w.heap.size+1+1+1;omega):=h
def ata(h:P:=by have:=hg.size;have:=aM.size;simp[World.setCell];omega):=h
def YV(h:P:=by rcases hk with h|h|h<;>omega):=h
def R_(h:P:=by show w.heap.size≤w.heap.size+1;omega):=h
def YX(h:P:=by rw[Hm.o]at h;cases h):=h
def Ta(h:P:=by simp[World.setCell];exact h.1):=h
def aum(h:P:=by have:=bK.o.size;simp[World.setCell]at this⊢;omega):=h
def Tb(h:P:=by rw[awf.o];rfl):=h
def CY(h:P:=by simpa using h3 0 _ rfl):=h
def ats(h:P:=by rintro (h|h);exact h0 h;rw[h]at hp;cases hp):=h
def LH(h:P:=by rw[bw];exact aS _ _):=h
def Tc(h:P:=by rw[bw,ck];exact dq _ _):=h
def att(h:P:=by rw[eh];exact aB.o.alloc aB.o.size _):=h
def atu(h:P:=by rw[eh,hg];exact dq _ _):=h
def gU(h:P:=by rw[oB.o];rfl):=h
def od(h:P:=by exact H):=h
def Ki(h:P:=by exact H.alloc H.size _):=h
def YY(h:P:=by rw[ev.o];rfl):=h
def YZ(h:P:=by rw[hv];exact aS _ _):=h
def aun(h:P:=by have:=(bS.1 Ha.o).1;omega):=h
def auo(h:P:=by have:=(bS.1 Hb.o).1;omega):=h
def aup(h:P:=by have:=(bS.1 Hr.o).1;omega):=h
def Td(h:P:=by rw[hv,hg];exact dq _ _):=h
def atw(h:P:=by rw[hv];exact dL.o.setCell (p:=⟨go,0,none⟩) vh.o _):=h
def Ll(h:P:=by rw[hv,AF _ _ _ _ YB.o];exact Ha.o):=h
def Lm(h:P:=by rw[hv,AF _ _ _ _ YC.o];exact Hb.o):=h
def Lp(h:P:=by rw[hv,AF _ _ _ _ YD.o];exact Hr.o):=h
def OR(h:P:=by rw[hv];exact ag _ go 0 _ _ _ Ho.o):=h
def tL(h:P:=by rw[hv];exact ag _ go 1 _ _ _ Ho.o):=h
def acs(h:P:=by rw[hv];exact dL.o.setCell (p:=⟨go,1,none⟩) vh.o _):=h
def zC(h:P:=by rw[h];simp):=h
def sV(h:P:=by rw[h1];simp):=h
def F6(h:P:=by rw[O];simp):=h
def atx(h:P:=by rintro (h|h);exact h1 h;exact h.1 h2):=h
def PC(h:P:=by first|rfl|(rw[Hlv.o];rfl)):=h
def PD(h:P:=by first|rfl|(rw[abs.o];rfl)):=h
def auq(h:P:=by rw[hv];exact bh.o.setCell (p:=⟨go,1,none⟩) vh.o _):=h
def Tf(h:P:=by rw[F8];omega):=h
def Fu(h:P:=by simpa using h3 1 _ rfl):=h
def Vk(h:P:=by rw[bw];exact (aS _ _).alloc (by simp) _):=h
def MB(h:P:=by rw[Hv.o];rfl):=h
def aqw(h:P:=by simp only[XW,bM,Sn,List.flatten_nil,h_];omega):=h
def aqx(h:P:=by rw[hn,h1,bM,bM,h6]):=h
def we(h:P:=by rw[hk,e]):=h
def avm(h:P:=by rw[bw,ck];exact dx rfl):=h
def auf(h:P:=by rw[ck];exact (dG.lt j e).2):=h
def sR(h:P:=by rw[i_ _ (by omega)];omega):=h
def EP(h:P:=by rw[hx];exact eZ aI):=h
def X0(h:P:=by rw[←hs,←ou,O];simp;omega):=h
def aqy(h:P:=by rw[←hx,←hy];unfold ltOf;rw[←hcv];exact hdec):=h
def J5(h:P:=by have:=oY.o;omega):=h
def SG(h:P:=by rw[hX2];exact rz.2 (by omega)):=h
def SH(h:P:=by rw[hY1];exact rz.2 (by omega)):=h
def aqz(h:P:=by rw[Zc];exact rz.2 (by omega)):=h
def ara(h:P:=by rw[hY2];exact rz.2 (by omega)):=h
def arb(h:P:=by simp only[Nat.add_sub_cancel];rw[←hx,←hy];unfold ltOf;rw[←hcv];exact hdec):=h
def X3(h:P:=by rw[hn,gi]):=h
def J6(h:P:=by have:=mG.o;omega):=h
def MC(h:P:=by rw[Ht.o];rfl):=h
def J7(h:P:=by have:=Hq.o;omega):=h
def X4(h:P:=by rw[hy];exact bR JF):=h
def X5(h:P:=by rw[hy];exact eZ JF):=h
def GM(h:P:=by rw[ev.o]<;>rfl):=h
def X6(h:P:=by rw[←e];exact h):=h
def arc(h:P:=by rw[hy,rC,bR aI];rfl):=h
def ard(h:P:=by exact ee.o.trans (H.mono ee.o.size)):=h
def N_(h:P:=by rw[bne_iff_ne];omega):=h
def tm(h:P:=by cases h):=h
def DA(h:P:=by have:=HPl.o;omega):=h
def are(h:P:=by have:=HPl.o;rw[xG,Nc,gi,tZ];omega):=h
def arf(h:P:=by have:=HPl.o;rw[vL,Nc,gi,xf];omega):=h
def DB(h:P:=by have:=wI.o.size;omega):=h
def ML(h:P:=by have:=ks.o;omega):=h
def arg(h:P:=by rw[←Fq,em.gu,aO h0]):=h
def arh(h:P:=by rw[←Fq,em.gu,be h0]):=h
def ari(h:P:=by rw[rG,←dlen s];exact (Jq 44 _).2):=h
def X7(h:P:=by simp[Lib.joinTail]):=h
def Oa(h:P:=by rw[←Eg.o];exact dz):=h
def arj(h:P:=by have:=zjz l x hx;unfold maxLen;omega):=h
def ark(h:P:=by have:=Nd l x hx;unfold maxLen;omega):=h
def sU(h:P:=by first|rfl|trivial):=h
def MM(h:P:=by rw[A5];exact h):=h
def Ob(h:P:=by simpa using k2):=h
def arl(h:P:=by rw[qw];intro h;rw[List.isEmpty_iff,zf]at h;omega):=h
def SJ(h:P:=by rw[zf];omega):=h
def avn(h:P:=by rw[Hr.o];exact dI.o (by rw[MO.o];rfl)):=h
def arn(h:P:=by rw[MO.o,wh];simp[List.getD_eq_getElem?_getD,bR R9]):=h
def aro(h:P:=by rw[Hr.o];exact zro (by rw[←Hn.o];exact aj)):=h
def yF(h:P:=by rw[aK];exact aS _ _):=h
def DC(h:P:=by simp[ay,pw]):=h
def SK(h:P:=by rw[hr,M fj]):=h
def X8(h:P:=by simp only[iu,M fj];exact h.le):=h
def X9(h:P:=by simp[ends,ay,pw]):=h
def Oc(h:P:=by simp[hx]):=h
def Od(h:P:=by rw[hw];simp):=h
def wZ(h:P:=by simp at hx):=h
def Vx(h:P:=by rw[hk];exact h.xB):=h
def avo(h:P:=by have:=h.bm.size;have:=f1.size;omega):=h
def X_(h:P:=by simp[Value.ownBlock]):=h
def arp(h:P:=by have:=h.sz x hx;unfold maxLen;omega):=h
def SL(h:P:=by rw[←Hs.o];exact Hhb.o.symm):=h
def ZA(h:P:=by rw[Hm.o];rfl):=h
def Qt(h:P:=by subst e;rfl):=h
def GN(h:P:=by have:=cJ.o;omega):=h
def ZQ(h:P:=by rw[←Hn.o,←fV.o,cJ.o]):=h
def EA(h:P:=by rw[Hf.o];rfl):=h
def acf(h:P:=by rw[Hf.o]at k;cases k):=h
def arq(h:P:=by have:=HC.o.low;show w0.heap.size≤g1;omega):=h
def LF(h:P:=by rw[aK];exact (aS _ _).alloc (by simp) _):=h
def yz(h:P:=by rw[aK,hg];exact G (aS _ _) (dx rfl)):=h
def yq(h:P:=by rw[aK,hg];exact dx (by simp)):=h
def Va(h:P:=by rw[yd.o];rfl):=h
def arr(h:P:=by rw[←em.len,fz,bM,em.len,em.len]):=h
def IJ(h:P:=by rw[aK,hg];exact dq _ _):=h
def ars(h:P:=by rw[iS.o,M (ed Ff.o.symm)]):=h
def EB(h:P:=by have:=fV.o;omega):=h
def Mx(h:P:=by rw[eT];exact aS _ _):=h
def avq(h:P:=by rw[gd]at hx;rw[hx];decide):=h
def art(h:P:=by rw[iS.o,E (lC Ff.o.symm)]):=h
def Vb(h:P:=by simp at hl):=h
def SN(h:P:=by simpa using h2):=h
def SO(h:P:=by show ¬(0:Int)<0;omega):=h
def J8(h:P:=by simp[ac.st0]):=h
def J9(h:P:=by simp[vg]at hq):=h
def SP(h:P:=by rw[←h.len];exact hi):=h
def SQ(h:P:=by rw[←e];exact bR hi):=h
def aru(h:P:=by obtain⟨x,hx⟩:=h.all cs pC;exact hk _ _ _ hx):=h
def Ya(h:P:=by simp at e8;omega):=h
def arv(h:P:=by have:=hT k k1 k2;exact⟨by omega,by omega,this.2⟩):=h
def SR(h:P:=by rw[hG k k1 (by omega),k2]):=h
def vx(h:P:=by rw[aR hk,h]):=h
def JQ(h:P:=by rw[aR oA,re]):=h
def JR(h:P:=by rw[aR (L.row.lt k hk).2];exact L.tag k hk):=h
def arw(h:P:=by have:=iB List.length h1;simpa using this):=h
def Yb(h:P:=by simpa using h3 2 _ rfl):=h
def arx(h:P:=by rw[←h.1];exact XX hp):=h
def aug(h:P:=by rw[←h2];exact l1):=h
def avr(h:P:=by rw[←Hs.o,←Hb.o]):=h
def SS(h:P:=by rw[zf5];omega):=h
def U7(h:P:=by rw[zf5]at hj;omega):=h
def Yc(h:P:=by rw[eo];exact aS _ _):=h
def TL(h:P:=by rw[eB];exact aS _ _):=h
def Yd(h:P:=by rw[eB,hzb];exact World.ownsRow_lit _ _ 2 (Below.refl wr.heap.size wr).size (by unfold maxLen;omega) (by simp)):=h
def SU(h:P:=by first|exact cZ.o|simpa using cZ.o):=h
def Pu(h:P:=by rw[cW];exact aS _ _):=h
def I9(h:P:=by rw[cW,ll];exact dq _ _):=h
def SV(h:P:=by first|exact dY.o|simpa using dY.o):=h
def A_(h:P:=by rw[rn];exact fS.o):=h
def SW(h:P:=by rw[gi,Nat.mul_one];exact AN.o.1.symm):=h
def SY(h:P:=by rw[rC,bR aI,hv];rfl):=h
def ary(h:P:=by rw[eB,hzb];exact World.ownsRow_lit _ _ 1 gk.o.size (by unfold maxLen;omega) (by simp)):=h
def auh(h:P:=by have:=ns.o;omega):=h
def Oe(h:P:=by exact aV):=h
def aui(h:P:=by rw[Hr.o,pQ];exact bQ (lC hc.symm)):=h
def adh(h:P:=by first|rfl|(rw[x8])):=h
def GU(h:P:=by rw[qR.o];rfl):=h
def DE(h:P:=by rw[cW,b9];exact dq _ _):=h
def DF(h:P:=by rw[eB,kW];exact dq _ _):=h
def JS(h:P:=by rw[vj.o];first|rfl|simp):=h
def Ye(h:P:=by rw[k2];unfold Live;omega):=h
def Yf(h:P:=by rw[←Hs.o];exact II.o.symm):=h
def asa(h:P:=by have:=HI.o.st.bm.size;exact HI.o.st.bm.size):=h
def asb(h:P:=by rw[ju];exact ag _ g1 2 _ _ _ il):=h
def SZ(h:P:=by have:=Hge.o.1;omega):=h
def asc(h:P:=by rw[←Hs.o,←MA.o];exact ev.o.symm):=h
def CM(h:P:=by rw[jb first [118,101,114,115,105,111,110] nZ rfl,hf];decide):=h
def Ba(h:P:=by subst hk;exact⟨by omega,kQ⟩):=h
def JT(h:P:=by subst hk;unfold Live;exact⟨by omega,by omega,by omega,kQ⟩):=h
def My(h:P:=by rw[eM];exact aS _ _):=h
def Yg(h:P:=by rw[eM,tI];exact dq _ _):=h
def Ar(h:P:=by have:=hr.tag k hk;unfold Live;omega):=h
def Ke(h:P:=by rw[←CW.o];exact cJ.o):=h
def ye(h:P:=by rw[←Hm.o,←HN.o];exact aZ):=h
def vu(h:P:=by rw[CW.o];exact zcw aT):=h
def Kf(h:P:=by rw[CW.o];exact cg):=h
def G6(h:P:=by rw[←Hs.o];exact ev.o):=h
def IK(h:P:=by rw[jb first [118,97,114,105,97,110,116] n8 rfl,hf];decide):=h
def QS(h:P:=by rw[jb first [112,114,111,118,105,100,101,115] kX rfl,hf];decide):=h
def Lv(h:P:=by rw[Hrv0.o];exact aT):=h
def Uf(h:P:=by rw[Hrv0.o];exact cg):=h
def avs(h:P:=by rw[←Hs.o];exact aj.elim .inl fun h=>.inr (.inl h)):=h
def Og(h:P:=by rw[jb first [100,101,112,101,110,100,115] lF rfl,hf];decide):=h
def asd(h:P:=by rw[jb first [99,111,110,102,108,105,99,116,115] kv rfl,hf];decide):=h
def ase(h:P:=by rw[jb first [102,105,108,101] kY rfl,hf];decide):=h
def acm(h:P:=by rw[←iH.o];exact cZ.o):=h
def asf(h:P:=by rw[C8,←Nx];exact dq _ _):=h
def asg(h:P:=by subst hk;exact dF Ja.o.box (by decide)):=h
def ash(h:P:=by subst hk;exact dF avk.o.box (by decide)):=h
def S0(h:P:=by subst hk;exact I8):=h
def asi(h:P:=by rw[jb first [112,97,99,107,97,103,101] iK rfl,hf];decide):=h
def Vy(h:P:=by rw[Hm.o];exact Eg.o):=h
def abq(h:P:=by have:=Z0.o;omega):=h
def asj(h:P:=by rw[e]at pZ;exact absurd pZ (by decide)):=h
def asl(h:P:=by rw[jb first [112,97,99,107,97,103,101] iK rfl];exact be sh):=h
def asm(h:P:=by rw[jb first [112,114,101,102,101,114] lI rfl];exact be kO):=h
def avt(h:P:=by rw[iT.o k hk]at h;exact h):=h
def avu(h:P:=by first|exact aB.o|exact dA aB.o):=h
def UM(h:P:=by have:=hx.1;omega):=h
def avv(h:P:=by have:=hx.2.1;omega):=h
def Kg(h:P:=by rw[beq_iff_eq];omega):=h
def S3(h:P:=by rw[←Hn.o];exact hA):=h
def S4(h:P:=by rw[←Hn.o];exact As):=h
def zB(h:P:=by dsimp only;omega):=h
def S5(h:P:=by rw[h.K6];exact DZ):=h
def Yi(h:P:=by rw[ou];exact h):=h
def QT(h:P:=by rw[he];rfl):=h
def auj(h:P:=by rw[bne_iff_ne];exact he):=h
def asn(h:P:=by simp[results,results22,go_sem,z0,z1]):=h
def YO(h:P:=by have:=im.o;omega):=h
def P0(h:P:=by rw[aK,hg];simp):=h
def Oh(h:P:=by rw[ea];exact aS _ _):=h
def aso(h:P:=by rw[hl];exact bR aI):=h
def asp(h:P:=by rw[hl];exact rK aI):=h
def Yj(h:P:=by rw[ju];exact aS _ _):=h
def Yk(h:P:=by have:=Mr.o;omega):=h
def S6(h:P:=by have:=Fh.o;have:=E_.o;omega):=h
def S7(h:P:=by rw[e];omega):=h
def yA(h:P:=by show w.heap.size≤g+1;omega):=h
def asq(h:P:=by rw[hp];exact bR aI):=h
def S8(h:P:=by rw[hq];exact bR aI):=h
def asr(h:P:=by rw[HL.o,HM.o,fV.o];unfold gz;rw[List.length_append,List.length_map]):=h
def ass(h:P:=by rw[eT];exact (aS _ _).alloc (by simp) _):=h
def G_(h:P:=by rw[Hr.o];rfl):=h
def Iw(h:P:=by first|exact rfl|exact trivial):=h
def acn(h:P:=by rw[Lb];exact aO ((ziv o).2 hz)):=h
def aco(h:P:=by rw[Lb];exact be (fun h=>hz ((ziv o).1 h))):=h
def Ah(h:P:=by rintro k (rfl|rfl)<;>omega):=h
def Yl(h:P:=by show w.heap.size≤h+1;omega):=h
def Mo(h:P:=by rw[←rn,dV.o]):=h
def ast(h:P:=by rw[xf,em.len];exact aE _):=h
def Vz(h:P:=by rw[bw,hg];simp):=h
def asu(h:P:=by rw[eE];exact i_ _ (by omega)):=h
def Ra(h:P:=by simpa using jJ):=h
def Ih(h:P:=by have:=ir.o;omega):=h
def Qk(h:P:=by rw[Al];rfl):=h
def Tk(h:P:=by have:=Hm.o;have:=Hn.o;omega):=h
def aws(h:P:=by have:=fh dY.o vK;rw[bM,oP,←vd.o,←HN.o];exact this):=h
def asw(h:P:=by rw[bw,hg];exact G (aS _ _) (dx rfl)):=h
def YP(h:P:=by rw[bw,hg];exact dx (by simp)):=h
def Us(h:P:=by rw[hs];exact fe _):=h
def PK(h:P:=by exact qO.o):=h
def Vg(h:P:=by exact df.o):=h
def adg(h:P:=by rintro k rfl;exact bZ):=h
def aqr(h:P:=by rw[B9];exact (am.refl _ wr).setCell (p:=⟨g5,2,none⟩) (.inr (.inl rfl)) _):=h
def aqs(h:P:=by rintro k (rfl|rfl|rfl)<;>omega):=h
def yJ(h:P:=by rintro k rfl;omega):=h
def TD(h:P:=by simp<;>omega):=h
def T7(h:P:=by rw[BH];exact he):=h
def TE(h:P:=by rw[←ki.o];exact k1):=h
def yV(h:P:=by injection e0):=h
def I_(h:P:=by rw[←qT.o,←HN.o];exact dY.o):=h
def Mp(h:P:=by rw[et];exact ah qZ (by omega)):=h
def Mq(h:P:=by rw[hz];omega):=h
def EE(h:P:=by rcases hz with h|h<;>rw[h]<;>omega):=h
def ZB(h:P:=by rw[←HG.o];omega):=h
def pH(h:P:=by unfold Live;omega):=h
def asx(h:P:=by rw[←Hs.o,←aue.o];exact ev.o.symm):=h
def asy(h:P:=by rw[hwt];exact aN (aN (aN (aN (am.refl _ _) 0 _) 1 _) 2 _) 3 _):=h
def YQ(h:P:=by rw[et];exact ag _ g4 2 _ _ _ jO.s):=h
def YR(h:P:=by first|exact QP.o h|exact QP.o trivial):=h
def avw(h:P:=by rw[sx];exact abe D_):=h
def S9(h:P:=by have:=hT _ k;omega):=h
def asz(h:P:=by have:=(bS.1 so.o.r2).1;omega):=h
def DH(h:P:=by have:=Ui.o;omega):=h
def aag(h:P:=by rw[←hwt];exact aL _ _):=h
def auk(h:P:=by have:=ir.o;unfold maxLen;omega):=h
def Ym(h:P:=by rw[fy (by have:=Hn.o;have:=xx.o;omega),←jR.o]):=h
def acp(h:P:=by rw[eJ];exact aN (aN (am.refl _ _) _ _) _ _):=h
def YU(h:P:=by have:=EW.o;omega):=h
def D8(h:P:=by rw[hu];exact aS _ _):=h
def T8(h:P:=by rw[hu,il];exact dq _ _):=h
def T9(h:P:=by rw[hu,eE];exact dq _ _):=h
def acq(h:P:=by have:=(bS.1 dv.o).1;omega):=h
def acr(h:P:=by have:=(bS.1 dZ.o).1;omega):=h
def Vi(h:P:=by have:=xL.o;omega):=h
def Vj(h:P:=by have:=xM.o;omega):=h
def UN(h:P:=by simp[results,results73,go_sem]):=h
def aah(h:P:=by rw[Hg.o,znt I4.o]):=h
def atb(h:P:=by rw[Hr.o,E BZ,M (.inl my)]):=h
def atc(h:P:=by rw[Hr.o,E BZ,M (.inr rfl)]):=h
def atd(h:P:=by rw[Hr.o,E BZ,E];rintro (h|h);exact my h;cases h):=h
def avx(h:P:=by rw[←Ht.o];exact jd.o):=h
def aul(h:P:=by simp[results,results40,go_sem,z0,z1,z2,z3]):=h
def YW(h:P:=by rw[ss.o];omega):=h
def ate(h:P:=by rw[hu,nu];exact dq _ _):=h
def Kh(h:P:=by rw[hy];exact bR gY):=h
def atf(h:P:=by have:=ss.o;rw[h.1]at this;simp at this):=h
def atg(h:P:=by have:=tM.o;rw[h.2]at this;simp at this):=h
def ath(h:P:=by first|exact dA bO.o|exact dU bO.o _|exact bO.o):=h
def ati(h:P:=by have:=mE.o;rw[h.1]at this;simp at this):=h
def atj(h:P:=by have:=IG.o;rw[h.2]at this;simp at this):=h
def Yn(h:P:=by rw[vj.o,tM.o,Mr.o];rfl):=h
def Yo(h:P:=by rw[yd.o,qR.o,Bool.and_false];rfl):=h
def S_(h:P:=by (have i2:=ga.o.1;have i3:=gZ.o.1;have i4:=vi.o.1;have i5:=tF.o.1;have i6:=yw.o.1;omega)):=h
def atk(h:P:=by rw[em.gu];exact aO rfl):=h
def atl(h:P:=by rw[cL];exact (aS _ _).alloc (by simp) _):=h
def atm(h:P:=by rw[cL,sO];exact G (aS _ _) (dx rfl)):=h
def atn(h:P:=by obtain⟨m,hm⟩:=h0;exact DataW.trod_lt m _ _ _ hm):=h
def ato(h:P:=by unfold Func.isWrapper;first|(rw[if_pos (by decide +kernel)];kernel_rfl)|(rw[if_neg (by decide +kernel)];exact⟨rfl,rfl⟩)):=h
def atp(h:P:=by rw[OpenClaim.pre_eq_preRow];exact lifted os started aP e9 F):=h
def atq(h:P:=by simpa using Array.mem_of_getElem? ht):=h
def atr(h:P:=by simpa using qy.1 eC t hm):=h
abbrev fu:=@Nat.le_trans
abbrev jq:=@Nat.lt_of_lt_of_le
abbrev og:=@Nat.zero_add
abbrev NX:=@Nat.mul_le_mul_right
abbrev F_:=@Go.info_parts
abbrev tX:=@Go.Addr.add_lit
abbrev SD:=@Go.World.cell?_alloc_new
abbrev E8:=@Go.Sem.run_bind
abbrev Q9:=@Go.Sem.run_pure
abbrev eU:=@List.map_cons
abbrev Aq:=@List.map_nil
abbrev bS:=@Array.getElem?_eq_some_iff
abbrev M:=@if_pos
abbrev aE:=@Nat.le_refl
abbrev AF:=@Go.RowKit.Below.heap_setCell
abbrev yk:=@Go.World.cell?_of_block
abbrev wH:=@Go.World.block_lt_of_cell?
abbrev ab:=@Go.cell_later
abbrev bj:=@Nat.zero_le
abbrev oT:=@List.eq_nil_of_length_eq_zero
abbrev aL:=@Go.RowKit.Below.refl
abbrev dq:=@Go.heap_alloc_new
abbrev ou:=@Array.length_toList
abbrev DL:=@Go.Lib.toList_data
abbrev be:=@decide_eq_false
abbrev JY:=@beq_eq_false_iff_ne
abbrev aO:=@decide_eq_true
abbrev qw:=@Bool.eq_false_iff
abbrev ox:=@Go.Proofs.Tryz.underlying9
abbrev ie:=@List.getElem?_eq_some_iff
abbrev sS:=@Nat.sub_self
abbrev bR:=@List.getElem?_eq_getElem
abbrev mi:=@List.take_append_drop
abbrev ed:=@of_decide_eq_true
abbrev qy:=@List.all_eq_true
abbrev Je:=@Option.map_eq_some_iff
abbrev aH:=@Go.Lib.hid
abbrev U9:=@Go.Proofs.Tryz.underlying56
abbrev avl:=@Go.Proofs.Tryz.underlying166
abbrev U_:=@Go.Oper.upon_value
abbrev Vw:=@Go.Lib.byteCells_length
abbrev NY:=@Go.Proofs.Tryz.underlying57
abbrev Gf:=@Go.Lib.cell_of_heap
abbrev dA:=@Go.RowKit.Below.drew
abbrev xZ:=@Go.wp_region_held_drew
abbrev azx:=@Go.wpAnyH_take
abbrev mr:=@Go.wpAnyH_ready
abbrev dO:=@Go.AllReadyH.cons
abbrev awg:=@Go.wpAnyH_done
abbrev wK:=@List.all_cons
abbrev fI:=@Bool.and_eq_true
abbrev E:=@if_neg
abbrev CX:=@List.all_append
abbrev Fz:=@List.all_nil
abbrev BK:=@Bool.and_true
abbrev NZ:=@UInt8.toNat_inj
abbrev vk:=@List.length_pos_iff
abbrev bM:=@List.length_append
abbrev rD:=@List.length_singleton
abbrev SA:=@Nat.add_sub_cancel
abbrev AQ:=@Nat.zero_mul
abbrev n_:=@Bool.or_eq_true
abbrev x8:=@Bool.true_and
abbrev Ga:=@Bool.not_eq_true'
abbrev SB:=@Nat.pow_le_pow_right
abbrev SC:=@Nat.lt_trichotomy
abbrev JZ:=@List.not_lt
abbrev vw:=@ne_eq
abbrev Pq:=@if_false
abbrev J0:=@Go.Lib.indexByte_ge
abbrev gq:=@List.append_assoc
abbrev fO:=@List.length_cons
abbrev gd:=@List.mem_singleton
abbrev iC:=@List.mem_cons
abbrev tO:=@List.length_nil
abbrev ig:=@List.nil_append
abbrev ru:=@List.cons_append
abbrev h_:=@List.append_nil
abbrev J4:=@List.getElem?_eq_none
abbrev Gb:=@Int.le_refl
abbrev XY:=@Bool.true_eq_false
abbrev TB:=@and_self
abbrev eZ:=@List.getElem_mem
abbrev Ia:=@List.ext_getElem
abbrev Zy:=@or_self
abbrev wY:=@List.map_map
abbrev gb:=@List.mem_map
abbrev XZ:=@Bool.and_eq_false_iff
abbrev pQ:=@decide_eq_false_iff_not
abbrev rz:=@decide_eq_decide
abbrev zA:=@Prod.ext
abbrev SE:=@List.Perm.append_left
abbrev N0:=@List.filter_cons
abbrev pR:=@List.pairwise_cons
abbrev sT:=@List.pairwise_append
abbrev ff:=@List.mem_append
abbrev N9:=@Classical.not_not
abbrev TC:=@false_or
abbrev axb:=@true_or
abbrev MK:=@Bool.or_eq_false_iff
abbrev A8:=@List.eq_nil_or_concat
abbrev A9:=@List.concat_eq_append
abbrev Sh:=@exists_eq_left
abbrev TA:=@or_false
abbrev EJ:=@List.foldl_cons
abbrev pP:=@List.take_succ_eq_append_getElem
abbrev rB:=@Nat.lt_or_ge
abbrev adk:=@Go.Proofs.Tryz.ntmps141
abbrev Si:=@List.take_succ_cons
abbrev lH:=@List.take_of_length_le
abbrev Qw:=@Go.Proofs.Tryz.func156
abbrev Qx:=@Go.Proofs.Tryz.ntmps156
abbrev rC:=@List.getElem?_map
abbrev Sj:=@Go.Proofs.Tryz.underlying41
abbrev rK:=@List.drop_eq_getElem_cons
abbrev tZ:=@List.length_take
abbrev F7:=@List.drop_eq_nil_of_le
abbrev wG:=@Go.World.ownsRow_lit
abbrev Jd:=@Go.Lib.extract_data
abbrev gi:=@List.length_map
abbrev rL:=@Go.Value.slice.injEq
abbrev DI:=@List.getElem_map
abbrev fZ:=@Go.bodyPost_ret
abbrev It:=@Go.run_loadVar_row
abbrev aq:=@List.getElem?_toArray
abbrev ar:=@List.getElem?_cons_zero
abbrev aw:=@List.getElem?_cons_succ
abbrev tV:=@Go.World.putObj_heap_other
abbrev Oi:=@Go.World.size_alloc
abbrev Ad:=@List.size_toArray
abbrev Rc:=@Array.replicate_succ
abbrev Re:=@Array.replicate_zero
abbrev Rf:=@List.push_toArray
abbrev Rg:=@List.append_toArray
abbrev AP:=@Go.callsIn_wide
abbrev Vf:=@Go.KeepsOthers.setCell
abbrev oP:=@List.map_append
abbrev IP:=@Go.Proofs.Tryz.isAgg4
abbrev pd:=@Go.World.ownsRow_nil
abbrev mQ:=@Go.Proofs.enters_of
abbrev Rh:=@Go.run_takeDeferred
abbrev yx:=@Go.results_cell_row
abbrev oR:=@List.flatMap_cons
abbrev awm:=@List.getElem_cons_zero
abbrev pS:=@List.getElem?_append_left
abbrev aCj:=@List.getElem_cons_succ
abbrev nC:=@List.getElem?_append_right
abbrev nj:=@List.cons.injEq
abbrev lv:=@and_true
abbrev uQ:=@List.mem_of_getElem?
abbrev fz:=@Go.Joins.data_append
abbrev Oj:=@Go.Proofs.Tryz.underlying51
abbrev jg:=@Nat.le_of_eq
abbrev iB:=@congrArg
abbrev Sk:=@Go.run_equalIn_agg
abbrev xe:=@getElem!_pos
abbrev XP:=@Nat.lt_or_eq_of_le
abbrev J_:=@List.pairwise_iff_getElem
abbrev oS:=@List.getElem_of_mem
abbrev xf:=@List.length_drop
abbrev XQ:=@List.map_inj_right
abbrev XR:=@List.perm_append_comm
abbrev F8:=@Nat.succ_mul
abbrev Ok:=@Go.Proofs.Tryz.underlying52
abbrev Sm:=@List.mem_flatMap
abbrev rn:=@Nat.add_assoc
abbrev Sn:=@List.flatten_cons
abbrev rm:=@List.flatMap_append
abbrev yy:=@List.set_append_right
abbrev ij:=@Go.AllReadyH.nil
abbrev DJ:=@List.mem_iff_getElem
abbrev mL:=@Nat.add_zero
abbrev i_:=@Go.IntWalk.i64_in
abbrev lC:=@of_decide_eq_false
abbrev VF:=@Go.Lib.join_length
abbrev aCw:=@eq_self
abbrev Zx:=@true_and
abbrev aCx:=@false_and
abbrev aCy:=@and_false
abbrev aCz:=@or_true
abbrev axa:=@if_true
abbrev aDa:=@ite_true
abbrev aDb:=@ite_false
abbrev Ka:=@Option.some.injEq
abbrev zD:=@Go.Lib.join_cons
abbrev Ol:=@List.map_congr_left
abbrev Sq:=@List.take_zero
abbrev Om:=@Prod.mk.inj
abbrev Sr:=@List.drop_zero
abbrev Kc:=@Go.Proofs.Tryz.func47
abbrev OV:=@Go.World.drewN_drewN
abbrev XS:=@Classical.byContradiction
abbrev JU:=@Nat.lt_of_not_le
abbrev On:=@List.singleton_append
abbrev XT:=@List.append_eq_nil_iff
abbrev Ss:=@Option.map_some
abbrev t_:=@Prod.mk.injEq
abbrev DK:=@ByteArray.append_assoc
abbrev Qy:=@List.flatMap_nil
abbrev Cs:=@Bool.eq_iff_iff
abbrev Il:=@Prod.ext_iff
abbrev QM:=@Bool.not_true
abbrev U8:=@Bool.not_false
abbrev xV:=@Go.Proofs.Tryz.underlying55
abbrev XU:=@List.length_eq_one_iff
abbrev Qb:=@List.append_inj_left'
abbrev JV:=@Go.Value.slice.inj
abbrev Su:=@List.map_eq_nil_iff
abbrev nt:=@Option.some.inj
abbrev XV:=@List.dropLast_concat
abbrev F9:=@List.map_eq_append_iff
abbrev zE:=@List.Sublist.refl
abbrev XW:=@List.flatten_append
abbrev v_:=@Nat.add_sub_cancel_left
abbrev Sv:=@List.flatMap_def
abbrev XX:=@List.mem_map_of_mem
abbrev Sx:=@List.getElem?_drop
abbrev YN:=@Go.Proofs.Tryz.underlying4
abbrev ayq:=@List.append_inj_right'
abbrev JW:=@Go.Proofs.Tryz.func50
abbrev JX:=@Go.Proofs.Tryz.ntmps50
abbrev Iu:=@Go.Proofs.Tryz.func42
abbrev Iv:=@Go.Proofs.Tryz.ntmps42
abbrev Oo:=@Nat.le_succ
abbrev Sy:=@Nat.le_of_not_lt
abbrev LU:=@Go.Proofs.Tryz.underlying25
abbrev BB:=@Go.Proofs.Tryz.underlying150
abbrev Zp:=@Nat.lt_of_le_of_lt
abbrev ZV:=@Go.Proofs.Tryz.underlying45
abbrev Sz:=@Go.Proofs.Tryz.underlying3
theorem mq{α:Sort _}(a:α):∃x,a=x:=⟨_,rfl⟩
abbrev ag:=@Go.heap_setCell_same
abbrev fE:=@decide_eq_true_eq
def gT(h:P:=by simp[RowKit.intOf];omega):=h
theorem Y{α:Sort _}(a:α):∃x,x=a:=⟨_,rfl⟩
theorem zT{α:Type _}(l:List α)(i:Nat)(a:α):l.toArray.setIfInBounds i a=(l.set i a).toArray:=List.setIfInBounds_toArray l i a
theorem zU{α:Type _}{a b:α}{l:List α}:(a::l).set 0 b=b::l:=rfl
theorem zV{α:Type _}{a b:α}{l:List α}{n:Nat}:(a::l).set (n+1) b=a::l.set n b:=rfl
section
variable {a b c d e f g h i j k l m n o p q r s t u v w x y z a0:Prop}
theorem O(h:a):Hid a:=h
theorem ak:a→b→Hid a∧Hid b:=by
 intros;repeat' constructor
 all_goals assumption
theorem aQ:a→b→c→Hid a∧Hid b∧Hid c:=by
 intros;repeat' constructor
 all_goals assumption
theorem kg:a→b→c→d→Hid a∧Hid b∧Hid c∧Hid d:=by
 intros;repeat' constructor
 all_goals assumption
theorem K4:a→b→c→d→e→Hid a∧Hid b∧Hid c∧Hid d∧Hid e:=by
 intros;repeat' constructor
 all_goals assumption
theorem By:a→b→c→d→e→f→Hid a∧Hid b∧Hid c∧Hid d∧Hid e∧Hid f:=by
 intros;repeat' constructor
 all_goals assumption
theorem oD:a→b→c→d→e→f→g→Hid a∧Hid b∧Hid c∧Hid d∧Hid e∧Hid f∧Hid g:=by
 intros;repeat' constructor
 all_goals assumption
theorem awj:a→b→c→d→e→f→g→h→Hid a∧Hid b∧Hid c∧Hid d∧Hid e∧Hid f∧Hid g∧Hid h:=by
 intros;repeat' constructor
 all_goals assumption
theorem K7:a→b→c→d→e→f→g→h→i→Hid a∧Hid b∧Hid c∧Hid d∧Hid e∧Hid f∧Hid g∧Hid h∧Hid i:=by
 intros;repeat' constructor
 all_goals assumption
theorem GD:a→b→c→d→e→f→g→h→i→j→Hid a∧Hid b∧Hid c∧Hid d∧Hid e∧Hid f∧Hid g∧Hid h∧Hid i∧Hid j:=by
 intros;repeat' constructor
 all_goals assumption
theorem O2:a→b→c→d→e→f→g→h→i→j→k→Hid a∧Hid b∧Hid c∧Hid d∧Hid e∧Hid f∧Hid g∧Hid h∧Hid i∧Hid j∧Hid k:=by
 intros;repeat' constructor
 all_goals assumption
theorem Bx:a→b→c→d→e→f→g→h→i→j→k→l→Hid a∧Hid b∧Hid c∧Hid d∧Hid e∧Hid f∧Hid g∧Hid h∧Hid i∧Hid j∧Hid k∧Hid l:=by
 intros;repeat' constructor
 all_goals assumption
theorem aCf:a→b→c→d→e→f→g→h→i→j→k→l→m→Hid a∧Hid b∧Hid c∧Hid d∧Hid e∧Hid f∧Hid g∧Hid h∧Hid i∧Hid j∧Hid k∧Hid l∧Hid m:=by
 intros;repeat' constructor
 all_goals assumption
theorem O3:a→b→c→d→e→f→g→h→i→j→k→l→m→n→Hid a∧Hid b∧Hid c∧Hid d∧Hid e∧Hid f∧Hid g∧Hid h∧Hid i∧Hid j∧Hid k∧Hid l∧Hid m∧Hid n:=by
 intros;repeat' constructor
 all_goals assumption
theorem xI:a→b→c→d→e→f→g→h→i→j→k→l→m→n→o→Hid a∧Hid b∧Hid c∧Hid d∧Hid e∧Hid f∧Hid g∧Hid h∧Hid i∧Hid j∧Hid k∧Hid l∧Hid m∧Hid n∧Hid o:=by
 intros;repeat' constructor
 all_goals assumption
theorem ke:a→b→c→d→e→f→g→h→i→j→k→l→m→n→o→p→Hid a∧Hid b∧Hid c∧Hid d∧Hid e∧Hid f∧Hid g∧Hid h∧Hid i∧Hid j∧Hid k∧Hid l∧Hid m∧Hid n∧Hid o∧Hid p:=by
 intros;repeat' constructor
 all_goals assumption
theorem fo:(Hid a→Hid b→Hid c→P)→a→b→c→P:=id
theorem bV:(Hid a→Hid b→Hid c→Hid d→P)→a→b→c→d→P:=id
theorem bU:(Hid a→Hid b→Hid c→Hid d→Hid e→P)→a→b→c→d→e→P:=id
theorem bX:(Hid a→Hid b→Hid c→Hid d→Hid e→Hid f→P)→a→b→c→d→e→f→P:=id
theorem eb:(Hid a→Hid b→Hid c→Hid d→Hid e→Hid f→Hid g→P)→a→b→c→d→e→f→g→P:=id
theorem fg:(Hid a→Hid b→Hid c→Hid d→Hid e→Hid f→Hid g→Hid h→P)→a→b→c→d→e→f→g→h→P:=id
theorem fK:(Hid a→Hid b→Hid c→Hid d→Hid e→Hid f→Hid g→Hid h→Hid i→P)→a→b→c→d→e→f→g→h→i→P:=id
theorem dE:(Hid a→Hid b→Hid c→Hid d→Hid e→Hid f→Hid g→Hid h→Hid i→Hid j→P)→a→b→c→d→e→f→g→h→i→j→P:=id
theorem kH:(Hid a→Hid b→Hid c→Hid d→Hid e→Hid f→Hid g→Hid h→Hid i→Hid j→Hid k→P)→a→b→c→d→e→f→g→h→i→j→k→P:=id
theorem nL:(Hid a→Hid b→Hid c→Hid d→Hid e→Hid f→Hid g→Hid h→Hid i→Hid j→Hid k→Hid l→P)→a→b→c→d→e→f→g→h→i→j→k→l→P:=id
theorem zN:(Hid a→Hid b→Hid c→Hid d→Hid e→Hid f→Hid g→Hid h→Hid i→Hid j→Hid k→Hid l→Hid m→P)→a→b→c→d→e→f→g→h→i→j→k→l→m→P:=id
theorem Sa:(Hid a→Hid b→Hid c→Hid d→Hid e→Hid f→Hid g→Hid h→Hid i→Hid j→Hid k→Hid l→Hid m→Hid n→P)→a→b→c→d→e→f→g→h→i→j→k→l→m→n→P:=id
theorem uv:(Hid a→Hid b→Hid c→Hid d→Hid e→Hid f→Hid g→Hid h→Hid i→Hid j→Hid k→Hid l→Hid m→Hid n→Hid o→P)→a→b→c→d→e→f→g→h→i→j→k→l→m→n→o→P:=id
theorem GB:(Hid a→Hid b→Hid c→Hid d→Hid e→Hid f→Hid g→Hid h→Hid i→Hid j→Hid k→Hid l→Hid m→Hid n→Hid o→Hid p→P)→a→b→c→d→e→f→g→h→i→j→k→l→m→n→o→p→P:=id
theorem OS:(Hid a→Hid b→Hid c→Hid d→Hid e→Hid f→Hid g→Hid h→Hid i→Hid j→Hid k→Hid l→Hid m→Hid n→Hid o→Hid p→Hid q→Hid r→P)→a→b→c→d→e→f→g→h→i→j→k→l→m→n→o→p→q→r→P:=id
theorem zO:(Hid a→Hid b→Hid c→Hid d→Hid e→Hid f→Hid g→Hid h→Hid i→Hid j→Hid k→Hid l→Hid m→Hid n→Hid o→Hid p→Hid q→Hid r→Hid s→P)→a→b→c→d→e→f→g→h→i→j→k→l→m→n→o→p→q→r→s→P:=id
theorem OT:(Hid a→Hid b→Hid c→Hid d→Hid e→Hid f→Hid g→Hid h→Hid i→Hid j→Hid k→Hid l→Hid m→Hid n→Hid o→Hid p→Hid q→Hid r→Hid s→Hid t→P)→a→b→c→d→e→f→g→h→i→j→k→l→m→n→o→p→q→r→s→t→P:=id
theorem Sb:(Hid a→Hid b→Hid c→Hid d→Hid e→Hid f→Hid g→Hid h→Hid i→Hid j→Hid k→Hid l→Hid m→Hid n→Hid o→Hid p→Hid q→Hid r→Hid s→Hid t→Hid u→Hid v→P)→a→b→c→d→e→f→g→h→i→j→k→l→m→n→o→p→q→r→s→t→u→v→P:=id
theorem aqt:(Hid a→Hid b→Hid c→Hid d→Hid e→Hid f→Hid g→Hid h→Hid i→Hid j→Hid k→Hid l→Hid m→Hid n→Hid o→Hid p→Hid q→Hid r→Hid s→Hid t→Hid u→Hid v→Hid w→P)→a→b→c→d→e→f→g→h→i→j→k→l→m→n→o→p→q→r→s→t→u→v→w→P:=id
theorem aqu:(Hid a→Hid b→Hid c→Hid d→Hid e→Hid f→Hid g→Hid h→Hid i→Hid j→Hid k→Hid l→Hid m→Hid n→Hid o→Hid p→Hid q→Hid r→Hid s→Hid t→Hid u→Hid v→Hid w→Hid x→P)→a→b→c→d→e→f→g→h→i→j→k→l→m→n→o→p→q→r→s→t→u→v→w→x→P:=id
theorem OU:(Hid a→Hid b→Hid c→Hid d→Hid e→Hid f→Hid g→Hid h→Hid i→Hid j→Hid k→Hid l→Hid m→Hid n→Hid o→Hid p→Hid q→Hid r→Hid s→Hid t→Hid u→Hid v→Hid w→Hid x→Hid y→P)→a→b→c→d→e→f→g→h→i→j→k→l→m→n→o→p→q→r→s→t→u→v→w→x→y→P:=id
theorem azl:(Hid a→Hid b→Hid c→Hid d→Hid e→Hid f→Hid g→Hid h→Hid i→Hid j→Hid k→Hid l→Hid m→Hid n→Hid o→Hid p→Hid q→Hid r→Hid s→Hid t→Hid u→Hid v→Hid w→Hid x→Hid y→Hid z→Hid a0→P)→a→b→c→d→e→f→g→h→i→j→k→l→m→n→o→p→q→r→s→t→u→v→w→x→y→z→a0→P:=id
end
section
variable {P:Program}{ops:Array Oper}{Q:Exit→Act→World→Prop}{md:Region.Mode}{S:World→Prop}{oi:Oper}{v:Value}{fuel:Nat}{listed l':Array Bool}{a a':Act}{w:World}
theorem bB(i:Nat)(h:wpAnyH P md ops Q S fuel l' a' w)(hi:ops[i]?=some oi:=by rfl)(hs:Region.noSelect ops=true:=by kernel_rfl)(hf:Region.free md ops listed i=true:=by kernel_rfl)(hr:(Region.ready md ops listed).contains i=true:=by kernel_rfl)(hy:YieldsIf P ops S oi v a:=by
 refine Or.inl ⟨by kernel_rfl,?_⟩
 intro w hSw
 (try dsimp only at hSw)
 repeat with_reducible (obtain⟨_,hSw⟩:_∧_:=hSw)
 go_simp
 try with_reducible rfl) (hQ:∀c a w,Q (.panic c) (a.put oi.dst v) w→Q (.panic c) a w:=by exact fun _ _ _ h=>h) (hS:S w:=by assumption) (hl:listed.setIfInBounds i true=l':=by (try simp only[zT,zU,zV]);rfl) (ha:a.put oi.dst v=a':=by (try simp only[Act.put,zT,zU,zV]);rfl):wpAnyH P md ops Q S (fuel+1) listed a w:=wpAnyH_take hi hs hf hr hQ hy hS (by rw[hl,ha];exact h)
theorem kc(i:Nat)(h:wpAnyH P md ops Q S fuel l' a' w)(hi:ops[i]?=some oi:=by rfl)(hs:Region.noSelect ops=true:=by kernel_rfl)(hf:Region.free md ops listed i=true:=by kernel_rfl)(hr:(Region.ready md ops listed).contains i=true:=by kernel_rfl)(hy:YieldsIf P ops S oi undef a:=by exact Or.inr ⟨by kernel_rfl,rfl⟩)(hQ:∀c a w,Q (.panic c) (a.put oi.dst undef) w→Q (.panic c) a w:=by exact fun _ _ _ h=>h)(hS:S w:=by assumption)(hl:listed.setIfInBounds i true=l':=by (try simp only[zT,zU,zV]);rfl)(ha:a.put oi.dst undef=a':=by (simp only[Act.put,List.getElem_toArray,List.getElem_cons_succ,List.getElem_cons_zero,zT,zU,zV]);rfl):wpAnyH P md ops Q S (fuel+1) listed a w:=wpAnyH_take hi hs hf hr hQ hy hS (by rw[hl,ha];exact h)
theorem c_(i:Nat){o:Oper}(h:∀K':Act→World→Prop,Shut (∀a w,S w→(S w→wpAnyH P md ops Q S fuel (listed.setIfInBounds i true) a w)→K' a w)→if Region.wanted o (yielded ops a.tmps)=true then Oper.wp P o a w K' Q else K' (a.put o.dst undef) w)(ho:ops[i]?=some o:=by rfl)(hr:Region.ready md ops listed=[i]:=by kernel_rfl):wpAnyH P md ops Q S (fuel+1) listed a w:=wpAnyH_ready hr (by simp) (AllReadyH.cons ho h AllReadyH.nil)
theorem lr{o:Array Oper}(ho:o=ops)(i:Nat)(h:wpAnyH P md o Q S fuel l' a' w)(hi:ops[i]?=some oi:=by rfl)(hs:Region.noSelect ops=true:=by kernel_rfl)(hf:Region.free md ops listed i=true:=by kernel_rfl)(hr:(Region.ready md ops listed).contains i=true:=by kernel_rfl)(hy:YieldsIf P ops S oi v a:=by
 refine Or.inl ⟨by kernel_rfl,?_⟩
 intro w hSw
 (try dsimp only at hSw)
 repeat with_reducible (obtain⟨_,hSw⟩:_∧_:=hSw)
 go_simp
 try with_reducible rfl) (hQ:∀c a w,Q (.panic c) (a.put oi.dst v) w→Q (.panic c) a w:=by exact fun _ _ _ h=>h) (hS:S w:=by assumption) (hl:listed.setIfInBounds i true=l':=by (try simp only[zT,zU,zV]);rfl) (ha:a.put oi.dst v=a':=by (try simp only[Act.put,zT,zU,zV]);rfl):wpAnyH P md o Q S (fuel+1) listed a w:=by subst ho;exact wpAnyH_take hi hs hf hr hQ hy hS (by rw[hl,ha];exact h)
theorem pr{o:Array Oper}(ho:o=ops)(i:Nat)(h:wpAnyH P md o Q S fuel l' a' w)(hi:ops[i]?=some oi:=by rfl)(hs:Region.noSelect ops=true:=by kernel_rfl)(hf:Region.free md ops listed i=true:=by kernel_rfl)(hr:(Region.ready md ops listed).contains i=true:=by kernel_rfl)(hy:YieldsIf P ops S oi v a:=by
 refine Or.inl ⟨by kernel_rfl,?_⟩
 intro w hSw
 clear hSw
 go_simp
 try with_reducible rfl) (hQ:∀c a w,Q (.panic c) (a.put oi.dst v) w→Q (.panic c) a w:=by exact fun _ _ _ h=>h) (hS:S w:=by assumption) (hl:listed.setIfInBounds i true=l':=by (try simp only[zT,zU,zV]);rfl) (ha:a.put oi.dst v=a':=by (try simp only[Act.put,zT,zU,zV]);rfl):wpAnyH P md o Q S (fuel+1) listed a w:=by subst ho;exact wpAnyH_take hi hs hf hr hQ hy hS (by rw[hl,ha];exact h)
theorem oz{o:Array Oper}(ho:o=ops)(i:Nat){oi:Oper}(h:∀K':Act→World→Prop,Shut (∀a w,S w→(S w→wpAnyH P md o Q S fuel (listed.setIfInBounds i true) a w)→K' a w)→Oper.wp P oi a w K' Q)(hi:ops[i]?=some oi:=by rfl)(hg:Region.wanted oi (yielded ops a.tmps)=true:=by kernel_rfl)(hr:Region.ready md ops listed=[i]:=by kernel_rfl):wpAnyH P md o Q S (fuel+1) listed a w:=by subst ho;exact wpAnyH_ready hr (by simp) (AllReadyH.cons hi (fun K' hK=>by rw[if_pos hg];exact h K' hK) AllReadyH.nil)
end
structure V(Q:Prop):Prop where
 o:Q
variable (k:Q)
def V2(h:P:=by
 refine c_ 10 fun K hK=>?_;go_simp;refine pt.mono ?_;rintro e wz ⟨⟨fP,awh,rfl⟩|⟨mv,rfl⟩,H⟩
 ·have vK:=qL.o.trans (H.mono qL.o.size);have z0:=G vK O8.o;have z1:=G vK O7.o;have Th:=axg (i:=i) (k:=k) Tk GL.o jd.o (by rw[←Hm.o,←Hs.o,zX];try exact fP);rw[←Hm.o,←Hs.o]at Th;have DT:=Nm6.back (v:=.slice a9 (ol+1) c9) (k:=k+1) (p:=m+1) (bad:=0) (i:=i) (ok:=ok) (out:=out++[s]) bZ z0 z1 (jH.o.trans (vK.mono jH.o.size)) awq.o aws (.inl ⟨rfl,(by rw[bM,Io.o];rfl),.inr Tk,Th.1,Th.2⟩) ZA;have kI:=gj.o _ vK;obtain⟨_,cC,cD,cB,cF⟩:=a8 z0;revert H fP awh vK z0 z1 Th DT;refine fg ?_;intro gV ki aCn Zo lO dv aDf xE;go_wp2_with fail;revert K hK;refine qK ?_;intro hHeld;obtain⟨bF,bG,bH,bD⟩:=kI;refine KK ?_;intro hHeld;refine lq ?_;go_wp2_with fail;go_roundw
  case rel=>exact⟨k+1,_,_,xE.o⟩
  case measure=>refine Zp (jg (Ld (n:=n+1) xE.o.box)) ?_;rw[D2.o];simp;have:=Hm.o;have:=aCn.o;omega
 have vK:=qL.o.trans (H.mono qL.o.size);have z0:=G vK O8.o;have z1:=G vK O7.o
 have iv:eQ ok (az ws i)=none:=by
  by_cases awh:m<n
  ·refine axj (axd (j:=k) Tk) ?_;rw[←Hm.o,←Hs.o,zX];try (rcases mv with h|h<;>first|exact h|omega)
  have nT:k=0:=by have:=ya.o;omega
  rw[mA Tk];exact axi
 have DT:=Nm6.back (v:=.slice a9 (ol+1) c9) (k:=k) (p:=m) (bad:=cO ws fin m) (i:=i) (ok:=ok) (out:=out++[s]) bZ z0 z1 (jH.o.trans (vK.mono jH.o.size)) awq.o aws (.inr ⟨fM.o m,iv⟩) Hm.o;obtain⟨Ts,xH⟩:=Y (cO ws fin m);have aCk:Ts≠0:=(by rw[xH];exact fM.o m);rw[←xH]at DT⊢;have kI:=gj.o _ vK;obtain⟨_,cC,cD,cB,cF⟩:=a8 z0;revert H mv vK z0 z1 iv DT xH aCk;refine fK ?_;intro gV qS Zo lO dv iQ xE Zw aCm;go_wp2_with fail;revert K hK;refine qK ?_;intro hHeld;obtain⟨bF,bG,bH,bD⟩:=kI;refine KK ?_;intro hHeld;refine lq ?_;go_wp2_with fail;go_roundw
 case rel=>exact⟨k,_,_,xE.o⟩
 case measure=>refine Zp (jg (Ld (n:=n+1) xE.o.box)) ?_;rw[D2.o];have:=aCm.o;simp[this]):=h
def Wl(h:P:=by
 have nN:=J dv.o 0;have rQ:=aG dv.o 0;have nM:=J dv.o 1;have rR:=aG dv.o 1;have pW:=J dv.o 2;have uC:=aG dv.o 2;have pX:=J dv.o 3;have uD:=aG dv.o 3;have ti:=J dv.o 4;have xS:=aG dv.o 4;have tj:=J dv.o 5;have xT:=aG dv.o 5;have tk:=J dv.o 6;have xU:=aG dv.o 6;have DY:=J dv.o 7;have Lh:=aG dv.o 7;simp only[aq,ar,aw]at nN nM pW pX ti tj tk DY;refine oz hops 15 fun K hK=>?_;go_simp;obtain⟨OX,hu⟩:=Y (((((((((uy).setCell ⟨k1,0,none⟩ (.string nm)).setCell ⟨k1,1,none⟩ (.int .i64 li)).setCell ⟨k1,2,none⟩ (.slice v.c2 v.x2 v.y2)).setCell ⟨k1,3,none⟩ (.slice v.c3 v.x3 v.y3)).setCell ⟨k1,4,none⟩ (.slice v.c4 v.x4 v.y4)).setCell ⟨k1,5,none⟩ (.slice v.c5 v.x5 v.y5)).setCell ⟨k1,6,none⟩ (.slice v.c6 v.x6 v.y6)).setCell ⟨k1,7,none⟩ (.slice v.c7 v.x7 v.y7));have xD:am (fun z=>z=k1) uy OX:=(by rw[hu];exact aN (aN (aN (aN (aN (aN (aN (aN (am.refl (fun z=>z=k1) uy) 0 _) 1 _) 2 _) 3 _) 4 _) 5 _) 6 _) 7 _);have dD:OX.heap[k1]?=some (.cells #[.string nm,.int .i64 li,.slice v.c2 v.x2 v.y2,.slice v.c3 v.x3 v.y3,.slice v.c4 v.x4 v.y4,.slice v.c5 v.x5 v.y5,.slice v.c6 v.x6 v.y6,.slice v.c7 v.x7 v.y7] 45 (0,0)):=(by rw[hu];exact ag _ k1 7 _ _ (.slice v.c7 v.x7 v.y7) (ag _ k1 6 _ _ (.slice v.c6 v.x6 v.y6) (ag _ k1 5 _ _ (.slice v.c5 v.x5 v.y5) (ag _ k1 4 _ _ (.slice v.c4 v.x4 v.y4) (ag _ k1 3 _ _ (.slice v.c3 v.x3 v.y3) (ag _ k1 2 _ _ (.slice v.c2 v.x2 v.y2) (ag _ k1 1 _ _ (.int .i64 li) (ag _ k1 0 _ _ (.string nm) (dv.o)))))))));have cc:=bI dZ.o xD GN;have awk:=Lg.o.store (k:=k1) ae xL.o dv.o D xD;rw[←hu];clear hu aV nN rQ nM rR pW uC pX uD ti xS tj xT tk xU DY Lh;have aV:=gj.o _ awk.1;revert xD dD cc awk;refine bV ?_;intro awr dv dZ aCs;revert K hK;refine pj ?_;have nN:=J dZ.o 0;have rQ:=aG dZ.o 0;have nM:=J dZ.o 1;have rR:=aG dZ.o 1;have pW:=J dZ.o 2;have uC:=aG dZ.o 2;have pX:=J dZ.o 3;have uD:=aG dZ.o 3;simp only[aq,ar,aw]at nN nM pW pX;refine oz hops 16 fun K hK=>?_;go_simp;obtain⟨awp,hu⟩:=Y (((((OX).setCell ⟨k2,0,none⟩ (.slice (some ⟨b,off,none⟩) n c)).setCell ⟨k2,1,none⟩ (.int .i64 v.j)).setCell ⟨k2,2,none⟩ (.int .i64 fin)).setCell ⟨k2,3,none⟩ (.int .i64 v.bad));have xD:am (fun z=>z=k2) OX awp:=(by rw[hu];exact aN (aN (aN (aN (am.refl (fun z=>z=k2) OX) 0 _) 1 _) 2 _) 3 _)
 have cc:awp.heap[k2]?=some (.cells #[.slice (some ⟨b,off,none⟩) n c,.int .i64 v.j,.int .i64 fin,.int .i64 v.bad] 150 (0,0)):=(by rw[hu];exact ag _ k2 3 _ _ (.int .i64 v.bad) (ag _ k2 2 _ _ (.int .i64 fin) (ag _ k2 1 _ _ (.int .i64 v.j) (ag _ k2 0 _ _ (.slice (some ⟨b,off,none⟩) n c) (dZ.o)))));have dD:=bI dv.o xD GN;have awl:=aCs.o.store (k:=k2) ae xM.o dZ.o D xD;rw[←hu];clear hu aV nN rQ nM rR pW uC pX uD;have aV:=gj.o _ awl.1;revert xD cc dD awl;refine bV ?_;intro awr dZ dv aCt;revert K hK;refine pj ?_;refine Pr hops aA ?_;go_simp;clear aV;go_wp2_with fail;go_meet
 exact⟨k1,k2,v,rfl,rfl,dv.o,dZ.o,xL.o,xM.o,aCt.o.drop,GP.o⟩):=h
def azj(h:P:=by
 clear Z4 oU;have cM:Below w7.heap.size w7 w7.drew:=dA (aL _ _);generalize w7.drew=BN at cM⊢;have aV:=gj.o _ (am.ce cM);have cr:=O cM;clear cM;refine ale ?_;have k2:=CE.o;have k3:=IA.o;refine lr hops 7 ?_;clear k2 k3;refine lr hops 8 ?_;refine OY hops (rs:=[9,13,14]) aA ae ?_;refine xF hops rfl aA (fun K hK=>?_) (xF hops rfl aA (fun K hK=>?_) (xF hops rfl aA (fun K hK=>?_) ij))
 ·go_simp;have hh:=HC.o BN [] cr.o (fun k hk=>by simp at hk);refine EL hh (fun v jh hE=>?_);clear hh;have ZF:=hE.1;have jJ:=hE.2.1;have qP:=hE.2.2;clear aV;have aV:=gj.o _ ZF.1;obtain⟨yj,GP,PQ⟩:=aQ ZF jJ qP;clear ZF jJ qP;clear hE;go_wp2_with fail;revert K hK;refine RB ?_;refine OY hops (rs:=[13,14]) aA ae ?_;refine xF hops rfl aA (fun K hK=>?_) (xF hops rfl aA (fun K hK=>?_) ij)
  ·refine aes ?_;intro k1 il gB hu b9 dD;have xP:w7.heap.size≤k1:=by rw[il];exact yj.o.1.size
   have uB:=yj.o.alloc (.cells #[.string ⟨#[]⟩,.int .i64 0,.slice none 0 0,.slice none 0 0,.slice none 0 0,.slice none 0 0,.slice none 0 0,.slice none 0 0] 45);rw[←hu,←il]at uB;clear aV;have aV:=gj.o _ uB.1;rw[←hu];clear hu;revert b9 dD xP uB;refine bV ?_;intro gk dv xL qk;revert K hK;refine pj ?_;try rw[←il]
   clear il;exact aqo
  refine ahj ?_;intro k2 eE gB hu b9 cc;have xQ:w7.heap.size≤k2:=by rw[eE];exact yj.o.1.size
  have uB:=yj.o.alloc (.cells #[.slice none 0 0,.int .i64 0,.int .i64 0,.int .i64 0] 150);rw[←hu,←eE]at uB;clear aV;have aV:=gj.o _ uB.1;rw[←hu];clear hu;revert b9 cc xQ uB;refine bV ?_;intro gk dZ xM qk;revert K hK;refine pj ?_;try rw[←eE]
  clear eE;exact aqa
 ·go_simp;obtain⟨k1,il⟩:=Y BN.heap.size;obtain⟨jh,hu⟩:=Y (BN.alloc (.cells #[.string ⟨#[]⟩,.int .i64 0,.slice none 0 0,.slice none 0 0,.slice none 0 0,.slice none 0 0,.slice none 0 0,.slice none 0 0] 45));have b9:Below BN.heap.size BN jh:=D8;have dD:jh.heap[k1]?=some (.cells #[.string ⟨#[]⟩,.int .i64 0,.slice none 0 0,.slice none 0 0,.slice none 0 0,.slice none 0 0,.slice none 0 0,.slice none 0 0] 45 (0,0)):=T8;have xP:w7.heap.size≤k1:=by rw[il];exact cr.o.size
  have ai:=cr.o.trans (b9.mono cr.o.size);clear aV;have aV:=gj.o _ (am.ce ai);rw[←hu];clear hu;revert b9 dD xP ai;refine bV ?_;intro gk dv xL aB;revert K hK;refine pj ?_;try rw[←il]
  clear il;refine OY hops (rs:=[9,14]) aA ae ?_;refine xF hops rfl aA (fun K hK=>?_) (xF hops rfl aA (fun K hK=>?_) ij)
  ·go_simp;have D4:w7.heap.size≤k1∧k1<jh.heap.size:=⟨xL.o,(bS.1 dv.o).1⟩;have hh:=HC.o jh [k1] aB.o (fun k hk=>(by rw[gd.1 hk];exact D4));refine EL hh (fun v gB hE=>?_);clear hh;have uB:=hE.1;have jJ:=hE.2.1;have qP:=hE.2.2;have dD:=bI dv.o qP Vi;clear D4;clear aV;have aV:=gj.o _ uB.1;revert uB jJ qP dD;refine bV ?_;intro qk GP PQ dv;clear hE;go_wp2_with fail;revert K hK;refine RB ?_;exact aqo
  refine ahj ?_;intro k2 eE gB hu b9 cc;have xQ:w7.heap.size≤k2:=by rw[eE];exact aB.o.size
  have dD:=G b9 dv.o;have bL:k1≠k2:=acq;have af:=aB.o.trans (b9.mono aB.o.size);clear aV;have aV:=gj.o _ (am.ce af);rw[←hu];clear hu;revert b9 cc xQ dD bL af;refine bX ?_;intro gk dZ xM dv cJ bh;revert K hK;refine pj ?_;try rw[←eE]
  clear eE;refine oz hops 9 fun K hK=>?_;go_simp;have ks:w7.heap.size≤k2∧k2<gB.heap.size:=⟨xM.o,(bS.1 dZ.o).1⟩;have D4:w7.heap.size≤k1∧k1<gB.heap.size:=⟨xL.o,(bS.1 dv.o).1⟩;have hh:=HC.o gB [k2,k1] bh.o (fun k hk=>(by simp only[iC,List.not_mem_nil,TA]at hk;rcases hk with rfl|rfl;exact ks;exact D4));refine EL hh (fun v uy hE=>?_);clear hh;have pz:=hE.1;have jJ:=hE.2.1;have qP:=hE.2.2;have cc:=bI dZ.o qP Vj;clear ks;have dD:=bI dv.o qP Vi;clear D4;clear aV;have aV:=gj.o _ pz.1;revert pz jJ qP cc dD;refine bU ?_;intro Lg GP PQ dZ dv;exact apo
 go_simp;obtain⟨k2,eE⟩:=Y BN.heap.size;obtain⟨jh,hu⟩:=Y (BN.alloc (.cells #[.slice none 0 0,.int .i64 0,.int .i64 0,.int .i64 0] 150));have b9:Below BN.heap.size BN jh:=D8;have cc:jh.heap[k2]?=some (.cells #[.slice none 0 0,.int .i64 0,.int .i64 0,.int .i64 0] 150 (0,0)):=T9;have xQ:w7.heap.size≤k2:=by rw[eE];exact cr.o.size
 have ai:=cr.o.trans (b9.mono cr.o.size);clear aV;have aV:=gj.o _ (am.ce ai);rw[←hu];clear hu;revert b9 cc xQ ai;refine bV ?_;intro gk dZ xM aB;revert K hK;refine pj ?_;try rw[←eE]
 clear eE;refine OY hops (rs:=[9,13]) aA ae ?_;refine xF hops rfl aA (fun K hK=>?_) (xF hops rfl aA (fun K hK=>?_) ij)
 ·go_simp;have ks:w7.heap.size≤k2∧k2<jh.heap.size:=⟨xM.o,(bS.1 dZ.o).1⟩;have hh:=HC.o jh [k2] aB.o (fun k hk=>(by rw[gd.1 hk];exact ks));refine EL hh (fun v gB hE=>?_);clear hh;have uB:=hE.1;have jJ:=hE.2.1;have qP:=hE.2.2;have cc:=bI dZ.o qP Vj;clear ks;clear aV;have aV:=gj.o _ uB.1;revert uB jJ qP cc;refine bV ?_;intro qk GP PQ dZ;clear hE;go_wp2_with fail;revert K hK;refine RB ?_;exact aqa
 refine aes ?_;intro k1 il gB hu b9 dD;have xP:w7.heap.size≤k1:=by rw[il];exact aB.o.size
 have cc:=G b9 dZ.o;have bL:k1≠k2:=acr;have af:=aB.o.trans (b9.mono aB.o.size);clear aV;have aV:=gj.o _ (am.ce af);rw[←hu];clear hu;revert b9 dD xP cc bL af;refine bX ?_;intro gk dv xL dZ cJ bh;revert K hK;refine pj ?_;try rw[←il]
 clear il;refine oz hops 9 fun K hK=>?_;go_simp;have D4:w7.heap.size≤k1∧k1<gB.heap.size:=⟨xL.o,(bS.1 dv.o).1⟩;have ks:w7.heap.size≤k2∧k2<gB.heap.size:=⟨xM.o,(bS.1 dZ.o).1⟩;have hh:=HC.o gB [k1,k2] bh.o (fun k hk=>(by simp only[iC,List.not_mem_nil,TA]at hk;rcases hk with rfl|rfl;exact D4;exact ks));refine EL hh (fun v uy hE=>?_);clear hh;have pz:=hE.1;have jJ:=hE.2.1;have qP:=hE.2.2;have dD:=bI dv.o qP Vi;clear D4;have cc:=bI dZ.o qP Vj;clear ks;clear aV;have aV:=gj.o _ pz.1;revert pz jJ qP dD cc;refine bU ?_;intro Lg GP PQ dv dZ;exact apo):=h
def amh(h:P:=by
 refine c_ 7 fun K hK=>?_;go_simp;refine (lQ.o _ IX).mono ?_;rintro e wz ⟨⟨i2,GS,rfl,BJ⟩,H⟩;have rX:=bQ.trans (H.mono bQ.size);have TI:=PF.o.trans (rX.mono PF.o.size);have z0:=G rX Em.o;have z1:=G rX kl.o;have z2:=G rX ga.o;have z5:=G rX tF.o;have zL:=fun h=>pG (UQ.o h) rX;obtain⟨_,cC,cD,cB,cF⟩:=a8 z0;refine akx ?_;intro GW;have kI:wz.cell? ⟨g5,0,none⟩=some (.string nm):=(cT z5).1;have TG:=(cT GW).1;revert H BJ rX TI z0 z1 z2 z5 zL GW kI TG;refine nL ?_;intro gV GY aza LC lO dv dZ G5 Ub azi df ace;refine cK ?_;refine hK.out _ _ Vg (fun hHeld=>?_);clear hK K;refine aet ?_;intro hHeld wP Cd vO y0 y1 y2 y5;have Po:No2 wz (fun z=>z=g):=by rintro z rfl;exact jf lO.o D D
 have yL:=fun h=>lA (Ub.o h) vO Po;have Pn:Below w.heap.size w wP:=LC.o.trans (vO.below LC.o.size adg);have TH:=GY.o wP Pn;obtain⟨⟨d0,d1,d2,d3⟩,_⟩:=a8 y0;rw[←Cd];clear Cd;revert vO y0 y1 y2 y5 Po yL Pn TH;refine fK ?_;intro ayz awz Le Tx TY azf Z3 TK T5;go_wp2_with fail;refine T5.o.mono ?_;rintro e wq ⟨sb,sm,sd,i',bad',rfl,eH,rO⟩;refine aif ?_;intro wr hwr D6 zS h11 B8 t11 x5 x1 x2;obtain⟨ux0,ux1,ux2,uf0,uf1,uf2⟩:=cT x5;obtain⟨_,_,_,vf0,vf1,PU⟩:=cT x1;obtain⟨_,wf0,wf1,wf2,wf3⟩:=a8 x2;obtain⟨⟨tx0,tx1,tx2,tx3⟩,_⟩:=a8 t11;refine alp ?_;intro L0 XO ak aQ kg K4 By cR hL;have TJ:(∃l,eR ws i=(some (nm,(o5 tl),l),i')∧bad'=0∧iy wr (.slice sb sm sd) l)∨(∃j,eR ws i=(none,j)∧bad'=cO ws fin j):=eH.imp (fun⟨l,h1,h2,h3⟩=>⟨l,h1,h2,LV h3 D6⟩) id;revert eH rO D6 zS t11 x5 x1 x2 cR hL TJ;refine kH ?_;intro nU ee azc azb ayy Z2 gD vU eI HL Z1;go_upto_region 14 with (fail);rw[←hwr,←B8];clear hwr B8;go_wp2_with fail;go_region
 go_wp2_with fail
 refine aku ?_;intro wS B9 s1 s2;obtain⟨wT,fQ⟩:=Y (((((((wS.setCell ⟨g+1,0,none⟩ (.string nm)).setCell ⟨g+1,1,none⟩ (.slice a2 n2 c2)).setCell ⟨g+1,2,none⟩ (.slice sb sm sd)).setCell ⟨g+1+1,0,none⟩ (.slice a n c)).setCell ⟨g+1+1,1,none⟩ (.int .i64 i')).setCell ⟨g+1+1,2,none⟩ (.int .i64 fin)).setCell ⟨g+1+1,3,none⟩ (.int .i64 bad'));rw[←fQ];have r1:dQ (g+1) (.string nm) (.slice a2 n2 c2) (.slice sb sm sd) wT:=by have k0:=ag wS (g+1) 0 _ _ (.string nm) s1;have k1:=ag _ (g+1) 1 _ _ (.slice a2 n2 c2) k0;exact aex
 have r2:es (g+1+1) a n c i' fin bad' wT:=by have k0:=ah (b:=g+1) (i:=0) (u:=.string nm) s2 Z;have k1:=ah (b:=g+1) (i:=1) (u:=(.slice a2 n2 c2)) k0 Z;exact anq
 have hT:am (fun z=>z=g5∨z=g+1∨z=g+1+1) wr wT:=by have m0:am (fun z=>z=g5∨z=g+1∨z=g+1+1) wr wS:=aqr;have m1:=m0.setCell (p:=⟨g+1,0,none⟩) (.inr (.inr (.inl rfl))) (.string nm);have m2:=m1.setCell (p:=⟨g+1,1,none⟩) (.inr (.inr (.inl rfl))) (.slice a2 n2 c2);exact ady
 clear fQ B9;have aj:No2 wr (fun z=>z=g5∨z=g+1∨z=g+1+1):=by exact ame
 have kN:Below w.heap.size w wT.drew:=dA (eI.o.trans (hT.below eI.o.size aqs));have kK:am (fun z=>z=g5∨z=g+1∨z=g+1+1) wr wT.drew:=hT.drew;have nP:dQ (g+1) (.string nm) (.slice a2 n2 c2) (.slice sb sm sd) wT.drew:=r1;have qN:es (g+1+1) a n c i' fin bad' wT.drew:=r2;generalize wT.drew=wU at kN kK nP qN⊢;clear r1 r2 hT;refine DN ?_;have Ze:(∃sp:dj,eR ws i=(some sp,i')∧bad'=0∧nm=sp.1∧hU wU (.slice a2 n2 c2) sp.2.1∧iy wU (.slice sb sm sd) sp.2.2)∨(∃j,eR ws i=(none,j)∧bad'=cO ws fin j):=by exact ajl
 exact⟨nm,a2,n2,c2,sb,sm,sd,i',bad',rfl,Ze,kN⟩):=h
def qK(h:V Q→P:=by
 intro I K hK;refine hK.out _ _ trivial (fun hHeld=>?_);clear hK K;refine iN ?_;revert hHeld;exact I.o):=h ⟨k⟩
def XI(h:P:=by
 obtain⟨b1,n1,c1,b2,n2,c2,j5,cG,hE,hC⟩:=hcut;obtain⟨Ls,PA⟩:=Y wc;rw[←PA]at hE hC⊢;clear PA;go_upto_region 33 with (fail);obtain⟨⟨bF,bG,bH,bD⟩,cC,cD,cB,cF⟩:=a8 hE.pb;obtain⟨mo,Aj⟩:=Y ((decide (cG=0)&&decide (j5<n)));obtain⟨HE,HC,B7⟩:=aQ hE hC Aj;clear hE hC Aj;go_cut [156] (fun v W=>v=.bool mo∧Below Ls.heap.size Ls W)
 case first=>
  by_cases aW:cG=0
  ·subst aW;have D3:=CI Ls (some ⟨b,off,none⟩) n c j5 fin 0;have Lu:=O D3;clear D3;go_wp2_with fail;refine Lu.o.mono ?_;rintro e Z_ ⟨rfl,GR⟩;go_wp2_with fail;go_meet
   exact⟨by rw[B7.o];rfl,GR⟩
  have kb:(cG==0)=false:=by simpa using aW
  have cQ:=O aW;clear aW;go_wp2_with fail;go_meet
  exact⟨(by rw[B7.o,be cQ.o];rfl),aL _ _⟩
 case rest=>
  obtain⟨rfl,GR⟩:=hcut;obtain⟨Z_,Z9⟩:=Y wc;rw[←Z9]at GR⊢;clear Z9 bF bG bH bD cC cD cB cF;have zY:=HE.o.to GR;have vN:=HC.o.to GR;obtain⟨Pp,qW,aDx⟩:=aQ zY vN GR;clear zY vN GR;go_upto_if 156 with (fail);go_cut [] (fun W=>EndF w t g B (some ⟨b,off,none⟩) n c ln fin ws x W)
  case first=>
   cases mo with
   |true=>
    obtain⟨h1,h2⟩:cG=0∧j5<n:=(by simpa using B7.o.symm);subst h1
    have aj:dy ln (az ws 0) x=none:=by
     rcases qW.o with⟨_,_,_,h,_⟩|⟨h,_⟩
     ·exact h h2
     exact GA
    have jL:j7 Z_ [.slice (some ⟨b,off,none⟩) n c] ws:=by
     rcases qW.o with⟨_,h,_⟩|⟨h,_⟩
     ·exact h
     exact GA
    have ZU:=Uq jL j5 fin;obtain⟨q5,axc⟩:=Y (cO ws fin j5);rw[←axc]at ZU;obtain⟨⟨bF,bG,bH,bD⟩,-⟩:=a8 Pp.o.pb;revert h2 aj jL ZU axc;refine bU ?_;intro H2 cd qg ayp LJ;go_wp2_with fail;refine ayp.o.mono ?_;rintro e w22 ⟨rfl,TX⟩;have TV:=Pp.o.to TX;clear bF bG bH bD;obtain⟨⟨bF,bG,bH,bD⟩,cC,cD,cB,cF⟩:=a8 TV.pb;obtain⟨aDy,ayk⟩:=ak TX TV;clear TX TV;go_wp2_with fail;go_meet
    exact⟨b1,n1,c1,b2,n2,c2,j5,q5,ayk.o.abn bZ,.inr ⟨(by rw[LJ.o];exact fM.o j5),cd.o⟩⟩
   |false=>
    go_wp2_with fail
    go_meet
    refine⟨b1,n1,c1,b2,n2,c2,j5,cG,Pp.o,?_⟩;rcases qW.o with⟨h0,h1,⟨y,t',h2,h3,h4,h5⟩,h6,h7⟩|h
    ·have hj:¬j5<n:=fun h=>by
      have:=B7.o;rw[aO h0,aO h]at this;cases this
     exact .inl ⟨h0,y,t',h5 Z,h2,h3,h4 _ Z Z Z⟩
    exact .inr h
  case rest=>
   obtain⟨b1,n1,c1,b2,n2,c2,j5,cG,hE,hC⟩:=hcut;obtain⟨Ls,PA⟩:=Y wc;rw[←PA]at hE hC⊢;clear PA;have bD:=(a8 hE.pb).1.2.2.2;have b_:=J hE.xb 0;have hd:=J hE.xb 1;have fU:=J hE.rb 0;have g_:=J hE.rb 1;have B5:=aG hE.rb 0;have BX:=aG hE.rb 1;simp only[aq,ar,aw]at b_ hd fU g_;obtain⟨HE,HC⟩:=ak hE hC;clear hE hC;go_wp2_with fail;go_region
   go_wp2_with fail
   obtain⟨WF,eJ⟩:=Y ((Ls.setCell ⟨g+2,0,none⟩ (.slice b1 n1 c1)).setCell ⟨g+2,1,none⟩ (.slice b2 n2 c2));have x1:WF.heap[g+2]?=some (.cells #[.slice b1 n1 c1,.slice b2 n2 c2] 25 (0,0)):=(by rw[eJ];exact ag _ (g+2) 1 _ _ _ (ag _ (g+2) 0 _ _ _ HE.o.rb));have gE:am (fun z=>z=g+2) Ls WF:=acp;rw[←eJ];clear eJ;refine fZ (abv (g:=g+2) rfl rfl rfl x1 LU rfl aA) rfl ?_;refine⟨b1,n1,c1,b2,n2,c2,cG,rfl,?_,(HE.o.gc.trans gE fun k hk e=>by rw[e]at hk;have:=HG.o;omega).drew⟩;rcases HC.o with⟨h0,y,t',h1,h2,h3,h4⟩|h
   ·refine .inl ⟨h0,y,t',h1,?_,h3⟩;exact ((h2.to gE (fun k _ e=>(by rw[e,h4];exact⟨by omega,dF HE.o.rb (by decide)⟩)) (fun _ _ _=>rfl)).below (dA (aL _ _))).val
   exact .inr h):=h
def XJ(h:P:=by
 go_loopw [4,28] (fun v i wr=>∃k:Nat,k≤n2∧i=.int .i64 k∧WdI w dP F0 k v wr) (fun _ i _=>n2-(RowKit.intOf i).toNat)
 case atStart=>exact⟨0,bj _,rfl,HI.o⟩
 case round=>
  obtain⟨k,hk,rfl,hI⟩:=hrel;obtain⟨z,hz⟩:=Y (F0.length+k);have aY:=hI.row;rw[←hz]at aY;obtain⟨ra,rc,rfl⟩:=bg aY;have Zk:z≤1001:=(by have:=Fa.o;omega);by_cases e8:k<n2
  ·have aI:k<dP.length:=EB;obtain⟨x,hx⟩:=Y (dP[k]);obtain⟨b,off,rfl,d0,d1,eV,gH⟩:=fS.o k x lD;have e0:=ab hI.bm d0;have e1:=ab hI.bm d1;have uw:=zpq aI;rw[←hx]at uw;have tn:j0 x=x.1++⟨#[61]⟩++x.2:=rfl;refine DQ ?_;intro s hs t ht;rw[←hs,←ht]at tn;have Ab:=ir.o x EP;rw[←hs,←ht]at Ab;obtain⟨ayt,ayu⟩:=Ab;rw[←hs]at e0;rw[←ht]at e1;obtain⟨sb,Lf⟩:=Y wr.heap.size;obtain⟨w5,eT⟩:=Y (wr.alloc (.cells #[.string s,.string t] 137));have b9:Below wr.heap.size wr w5:=Mx;have p6:w5.heap[sb]?=some (.cells #[.string s,.string t] 137 (0,0)):=(by rw[eT,Lf];exact dq _ _);have f0:=J p6 0;have f1:=J p6 1;simp only[aq,ar,aw]at f0 f1;have Tw:=fh aY b9;have Tt:=hI.bm.trans (b9.mono hI.bm.size);have aCl:=Tt.size;obtain⟨N,hN⟩:=Y ((F0++(dP.take k).map j0).map Value.string);rw[←hN]at Tw;refine Bn ?_;intro k5 k6;clear d0 d1 eV gH;revert hz hI aY hx uw hs tn ht b9 p6 Tt aCl Tw hN;refine Sa ?_;intro Hz HI bY Hx qQ Hs Cj Ht gk G4 Zu oL tK HN;go_upto_region 10 with (fail);rw[←eT,←Lf];clear eT Lf e0 e1;go_wp2_with (at_builtin;(refine kZ Ag rfl (.tmp 32) (.tmp 39) rfl w.heap.size (.slice ra z rc) z N rfl tK.o 1 _ rfl rfl dW Z cY oL.o ?_;intro v9 w9 aZ aT cg;obtain⟨a9,c9,rfl⟩:=bg aZ;have ca:=(iX Zu.o tK.o (aE _) aT oL.o:Below w.heap.size w w9);obtain⟨dY,d_⟩:=ak aZ ca;clear aZ aT cg ca));go_roundw
   case rel=>refine⟨k+1,Z,cj,⟨?_,d_.o⟩⟩;rw[qQ.o,←gq,zt2,←HN.o,←rn,←Hz.o,Cj.o];exact dY.o
   case measure=>(simp[RowKit.intOf])<;>omega
  obtain rfl:k=n2:=Z;have KZ:(dP.take k).map j0=dP.map j0:=(by rw[lH (jg fV.o.symm)]);have Li:=Ai.o;rw[U0.o]at Li;rw[KZ]at aY;have fT:(F0++dP.map j0).length=z:=(by rw[bM,gi,hz,fV.o]);have aww:=adj.o UU.o;by_cases m_:z=0
  ·subst m_;have hL:F0++dP.map j0=[]:=oT fT;rw[M hL]at Li;have aDc:(wr.alloc (.cells #[.string ⟨#[42]⟩] 9)).ownsRow wr.heap.size 9 1 (.slice (some ⟨wr.heap.size,0,none⟩) 1 1) 1 [.string ⟨#[42]⟩]:=wG (base:=wr.heap.size) (e:=9) (size:=1) wr #[.string ⟨#[42]⟩] 1 (aE _) D rfl;have H:Below w.heap.size w (wr.alloc (.cells #[.string ⟨#[42]⟩] 9)):=hI.bm.alloc hI.bm.size _;revert KZ Li aww hz hI aY fT hL aDc H;refine dE ?_;intro GL Z8 ZX Hz HI bY im HL Ch gV;go_wp2_with fail;go_ret;have eH:R=[ef]:=Z8.o;refine⟨some ⟨wr.heap.size,0,none⟩,1,by rw[eH];rfl,?_,gV.o⟩;rw[eH];exact⟨L_ (l:=[ef]) Ch.o (fun x hx=>avq),abu (ET Ch.o HI.o.bm.size)⟩
  have k7:((z:Int)==0)=false:=l9;have hL:F0++dP.map j0≠[]:=fun e=>(by rw[e]at fT;exact m_ fT.symm);rw[E hL]at Li;rw[←Li]at aY fT;have zR:=hI;revert hz hI aY KZ Li fT aww m_ hL zR;refine dE ?_;intro Hz HI bY GL Z8 im ZX lO HL lx;go_wp2_with fail;go_ret;refine⟨ra,rc,by rw[im.o];rfl,?_,lx.o.bm⟩;rw[im.o];exact⟨L_ bY.o ZX.o,abu bY.o⟩):=h
def aql(h:P:=by
 clear ck;revert aU LP Pv Ao LZ BJ h0;refine eb ?_;intro fS Cm Lw Qc QP GY H0;go_wp2_with fail;refine VL ?_;intro w8 sb sm sd i' bad' eH eD g10 ve w9 fN qi yg jO p9 QZ;obtain⟨_,_,_,_,_,EY⟩:=cT jO.s;refine WZ ?_;intro cH et ep;have BU:No2 w9 (fun z=>z=g4):=by exact XD
 have LN:CnJ w g g4 a n c i fin 0 va 1 1 (.slice sb sm sd) cH:=⟨dh ep jO.p Z,dh ep jO.r1 Z,dh ep jO.r2 Z,YQ,jO.bm.trans (ep.below jO.bm.size yJ)⟩;have PB:=dh ep p9 Z;have LM:0=0→hU cH (.slice va 1 1) gx:=fun h=>lA (pG YR yg) ep BU;refine WT ?_;intro EN;clear c0 c1 c2 c3;revert eH eD qi yg jO p9 ep BU LN PB LM EN;refine nL ?_;intro nU si QL avb HJ9 IL lW ave gA yD H7 Qm;go_upto_region 13 with (fail);rw[←fN,←ve];clear fN ve;go_upto_region 14 with (fail);rw[←et];clear et EY;obtain⟨x0,x1,x2,_,_,_⟩:=cT gA.o.s;obtain⟨⟨y0,y1,y2,y3⟩,cC,cD,cB,cF⟩:=a8 yD.o;obtain⟨_,_,_,B5,BX,EC⟩:=cT gA.o.r1;obtain⟨_,yl,ym,yn,yo⟩:=a8 gA.o.r2;refine Xh ?_;intro d1 d2 d3 d4 d5;rcases nU.o with⟨l,H,tn,gF,af⟩|⟨Co,j,If,Ig⟩
 ·subst H;by_cases hi:i'=i
  ·revert tn gF hi;refine VO ?_;intro k7 bq Cj oN Hi mE Fb ee;go_wp2_with fail;refine Fb.o.mono ?_;rintro e x9 ⟨rfl,uH⟩;have mD:=gA.o.to uH;have D_:=G uH yD.o;obtain⟨_,cC,cD,cB,cF⟩:=a8 D_;refine VR ?_;intro kr sx ni;have PO:CnJ w g g4 a n c i fin 0 va 1 1 (.slice sb sm sd) kr:=⟨dh ni mD.p Z,dh ni mD.r1 Z,dh ni mD.r2 Z,dh ni mD.s Z,mD.bm.trans (ni.below mD.bm.size yJ)⟩;have ZC:es g10 a n c i' fin bq kr:=avw;clear x0 x1 x2 y0 y1 y2 y3 B5 BX EC yl ym yn yo;revert uH mD D_ ni PO ZC;refine bX ?_;intro ED aBo ada aBn qf EH;go_upto_region 16 with (fail);rw[←sx];clear sx cC cD cB cF;obtain⟨x0,x1,x2,_,_,_⟩:=cT qf.o.s;obtain⟨⟨y0,y1,y2,y3⟩,_⟩:=a8 EH.o;obtain⟨_,_,_,B5,BX,EC⟩:=cT qf.o.r1;obtain⟨_,yl,ym,yn,yo⟩:=a8 qf.o.r2;refine cK ?_;go_region;go_wp2_with fail
   obtain⟨wT,fQ⟩:=Y (((((((kr.setCell ⟨g+1,0,none⟩ (.string ⟨#[]⟩)).setCell ⟨g+1,1,none⟩ (.slice va 1 1)).setCell ⟨g+1,2,none⟩ (.slice sb sm sd)).setCell ⟨g+1+1,0,none⟩ (.slice a n c)).setCell ⟨g+1+1,1,none⟩ (.int .i64 i')).setCell ⟨g+1+1,2,none⟩ (.int .i64 fin)).setCell ⟨g+1+1,3,none⟩ (.int .i64 bq));rw[←fQ];obtain⟨r1,r2,hT⟩:=Cl (i':=i') qf.o.r1 qf.o.r2 fQ;clear fQ;have aj:No2 kr (fun z=>z=g+1∨z=g+1+1):=by exact aoj
   have kN:Below w.heap.size w wT.drew:=dA (qf.o.bm.trans (hT.below qf.o.bm.size Ah));refine W6 ?_;intro kK nP;have qN:es (g+1+1) a n c i' fin bq wT.drew:=r2;generalize wT.drew=wU at kN kK nP qN⊢;refine DN ?_;exact⟨⟨#[]⟩,va,1,1,sb,sm,sd,i',bq,rfl,.inr ⟨i',mE.o,ee.o⟩,kN⟩
  have k7:((i':Int)==(i:Int))=false:=l9;have kL:=(by first|exact Cm.o l i' af gF hi|exact Cm.o l i' trivial gF hi:db ws i=(some (fd,gx,l),i'));have TT:=(by first|exact H7.o af|exact H7.o trivial:hU cH (.slice va 1 1) gx);have TU:=Qm.o l tn;clear cC cD cB cF;revert tn gF hi kL TT TU;refine bX ?_;intro Cj oN Hi mE Ut Uu;go_wp2_with fail;go_region
  go_wp2_with fail
  obtain⟨wT,fQ⟩:=Y (((((((cH.setCell ⟨g+1,0,none⟩ (.string ⟨#[]⟩)).setCell ⟨g+1,1,none⟩ (.slice va 1 1)).setCell ⟨g+1,2,none⟩ (.slice sb sm sd)).setCell ⟨g+1+1,0,none⟩ (.slice a n c)).setCell ⟨g+1+1,1,none⟩ (.int .i64 i')).setCell ⟨g+1+1,2,none⟩ (.int .i64 fin)).setCell ⟨g+1+1,3,none⟩ (.int .i64 0));rw[←fQ];obtain⟨r1,r2,hT⟩:=Cl (i':=i') gA.o.r1 gA.o.r2 fQ;clear fQ;have aj:No2 cH (fun z=>z=g+1∨z=g+1+1):=by exact RE
  have kN:Below w.heap.size w wT.drew:=dA (gA.o.bm.trans (hT.below gA.o.bm.size Ah));refine W6 ?_;intro kK nP;have qN:es (g+1+1) a n c i' fin 0 wT.drew:=r2;generalize wT.drew=wU at kN kK nP qN⊢;refine DN ?_;exact⟨⟨#[]⟩,va,1,1,sb,sm,sd,i',0,rfl,.inl ⟨_,mE.o,rfl,rfl,lA Ut.o kK aj,uK Uu.o kK aj⟩,kN⟩
 have k7:(bad'==0)=false:=(by simpa using Co);clear cC cD cB cF;obtain⟨aBu,Uo,Un⟩:=aQ Co If Ig;clear Co If Ig;go_wp2_with fail;go_region
 go_wp2_with fail
 obtain⟨wT,fQ⟩:=Y (((((((cH.setCell ⟨g+1,0,none⟩ (.string ⟨#[]⟩)).setCell ⟨g+1,1,none⟩ (.slice va 1 1)).setCell ⟨g+1,2,none⟩ (.slice sb sm sd)).setCell ⟨g+1+1,0,none⟩ (.slice a n c)).setCell ⟨g+1+1,1,none⟩ (.int .i64 i')).setCell ⟨g+1+1,2,none⟩ (.int .i64 fin)).setCell ⟨g+1+1,3,none⟩ (.int .i64 bad'));rw[←fQ];obtain⟨r1,r2,hT⟩:=Cl (i':=i') gA.o.r1 gA.o.r2 fQ;clear fQ;have aj:No2 cH (fun z=>z=g+1∨z=g+1+1):=by exact RE
 have kN:Below w.heap.size w wT.drew:=dA (gA.o.bm.trans (hT.below gA.o.bm.size Ah));refine W6 ?_;intro kK nP;have qN:es (g+1+1) a n c i' fin bad' wT.drew:=r2;generalize wT.drew=wU at kN kK nP qN⊢;refine DN ?_;exact⟨⟨#[]⟩,va,1,1,sb,sm,sd,i',bad',rfl,.inr ⟨j,Uo.o,Un.o⟩,kN⟩):=h
def KY(h:V Q→P:=by
 intro I;have hn:=(pF hw).1;refine lM ?_;intro g hg;obtain⟨W1,aK⟩:=Y ((((w.alloc (.cells #[.slice a n c,.int .i64 i,.int .i64 fin,.int .i64 0] 150)).alloc (.cells #[.string nm,.int .i64 li,.slice b2 m2 d2,.slice b3 m3 d3,.slice b4 m4 d4,.slice b5 m5 d5,.slice b6 m6 d6,.slice b7 m7 d7] 45)).alloc (.cells #[.string ⟨#[]⟩,.int .i64 0,.slice none 0 0,.slice none 0 0,.slice none 0 0,.slice none 0 0,.slice none 0 0,.slice none 0 0] 45)).alloc (.cells #[.slice none 0 0,.int .i64 0,.int .i64 0,.int .i64 0] 150));have eV:W1.heap.size=g+4:=P0;have fA:Bd6 w g a n c fin #[.string nm,.int .i64 li,.slice b2 m2 d2,.slice b3 m3 d3,.slice b4 m4 d4,.slice b5 m5 d5,.slice b6 m6 d6,.slice b7 m7 d7] i 0 W1:=by rw[aK,hg];exact⟨G ((((aS _ _).alloc ae _).alloc TD _)) (dx rfl),G ((aS _ _).alloc ae _) (dx ae),G (aS _ _) (dx ae),dx ae,(((aS _ _).alloc ae _).alloc TD _).alloc TD _⟩
 refine ur ?_;intro bZ;refine Ot ?_;intro fe;have jL:∀W,Below w.heap.size w W→j7 W [.slice a n c] ws:=fun W hb=>bz lz _ _ _ _ hw hb;obtain⟨s,hs⟩:=Y (aD ws i);have hW:=B3 (jL W1 fA.bm) i fin 0;rw[←hs]at hW;have a_:s.size≤70000:=Us;obtain⟨⟨c0,c1,c2,c3⟩,-⟩:=a8 fA.pb;revert hn g hg W1 aK eV fA bZ fe jL s hs hW a_ c0 c1 c2 c3;exact I.o):=h ⟨k⟩
def VH(h:P:=by
 refine c_ 12 fun K hK=>?_;refine Eb acw (.tmp 48) (.tmp 55) rfl B (.slice ra m rc) m N rfl ql.o 1 #[.string s,.slice la ln lc,.int .i64 line] rfl rfl dW Z cY hB (fun v' w9 aZ aT cg=>?_);obtain⟨a9,c9,rfl⟩:=bg aZ;have GK:w9.heap[xb]?=some (.cells #[vp,.slice ra m rc] 25 (0,0)):=(aT.block xb (bS.1 LR.o).1 (fun e=>cJ.o e.symm)).trans LR.o;have d2:=aG GK 1;have d1:=J GK 1;simp only[aq,ar,aw]at d1;have K_:=Qp.o.pref Hr.o iz.o (v9:=.slice a9 (m+1) c9) ye aT cg;have Pb:l7 r (.slice a n c) ws.length fin w9:=(aT.block r (bS.1 Cn.o).1 (fun e=>EF.o e.symm)).trans Cn.o;have xN:am (fun k=>(Value.slice ra m rc).ownBlock=some k∨k=xb) w4 (w9.setCell ⟨xb,1,none⟩ (.slice a9 (m+1) c9)):=((eS aT).mono fun _ _ h=>Or.inl h).trans (aN (am.refl (fun k=>k=xb) w9) _ _) fun _ _ h=>Or.inr h
 have eY:am (fun k=>k=r∨t k≤9) w (w9.setCell ⟨xb,1,none⟩ (.slice a9 (m+1) c9)) :=
  (sg.o.mono fun _ _ h=>Or.inl h).trans xN fun k hk h=>Or.inr (by
   rcases h with h|rfl
   ·have e1:=Hr.o.tag k h;rw[iT.o k hk]at e1;omega
   have e2:=HH.o.o9;omega)
 have Pd:∀k,k<w.heap.size→9<t k→aJ (aJ t w.heap.size 3) w4.heap.size 2 k=t k:=fun k hk h9=>by rw[aR (jq hk sg.o.size),iT.o k hk]
 have K9:l7 r (.slice a n c) ws.length fin (w9.setCell ⟨xb,1,none⟩ (.slice a9 (m+1) c9)):=ah Pb abq;revert aT aZ cg GK K_ Pb xN eY Pd K9;refine dE ?_;intro fq dY qT ayi Pc ayg ayf kJ Zz uA;revert K hK;refine qK ?_;intro hHeld;refine bB 13 ?_;refine bB 14 ?_;refine c_ 15 fun K hK=>?_;revert K hK;refine gS ?_;intro hHeld;refine lq ?_;obtain⟨W9,mz⟩:=Y (w9.setCell ⟨xb,1,none⟩ (.slice a9 (m+1) c9));rw[←mz]at Pc kJ uA⊢;clear mz;by_cases e8:ws.length<n
 ·exact XG
 exact XK):=h
def adt(h:P:=by
 refine agr ?_;intro lQ wz j3 da pJ gV df hHeld K hK w3 cN;revert K hK;refine qK ?_;intro hHeld;refine lq ?_;refine Gy ?_;intro iw;obtain⟨css,hr⟩:=iw.cl;obtain⟨_,_,e0⟩:=bg hr.row;have cg:m4=p.cl.length:=yV;clear e0;refine Bk ?_;intro N aY hN;have aFa:m4≤70000:=by rw[cg];exact Ak.o.2.2.1
 refine Gw ?_;intro sj;have b_:=J cN.o.xb 4;simp only[aq,ar,aw]at b_;revert iw hr cg aY hN;refine bU ?_;intro uR Hr qT bY HN;go_wp2_with (at_builtin;(refine kZ Ag rfl (.tmp 71) (.tmp 73) rfl B (.slice b4 m4 d4) m4 N rfl bY.o 1 #[.string s] rfl rfl dW Z cY sj ?_;intro v9 w9 aZ aT ia;obtain⟨a9,c9,rfl⟩:=bg aZ;have Tj:=bI cN.o.xb (eS aT) (dM bY.o cN.o.xb D);have awo:=J Tj 4;have aCq:=aG Tj 4;simp only[aq,ar,aw]at awo;obtain⟨Hxb9,dY,fq,Hmv9⟩:=kg Tj aZ aT ia;clear aZ aT ia Tj));have eY:=eS fq.o;have qZ:=bI cN.o.pb eY (dM bY.o cN.o.pb D);refine Rq ?_;intro lY lZ;have aCp:=uR.o.aav (q:=s) Hr.o (zou ⟨rfl,auk⟩) (v9:=.slice a9 (m4+1) c9) I_ fq.o Hmv9.o;obtain⟨cH,et⟩:=Y (w9.setCell ⟨g+1,4,none⟩ (.slice a9 (m4+1) c9));have oK:cH.heap[g+1]?=some (.cells #[.string nm,.int .i64 li,.slice b2 m2 d2,.slice b3 m3 d3,.slice a9 (m4+1) c9,.slice b5 m5 d5,.slice b6 m6 d6,.slice b7 m7 d7] 45 (0,0)):=(by rw[et];exact ag w9 (g+1) 4 _ _ _ Hxb9.o);have oJ:es g a n c j3 fin da cH:=Mp;refine Gx ?_;intro nh ng ep;clear et awo aCq b_;revert eY qZ lY lZ aCp oK oJ nh ng ep;refine dE ?_;intro kJ IM CN CO wD qM BW fY mB lW;refine Bl ?_;intro bF bG bH bD iD fb fC fD cC cD cB cF jV jW jX jY jZ j8 j9 jU b_ fU hd g_ jt jw jB jx jD jy jE jz jF jA jG js;go_wp2_with fail
 obtain⟨WF,eJ⟩:=Y (((((((((((((cH).setCell ⟨g+2,0,none⟩ (.string nm)).setCell ⟨g+2,1,none⟩ (.int .i64 li)).setCell ⟨g+2,2,none⟩ (.slice b2 m2 d2)).setCell ⟨g+2,3,none⟩ (.slice b3 m3 d3)).setCell ⟨g+2,4,none⟩ (.slice a9 (m4+1) c9)).setCell ⟨g+2,5,none⟩ (.slice b5 m5 d5)).setCell ⟨g+2,6,none⟩ (.slice b6 m6 d6)).setCell ⟨g+2,7,none⟩ (.slice b7 m7 d7)).setCell ⟨g+3,0,none⟩ (.slice a n c)).setCell ⟨g+3,1,none⟩ (.int .i64 j3)).setCell ⟨g+3,2,none⟩ (.int .i64 fin)).setCell ⟨g+3,3,none⟩ (.int .i64 da));have x1:WF.heap[g+2]?=some (.cells #[.string nm,.int .i64 li,.slice b2 m2 d2,.slice b3 m3 d3,.slice a9 (m4+1) c9,.slice b5 m5 d5,.slice b6 m6 d6,.slice b7 m7 d7] 45 (0,0)):=(by rw[eJ];exact ah (b:=g+3) (i:=3) (u:=.int .i64 da) (ah (b:=g+3) (i:=2) (u:=.int .i64 fin) (ah (b:=g+3) (i:=1) (u:=.int .i64 j3) (ah (b:=g+3) (i:=0) (u:=.slice a n c) (ag _ (g+2) 7 _ _ (.slice b7 m7 d7) (ag _ (g+2) 6 _ _ (.slice b6 m6 d6) (ag _ (g+2) 5 _ _ (.slice b5 m5 d5) (ag _ (g+2) 4 _ _ (.slice a9 (m4+1) c9) (ag _ (g+2) 3 _ _ (.slice b3 m3 d3) (ag _ (g+2) 2 _ _ (.slice b2 m2 d2) (ag _ (g+2) 1 _ _ (.int .i64 li) (ag _ (g+2) 0 _ _ (.string nm) (fY.o))))))))) (by omega)) (by omega)) (by omega)) (by omega));have x2:es (g+3) a n c j3 fin da WF:=(by rw[eJ];exact ag _ (g+3) 3 _ _ (.int .i64 da) (ag _ (g+3) 2 _ _ (.int .i64 fin) (ag _ (g+3) 1 _ _ (.int .i64 j3) (ag _ (g+3) 0 _ _ (.slice a n c) (ah (b:=g+2) (i:=7) (u:=.slice b7 m7 d7) (ah (b:=g+2) (i:=6) (u:=.slice b6 m6 d6) (ah (b:=g+2) (i:=5) (u:=.slice b5 m5 d5) (ah (b:=g+2) (i:=4) (u:=.slice a9 (m4+1) c9) (ah (b:=g+2) (i:=3) (u:=.slice b3 m3 d3) (ah (b:=g+2) (i:=2) (u:=.slice b2 m2 d2) (ah (b:=g+2) (i:=1) (u:=.int .i64 li) (ah (b:=g+2) (i:=0) (u:=.string nm) (mB.o) (by omega)) (by omega)) (by omega)) (by omega)) (by omega)) (by omega)) (by omega)) (by omega))))));revert bF bG bH bD iD fb fC fD cC cD cB cF jV jW jX jY jZ j8 j9 jU b_ fU hd g_ jt jw jB jx jD jy jE jz jF jA jG js eJ;refine Ky ?_;intro gE;have rh:am (fun z=>(g≤z)∨(aJ t w.heap.size 10 z=6∧¬Ty w z)) w3 w9:=kJ.o.mono fun z _ hz=>.inr ⟨Hr.o.tag z hz,fun rY=>ly Hr.o D hz (rY.o8 (am.ce (S:=fun _=>False) cN.o.bm) id)⟩;have rf:am (fun z=>(g≤z)∨(aJ t w.heap.size 10 z=6∧¬Ty w z)) w3 WF:=(rh.trans lW.o fun z _ hz=>.inl Mq).trans gE fun z _ hz=>.inl EE;refine Oq ?_;intro pN
 have lR:∀z,g≤z→aJ (aJ t w.heap.size 10) w3.heap.size 6 z=(if z<w3.heap.size then 10 else 6):=fun z hz=>by exact Ow
 have aDm:g+3<w3.heap.size:=(bS.1 cN.o.r2).1
 have xW:=(wD.o.to (t':=aJ (aJ t w.heap.size 10) w3.heap.size 6) lW.o (fun z _ hz=>by
  rw[hz,lR _ Z,M Z];exact⟨pH,Z,dF Hxb9.o D⟩) (fun _ _ _=>rfl)).to (t':=aJ (aJ t w.heap.size 10) w3.heap.size 6) gE (fun z _ hz=>by
  revert hz;refine Oz ?_;intro h;exact⟨pH,Z,dF mB.o D⟩) (fun _ _ _=>rfl)
 refine WR ?_;intro xW;rcases pJ.o with⟨h1,h2,h3,h4⟩|⟨h1,h2⟩
 ·refine .inl ⟨h4,{ p with cl:=p.cl++[s] },_,rfl,rfl,xW,fun hj=>?_,fun hj=>?_,gl,fun k hk=>?_⟩
  ·rw[Hf.o];show (p8 eL (az ws i)).map _=_;rw[Ib Z (by rw[←Hs.o,←qH.o];exact h1),←Hs.o];rfl
  ·rw[Hf.o];show (p8 eL (az ws i)).map _=_;rw[vT (.inr (.inr Z))];rfl
  exact Oy
 refine .inr ⟨h2,?_⟩;rw[Hf.o];show (p8 eL (az ws i)).map _=_
 rw[vT (by
  rcases h1 with h|h
  ·exact .inr (.inl (by rw[←Hs.o,←qH.o];exact h))
  exact .inl gl)]
 rfl):=h
def adx(h:P:=by
 refine c_ 7 fun K hK=>?_;go_simp;refine (lQ.o _ IX).mono ?_;rintro e wz ⟨⟨i2,GS,rfl,BJ⟩,H⟩;have rX:=bQ.trans (H.mono bQ.size);have TI:=Iz.o.trans (rX.mono Iz.o.size);have z0:=G rX QO.o;have z1:=G rX qY.o;have z2:=G rX vQ.o;have z5:=G rX LJ.o;have zL:=fun h=>pG (UQ.o h) rX;obtain⟨_,cC,cD,cB,cF⟩:=a8 z0;refine akx ?_;intro GW;have kI:wz.cell? ⟨g5,0,none⟩=some (.string s):=(cT z5).1;have TG:=(cT GW).1;revert H BJ rX TI z0 z1 z2 z5 zL GW kI TG;refine nL ?_;intro gV GY aza LC lO dv dZ G5 Ub azi df ace;refine cK ?_;refine hK.out _ _ Vg (fun hHeld=>?_);clear hK K;refine aet ?_;intro hHeld wP Cd vO y0 y1 y2 y5;have Po:No2 wz (fun z=>z=g):=by rintro z rfl;exact jf lO.o D D
 have yL:=fun h=>lA (Ub.o h) vO Po;have Pn:Below w.heap.size w wP:=LC.o.trans (vO.below LC.o.size adg);have TH:=GY.o wP Pn;obtain⟨⟨d0,d1,d2,d3⟩,_⟩:=a8 y0;rw[←Cd];clear Cd;revert vO y0 y1 y2 y5 Po yL Pn TH;refine fK ?_;intro ayz awz Le Tx TY azf Z3 TK T5;go_wp2_with fail;refine T5.o.mono ?_;rintro e wq ⟨sb,sm,sd,i',bad',rfl,eH,rO⟩;refine aif ?_;intro wr hwr D6 zS h11 B8 t11 x5 x1 x2;obtain⟨ux0,ux1,ux2,uf0,uf1,uf2⟩:=cT x5;obtain⟨_,_,_,vf0,vf1,PU⟩:=cT x1;obtain⟨_,wf0,wf1,wf2,wf3⟩:=a8 x2;obtain⟨⟨tx0,tx1,tx2,tx3⟩,_⟩:=a8 t11;refine alp ?_;intro L0 XO ak aQ kg K4 By cR hL;have TJ:(∃l,eR ws i=(some (s,gx,l),i')∧bad'=0∧iy wr (.slice sb sm sd) l)∨(∃j,eR ws i=(none,j)∧bad'=cO ws fin j):=eH.imp (fun⟨l,h1,h2,h3⟩=>⟨l,h1,h2,LV h3 D6⟩) id;revert eH rO D6 zS t11 x5 x1 x2 cR hL TJ;refine kH ?_;intro nU ee azc azb ayy Z2 gD vU eI HL Z1;go_upto_region 14 with (fail);rw[←hwr,←B8];clear hwr B8;go_wp2_with fail;go_region
 go_wp2_with fail
 refine aku ?_;intro wS B9 s1 s2;obtain⟨wT,fQ⟩:=Y (((((((wS.setCell ⟨g+1,0,none⟩ (.string s)).setCell ⟨g+1,1,none⟩ (.slice va 1 1)).setCell ⟨g+1,2,none⟩ (.slice sb sm sd)).setCell ⟨g+1+1,0,none⟩ (.slice a n c)).setCell ⟨g+1+1,1,none⟩ (.int .i64 i')).setCell ⟨g+1+1,2,none⟩ (.int .i64 fin)).setCell ⟨g+1+1,3,none⟩ (.int .i64 bad'));rw[←fQ];have r1:dQ (g+1) (.string s) (.slice va 1 1) (.slice sb sm sd) wT:=by have k0:=ag wS (g+1) 0 _ _ (.string s) s1;have k1:=ag _ (g+1) 1 _ _ (.slice va 1 1) k0;exact aex
 have r2:es (g+1+1) a n c i' fin bad' wT:=by have k0:=ah (b:=g+1) (i:=0) (u:=.string s) s2 Z;have k1:=ah (b:=g+1) (i:=1) (u:=(.slice va 1 1)) k0 Z;exact anq
 have hT:am (fun z=>z=g5∨z=g+1∨z=g+1+1) wr wT:=by have m0:am (fun z=>z=g5∨z=g+1∨z=g+1+1) wr wS:=aqr;have m1:=m0.setCell (p:=⟨g+1,0,none⟩) (.inr (.inr (.inl rfl))) (.string s);have m2:=m1.setCell (p:=⟨g+1,1,none⟩) (.inr (.inr (.inl rfl))) (.slice va 1 1);exact ady
 clear fQ B9;have aj:No2 wr (fun z=>z=g5∨z=g+1∨z=g+1+1):=by exact ame
 have kN:Below w.heap.size w wT.drew:=dA (eI.o.trans (hT.below eI.o.size aqs));have kK:am (fun z=>z=g5∨z=g+1∨z=g+1+1) wr wT.drew:=hT.drew;have nP:dQ (g+1) (.string s) (.slice va 1 1) (.slice sb sm sd) wT.drew:=r1;have qN:es (g+1+1) a n c i' fin bad' wT.drew:=r2;generalize wT.drew=wU at kN kK nP qN⊢;clear r1 r2 hT;refine DN ?_;have Ze:(∃sp:dj,eR ws i=(some sp,i')∧bad'=0∧s=sp.1∧hU wU (.slice va 1 1) sp.2.1∧iy wU (.slice sb sm sd) sp.2.2)∨(∃j,eR ws i=(none,j)∧bad'=cO ws fin j):=by exact ajl
 exact⟨s,va,1,1,sb,sm,sd,i',bad',rfl,Ze,kN⟩):=h
def aea(h:P:=by
 refine c_ 10 fun K hK=>?_;refine Eb zoy (.tmp 25) (.tmp 30) rfl B (.slice ra m rc) m N rfl ql.o 1 #[.string s,.int .i64 line,.slice none 0 0,.slice none 0 0,.slice none 0 0,.slice none 0 0,.slice none 0 0,.slice none 0 0] rfl rfl dW Z cY hB (fun v' w9 aZ aT cg=>?_);obtain⟨a9,c9,rfl⟩:=bg aZ;have GK:w9.heap[xb]?=some (.cells #[.slice ra m rc,vf] 25 (0,0)):=(aT.block xb (bS.1 Ml.o).1 (fun e=>cJ.o e.symm)).trans Ml.o;have d2:=aG GK 0;have d1:=J GK 0;simp only[aq,ar,aw]at d1;have K_:=adb.o.pkg bY.o Qq.o Qr.o EI.o (v9:=.slice a9 (m+1) c9) (s:=s) (line:=line) ye aT cg;have Pb:l7 r (.slice a n c) (i+1+1) fin w9:=(aT.block r (bS.1 cU.o).1 (fun e=>EF.o e.symm)).trans cU.o;have xN:am (fun k=>(Value.slice ra m rc).ownBlock=some k∨k=xb) w3 (w9.setCell ⟨xb,0,none⟩ (.slice a9 (m+1) c9)):=((eS aT).mono fun _ _ h=>Or.inl h).trans (aN (am.refl (fun k=>k=xb) w9) _ _) fun _ _ h=>Or.inr h
 have eY:am (fun k=>k=r∨t k≤9) w (w9.setCell ⟨xb,0,none⟩ (.slice a9 (m+1) c9)) :=
  (iI.o.mono fun _ _ h=>Or.inl h).trans xN fun k hk h=>Or.inr (by
   rcases h with h|rfl
   ·have e1:=EI.o k h;rw[iT.o k hk]at e1;omega
   have e2:=HH.o.o9;omega)
 have Pd:∀k,k<w.heap.size→9<t k→Mv (aJ t w.heap.size 10) w3.heap.size k=t k:=fun k hk h9=>by rw[E5 (jq hk iI.o.size) (by rw[iT.o k hk];unfold Live;omega),iT.o k hk]
 have K9:l7 r (.slice a n c) (i+1+1) fin (w9.setCell ⟨xb,0,none⟩ (.slice a9 (m+1) c9)):=ah Pb abq;revert aT aZ cg GK K_ Pb xN eY Pd K9;refine dE ?_;intro fq dY qT ayi Pc ayg ayf kJ Zz uA;revert K hK;refine qK ?_;intro hHeld;refine OM ?_;refine c_ 13 fun K hK=>?_;revert K hK;refine gS ?_;intro hHeld;refine lq ?_;obtain⟨W9,mz⟩:=Y (w9.setCell ⟨xb,0,none⟩ (.slice a9 (m+1) c9));rw[←mz]at Pc kJ uA⊢;clear mz;by_cases e8:i+1+1<n
 ·exact XG
 exact XK):=h
def aei(h:P:=by
 go_wp2_with fail
 refine (HW.o _ aB.o).mono ?_;rintro e w2 ⟨rfl,af⟩;have aan:=aB.o.trans (af.mono aB.o.size);have zR:=avc.o _ aan;have nQ:=zR.row;rw[←vd.o]at nQ;have aDq:ol≤2000:=by have:=Io.o;have:=vd.o;have:=Vs.o;have:=Hn.o;omega
 have H:g+2≤w2.heap.size:=(by have:=(bS.1 zR.B0).1;omega);obtain⟨N,hN⟩:=Y (out.map Value.string);rw[←hN]at nQ;clear d0 d1 d2 d3;revert af aan zR nQ hN;refine bU ?_;intro bh aDu lx ql HN;go_wp2_with (at_builtin;(refine kZ Ag rfl (.tmp 23) (.tmp 25) rfl (g+2) (.slice ao ol co) ol N rfl ql.o 1 #[.string s] rfl rfl dW Z cY H ?_;intro v9 w9 aZ aT cg;obtain⟨a9,c9,rfl⟩:=bg aZ;obtain⟨dY,fq⟩:=ak aZ aT;clear aZ aT cg));have eY:=eS fq.o;have Uc:=bI lx.o.box eY (dM ql.o lx.o.box D);have Ct:=bI lx.o.B0 eY (dM ql.o lx.o.B0 D);rw[←Hm.o]at Uc;have jN:Below w.heap.size w w9:=lx.o.bm.trans (eY.below lx.o.bm.size (fun z hz=>by have:=(ql.o.lt z hz).1;omega))
 have L0:∀y∈out++[s],y.size≤70000:=fun y hy=>by
  rcases ff.1 hy with hy|hy
  ·exact lx.o.sz y hy
  rw[gd.1 hy];exact ir.o
 have D9:∀W,Below w9.heap.size w9 W→W.cell? ⟨g,0,none⟩=some (.slice a n c)∧W.cell? ⟨g,1,none⟩=some (.int .i64 m)∧W.cell? ⟨g,2,none⟩=some (.int .i64 fin)∧W.cell? ⟨g,3,none⟩=some (.int .i64 0):=fun W hb=>(a8 (G hb Uc)).1;have TF:Below w9.heap.size w9 w9.drew:=dA (aL _ _);have aV:=D9 _ TF;revert eY Uc Ct jN L0 D9;refine bX ?_;intro kJ O8 O7 jH awq gj;refine vH ?_;intro oU hHeld;generalize w9.drew=wd at TF aV⊢;have UC:=CG s Ih wd;obtain⟨nb,ck⟩:=Y (fW s.data.toList);rw[←ck]at UC;have Al:ok s=(nb || (vals&&qp s)):=by rw[ev.o];unfold okNm eL;rw[ck]
 obtain⟨qL,acb,G8⟩:=aQ TF UC ck;clear TF UC ck;refine KL ?_;refine dO rfl (fun K hK=>?_) (dO rfl (fun K hK=>?_) ij)
 ·revert aV K hK;refine OA ?_;intro hHeld aV;refine c_ 2 fun K hK=>?_;go_simp;refine acb.o.mono ?_;rintro e wy ⟨rfl,rfl⟩;revert K hK;refine j_ ?_;intro hHeld
  cases nb with
  |true=>have zX:ok s=true:=Qk;clear Al;refine aol ?_;exact alz
  |false=>
   cases vals with
   |false=>have zX:ok s=false:=Qk;clear Al;refine bB 3 ?_;refine bB 4 ?_;refine bB 5 ?_;refine kc 6 ?_;refine kc 7 ?_;refine KV ?_;exact alx
   |true=>revert Al;refine ajd ?_;intro vb zX L4 T6;exact afv
 go_simp;refine acb.o.mono ?_;rintro e wy ⟨rfl,rfl⟩;revert K hK;refine j_ ?_;intro hHeld
 cases nb with
 |true=>have zX:ok s=true:=Qk;clear Al;refine aol ?_;refine c_ 0 fun K hK=>?_;revert aV K hK;refine OA ?_;intro hHeld aV;exact alz
 |false=>
  cases vals with
  |false=>have zX:ok s=false:=Qk;clear Al;refine bB 3 ?_;refine bB 4 ?_;refine bB 5 ?_;refine kc 6 ?_;refine kc 7 ?_;refine KV ?_;refine c_ 0 fun K hK=>?_;revert aV K hK;refine OA ?_;intro hHeld aV;exact alx
  |true=>
   revert Al;refine ajd ?_;intro vb zX L4 T6;refine mr (rs:=[0,7]) aA ae ?_;refine dO rfl (fun K hK=>?_) (dO rfl (fun K hK=>?_) ij)
   ·revert aV K hK;refine OA ?_;intro hHeld aV;exact afv
   go_simp;refine L4.o.mono ?_;rintro e wy ⟨rfl,rfl⟩;revert K hK;refine j_ ?_;intro hHeld;refine KV ?_;refine c_ 0 fun K hK=>?_;revert aV K hK;refine OA ?_;intro hHeld aV;exact amd):=h
def aen(h:P:=by
 have pt:=Lk (qg.o _ gC.o.bm) cz fM.o j3 bt;have lQ:=O pt;clear pt;refine aog ?_;intro wz j6 gW Aa gV df hHeld K hK;obtain⟨⟨bF,bG,bH,bD⟩,cC,cD,cB,cF⟩:=a8 df.o.pb;go_simp;have GH:=df.o.abn (j':=j6) (bad':=gW) vX;clear bF bG bH bD cC cD cB cF;obtain⟨w6,cL⟩:=Y (((((wz.setCell ⟨hp,0,none⟩ (.slice a n c)).setCell ⟨hp,1,none⟩ (.int .i64 j6)).setCell ⟨hp,2,none⟩ (.int .i64 fin)).setCell ⟨hp,3,none⟩ (.int .i64 gW)));rw[←cL]at GH⊢;clear cL;have D5:=O GH;clear GH;revert K hK;refine qK ?_;intro hHeld;refine lq ?_;go_wp2_with fail;go_meet
 refine⟨j6,gW,D5.o,?_⟩;rw[←PG.o];rcases Aa.o with⟨k1,k2,k3,k4⟩|⟨k1|k1,k2⟩
 ·exact .inl ⟨ed TE,k3,k4⟩
 ·exact .inr ⟨lC TE,k2⟩
 exact absurd Ui.o Z):=h
def VV(h:P:=by
 refine R8 ?_;intro k1 cJ;go_wp2_with fail;clear k1;go_loopw [13] (fun i wr=>∃k:Nat,k≤n∧i=.int .i64 k∧(∀j (h1:j<l.length) (h2:j<m.length),j<k→l[j]=m[j])∧∃q,wr=w.drewN q) (fun i _=>n-(RowKit.intOf i).toNat)
 case atStart=>exact⟨0,bj _,rfl,fun _ _ _ h=>Z,0,rfl⟩
 case round=>
  obtain⟨k,hk,rfl,aj,q,rfl⟩:=hrel;by_cases e8:k<n
  ·refine Bo ?_;intro aI gY;obtain⟨b,off,rfl,d0,d1,_,_⟩:=Hg.o k _ (bR aI);obtain⟨b2,nY,rfl,f0,f1,_,_⟩:=lB.o k _ (bR gY);have cq:l[k]=m[k]→∀j (h1:j<l.length) (h2:j<m.length),j<k+1→l[j]=m[j]:=fun h j h1 h2 hjk=>by exact DP
   have bQ:l[k]≠m[k]→l≠m:=fun h e=>h Qt;revert d0 d1 f0 f1 cq bQ;refine VJ ?_;intro x hx y bQ cq hy jK s d0 hs t d1 ht s' f0 lS t' f1 q2 nS;refine s_ ?_;intro k5 k6;have k7:(k:Int)<(n2:Int):=GN;clear jK;by_cases e:x=y
   ·have hq:=cq e;rw[aO e]at q2;simp only[QM]at q2;clear e;revert aj hx bQ cq hy hs ht lS nS hq;refine dE ?_;intro cd Hx dI dV Hy Hs Ht ZM ZP Hq;exact V5
   exact agv
  exact Rj):=h
def Ov(h:P:=by
 revert ev oB hZ hs;refine Ou ?_;intro HZ ev oB;go_wp2_with fail;refine (HZ.o _ cQ.o).mono ?_;rintro e w6 ⟨rfl,hs⟩;have cX:=cQ.o.trans (hs.mono cQ.o.size);revert a0 a1 a2 a3 b0 b1 b2 b3 r0 r1 r2 r3 o0 o1 o2 o3 Ha Hb Hr Ho;refine tc ?_;intro ha a0 a1 a2 a3 hb b0 b1 b2 b3 hr r0 r1 r2 r3 ho o0 o1 o2 o3;revert hs cX ha hb hr ho;refine bX ?_;intro Hs je Ha Hb Hr Ho
 cases s with
 |false=>exact ane
 |true=>exact ane):=h
def VX(h:P:=by
 go_wp2_with fail
 go_loopw [3,45] (fun v i wr=>∃k:Nat,k≤n2∧i=.int .i64 k∧v=.string ((dP.take k).foldl nx fi)∧Below w.heap.size w wr∧dQ g (.string nm) (.slice a1 n1 c1) (.slice a2 n2 c2) wr) (fun _ i _=>n2-(RowKit.intOf i).toNat)
 case atStart=>exact⟨0,bj _,rfl,by rw[U1.o];rfl,qq.o,kV.o⟩
 case round=>
  obtain⟨k,hk,rfl,rfl,aF,Zq⟩:=hrel;have ayd:=jR.o k fi EB;clear x0 x1 x2;obtain⟨x0,x1,x2,-⟩:=cT Zq;obtain⟨o,ho⟩:=Y ((dP.take k).foldl nx fi);rw[←ho]at ayd⊢;have Lb:=em.ii o;by_cases e8:k<n2
  ·have aI:k<dP.length:=EB;obtain⟨x,hx⟩:=Y (dP[k]);obtain⟨b,off,rfl,d0,d1,-,-⟩:=fS.o k x lD;have e0:=ab aF d0;have e1:=ab aF d1;have uw:=zn0 aI fi;rw[←ho,←hx]at uw;have Ab:=ir.o x EP;refine DQ ?_;intro s hs t ht;rw[←hs,←ht]at Ab;obtain⟨ayt,ayu⟩:=Ab;rw[←hs]at e0;rw[←ht]at e1;refine Bn ?_;intro k5 k6;clear d0 d1;by_cases hz:o=fd
   ·have k7:o.toList.isEmpty=true:=acn;have BA:=zno (x:=x) hz;exact afm
   have k7:o.toList.isEmpty=false:=aco;have BA:=zm7 (x:=x) hz;exact afm
  obtain rfl:k=n2:=Z;have KZ:dP.take k=dP:=lH (jg fV.o.symm);have BG:=Cb.o;rw[KZ]at ho;rw[←ho]at BG;by_cases hz:o=fd
  ·have k7:o.toList.isEmpty=true:=acn;rw[M hz]at BG;exact ake
  have k7:o.toList.isEmpty=false:=aco;rw[E hz]at BG;exact ake):=h
def V1(h:V Q→P:=by
 intro I d0 d1;refine lM ?_;intro g hg;obtain⟨W2,eh⟩:=Y (((w.alloc (.cells #[.int .i64 ln,.slice (some ⟨b,off,none⟩) n c] 79)).alloc (.cells #[.slice pa pn pc,.slice fa fn fc] 25)).alloc (.cells #[.slice none 0 0,.slice none 0 0] 25));have af:Below w.heap.size w W2:=(by rw[eh];exact ((aS _ _).alloc (by simp) _).alloc (by simp<;>omega) _);have p0:W2.heap[g]?=some (.cells #[.int .i64 ln,.slice (some ⟨b,off,none⟩) n c] 79 (0,0)):=(by rw[eh,hg];exact G ((aS _ _).alloc (by simp) _) (dx rfl));have p1:W2.heap[g+1]?=some (.cells #[.slice pa pn pc,.slice fa fn fc] 25 (0,0)):=(by rw[eh,hg];exact G (aS _ _) (dx (by simp)));have p2:W2.heap[g+2]?=some (.cells #[.slice none 0 0,.slice none 0 0] 25 (0,0)):=(by rw[eh,hg];exact dx (by simp));have gH:W2.heap.size=g+3:=by rw[eh,hg];simp
 replace d0:=ab af d0;replace d1:=ab af d1;have l1:=J p0 1;simp only[aq,ar,aw]at l1;refine ur ?_;intro bZ;obtain⟨m,hm⟩:=Y (n-1);have k1:((n:Int)-1)=(m:Int):=Z;have k2:(0:Int)≤(m:Int):=Z;have k3:(m:Int)<(n:Int):=Z;rw[←hm]at d0 d1;obtain⟨W3,uE⟩:=Y (W2.alloc (.cells #[.int .i64 xc,.string xt] 81));have nc:Below W2.heap.size W2 W3:=(by rw[uE];exact aS _ _);have r3:W3.heap[g+3]?=some (.cells #[.int .i64 xc,.string xt] 81 (0,0)):=(by rw[uE,←gH];exact dq _ _);have oE:W3.heap.size=g+4:=(by rw[uE];simp[gH]);have Gm:=ab nc l1;have q0:=J r3 0;have q1:=J r3 1;simp only[aq,ar,aw]at q0 q1;obtain⟨W4,vS⟩:=Y (W3.alloc (.cells #[.slice (some ⟨b,off,none⟩) n c,.int .i64 0,.int .i64 fin,.int .i64 0] 150));have mw:Below W3.heap.size W3 W4:=(by rw[vS];exact aS _ _);have tA:=nc.trans (mw.mono nc.size);have bA:=af.trans (tA.mono af.size);have q4:es (g+4) (some ⟨b,off,none⟩) n c 0 fin 0 W4:=(by rw[vS,←oE];exact dq _ _);obtain⟨t1,jn⟩:∃f:Nat→Nat,f=fun k=>if k<g then t k else if k=g+1 then 0 else if k≤g+4 then 10 else 3:=⟨_,rfl⟩
 have tR:∀k,k<w.heap.size→t1 k=t k:=fun k hk=>(by rw[jn];exact M (by omega));have xi:t1 (g+1)=0:=(by rw[jn];show (if g+1<g then t (g+1) else if g+1=g+1 then 0 else _)=0;rw[E (by omega),M rfl]);have xA:∀k,g≤k→k≠g+1→t1 k=if k≤g+4 then 10 else 3:=fun k h1 h2=>(by rw[jn];show (if k<g then t k else if k=g+1 then 0 else if k≤g+4 then 10 else 3)=_;rw[E (by omega),E h2])
 clear jn;have vP:Ln6 w t g B (some ⟨b,off,none⟩) n c ln fin ws 0 0 t1 (.slice pa pn pc) (.slice fa fn fc) x W4:=by refine⟨G tA p0,⟨G tA p1,xi,?_,aP.2.to (am.ce (S:=fun _=>False) bA) (fun _ _ h=>h.elim) fun k hk _=>tR k hk⟩,G tA p2,q4,bz lz _ _ _ _ dT bA,am.ce bA,fun k hk _=>tR k hk,fun k h1 h3 h2=>(by rw[xA k h1 h2,M h3])⟩;obtain⟨css,hr⟩:=aP.1;exact⟨css,hr.to (am.ce (S:=fun _=>False) bA) (fun _ _ h=>h.elim) (fun k hk e=>(by rw[tR k hk,e])) fun k hk e=>(by rw[tR k hk,e])⟩
 have zF:B≤g:=Z;have kf:IntKind.i64.wrap (xc+(xt.size:Int))=fin:=(by rw[eH];exact i_ _ (by omega));obtain⟨first,wu⟩:=Y (aD ws 0);revert g hg W2 eh af p0 p1 p2 gH l1 bZ m d1 d0 hm k1 k2 k3 W3 uE nc r3 oE Gm q0 q1 W4 vS mw tA bA q4 t1 tR xi xA vP zF kf first wu;exact I.o):=h ⟨k⟩
def Bl(h:V Q→P:=by
 intro I;obtain⟨⟨bF,bG,bH,bD⟩,-⟩:=a8 BW.o;obtain⟨⟨iD,fb,fC,fD⟩,cC,cD,cB,cF⟩:=a8 mB.o;have b_:=J qM.o 0;have jV:=aG fY.o 0;have fU:=J fY.o 0;have hd:=J qM.o 1;have jW:=aG fY.o 1;have g_:=J fY.o 1;have jt:=J qM.o 2;have jX:=aG fY.o 2;have jw:=J fY.o 2;have jB:=J qM.o 3;have jY:=aG fY.o 3;have jx:=J fY.o 3;have jD:=J qM.o 4;have jZ:=aG fY.o 4;have jy:=J fY.o 4;have jE:=J qM.o 5;have j8:=aG fY.o 5;have jz:=J fY.o 5;have jF:=J qM.o 6;have j9:=aG fY.o 6;have jA:=J fY.o 6;have jG:=J qM.o 7;have jU:=aG fY.o 7;have js:=J fY.o 7;simp only[aq,ar,aw]at b_ fU hd g_ jt jw jB jx jD jy jE jz jF jA jG js;refine cK ?_;go_region
 revert bF bG bH bD iD fb fC fD cC cD cB cF jV jW jX jY jZ j8 j9 jU b_ fU hd g_ jt jw jB jx jD jy jE jz jF jA jG js;exact I.o):=h ⟨k⟩
def tc(h:V Q→P:=by
 intro I a0 a1 a2 a3 b0 b1 b2 b3 r0 r1 r2 r3 o0 o1 o2 o3 Ha Hb Hr Ho;revert a0 a1 a2 a3 b0 b1 b2 b3 r0 r1 r2 r3 Ha Hb Hr;refine Bj ?_;intro ha a0 a1 a2 a3 hb b0 b1 b2 b3 hr r0 r1 r2 r3;have ho:=G hs Ho.o;clear Ho o0 o1 o2 o3;obtain⟨o0,o1,o2,o3⟩:=cP ho;revert ha a0 a1 a2 a3 hb b0 b1 b2 b3 hr r0 r1 r2 r3 ho o0 o1 o2 o3;exact I.o):=h ⟨k⟩
def afr(h:P:=by
 obtain⟨fS,iS⟩:=ak aU bJ;clear aU bJ;have acj:∀w9,Below wr.heap.size wr w9→w9.heap[w.heap.size]?=some (.cells (uO (.slice none 0 0)) 111 (0,0)):=by intro w9 ca;have h1:=iS.o.bm.size;have h2:=ss.o;rw[ca.block _ Z,iS.o.bm.block _ Z];exact ava.o
 obtain⟨q,hq⟩:=Y (ac.ms ((t.drop f).take (k-f)) (decide (out.length<2000)));have UA:=zsf fS.o YO TR;rw[←hq]at UA
 have HC:Hid (∀w',Calls prog 73 #[.string (s.extract f k),.bool (decide ((out.length:Int)<2000))] w' (zuk w' q)):=by
  intro w';have h1:=ybk (s.extract f k) (decide (out.length<2000)) w' (by rw[ByteArray.size_extract];omega);rw[Jd,←Ht.o,←hq]at h1;have h2:decide ((out.length:Int)<2000)=decide (out.length<2000):=by congr 1;simp only[eq_iff_iff];omega
  rw[h2];exact h1
 have dt:=J iS.o.cells 0;simp only[uO,aq,ar]at dt;obtain⟨ws,qa,qe⟩:=q;obtain⟨abz,Hq,aBt⟩:=aQ UA hq acj;clear UA hq acj;clear TR;go_wp2_with fail;go_region_with (go_at_call 73;refine (HC.o _).mono ?_;rintro e w5 ⟨v5,rfl,Pz,aW⟩)
 obtain⟨va,vc,rfl⟩:=bg Pz;have uz:=iS.o.below (zie aW);have TN:=ET Pz (show w1.heap.size≤wr.heap.size from iS.o.bm.size);have ji:=aBt.o w5 (zie aW);have Ck:=uz.bm.size;by_cases he:qe=0
 ·have aCe:(qe !=0)=false:=QT;have PJ:=abz.o.1 he;by_cases hw:ws=[]
  ·have BA:ac.tg out n ws=out:=by unfold ac.tg;rw[if_pos hw]
   have Lq:ws.length=0:=by rw[hw];rfl
   rw[BA]at PJ;revert aW Pz uz TN ji he PJ hw BA;refine fK ?_;intro cQ aci fH Ux LG He Um Hw ZD;go_wp2_with fail;go_roundw
   case rel=>exact⟨k+1,Z,cj,n+1,k+1,out,_,rv,rfl,cj,Z,Um.o,fH.o,Z,Z,Z⟩
   case measure=>simp[intOf];omega
  have BA:ac.tg out n ws=out++[(n,ws)]:=by unfold ac.tg;rw[if_neg hw]
  have Lq:0<ws.length:=vk.2 hw;rw[BA]at PJ;have y0:=J uz.cells 0;simp only[uO,aq,ar]at y0;have rU:=uz.own.row;have cq:=dM uz.own.row uz.cells D;revert aW Pz uz TN ji he PJ hw BA rU cq;refine kH ?_;intro cQ aci fH Ux LG He Um Hw ZD Au dV;go_wp2_with (at_builtin;refine PR zqq (w:=w5) rfl (.tmp 56) (.tmp 60) rfl w1.heap.size (.slice oa out.length oc) out.length (vt out rv) rfl Au.o 1 D #[.int .i64 n,.slice va ws.length vc] rfl rfl dW Z cY Ck ?_);intro g8 c8 w8 lu iG qU;have GI:=bI fH.o.cells ((am.refl _ w5).grown iG (S:=fun k=>(Value.slice oa out.length oc).ownBlock=some k) (fun k hk=>.inr hk)) dV.o;have z0:=J GI 0;have u0:=aG GI 0;simp only[uO,aq,ar]at z0;have hP:=fH.o.push n ws _ Ux.o lu iG;have HP:=O hP;clear hP;clear lu iG qU GI;go_wp2_with fail;go_roundw
  case rel=>exact⟨k+1,Z,cj,n+1,k+1,out++[(n,ws)],_,_,rfl,cj,Z,Um.o,HP.o,aX,Z,Z⟩
  case measure=>simp[intOf];omega
 have aCe:(qe !=0)=true:=auj;have Tm:=abz.o.2 he;have z0:=J ji 0;have z1:=J ji 1;have z2:=J ji 2;have z3:=J ji 3;have u0:=aG ji 0;have u1:=aG ji 1;have u2:=aG ji 2;have u3:=aG ji 3;simp only[uO,aq,aw,ar]at z0 z1 z2 z3;have Tt:=uz.bm;revert aW Pz uz TN ji he Tm Tt;refine fg ?_;intro cQ aci fH Ux LG He US Zu;go_wp2_with fail;refine fZ (v:=.agg #[.slice none 0 0,.int .i64 n,.int .i64 qa,.int .i64 qe]) aul rfl ?_;rw[US.o];refine⟨_,rfl,⟨none,0,rfl,aE _,bj _,fun i x hi=>vm⟩,?_⟩;exact ((((auz.o.trans (Zu.o.mono YW)).setCell (aE _) _).setCell (aE _) _).setCell (aE _) _).setCell (aE _) _):=h
def afw(h:P:=by
 refine vH ?_;intro oU hHeld;have bQ:Below w8.heap.size w8 w8.drew:=dA (aL _ _);generalize w8.drew=wd at bQ⊢;have aV:=QI.o.to bQ;have ZH:=CG s Ih wd;obtain⟨dI,qO,Lx⟩:=aQ bQ aV ZH;clear bQ aV ZH;refine KL ?_;refine dO rfl (fun K hK=>?_) (dO rfl (fun K hK=>?_) ij)
 ·revert K hK;refine zM ?_;intro hHeld;refine c_ 2 fun K hK=>?_;revert K hK;refine ajf ?_;intro wt bt he qH ki hHeld gC;exact aqf
 revert K hK;refine ajf ?_;intro wt bt he qH ki hHeld gC;refine Kt ?_;intro hHeld;exact aqf):=h
def agb(h:P:=by
 have nV:r<w.heap.size:=(bS.1 S.box).1;have hn:=C.len;have hP:=C.peek S;have a_:=C.o4 i;have hM:=fun(W:World)(k:Below w.heap.size w W)=>C.more (S.to k);have GQ:=fun(W:World)(k:Below w.heap.size w W)=>C.want (S.to k);have de:=fun(W:World)(k:Below w.heap.size w W)=>sy (S.to k).box;have hR:=fun(W:World)(k:Below w.heap.size w W)=>hR (aD ws i) W a_ k;obtain⟨s,hs⟩:=Y (aD ws i);have DW:∀W,Below w.heap.size w W→am (fun k=>k=r) w W:=fun W k=>kS (am.refl _ _) k;obtain⟨b,hb⟩:=Y (ok s);simp only[←hs,←hb]at hP hR;have awi:=fun(W:World)(k:Below w.heap.size w W)=>ag W r 1 _ _ (.int .i64 ((i:Int)+1)) (S.to k).box;by_cases hi:i<n
 ·have rP:i<ws.length:=Z;rw[aO hi]at hM;clear a_;revert C S hn hM GQ de hs DW hb hP hR awi rP;refine zN ?_;intro HC HS Hn HM Ee cU Hs BV Hb HP HR Az qh;go_enter func46,ntmps46;go_wp2_with fail;refine Ku ?_;intro q1 w1 ai;have aB:=O ai;clear ai;go_wp2_with fail;refine (HM.o _ aB.o).mono ?_;rintro e w2 ⟨rfl,q2,rfl⟩;have af:=dU aB.o q2;generalize w1.drewN q2=w2 at af⊢;have bh:=O af;clear af;go_wp2_with fail;refine (HR.o _ bh.o).mono ?_;rintro e w3 ⟨rfl,aM⟩;have nc:=bh.o.trans (aM.mono bh.o.size)
  cases b with
  |true=>
   have hY:=Ej w3 r;obtain⟨-,x1,-,x3⟩:=cU.o _ nc;obtain⟨bK,Er,HY⟩:=aQ aM nc hY;clear aM nc hY;go_wp2_with fail;refine HY.o.mono ?_;rintro e w4 ⟨rfl,eM⟩;subst eM;go_wp2_with fail;go_ret;have hf:=BV.o _ Er.o;exact zmf qh.o avr (by rw[←Hs.o];rfl) (Az.o _ Er.o) (aN hf 1 _)
  |false=>
   have hN:=Ee.o _ nc;have hf:=BV.o _ nc;obtain⟨bK,Er,HN,Hf⟩:=kg aM nc hN hf;clear aM nc hN hf;go_wp2_with fail;refine HN.o.mono ?_;rintro e w4 ⟨rfl,q4,rfl⟩;refine cK ?_;exact⟨rfl,zi2 (.inr avr) rfl (kS Hf.o (dU (aL _ _) q4))⟩
 rw[be hi]at hM;have rP:ws.length≤i:=Z;clear a_;revert C S hn hM GQ de hs DW hb hP hR awi rP;refine zN ?_;intro HC HS Hn HM Ee cU Hs BV Hb HP HR Az qh;go_enter func46,ntmps46;go_wp2_with fail;refine Ku ?_;intro q1 w1 ai;have aB:=O ai;clear ai;go_wp2_with fail;refine (HM.o _ aB.o).mono ?_;rintro e w2 ⟨rfl,q2,rfl⟩;have af:=dU aB.o q2;generalize w1.drewN q2=w2 at af⊢;have hN:=Ee.o _ af;have hf:=BV.o _ af;obtain⟨bh,HN,Hf⟩:=aQ af hN hf;clear af hN hf;go_wp2_with fail;refine HN.o.mono ?_;rintro e w4 ⟨rfl,q4,rfl⟩;refine cK ?_;exact⟨rfl,zi2 (.inl qh.o) rfl (kS Hf.o (dU (aL _ _) q4))⟩):=h
def agh(h:P:=by
 refine DR ?_;go_wp2_with fail;go_loop [10] (fun i=>∃q:Nat,k≤q∧q≤s.size∧i=.int .i64 q∧∀j,k≤j→j<q→ac.part (t.getD j 0)=true) (fun i=>s.size-(intOf i).toNat)
 case atStart=>exact⟨k,aE _,hk,rfl,fun j h1 h2=>Z⟩
 case round=>
  obtain⟨q,ZK,wg,rfl,eC⟩:=hrel;have jd:=O eC;clear eC;by_cases hq:q<s.size
  ·have TS:=ME s q hq;rw[←Ht.o]at TS;obtain⟨pq,UB⟩:=Y (ac.part s[q]);have HR:=aH (fun w=>zoo s[q] w);rw[←UB]at HR;obtain⟨Z7,UL⟩:=ak UB TS;clear UB TS;cases pq
   ·have hw:=zst s k q ZK Z avx (fun _=>by rw[←Ht.o,UL.o,←Z7.o]);rw[←Ht.o]at hw;have Hw:=O hw;clear hw;go_wp2_with fail;refine (HR.o _).mono ?_;refine DR ?_;exact aqm
   go_wp2_with fail
   refine (HR.o _).mono ?_;refine DR ?_;go_wp2_with fail;go_round
   case rel=>exact⟨q+1,Z,Z,cj,fun j h1 h2=>by
    by_cases e:j=q
    ·rw[e,UL.o,←Z7.o]
    exact jd.o j h1 Z⟩
   case measure=>simp[intOf];omega
  have hw:=zst s k q ZK wg avx (fun h=>absurd h hq);rw[←Ht.o]at hw;have Hw:=O hw;clear hw;exact aqm):=h
def agr(h:V Q→P:=by
 intro I;have pt:=Lk (qg.o _ gC.o.bm) cz fM.o i bt;have lQ:=O pt;clear pt;refine aoh ?_;intro wz j3 da pJ gV df hHeld K hK;obtain⟨⟨bF,bG,bH,bD⟩,cC,cD,cB,cF⟩:=a8 df.o.pb;go_simp;revert bF bG bH bD cC cD cB cF;refine aik ?_;intro w3 cN;revert lQ wz j3 da pJ gV df hHeld K hK w3 cN;exact I.o):=h ⟨k⟩
def agw(h:P:=by
 refine c_ 8 fun K hK=>?_;refine Eb Ag (.tmp 121) (.tmp 124) rfl B (.slice ra m rc) m N rfl bY.o 1 #[.string s] rfl rfl dW Z cY hB (fun v' w9 aZ aT cg=>?_);obtain⟨a9,c9,rfl⟩:=bg aZ;refine WG ?_;intro ux;have d2:=aG ux (ps.length*8+7);have d1:=(yk (w:=w1) (w':=w9) (a:=⟨pb,ps.length*8+7,none⟩) (ux.trans kd.o.symm)).trans fA;have O5:=iW.o.Pi Hr.o iz.o (v9:=.slice a9 (m+1) c9) ye Lv Uf;have O6:w1.grownBy w9 v7.ownBlock:=Lv;revert aT aZ cg ux O5 O6;refine bX ?_;intro fq dY qT ZI O_ Pa;revert K hK;refine qK ?_;intro hHeld;refine bB 9 ?_;refine bB 10 ?_;refine KK ?_;intro hHeld;refine lq ?_;refine vJ ?_;refine Cf (v:=v7) (j:=i+1) ku.o O_.o r8.o Pa.o iT.o (fun k hk=>aR hk) jr.o r9.o iA.o cU.o kl.o ?_ ?_ ?_ rfl
 ·intro hj;refine ka ?_;rw[E D,E D,E D,E D,E D,M rfl,Ib Z G6,←Hs.o];rfl
 ·intro hj;refine ka ?_;rw[E D,E D,E D,E D,E D,M rfl,vT (.inr (.inr Z))];rfl
 have:=qh.o;omega):=h
def ahe(h:P:=by
 have pt:=Lk (qg.o _ gC.o.bm) cz fM.o j4 bt;have lQ:=O pt;clear pt;refine aog ?_;intro wz j6 gW Aa gV df hHeld K hK;obtain⟨⟨bF,bG,bH,bD⟩,cC,cD,cB,cF⟩:=a8 df.o.pb;go_simp;have GH:=df.o.abn (j':=j6) (bad':=gW) bZ;clear bF bG bH bD cC cD cB cF;obtain⟨w6,cL⟩:=Y (((((wz.setCell ⟨g,0,none⟩ (.slice a n c)).setCell ⟨g,1,none⟩ (.int .i64 j6)).setCell ⟨g,2,none⟩ (.int .i64 fin)).setCell ⟨g,3,none⟩ (.int .i64 gW)));rw[←cL]at GH⊢;clear cL;have D5:=O GH;clear GH;revert K hK;refine qK ?_;intro hHeld;refine lq ?_;go_wp2_with fail;go_meet
 rcases Aa.o with⟨k1,k2,k3,k4⟩|⟨k1,k2⟩
 ·refine⟨_,j6,gW,rfl,D5.o,.inl ⟨k4,H1.o,H2.o,.inr ⟨rfl,by rw[k3,H3.o],LI.o,?_⟩⟩⟩;rw[←H3.o,←PG.o];exact ed TE
 refine⟨_,j6,gW,rfl,D5.o,.inr ⟨k2,.inr (.inr ⟨LI.o,?_⟩)⟩⟩;rcases k1 with k1|k1
 ·rw[←H3.o,←PG.o];exact lC TE
 exact absurd k1 (by have:=H3.o;have:=LI.o;omega)):=h
def ahn(h:P:=by
 have k2:=K2.o;have k3:=K3.o;refine bB 13 ?_;clear k2 k3;refine c_ 14 fun K hK=>?_;go_simp;refine fY.o.mono ?_;rintro e w3 ⟨⟨q,j,t',rfl,ZR,sf,mX,hjn,K9,ZS⟩|⟨iv,j,rfl⟩,bC⟩
 ·have eY:am (fun k=>k=r∨t k≤9) w w3:=(pD.o.mono fun _ _ h=>Or.inl h).trans bC fun k hk h=>h.elim Or.inl fun h=>Or.inr avt;have Pj:¬j<n→dy line (az ws i) x=some ⟨ps++[q],x.pf⟩:=fun e8=>by rw[fy Z,←lV.o,Ip GV.o Zv.o Hx.o,sf Z];rfl
  have Ph:j<n→dy line (az ws i) x=none:=fun e8=>by rw[fy Z,←lV.o,Ip GV.o Zv.o Hx.o,mX Z];rfl
  have Pd:∀k,k<w.heap.size→9<t k→t' k=t k:=fun k hk _=>(ZS k (jq hk pD.o.size)).trans (iT.o k hk);have K_:=ZR;obtain⟨W9,mz⟩:=Y w3;rw[←mz]at K_ eY K9⊢;revert bC ZR sf mX ZS Pj Ph Pd K9 eY K_;refine kH ?_;intro iR avj qY vQ Qu Cc Ca Zz uA kJ Pc;clear mz;revert K hK;refine j_ ?_;intro hHeld;refine lq ?_;by_cases e8:j<n
  ·exact XG
  exact XK
 have ayv:dy line (az ws i) x=none:=by rw[fy Z,←lV.o,Ip GV.o Zv.o Hx.o,iv];rfl
 have zQ:am (fun k=>k=r∨t k≤9) w w3:=(pD.o.mono fun _ _ h=>Or.inl h).trans bC fun k hk h=>h.elim Or.inl fun h=>Or.inr avt;revert bC iv ayv zQ;refine bV ?_;intro iR iQ aBw BF;refine cK ?_;exact⟨rfl,Pk aBw.o BF.o (aL _ _) rfl⟩):=h
def aht(h:P:=by
 refine c_ 8 fun K hK=>?_;go_simp;refine Vp.o.mono ?_;rintro e w4 ⟨⟨vv,l,fp,rfl,dG,Cp⟩|⟨fp,j,rfl⟩,BQ⟩
 ·have tw:am (fun k=>k=r) w w4:=iI.o.trans BQ (fun _ _ h=>h);have Ly:=oH.o _ tw;obtain⟨la,lc,rfl⟩:=bg dG;obtain⟨ln,dH⟩:=Y l.length;rw[←dH]at dG⊢;have xY:=(Q0 fp).symm;have Pe:∀x∈l,x.size≤maxLen:=fun x hx=>by exact ahx
  revert K hK BQ fp Cp tw Ly dG dH xY Pe;refine afj ?_;intro QG mG Cn sg LR cZ iH UF Ew Cc Ca hHeld H4 css hr nQ bL;have Lz:(Value.slice ra m rc).ownBlock≠some r:=fun e=>by have e1:=hr.tag r e;exact RV
  revert H4 hr nQ bL Lz;refine aga ?_;intro hB iJ N Qp Hr cJ EF ql HN iz;refine KK ?_;intro hHeld;exact VH
 exact aez):=h
def ahy(h:P:=by
 refine c_ 8 fun K hK=>?_;refine Eb Ag (.tmp 57) (.tmp 60) rfl B (.slice ra m rc) m N rfl bY.o 1 #[.string s] rfl rfl dW Z cY hB (fun v' w9 aZ aT cg=>?_);obtain⟨a9,c9,rfl⟩:=bg aZ;refine WG ?_;intro ux;have d2:=aG ux (ps.length*8+4);have d1:=(yk (w:=w1) (w':=w9) (a:=⟨pb,ps.length*8+4,none⟩) (ux.trans kd.o.symm)).trans fA;have O5:=iW.o.aav Hr.o iz.o (v9:=.slice a9 (m+1) c9) ye Lv Uf;have O6:w1.grownBy w9 v4.ownBlock:=Lv;revert aT aZ cg ux O5 O6;refine bX ?_;intro fq dY qT ZI O_ Pa;revert K hK;refine qK ?_;intro hHeld;refine bB 9 ?_;refine bB 10 ?_;refine KK ?_;intro hHeld;refine lq ?_;refine vJ ?_;refine Cf (v:=v4) (j:=i+1) ku.o O_.o r8.o Pa.o iT.o (fun k hk=>aR hk) jr.o r9.o iA.o cU.o kl.o ?_ ?_ ?_ rfl
 ·intro hj;refine ka ?_;rw[E D,E D,M rfl,Ib Z G6,←Hs.o];rfl
 ·intro hj;refine ka ?_;rw[E D,E D,M rfl,vT (.inr (.inr Z))];rfl
 have:=qh.o;omega):=h
def aig(h:P:=by
 refine c_ 10 fun K hK=>?_;refine Eb Vu (.tmp 42) (.tmp 47) rfl B (.slice ra m rc) m N rfl bY.o 1 #[.string s,.slice la ln lc] rfl rfl dW Z cY hB (fun v' w9 aZ aT cg=>?_);obtain⟨a9,c9,rfl⟩:=bg aZ;refine WG ?_;intro ux;have d2:=aG ux (ps.length*8+3);have d1:=(yk (w:=w1) (w':=w9) (a:=⟨pb,ps.length*8+3,none⟩) (ux.trans kd.o.symm)).trans fA;have O5:=iW.o.aaw Hr.o iz.o (v9:=.slice a9 (m+1) c9) ye Lv Uf;have O6:w1.grownBy w9 v3.ownBlock:=Lv;revert aT aZ cg ux O5 O6;refine bX ?_;intro fq dY qT ZI O_ Pa;revert K hK;refine qK ?_;intro hHeld;refine OM ?_;refine c_ 13 fun K hK=>?_;revert K hK;refine gS ?_;intro hHeld;refine lq ?_;refine vJ ?_;refine Cf (v:=v3) (j:=ws.length) ku.o O_.o r8.o Pa.o iT.o (fun k hk=>aR hk) jr.o r9.o iA.o cU.o kl.o ?_ ?_ (aE _) rfl
 ·intro _;refine ka ?_;rw[E D,M rfl,Qf aby.o,M (by rw[←Hs.o];exact aBe.o),mG.o,←Hs.o];rfl
 intro hj;exact absurd hj Z):=h
def Wt(h:P:=by
 revert ev oB hZ hs;refine Ou ?_;intro HZ ev oB;go_wp2_with fail;refine (HZ.o _ je.o).mono ?_;rintro e w7 ⟨rfl,hs⟩;have lP:=je.o.trans (hs.mono je.o.size);revert a0 a1 a2 a3 b0 b1 b2 b3 r0 r1 r2 r3 o0 o1 o2 o3 Ha Hb Hr Ho;refine tc ?_;intro ha a0 a1 a2 a3 hb b0 b1 b2 b3 hr r0 r1 r2 r3 ho o0 o1 o2 o3;revert hs lP ha hb hr ho;refine bX ?_;intro Hs kM Ha Hb Hr Ho
 cases s with
 |false=>exact anf
 |true=>exact anf):=h
def RJ(h:P:=by
 revert ev oB hZ hs;refine Ou ?_;intro HZ ev oB;go_wp2_with fail;refine (HZ.o _ dL.o).mono ?_;rintro e w5 ⟨rfl,hs⟩;have aW:=dL.o.trans (hs.mono dL.o.size);revert a0 a1 a2 a3 b0 b1 b2 b3 r0 r1 r2 r3 o0 o1 o2 o3 Ha Hb Hr Ho;refine tc ?_;intro ha a0 a1 a2 a3 hb b0 b1 b2 b3 hr r0 r1 r2 r3 ho o0 o1 o2 o3;revert hs aW ha hb hr ho;refine bX ?_;intro Hs cQ Ha Hb Hr Ho
 cases s with
 |false=>exact ang
 |true=>exact ang):=h
def aix(h:P:=by
 refine R8 ?_;intro k1 cJ;go_wp2_with fail;clear k1;go_loopw [13] (fun i wr=>∃k:Nat,k≤n∧i=.int .i64 k∧(∀j (h1:j<l.length) (h2:j<m.length),j<k→l[j]=m[j])∧∃q,wr=w.drewN q) (fun i _=>n-(RowKit.intOf i).toNat)
 case atStart=>exact⟨0,bj _,rfl,fun _ _ _ h=>Z,0,rfl⟩
 case round=>
  obtain⟨k,hk,rfl,aj,q,rfl⟩:=hrel;by_cases e8:k<n
  ·refine Bo ?_;intro aI gY;obtain⟨b,off,rfl,d0,-⟩:=Hg.o k aI;obtain⟨b2,nY,rfl,f0,-⟩:=lB.o k gY;have cq:l[k]=m[k]→∀j (h1:j<l.length) (h2:j<m.length),j<k+1→l[j]=m[j]:=fun h j h1 h2 hjk=>by exact DP
   have bQ:l[k]≠m[k]→l≠m:=fun h e=>h Qt;obtain⟨x,hx⟩:=Y (l[k]);obtain⟨y,hy⟩:=Y (m[k]);rw[←hx]at d0 cq bQ;rw[←hy]at f0 cq bQ;have uF:=em.gu x y;obtain⟨c,hc⟩:=Y (decide (x=y));rw[←hc]at uF;refine s_ ?_;intro k5 k6;have k7:(k:Int)<(n2:Int):=GN
   cases c with
   |true=>
    have hq:=cq (ed hc.symm)
    skip
    obtain⟨cd,dV,dI,Hx,Hy,Hc,Hq⟩:=oD aj cq bQ hx hy hc hq;clear aj cq bQ hx hy hc hq;exact V5
   |false=>
    have hf:r=false:=aui
    skip
    obtain⟨cd,dV,dI,Hx,Hy,Hc,Hf⟩:=oD aj cq bQ hx hy hc hf;clear aj cq bQ hx hy hc hf;exact Xz
  exact Rj):=h
def aje(h:V Q→P:=by
 intro I;have fT:=AJ L.row;have sk:∀j (v:Value),[.string p.name,.int .i64 p.line,.slice b2 m2 d2,.slice b3 m3 d3,.slice b4 m4 d4,.slice b5 m5 d5,.slice b6 m6 d6,.slice b7 m7 d7][j]?=some v→w7.cell? ⟨pb,m*8+j,none⟩=some v:=fun j v hv=>by have h:=L.row.cells (g:=pb) rfl (m*8+j) v (by rw[nC (by omega),fT,←hm,v_];exact hv);rw[tX,og]at h;exact h
 have D9:∀W,am (fun k=>Live (t1 k)∧¬Ty w7 k) w7 W→W.cell? ⟨g,0,none⟩=some (.int .i64 ln)∧W.cell? ⟨g+4,0,none⟩=some (.slice (some ⟨b,off,none⟩) n c)∧W.cell? ⟨g+4,1,none⟩=some (.int .i64 1)∧W.cell? ⟨g+4,2,none⟩=some (.int .i64 fin)∧W.cell? ⟨g+4,3,none⟩=some (.int .i64 0)∧W.cell? ⟨g+1,0,none⟩=some (.slice (some ⟨pb,0,none⟩) pn pc)∧W.cell? ⟨pb,m*8,none⟩=some (.string nm)∧W.cell? ⟨pb,m*8+1,none⟩=some (.int .i64 li)∧W.cell? ⟨pb,m*8+2,none⟩=some (.slice b2 m2 d2)∧W.cell? ⟨pb,m*8+3,none⟩=some (.slice b3 m3 d3)∧W.cell? ⟨pb,m*8+4,none⟩=some (.slice b4 m4 d4)∧W.cell? ⟨pb,m*8+5,none⟩=some (.slice b5 m5 d5)∧W.cell? ⟨pb,m*8+6,none⟩=some (.slice b6 m6 d6)∧W.cell? ⟨pb,m*8+7,none⟩=some (.slice b7 m7 d7):=fun W hF=>by
  have fp:∀k,t1 k=10∨t1 k=0∨t1 k=1→¬(Live (t1 k)∧¬Ty w7 k):=fun k e h=>by have:=h.1;exact OH
  have q0:=bI iF.o.lb hF (fp _ (.inl (iF.o.new _ Z Z Z)));have q4:=bI iF.o.pb hF (fp _ (.inl (iF.o.new _ Z Z Z)));have q1:=bI iF.o.rc.box hF (fp _ (.inr (.inl iF.o.rc.o9)));have hp:∀j v,w7.cell? ⟨pb,j,none⟩=some v→W.cell? ⟨pb,j,none⟩=some v:=fun j v h=>(hF.cell oA (fp _ (.inr (.inr re)))).trans h;refine⟨J q0 0,J q4 0,J q4 1,J q4 2,J q4 3,J q1 0,?_,?_,?_,?_,?_,?_,?_,?_⟩
  ·rw[←zP];exact hp _ _ (sk 0 _ rfl)
  ·rw[←K8];exact hp _ _ (sk 1 _ rfl)
  ·exact hp _ _ (sk 2 _ rfl)
  ·exact hp _ _ (sk 3 _ rfl)
  ·exact hp _ _ (sk 4 _ rfl)
  ·exact hp _ _ (sk 5 _ rfl)
  ·exact hp _ _ (sk 6 _ rfl)
  exact hp _ _ (sk 7 _ rfl)
 have eE:(0:Int)≤((m:Nat):Int):=Z;have O4:((m:Nat):Int)<(pn:Int):=Z;have OW:¬((m:Nat):Int)<0:=Z;revert fT sk D9 eE O4 OW;exact I.o):=h ⟨k⟩
def KO(h:V Q→P:=by
 intro I a0 a1 a2 a3 b0 b1 b2 b3 r0 r1 r2 r3 Ha Hb Hr;have ha:w5.heap[nb]?=some (.cells #[.string lo,.string hi] 51 (0,0)):=Ll;clear Ha a0 a1 a2 a3;obtain⟨a0,a1,a2,a3⟩:=cP ha;have hb:w5.heap[nb+1]?=some (.cells #[.string lp,.string hj] 51 (0,0)):=Lm;clear Hb b0 b1 b2 b3;obtain⟨b0,b1,b2,b3⟩:=cP hb;have hr:w5.heap[nb+1+1]?=some (.cells #[.string ⟨#[]⟩,.string ⟨#[]⟩] 51 (0,0)):=Lp;clear Hr r0 r1 r2 r3;obtain⟨r0,r1,r2,r3⟩:=cP hr;revert ha a0 a1 a2 a3 hb b0 b1 b2 b3 hr r0 r1 r2 r3;exact I.o):=h ⟨k⟩
def ajq(h:V Q→P:=by
 intro I v hx dG fL dt lE c0 bL;have km:∀j,v.ownBlock=some j→j<nb:=fun j e=>auf;clear hx dG fL;obtain⟨k,hk⟩:=Y Q.length;have Cg:m=k+1:=by rw[hm,hk];simp
 obtain⟨g,cap,rfl⟩:∃g cap,v=.slice (some ⟨g,0,none⟩) m cap:=by
  rcases lE.2 with⟨h1,h2⟩|⟨g,cap,_,h1,_⟩
  ·omega
  exact⟨_,cap,h1⟩
 have m_:=own_sp lE k (by rw[hk];simp);have ez:(Q++[(z1,z2)])[k]' (by rw[hk];simp)=(z1,z2):=by simp[hk]
 rw[ez]at m_;have xJ:=hO (z1,z2) ae;have dD:z1.size≤9000:=xJ.1;have cc:z2.size≤9000:=xJ.2
 have hS:∀W,Below W0.heap.size W0 W→W.cell? ⟨x,0,none⟩=some (.slice (some ⟨g,0,none⟩) m cap)∧W.cell? ⟨x,1,none⟩=some (.func (.func 128) #[] #[])∧W.cell? ⟨x,2,none⟩=some (.func (.func 129) #[] #[])∧W.cell? ⟨nb,0,none⟩=some (.string s1)∧W.cell? ⟨nb,1,none⟩=some (.string s2)∧W.cell? ⟨g,k*2,none⟩=some (.string z1)∧W.cell? ⟨g,k*2+1,none⟩=some (.string z2):=fun W hW=>
  ⟨ab hW c0,ab hW c1,ab hW c2,ab hW b0,ab hW b1,ab hW m_.1,ab hW m_.2⟩
 have jk:x≠g:=fun e=>bL MJ;have IS:nb≠g:=fun e=>by have:=km g rfl;omega
 have pY:∀W,Below W0.heap.size W0 W→∀p q,((W.setCell ⟨g,k*2,none⟩ p).setCell ⟨g,k*2+1,none⟩ q).cell? ⟨x,0,none⟩=some (.slice (some ⟨g,0,none⟩) m cap)∧((W.setCell ⟨g,k*2,none⟩ p).setCell ⟨g,k*2+1,none⟩ q).cell? ⟨x,2,none⟩=some (.func (.func 129) #[] #[])∧((W.setCell ⟨g,k*2,none⟩ p).setCell ⟨g,k*2+1,none⟩ q).cell? ⟨nb,0,none⟩=some (.string s1)∧((W.setCell ⟨g,k*2,none⟩ p).setCell ⟨g,k*2+1,none⟩ q).cell? ⟨nb,1,none⟩=some (.string s2):=fun W hW p q=>by have hf:=aN (aN (am.refl (fun b=>b=g) W) (k*2) p) (k*2+1) q;obtain⟨t0,_,t2,_⟩:=y9 (bI (G hW dt) hf jk);obtain⟨u0,u1,_⟩:=cP (bI (G hW lT) hf IS);exact⟨t0,t2,u0,u1⟩
 have MR:∀W,Below W0.heap.size W0 W→W.frozen? ⟨g,k*2,none⟩=false∧W.frozen? ⟨g,k*2+1,none⟩=false:=fun W hW=>⟨zop (fh lE hW) _,zop (fh lE hW) _⟩;have hJ:=fun(W:World)(k:Below W0.heap.size W0 W)=>zw8 z1 z2 s1 s2 Z Z Z Z ((hD.from (aE _) B6).below k);have hK:=fun(W:World)(k:Below W0.heap.size W0 W)=>ybs z1 z2 s1 s2 Z Z Z Z ((hD.from (aE _) B6).below k);revert k hk Cg g cap dt lE c0 bL km m_ ez xJ dD cc hS jk IS pY MR hJ hK;exact I.o):=h ⟨k⟩
def ajx(h:P:=by
 refine Rw ?_;intro af iq eK y0 z0 y1 z1;have y2:=J eK 2;have z2:=J pb 2;have y3:=J eK 3;have z3:=J pb 3;have y4:=J eK 4;have z4:=J pb 4;have y5:=J eK 5;have z5:=J pb 5;have y6:=J eK 6;have z6:=J pb 6;simp only[aq,ar,aw]at y0 z0 y1 z1 y2 z2 y3 z3 y4 z4 y5 z5 y6 z6;refine RI ?_;intro hC;have cq:g l[k] m[k]=true→∀j (h1:j<l.length) (h2:j<m.length),j<k+1→g l[j] m[j]=true:=fun h j h1 h2 hjk=>by exact DP
 revert aj aF jI hp lU hq pa ai dC pb af iq eK hC cq;refine Rv ?_;intro e k5 k6 k7 cd bO Hp Hq l8 aB LB kU bh x_ yE dI dV HC He;go_upto_region 6 with (fail);rw[←cW,←b9];clear cW b9 Am Ir IQ ID Kj Kk Kl;go_upto_region 7 with (fail);rw[←eB,←kW];clear eB kW An Lt I5 Km Kn Ko IE;go_wp2_with fail;refine HC.o.mono ?_;refine KM ?_;intro w9 ca jN;clear y0 z0 y1 z1 y2 z2 y3 z3 y4 z4 y5 z5 y6 z6;exact R2):=h
def akd(h:P:=by
 have b_:=J iF.o.rc.box 0;have hd:=J iF.o.rc.box 1;have ayw:=J iF.o.lb 1;have fU:=J iF.o.rb 0;have g_:=J iF.o.rb 1;have B5:=aG iF.o.rb 0;have BX:=aG iF.o.rb 1;simp only[aq,ar,aw]at b_ hd ayw fU g_;obtain⟨c0,K0,pA⟩:=Ua.o w7 iF.o.wds;have aFc:(0:Int)<(n:Int):=(by have:=xx.o;omega);have Tv:=O pA;clear pA;go_wp2_with fail;go_region
 go_wp2_with fail
 obtain⟨WF,eJ⟩:=Y ((w7.setCell ⟨g+2,0,none⟩ (.slice pa pn pc)).setCell ⟨g+2,1,none⟩ (.slice fa fn fc));have x1:WF.heap[g+2]?=some (.cells #[.slice pa pn pc,.slice fa fn fc] 25 (0,0)):=(by rw[eJ];exact ag _ (g+2) 1 _ _ _ (ag _ (g+2) 0 _ _ _ iF.o.rb));have gE:am (fun z=>z=g+2) w7 WF:=acp;rw[←eJ];clear eJ;refine fZ (abv (g:=g+2) rfl rfl rfl x1 LU rfl aA) rfl ?_;exact⟨pa,pn,pc,fa,fn,fc,c0,rfl,.inr ⟨Tv.o,cd.o⟩,(iF.o.gc.trans gE fun k hk e=>by rw[e]at hk;have:=HG.o;omega).drew⟩):=h
def pj(h:V Q→P:=by
 intro I K hK;refine hK.out _ _ aV (fun hHeld=>?_);clear hHeld hK K;refine iN ?_;exact I.o):=h ⟨k⟩
def RT(h:V Q→P:=by
 intro I;obtain⟨w0,bw⟩:=Y (((w.alloc (.cells #[.string lo,.string hi] 51)).alloc (.cells #[.string lp,.string hj] 51)).alloc (.cells #[.string ⟨#[]⟩,.string ⟨#[]⟩] 51));obtain⟨nb,ck⟩:=Y w.heap.size;have hw:Below w.heap.size w w0:=(by rw[bw];exact ((aS _ _).alloc (aS _ _).size _).alloc ((aS _ _).alloc (aS _ _).size _).size _);have cM:Below w0.heap.size w0 w0:=aL _ _;have ha:w0.heap[nb]?=some (.cells #[.string lo,.string hi] 51 (0,0)):=(by rw[bw,ck];exact ztm _ _ _ _ _ _ _);obtain⟨a0,a1,a2,a3⟩:=cP ha;have hb:w0.heap[nb+1]?=some (.cells #[.string lp,.string hj] 51 (0,0)):=(by rw[bw,ck];exact ztl _ _ _ _ _ _ _);obtain⟨b0,b1,b2,b3⟩:=cP hb;have hr:w0.heap[nb+1+1]?=some (.cells #[.string ⟨#[]⟩,.string ⟨#[]⟩] 51 (0,0)):=(by rw[bw,ck];exact ztk _ _ _ _ _ _ _);obtain⟨r0,r1,r2,r3⟩:=cP hr;revert w0 bw nb ck hw cM ha a0 a1 a2 a3 hb b0 b1 b2 b3 hr r0 r1 r2 r3;exact I.o):=h ⟨k⟩
def akv(h:P:=by
 rw[←fP]at kt;revert bQ aV LO CA fP;refine bU ?_;intro dI qO ZN PG ki;refine mr (rs:=[0,1]) aA ae ?_;refine dO rfl (fun K hK=>?_) (dO rfl (fun K hK=>?_) ij)
 ·revert K hK;refine zM ?_;intro hHeld;refine c_ 1 fun K hK=>?_;exact ahl
 revert K hK;refine zM ?_;intro hHeld;refine mr (rs:=[0,2]) aA ae ?_;refine dO rfl (fun K hK=>?_) (dO rfl (fun K hK=>?_) ij)
 ·exact ahl
 refine Ro ?_;intro wt eI gC;go_wp2_with fail;revert K hK;refine qK ?_;intro hHeld;refine bB 3 ?_;refine Kt ?_;intro hHeld;exact aen):=h
def ald(h:P:=by
 cases u with
 |true=>
  have hf:r=true:=Vh;have Hf:=O hf;clear hf;go_wp2_with fail;refine HX.o.mono ?_;refine rN ?_;go_wp2_with fail;refine HY.o.mono ?_;refine rN ?_;go_wp2_with fail;refine ER.o.mono ?_;refine rN ?_;exact Xa
 |false=>
  cases v with
  |true=>
   have hf:r=false:=Vh;have Hf:=O hf;clear hf;go_wp2_with fail;refine HX.o.mono ?_;refine rN ?_;go_wp2_with fail;refine HY.o.mono ?_;refine rN ?_;go_wp2_with fail;refine ER.o.mono ?_;refine rN ?_;go_wp2_with fail;refine HY.o.mono ?_;refine rN ?_;go_wp2_with fail;refine HX.o.mono ?_;refine rN ?_;go_wp2_with fail;refine vY.o.mono ?_;refine rN ?_;exact Xa
  |false=>
   have hf:r=y_ xs ys (k+1) (N-(k+1)):=Vh;have Hf:=O hf;clear hf;go_wp2_with fail;refine HX.o.mono ?_;refine rN ?_;go_wp2_with fail;refine HY.o.mono ?_;refine rN ?_;go_wp2_with fail;refine ER.o.mono ?_;refine rN ?_;go_wp2_with fail;refine HY.o.mono ?_;refine rN ?_;go_wp2_with fail;refine HX.o.mono ?_;refine rN ?_;go_wp2_with fail;refine vY.o.mono ?_;refine rN ?_;go_wp2_with fail;go_round
   case rel=>exact⟨k+1,Z,cj,Hf.o⟩
   case measure=>exact gT):=h
def alk(h:V Q→P:=by
 intro I;obtain⟨cur,bW⟩:=avf.o _ hQ.1;have nN:=J dD 0;have rQ:=aG bW (m*8);have nM:=J dD 1;have rR:=aG bW (m*8+1);have pW:=J dD 2;have uC:=aG bW (m*8+2);have pX:=J dD 3;have uD:=aG bW (m*8+3);have ti:=J dD 4;have xS:=aG bW (m*8+4);have tj:=J dD 5;have xT:=aG bW (m*8+5);have tk:=J dD 6;have xU:=aG bW (m*8+6);have DY:=J dD 7;have Lh:=aG bW (m*8+7);simp only[aq,ar,aw]at nN nM pW pX ti tj tk DY;have IV:es k2 (some ⟨b,off,none⟩) n c v.j fin v.bad ((((((((wq.setCell ⟨pb,m*8,none⟩ (.string nm)).setCell ⟨pb,m*8+1,none⟩ (.int .i64 li)).setCell ⟨pb,m*8+2,none⟩ (.slice v.c2 v.x2 v.y2)).setCell ⟨pb,m*8+3,none⟩ (.slice v.c3 v.x3 v.y3)).setCell ⟨pb,m*8+4,none⟩ (.slice v.c4 v.x4 v.y4)).setCell ⟨pb,m*8+5,none⟩ (.slice v.c5 v.x5 v.y5)).setCell ⟨pb,m*8+6,none⟩ (.slice v.c6 v.x6 v.y6)).setCell ⟨pb,m*8+7,none⟩ (.slice v.c7 v.x7 v.y7)):=by refine bI cc (S:=fun z=>z=pb) (aN (aN (aN (aN (aN (aN (aN (aN (am.refl _ _) _ _) _ _) _ _) _ _) _ _) _ _) _ _) _ _) ?_;have:=avg.o;omega
 obtain⟨hE,EZ⟩:=rb_end (j:=v.j) auy.o VA.o HL.o hQ jJ mj.o rq.o (lC uo.o.symm) (lC qS.o.symm) UP.o Hn.o wC.o;rw[←avi.o,←Hm.o]at hE EZ;obtain⟨wr,hwr⟩:=Y (((((((((wq.setCell ⟨pb,m*8,none⟩ (.string nm)).setCell ⟨pb,m*8+1,none⟩ (.int .i64 li)).setCell ⟨pb,m*8+2,none⟩ (.slice v.c2 v.x2 v.y2)).setCell ⟨pb,m*8+3,none⟩ (.slice v.c3 v.x3 v.y3)).setCell ⟨pb,m*8+4,none⟩ (.slice v.c4 v.x4 v.y4)).setCell ⟨pb,m*8+5,none⟩ (.slice v.c5 v.x5 v.y5)).setCell ⟨pb,m*8+6,none⟩ (.slice v.c6 v.x6 v.y6)).setCell ⟨pb,m*8+7,none⟩ (.slice v.c7 v.x7 v.y7)));rw[←hwr]at IV hE EZ;have K2:=CE.o;have K3:=IA.o;revert cur bW rQ rR uC uD xS xT xU Lh nN nM pW pX ti tj tk DY wr EZ hE IV hwr K2 K3;exact I.o):=h ⟨k⟩
def alq(h:P:=by
 refine c_ 3 fun K hK=>?_;go_simp;refine (lQ.o _ mC.o).mono ?_;rintro e wz ⟨⟨fP,_,rfl⟩|⟨mv,rfl⟩,H⟩
 ·have xX:=mC.o.trans (H.mono mC.o.size);have z0:=G xX O8.o;have z1:=G xX O7.o;obtain⟨_,cC,cD,cB,cF⟩:=a8 z0;have DT:=St6.back (k:=k+1) (p:=m+1) (bad:=0) (i:=i) bZ z0 z1 (Qa.o.trans (xX.mono Qa.o.size)) adf.o (fh adi.o xX) (.inl ⟨rfl,(by rw[bM,←vd.o,Io.o];rfl),(by rw[UO.o,zk0 (by rw[←Hm.o,←Hs.o];exact rW.o) (by rw[←Hm.o,←Hs.o,L9.o,←Hb.o];exact fP),←Hm.o,←Hs.o,L9.o,Hm.o];rfl)⟩) ZA;revert H fP xX z0 z1 DT;refine bX ?_;intro gV ki aBr lO dv xE;revert K hK;refine j_ ?_;intro hHeld;refine Gu ?_;intro hHeld;refine lq ?_;go_wp2_with fail;go_roundw
  case rel=>exact⟨k+1,_,_,xE.o⟩
  case measure=>refine Zp (jg (Ld (n:=n) xE.o.box)) ?_;rw[D2.o];simp;have:=Hm.o;omega
 have xX:=mC.o.trans (H.mono mC.o.size);have z0:=G xX O8.o;have z1:=G xX O7.o;obtain⟨_,cC,cD,cB,cF⟩:=a8 z0;have abg:b=false:=(by rcases mv with h|h;exact h;omega);have kL:Ts≠0:=by rw[Zw.o];exact fM.o m
 have DT:=St6.back (k:=k) (p:=m) (bad:=Ts) (i:=i) bZ z0 z1 (Qa.o.trans (xX.mono Qa.o.size)) adf.o (fh adi.o xX) (.inr ⟨kL,m,(by rw[UO.o,←Hm.o];exact zk1 (by rw[←Hs.o];exact rW.o) (by rw[←Hs.o,L9.o,←Hb.o];exact abg)),Zw.o⟩) Hm.o;revert H mv xX z0 z1 abg kL DT;refine fg ?_;intro gV qS aBr lO dv aDt mE xE;revert K hK;refine j_ ?_;intro hHeld;refine Gu ?_;intro hHeld;refine lq ?_;go_wp2_with fail;go_roundw
 case rel=>exact⟨k,_,_,xE.o⟩
 case measure=>rw[Ld (n:=n) xE.o.box,D2.o,E mE.o];simp):=h
def Gx(h:V Q→P:=by
 intro I;have nh:cH.heap[g+2]?=some (.cells #[.string ⟨#[]⟩,.int .i64 0,.slice none 0 0,.slice none 0 0,.slice none 0 0,.slice none 0 0,.slice none 0 0,.slice none 0 0] 45 (0,0)):=(by rw[et];exact ah lY (by omega));have ng:es (g+3) none 0 0 0 0 0 cH:=(by rw[et];exact ah lZ (by omega));have ep:am (fun z=>z=g+1) w9 cH:=(by rw[et];exact aN (am.refl _ _) _ _);rw[←et];revert nh ng ep;exact I.o):=h ⟨k⟩
def amc(h:P:=by
 have k7:((i':Int)==(i:Int))=false:=l9;have kL:=(by first|exact Cm.o l i' af gF hi|exact Cm.o l i' trivial gF hi:db ws i=(some (fd,(o5 tl),l),i'));have TT:=(by first|exact H7.o af|exact H7.o trivial:hU cH (.slice a2 n2 q2) (o5 tl));have TU:=Qm.o l tn;clear cC cD cB cF;revert tn gF hi kL TT TU;refine bX ?_;intro Cj oN Hi mE Ut Uu;go_wp2_with fail;go_region
 go_wp2_with fail
 obtain⟨wT,fQ⟩:=Y (((((((cH.setCell ⟨g+1,0,none⟩ (.string ⟨#[]⟩)).setCell ⟨g+1,1,none⟩ (.slice a2 n2 q2)).setCell ⟨g+1,2,none⟩ (.slice sb sm sd)).setCell ⟨g+1+1,0,none⟩ (.slice a n c)).setCell ⟨g+1+1,1,none⟩ (.int .i64 i')).setCell ⟨g+1+1,2,none⟩ (.int .i64 fin)).setCell ⟨g+1+1,3,none⟩ (.int .i64 0));rw[←fQ];obtain⟨r1,r2,hT⟩:=Cl (i':=i') gA.o.r1 gA.o.r2 fQ;clear fQ;have aj:No2 cH (fun z=>z=g+1∨z=g+1+1):=by exact RE
 have kN:Below w.heap.size w wT.drew:=dA (gA.o.bm.trans (hT.below gA.o.bm.size Ah));refine WV ?_;intro kK nP;have qN:es (g+1+1) a n c i' fin 0 wT.drew:=r2;generalize wT.drew=wU at kN kK nP qN⊢;refine DN ?_;exact⟨⟨#[]⟩,a2,n2,q2,sb,sm,sd,i',0,rfl,.inl ⟨_,mE.o,rfl,rfl,lA Ut.o kK aj,uK Uu.o kK aj⟩,kN⟩):=h
def amg(h:P:=by
 rw[←hp]at hA;rw[←tC]at hT;have cM:Below W2.heap.size W2 W2:=aL _ _;have aaa:=fun(W:World)(k:Below W2.heap.size W2 W)=>cP (G k jk);have nV:=fun(W:World)(k:Below W2.heap.size W2 W)=>cP (G k jl);obtain⟨c0,c1,f0,f1⟩:=aaa W2 cM;obtain⟨x0,x1,y0,y1⟩:=nV W2 cM;rw[←eh,←hg];clear eh hg hp tC GO;revert af jk jl hA hT dz DX cM aaa nV;refine dE ?_;intro bh yK ga HA HT ev oB cr abx LD;go_wp2_with fail;refine (HA.o _ cr.o).mono ?_;rintro e w2 ⟨rfl,aM⟩;obtain⟨c0,c1,f0,f1⟩:=abx.o _ aM;obtain⟨x0,x1,y0,y1⟩:=LD.o _ aM;have bK:=O aM;clear aM
 cases p with
 |false=>have rT:=G bK.o ga.o;have ca:=bh.o.trans (bK.o.mono bh.o.size);obtain⟨gZ,d_⟩:=ak rT ca;clear rT ca;exact V_
 |true=>
  go_wp2_with fail
  refine (HT.o _ bK.o).mono ?_;rintro e w3 ⟨rfl,bA⟩;obtain⟨c0,c1,f0,f1⟩:=abx.o _ bA;obtain⟨x0,x1,y0,y1⟩:=LD.o _ bA;have rT:=G bA ga.o;have ca:=bh.o.trans (bA.mono bh.o.size);revert bA rT ca;refine fo ?_;intro dL gZ d_
  cases d with
  |false=>exact V_
  |true=>exact V_):=h
def amo(h:P:=by
 have ZC:es g10 a n c i' fin bq kr:=avw;clear x0 x1 x2 y0 y1 y2 y3 B5 BX EC yl ym yn yo;revert uH mD D_ ni PO ZC;refine bX ?_;intro ED aBo ada aBn qf EH;go_upto_region 16 with (fail);rw[←sx];clear sx cC cD cB cF;obtain⟨x0,x1,x2,_,_,_⟩:=cT qf.o.s;obtain⟨⟨y0,y1,y2,y3⟩,_⟩:=a8 EH.o;obtain⟨_,_,_,B5,BX,EC⟩:=cT qf.o.r1;obtain⟨_,yl,ym,yn,yo⟩:=a8 qf.o.r2;refine cK ?_;go_region;go_wp2_with fail
 obtain⟨wT,fQ⟩:=Y (((((((kr.setCell ⟨g+1,0,none⟩ (.string ⟨#[]⟩)).setCell ⟨g+1,1,none⟩ (.slice a2 n2 q2)).setCell ⟨g+1,2,none⟩ (.slice sb sm sd)).setCell ⟨g+1+1,0,none⟩ (.slice a n c)).setCell ⟨g+1+1,1,none⟩ (.int .i64 i')).setCell ⟨g+1+1,2,none⟩ (.int .i64 fin)).setCell ⟨g+1+1,3,none⟩ (.int .i64 bq));rw[←fQ];obtain⟨r1,r2,hT⟩:=Cl (i':=i') qf.o.r1 qf.o.r2 fQ;clear fQ;have aj:No2 kr (fun z=>z=g+1∨z=g+1+1):=by exact aoj
 have kN:Below w.heap.size w wT.drew:=dA (qf.o.bm.trans (hT.below qf.o.bm.size Ah));refine WV ?_;intro kK nP;have qN:es (g+1+1) a n c i' fin bq wT.drew:=r2;generalize wT.drew=wU at kN kK nP qN⊢;refine DN ?_;exact⟨⟨#[]⟩,a2,n2,q2,sb,sm,sd,i',bq,rfl,.inr ⟨i',mE.o,ee.o⟩,kN⟩):=h
def amy(h:V Q→P:=by
 intro I;obtain⟨H1,L1⟩:=pE.o _ r8.o;obtain⟨⟨cur,bW⟩,-⟩:=L1.cells;obtain⟨css,hr⟩:=L1.last.vars;have bL:v3.ownBlock≠some pb:=fun e=>by exact Bm
 have rS:∀k,v3.ownBlock=some k→Live (aJ t w.heap.size 3 k)∧¬Ty w1 k:=fun k hk=>⟨Ar,ly hr D hk⟩;refine WN ?_;intro mW hB aY;have iJ:m≤70000:=(by rw[Hm.o];exact Hp.o.2.1);obtain⟨N,hN⟩:=Y css.flatten;rw[←hN]at aY;have oC:Ft w1 (Fx w1 (aJ t w.heap.size 3)) (fun W'=>n9 W' [.string s,.slice la ln lc] (s,l)):=((Qj acm Ew.o).mono fun k hk hkv=>.inl (by have:=(cZ.o.lt k hkv).1;exact pL Z)).imp fun bP hV=>⟨_,rfl,hV⟩;have cJ:=aH bL;have kd:=aH bW;clear bL bW;revert H1 L1 hr rS mW aY hN oC;refine fg ?_;intro ku iW Hr jr iA bY HN iz;revert cur css hB iJ N cJ kd ku iW Hr jr iA bY HN iz;exact I.o):=h ⟨k⟩
def zK(h:P:=by
 go_wp2_with fail
 go_ret;exact⟨mu Hf.o.symm,rfl⟩):=h
def Gy(h:V Q→P:=by
 intro I;have iw:zz w3 (aJ t w.heap.size 10) B p (.slice b2 m2 d2) (.slice b3 m3 d3) (.slice b4 m4 d4) (.slice b5 m5 d5) (.slice b6 m6 d6) (.slice b7 m7 d7):=HH.o.to (am.ce (S:=fun _=>False) cN.o.bm) (fun _ _ h=>h.elim) (fun k hk _=>aR hk);revert iw;exact I.o):=h ⟨k⟩
def Xr(h:P:=by
 cases bv with
 |true=>exact Gt
 |false=>
  cases ba with
  |true=>exact Gt
  |false=>
   cases bo with
   |true=>exact Gt
   |false=>
    cases bi with
    |true=>exact Gt
    |false=>
     cases bd with
     |true=>exact Gt
     |false=>
      cases bc with
      |true=>exact Gt
      |false=>exact Gt):=h
def aoe(h:V Q→P:=by
 intro I;obtain⟨H1,L1⟩:=pE.o _ r8.o;obtain⟨⟨cur,bW⟩,-⟩:=L1.cells;obtain⟨css,hr⟩:=L1.last.files;have bL:v7.ownBlock≠some pb:=fun e=>by exact Bm
 have rS:∀k,v7.ownBlock=some k→Live (aJ t w.heap.size 3 k)∧¬Ty w1 k:=fun k hk=>⟨Ar,ly hr D hk⟩;refine WN ?_;intro mW hB aY;have iJ:m≤70000:=(by rw[Hm.o];exact Hp.o.2.2.2.2.2);obtain⟨N,hN⟩:=Y css.flatten;rw[←hN]at aY;refine apa ?_;intro a_ oC cJ kd;clear bL bW;revert H1 L1 hr rS mW aY hN oC;refine fg ?_;intro ku iW Hr jr iA bY HN iz;revert cur css hB iJ N a_ cJ kd ku iW Hr jr iA bY HN iz;exact I.o):=h ⟨k⟩
def aok(h:V Q→P:=by
 intro I;obtain⟨H1,L1⟩:=pE.o _ r8.o;obtain⟨⟨cur,bW⟩,-⟩:=L1.cells;obtain⟨css,hr⟩:=L1.last.cl;have bL:v4.ownBlock≠some pb:=fun e=>by exact Bm
 have rS:∀k,v4.ownBlock=some k→Live (aJ t w.heap.size 3 k)∧¬Ty w1 k:=fun k hk=>⟨Ar,ly hr D hk⟩;refine WN ?_;intro mW hB aY;have iJ:m≤70000:=(by rw[Hm.o];exact Hp.o.2.2.1);obtain⟨N,hN⟩:=Y css.flatten;rw[←hN]at aY;refine apa ?_;intro a_ oC cJ kd;clear bL bW;revert H1 L1 hr rS mW aY hN oC;refine fg ?_;intro ku iW Hr jr iA bY HN iz;revert cur css hB iJ N a_ cJ kd ku iW Hr jr iA bY HN iz;exact I.o):=h ⟨k⟩
def aoo(h:P:=by
 cases d3 with
 |false=>
  cases d4 with
  |false=>
   go_wp2_with fail
   refine (HL.o _ bK.o).mono ?_;revert a0 a1 a2 a3 b0 b1 b2 b3 r0 r1 r2 r3 o0 o1 o2 o3 Ha Hb Hr Ho;refine Gn ?_;intro w4 a0 a1 a2 a3 b0 b1 b2 b3 r0 r1 r2 r3 o0 o1 o2 o3 Hs dL Ha Hb Hr Ho;go_upto_region 8 with (fail);obtain⟨w5,hv⟩:=Y (w4.setCell ⟨go,1,none⟩ (.string lt));have aW:Below w0.heap.size w0 w5:=acs;revert a0 a1 a2 a3 b0 b1 b2 b3 r0 r1 r2 r3 Ha Hb Hr;refine KO ?_;intro ha a0 a1 a2 a3 hb b0 b1 b2 b3 hr r0 r1 r2 r3;have ho:w5.heap[go]?=some (.cells #[.string ⟨#[]⟩,.string lt] 51 (0,0)):=tL;revert o0 o1 o2 o3 Ho hv;refine pV ?_;intro o0 o1 o2 o3;revert aW ha hb hr ho;refine bU ?_;intro cQ Ha Hb Hr Ho;exact Wu
  |true=>exact anm
 |true=>exact anm):=h
def Br(h:P:=by
 rintro e wz ⟨rfl,kI⟩;have df:=O kI;clear kI;go_wp2_with fail;go_roundw
 case rel=>exact⟨k+1,Z,cj,df.o⟩
 case measure=>exact gT):=h
def apg(h:V Q→P:=by
 intro I bF bG bH bD iD fb fC fD cC cD cB cF jV jW jX jY jZ j8 j9 jU b_ fU hd g_ jt jw jB jx jD jy jE jz jF jA jG js;obtain⟨WF,eJ⟩:=Y (((((((((((((cH).setCell ⟨g+2,0,none⟩ (.string nm)).setCell ⟨g+2,1,none⟩ (.int .i64 li)).setCell ⟨g+2,2,none⟩ (.slice b2 m2 d2)).setCell ⟨g+2,3,none⟩ (.slice b3 m3 d3)).setCell ⟨g+2,4,none⟩ (.slice b4 m4 d4)).setCell ⟨g+2,5,none⟩ (.slice b5 m5 d5)).setCell ⟨g+2,6,none⟩ (.slice a9 (m6+1) c9)).setCell ⟨g+2,7,none⟩ (.slice b7 m7 d7)).setCell ⟨g+3,0,none⟩ (.slice a n c)).setCell ⟨g+3,1,none⟩ (.int .i64 j5)).setCell ⟨g+3,2,none⟩ (.int .i64 fin)).setCell ⟨g+3,3,none⟩ (.int .i64 cG));have x1:WF.heap[g+2]?=some (.cells #[.string nm,.int .i64 li,.slice b2 m2 d2,.slice b3 m3 d3,.slice b4 m4 d4,.slice b5 m5 d5,.slice a9 (m6+1) c9,.slice b7 m7 d7] 45 (0,0)):=(by rw[eJ];exact ah (b:=g+3) (i:=3) (u:=.int .i64 cG) (ah (b:=g+3) (i:=2) (u:=.int .i64 fin) (ah (b:=g+3) (i:=1) (u:=.int .i64 j5) (ah (b:=g+3) (i:=0) (u:=.slice a n c) (ag _ (g+2) 7 _ _ (.slice b7 m7 d7) (ag _ (g+2) 6 _ _ (.slice a9 (m6+1) c9) (ag _ (g+2) 5 _ _ (.slice b5 m5 d5) (ag _ (g+2) 4 _ _ (.slice b4 m4 d4) (ag _ (g+2) 3 _ _ (.slice b3 m3 d3) (ag _ (g+2) 2 _ _ (.slice b2 m2 d2) (ag _ (g+2) 1 _ _ (.int .i64 li) (ag _ (g+2) 0 _ _ (.string nm) (fY.o))))))))) (by omega)) (by omega)) (by omega)) (by omega));have x2:es (g+3) a n c j5 fin cG WF:=(by rw[eJ];exact ag _ (g+3) 3 _ _ (.int .i64 cG) (ag _ (g+3) 2 _ _ (.int .i64 fin) (ag _ (g+3) 1 _ _ (.int .i64 j5) (ag _ (g+3) 0 _ _ (.slice a n c) (ah (b:=g+2) (i:=7) (u:=.slice b7 m7 d7) (ah (b:=g+2) (i:=6) (u:=.slice a9 (m6+1) c9) (ah (b:=g+2) (i:=5) (u:=.slice b5 m5 d5) (ah (b:=g+2) (i:=4) (u:=.slice b4 m4 d4) (ah (b:=g+2) (i:=3) (u:=.slice b3 m3 d3) (ah (b:=g+2) (i:=2) (u:=.slice b2 m2 d2) (ah (b:=g+2) (i:=1) (u:=.int .i64 li) (ah (b:=g+2) (i:=0) (u:=.string nm) (mB.o) (by omega)) (by omega)) (by omega)) (by omega)) (by omega)) (by omega)) (by omega)) (by omega))))));revert bF bG bH bD iD fb fC fD cC cD cB cF jV jW jX jY jZ j8 j9 jU b_ fU hd g_ jt jw jB jx jD jy jE jz jF jA jG js eJ;refine Ky ?_;intro gE;have rh:am (fun z=>(g≤z)∨(aJ t w.heap.size 10 z=8∧¬Ty w z)) w3 w9:=kJ.o.mono fun z _ hz=>.inr ⟨Hr.o.tag z hz,fun rY=>ly Hr.o D hz (rY.o8 (am.ce (S:=fun _=>False) cN.o.bm) id)⟩;have rf:am (fun z=>(g≤z)∨(aJ t w.heap.size 10 z=8∧¬Ty w z)) w3 WF:=(rh.trans lW.o fun z _ hz=>.inl Mq).trans gE fun z _ hz=>.inl EE;refine Oq ?_;intro pN;revert WF x1 x2 gE rh rf pN;exact I.o):=h ⟨k⟩
def apn(h:V Q→P:=by
 intro I bF bG bH bD iD fb fC fD cC cD cB cF jV jW jX jY jZ j8 j9 jU b_ fU hd g_ jt jw jB jx jD jy jE jz jF jA jG js;obtain⟨WF,eJ⟩:=Y (((((((((((((cH).setCell ⟨g+2,0,none⟩ (.string nm)).setCell ⟨g+2,1,none⟩ (.int .i64 li)).setCell ⟨g+2,2,none⟩ (.slice b2 m2 d2)).setCell ⟨g+2,3,none⟩ (.slice b3 m3 d3)).setCell ⟨g+2,4,none⟩ (.slice b4 m4 d4)).setCell ⟨g+2,5,none⟩ (.slice a9 (m5+1) c9)).setCell ⟨g+2,6,none⟩ (.slice b6 m6 d6)).setCell ⟨g+2,7,none⟩ (.slice b7 m7 d7)).setCell ⟨g+3,0,none⟩ (.slice a n c)).setCell ⟨g+3,1,none⟩ (.int .i64 j5)).setCell ⟨g+3,2,none⟩ (.int .i64 fin)).setCell ⟨g+3,3,none⟩ (.int .i64 cG));have x1:WF.heap[g+2]?=some (.cells #[.string nm,.int .i64 li,.slice b2 m2 d2,.slice b3 m3 d3,.slice b4 m4 d4,.slice a9 (m5+1) c9,.slice b6 m6 d6,.slice b7 m7 d7] 45 (0,0)):=(by rw[eJ];exact ah (b:=g+3) (i:=3) (u:=.int .i64 cG) (ah (b:=g+3) (i:=2) (u:=.int .i64 fin) (ah (b:=g+3) (i:=1) (u:=.int .i64 j5) (ah (b:=g+3) (i:=0) (u:=.slice a n c) (ag _ (g+2) 7 _ _ (.slice b7 m7 d7) (ag _ (g+2) 6 _ _ (.slice b6 m6 d6) (ag _ (g+2) 5 _ _ (.slice a9 (m5+1) c9) (ag _ (g+2) 4 _ _ (.slice b4 m4 d4) (ag _ (g+2) 3 _ _ (.slice b3 m3 d3) (ag _ (g+2) 2 _ _ (.slice b2 m2 d2) (ag _ (g+2) 1 _ _ (.int .i64 li) (ag _ (g+2) 0 _ _ (.string nm) (fY.o))))))))) (by omega)) (by omega)) (by omega)) (by omega));have x2:es (g+3) a n c j5 fin cG WF:=(by rw[eJ];exact ag _ (g+3) 3 _ _ (.int .i64 cG) (ag _ (g+3) 2 _ _ (.int .i64 fin) (ag _ (g+3) 1 _ _ (.int .i64 j5) (ag _ (g+3) 0 _ _ (.slice a n c) (ah (b:=g+2) (i:=7) (u:=.slice b7 m7 d7) (ah (b:=g+2) (i:=6) (u:=.slice b6 m6 d6) (ah (b:=g+2) (i:=5) (u:=.slice a9 (m5+1) c9) (ah (b:=g+2) (i:=4) (u:=.slice b4 m4 d4) (ah (b:=g+2) (i:=3) (u:=.slice b3 m3 d3) (ah (b:=g+2) (i:=2) (u:=.slice b2 m2 d2) (ah (b:=g+2) (i:=1) (u:=.int .i64 li) (ah (b:=g+2) (i:=0) (u:=.string nm) (mB.o) (by omega)) (by omega)) (by omega)) (by omega)) (by omega)) (by omega)) (by omega)) (by omega))))));revert bF bG bH bD iD fb fC fD cC cD cB cF jV jW jX jY jZ j8 j9 jU b_ fU hd g_ jt jw jB jx jD jy jE jz jF jA jG js eJ;refine Ky ?_;intro gE;have rh:am (fun z=>(g≤z)∨(aJ t w.heap.size 10 z=7∧¬Ty w z)) w3 w9:=kJ.o.mono fun z _ hz=>.inr ⟨Hr.o.tag z hz,fun rY=>ly Hr.o D hz (rY.o8 (am.ce (S:=fun _=>False) cN.o.bm) id)⟩;have rf:am (fun z=>(g≤z)∨(aJ t w.heap.size 10 z=7∧¬Ty w z)) w3 WF:=(rh.trans lW.o fun z _ hz=>.inl Mq).trans gE fun z _ hz=>.inl EE;refine Oq ?_;intro pN;revert WF x1 x2 gE rh rf pN;exact I.o):=h ⟨k⟩
def apu(h:P:=by
 have k7:(bad'==0)=false:=(by simpa using Co);clear cC cD cB cF;obtain⟨aBu,Uo,Un⟩:=aQ Co If Ig;clear Co If Ig;go_wp2_with fail;go_region
 go_wp2_with fail
 obtain⟨wT,fQ⟩:=Y (((((((cH.setCell ⟨g+1,0,none⟩ (.string ⟨#[]⟩)).setCell ⟨g+1,1,none⟩ (.slice a2 n2 q2)).setCell ⟨g+1,2,none⟩ (.slice sb sm sd)).setCell ⟨g+1+1,0,none⟩ (.slice a n c)).setCell ⟨g+1+1,1,none⟩ (.int .i64 i')).setCell ⟨g+1+1,2,none⟩ (.int .i64 fin)).setCell ⟨g+1+1,3,none⟩ (.int .i64 bad'));rw[←fQ];obtain⟨r1,r2,hT⟩:=Cl (i':=i') gA.o.r1 gA.o.r2 fQ;clear fQ;have aj:No2 cH (fun z=>z=g+1∨z=g+1+1):=by exact RE
 have kN:Below w.heap.size w wT.drew:=dA (gA.o.bm.trans (hT.below gA.o.bm.size Ah));refine WV ?_;intro kK nP;have qN:es (g+1+1) a n c i' fin bad' wT.drew:=r2;generalize wT.drew=wU at kN kK nP qN⊢;refine DN ?_;exact⟨⟨#[]⟩,a2,n2,q2,sb,sm,sd,i',bad',rfl,.inr ⟨j,Uo.o,Un.o⟩,kN⟩):=h
def XF(h:V Q→P:=by
 intro I;obtain⟨bv,vV⟩:=Y (decide (first=nZ));have Gk:(first.toList==[118,101,114,115,105,111,110])=bv:=(by rw[jb first [118,101,114,115,105,111,110] nZ rfl,vV]);obtain⟨ba,b9⟩:=Y (decide (first=n8));have Gh:(first.toList==[118,97,114,105,97,110,116])=ba:=(by rw[jb first [118,97,114,105,97,110,116] n8 rfl,b9]);obtain⟨bo,tI⟩:=Y (decide (first=kX));have Gj:(first.toList==[112,114,111,118,105,100,101,115])=bo:=(by rw[jb first [112,114,111,118,105,100,101,115] kX rfl,tI]);obtain⟨bi,Z5⟩:=Y (decide (first=kY));have Gi:(first.toList==[102,105,108,101])=bi:=(by rw[jb first [102,105,108,101] kY rfl,Z5]);obtain⟨bd,bQ⟩:=Y (decide (first=lF));have Kr:(first.toList==[100,101,112,101,110,100,115])=bd:=(by rw[jb first [100,101,112,101,110,100,115] lF rfl,bQ]);obtain⟨bc,axf⟩:=Y (decide (first=kv));have Kq:(first.toList==[99,111,110,102,108,105,99,116,115])=bc:=(by rw[jb first [99,111,110,102,108,105,99,116,115] kv rfl,axf]);revert vV b9 tI Z5 bQ axf;refine bX ?_;intro rA gk Dl Dk dI nA;revert bv Gk ba Gh bo Gj bi Gi bd Kr bc Kq rA gk Dl Dk dI nA;exact I.o):=h ⟨k⟩
def apv(h:V Q→P:=by
 intro I bF bG bH bD iD fb fC fD cC cD cB cF jV jW jX jY jZ j8 j9 jU b_ fU hd g_ jt jw jB jx jD jy jE jz jF jA jG js;obtain⟨WF,eJ⟩:=Y (((((((((((((cH).setCell ⟨g+2,0,none⟩ (.string nm)).setCell ⟨g+2,1,none⟩ (.int .i64 li)).setCell ⟨g+2,2,none⟩ (.slice b2 m2 d2)).setCell ⟨g+2,3,none⟩ (.slice a9 (m3+1) c9)).setCell ⟨g+2,4,none⟩ (.slice b4 m4 d4)).setCell ⟨g+2,5,none⟩ (.slice b5 m5 d5)).setCell ⟨g+2,6,none⟩ (.slice b6 m6 d6)).setCell ⟨g+2,7,none⟩ (.slice b7 m7 d7)).setCell ⟨g+3,0,none⟩ (.slice a n c)).setCell ⟨g+3,1,none⟩ (.int .i64 j5)).setCell ⟨g+3,2,none⟩ (.int .i64 fin)).setCell ⟨g+3,3,none⟩ (.int .i64 cG));have x1:WF.heap[g+2]?=some (.cells #[.string nm,.int .i64 li,.slice b2 m2 d2,.slice a9 (m3+1) c9,.slice b4 m4 d4,.slice b5 m5 d5,.slice b6 m6 d6,.slice b7 m7 d7] 45 (0,0)):=(by rw[eJ];exact ah (b:=g+3) (i:=3) (u:=.int .i64 cG) (ah (b:=g+3) (i:=2) (u:=.int .i64 fin) (ah (b:=g+3) (i:=1) (u:=.int .i64 j5) (ah (b:=g+3) (i:=0) (u:=.slice a n c) (ag _ (g+2) 7 _ _ (.slice b7 m7 d7) (ag _ (g+2) 6 _ _ (.slice b6 m6 d6) (ag _ (g+2) 5 _ _ (.slice b5 m5 d5) (ag _ (g+2) 4 _ _ (.slice b4 m4 d4) (ag _ (g+2) 3 _ _ (.slice a9 (m3+1) c9) (ag _ (g+2) 2 _ _ (.slice b2 m2 d2) (ag _ (g+2) 1 _ _ (.int .i64 li) (ag _ (g+2) 0 _ _ (.string nm) (fY.o))))))))) (by omega)) (by omega)) (by omega)) (by omega));have x2:es (g+3) a n c j5 fin cG WF:=(by rw[eJ];exact ag _ (g+3) 3 _ _ (.int .i64 cG) (ag _ (g+3) 2 _ _ (.int .i64 fin) (ag _ (g+3) 1 _ _ (.int .i64 j5) (ag _ (g+3) 0 _ _ (.slice a n c) (ah (b:=g+2) (i:=7) (u:=.slice b7 m7 d7) (ah (b:=g+2) (i:=6) (u:=.slice b6 m6 d6) (ah (b:=g+2) (i:=5) (u:=.slice b5 m5 d5) (ah (b:=g+2) (i:=4) (u:=.slice b4 m4 d4) (ah (b:=g+2) (i:=3) (u:=.slice a9 (m3+1) c9) (ah (b:=g+2) (i:=2) (u:=.slice b2 m2 d2) (ah (b:=g+2) (i:=1) (u:=.int .i64 li) (ah (b:=g+2) (i:=0) (u:=.string nm) (mB.o) (by omega)) (by omega)) (by omega)) (by omega)) (by omega)) (by omega)) (by omega)) (by omega))))));revert bF bG bH bD iD fb fC fD cC cD cB cF jV jW jX jY jZ j8 j9 jU b_ fU hd g_ jt jw jB jx jD jy jE jz jF jA jG js eJ;refine Ky ?_;intro gE;have rh:am (fun z=>(g≤z)∨(T1 z=5∧¬Ty w z)) w5 w9:=kJ.o.mono fun z _ hz=>.inr ⟨Hr.o.tag z hz,fun rY=>ly Hr.o D hz (rY.o8 (am.ce (S:=fun _=>False) fH.o.bm) id)⟩;have rf:am (fun z=>(g≤z)∨(T1 z=5∧¬Ty w z)) w5 WF:=(rh.trans lW.o fun z _ hz=>.inl EE).trans gE fun z _ hz=>.inl EE
 have pN:am (fun k=>Live (t k)∧¬Ty w k) w WF:=(am.ce fH.o.bm).trans rf fun z hz hk=>by
  rcases hk with h|⟨h,rY⟩
  ·exact absurd hz ZB
  rw[U3.o z hz]at h;rw[h];exact⟨⟨Z,Z⟩,rY⟩
 revert WF x1 x2 gE rh rf pN;exact I.o):=h ⟨k⟩
def KX(h:P:=by
 rcases aP.pk with⟨h1,_⟩|⟨aDj,p',bN,v2,v3,v4,v5,v6,v7,h1,L⟩
 ·rw[hx]at h1;simp at h1
 rw[hx]at h1;have e1:=Qb h1 rfl;have e2:=ayq h1 rfl;obtain rfl:p=p':=(by simpa using e2);subst e1;exact⟨bN,v2,v3,v4,v5,v6,v7,L⟩):=h
def apw(h:P:=by
 rw[←hs]at d0;rw[←PM]at d1 hu;have hT:=zjj (iY hu aF);have d0:=ab aF d0;have d1:=ab aF d1;by_cases TM:100<s.size
 ·have k7:decide ((100:Int)<(s.size:Int))=true:=aX;revert aj aF nO hs hu PM hT;refine eb ?_;intro cd bO vW Hs Hu axt HT;exact Wj
 have k7:decide ((100:Int)<(s.size:Int))=false:=aX;revert aj aF nO hs hu PM hT TM;refine fg ?_;intro cd bO vW Hs Hu axt HT Ur;go_wp2_with fail;refine HT.o.mono ?_;rintro e w1 ⟨⟨r,rfl,hsm⟩,rfl⟩;have nW:=O hsm;clear hsm
 cases r with
 |true=>exact Wj
 |false=>
  go_wp2_with fail
  go_roundw
  case rel=>
   refine⟨k+1,Z,cj,fun j y hj hy=>?_,bO.o⟩;by_cases e:j=k
   ·subst e;rw[vW.o]at hy;obtain rfl:=nt hy;have:=Ur.o;exact⟨by rw[←Hs.o];omega,nW.o Iw⟩
   exact OL
  case measure=>exact gT):=h
def R2(h:P:=by
 obtain⟨d_,jH⟩:=ak ca jN;clear ca jN
 cases e with
 |true=>
  have mX:=dV.o rfl;have vQ:=O mX;clear mX;go_wp2_with fail;go_roundw
  case rel=>exact⟨k+1,Z,cj,vQ.o,jH.o⟩
  case measure=>exact gT
 |false=>
  have lN:r=false:=(by rw[Hr.o];exact dI.o rfl);have qR:=O lN;clear lN;go_wp2_with fail;go_ret;exact⟨GU,jH.o⟩):=h
def apx(h:P:=by
 obtain⟨j,hj,Uz⟩:=Je.1 bld_size;rcases h with h|h
 ·have h0:=h.cell0;have qm:=h.shape;have ZJ:=h.frozen0;have aP:=aH h;have HJ:=aH hj;have HS:=aH Uz;have acd:=aH qm;clear h hj Uz qm;go_enter func69,ntmps69;go_wp2_with fail;rw[Lib.run_to_unsafe w ⟨b,0,none⟩ U9 avl HJ.o (by rw[HS.o];decide) acd.o (Nat.zero_lt_succ 1)];simp only[Result.andThen];rw[U_];go_wp2_with fail;rw[run_callFunc_extern func101 aA aA aA (e:=Extern.AbiNoEscape.same) aA];rw[Lib.run_noEscape];simp only[Result.andThen];rw[U_];go_wp2_with fail;rw[Lib.run_from_unsafe w ⟨b,0,none⟩ avl U9 HJ.o acd.o bld_lies];simp only[Result.andThen];rw[U_];go_wp2_with fail;go_end0
  exact⟨rfl,aP.o.used _,(aL B w).setCell (p:=⟨b,0,none⟩) aP.o.1 _,(by obtain⟨_,v,jM,_⟩:=aP.o;exact aae jM 0 _)⟩
 have h0:=h.cell0;have aP:=aH h;have HJ:=aH hj;clear h hj Uz;go_enter func69,ntmps69;go_wp2_with fail;rw[Lib.run_neq_ptr_same w _ U9 HJ.o];go_wp2_with fail;go_end0
 exact⟨rfl,aP.o,aL B _,Kb _⟩):=h
def XG(h:P:=by have hM:=Pm uA.o;rw[aO e8]at hM;have HM:=O hM;clear hM;go_wp2_with fail;refine mU ?_;rintro e u1 ⟨rfl,q5,rfl⟩;have aW:=dU (aL W9.heap.size W9) q5;have hN:=ZZ (G aW uA.o) (qg.o _ (kS kJ.o aW));generalize W9.drewN q5=u1 at aW hN⊢;obtain⟨cQ,HN⟩:=ak aW hN;clear aW hN;go_wp2_with fail;refine HN.o.mono ?_;rintro e u2 ⟨rfl,q6,rfl⟩;have cX:=cQ.o.trans ((dU (aL u1.heap.size u1) q6).mono cQ.o.size);refine cK ?_;exact⟨rfl,Pk (Ca.o e8) kJ.o cX rfl⟩):=h
def XH(h:V Q→P:=by
 intro I aP iO hx hk oG bL my gJ hn hz dB nR ta dT aU jk vz vA eH pw wX Df af p0 p1 p2 hm nc r3 mw tA bA q4 tR xi xA vP zF wu Ef DV;have Se:pn≤70000:=UM;have Sd:fn≤70000:=avv;have hW:=B3 vP.wds 0 fin 0;rw[←wu]at hW;have pt:=fun(W:World)(h:Below W4.heap.size W4 W)=>Lk (vP.to h).wds cz pw 0 true;obtain⟨mk,Cg⟩:∃z:Int,z=(pn:Int)-1:=⟨_,rfl⟩;have kp:IntKind.i64.wrap ((pn:Int)-1)=mk:=(by rw[Cg];exact i_ _ (by omega))
 have fe:∀i,(aD ws i).size≤70000:=fun i=>by
  by_cases h:i<ws.length
  ·rw[Ec h];show (ws[i].2.toArray).size≤_;rw[Ad];exact wX _ (eZ h)
  rw[uJ Z];decide
 have mY:x.pk.length≤70000∧∀p∈x.pk,z9 p:=⟨UM,fun p hp=>(hx.2.2 p hp).few hk⟩;obtain⟨Ai,cJ,yv,Hn,fS,gD,vU,yK,PY,PZ,fM,Gg,wC,bh,dR,fG⟩:=ke dT bL gJ hn aU dB nR jk vz vA pw wX Df af p0 p1;obtain⟨q9,Hm,Er,gZ,V,NB,dL,DM,PW,PV,EX,so,jR,HW,lQ,HH⟩:=ke p2 hm nc r3 mw tA bA q4 tR xi xA vP wu hW pt aP;obtain⟨P_,Bg,HU,nU,EW,kV,tJ⟩:=oD ta Ef DV eH Cg fe mY;clear dT bL gJ hn aU dB nR jk vz vA pw wX Df af p0 p1 p2 hm nc r3 mw tA bA q4 tR xi xA vP wu hW pt aP ta Ef DV eH Cg fe mY;have mH:=aH zF;have HG:=aH hg;have xx:=aH lT;clear iO zF hz hx hk my oG;go_enter func41,ntmps41;revert Se Sd mk kp Ai cJ yv Hn fS gD vU yK PY PZ fM Gg wC bh dR fG q9 Hm Er gZ V NB dL DM PW PV EX so jR HW lQ HH P_ Bg HU nU EW kV tJ mH HG xx;exact I.o):=h ⟨k⟩
def R3(h:V Q→P:=by
 intro I a0 a1 a2 a3 b0 b1 b2 b3 r0 r1 r2 r3 Ha Hb Hr;have ha:w4.heap[nb]?=some (.cells #[.string lo,.string hi] 51 (0,0)):=Ll;clear Ha a0 a1 a2 a3;obtain⟨a0,a1,a2,a3⟩:=cP ha;have hb:w4.heap[nb+1]?=some (.cells #[.string lp,.string hj] 51 (0,0)):=Lm;clear Hb b0 b1 b2 b3;obtain⟨b0,b1,b2,b3⟩:=cP hb;have hr:w4.heap[nb+1+1]?=some (.cells #[.string ⟨#[]⟩,.string ⟨#[]⟩] 51 (0,0)):=Lp;clear Hr r0 r1 r2 r3;obtain⟨r0,r1,r2,r3⟩:=cP hr;revert ha a0 a1 a2 a3 hb b0 b1 b2 b3 hr r0 r1 r2 r3;exact I.o):=h ⟨k⟩
def apy(h:P:=by have Z4:=gj.o _ (am.drew (am.refl _ w7));have oU:True:=trivial;refine I7 (n:=17) (S:=fun W=>W.cell? ⟨g,0,none⟩=some (.int .i64 ln)∧W.cell? ⟨g+4,0,none⟩=some (.slice (some ⟨b,off,none⟩) n c)∧W.cell? ⟨g+4,1,none⟩=some (.int .i64 1)∧W.cell? ⟨g+4,2,none⟩=some (.int .i64 fin)∧W.cell? ⟨g+4,3,none⟩=some (.int .i64 0)∧W.cell? ⟨g+1,0,none⟩=some (.slice (some ⟨pb,0,none⟩) pn pc)∧W.cell? ⟨pb,m*8,none⟩=some (.string nm)∧W.cell? ⟨pb,m*8+1,none⟩=some (.int .i64 li)∧W.cell? ⟨pb,m*8+2,none⟩=some (.slice b2 m2 d2)∧W.cell? ⟨pb,m*8+3,none⟩=some (.slice b3 m3 d3)∧W.cell? ⟨pb,m*8+4,none⟩=some (.slice b4 m4 d4)∧W.cell? ⟨pb,m*8+5,none⟩=some (.slice b5 m5 d5)∧W.cell? ⟨pb,m*8+6,none⟩=some (.slice b6 m6 d6)∧W.cell? ⟨pb,m*8+7,none⟩=some (.slice b7 m7 d7)) aA rfl (by exact Z4) (fun ops hops=>?_);exact azj):=h
def apz(h:P:=by
 have aCc:(Builtin.unsafeSliceData_ #[57] 108 #[.slice (some ⟨g,0,none⟩) l.length cap]).run prog w.drew=.ok (.pointer (some ⟨g,0,none⟩)) w.drew :=
  Lib.run_unsafeSliceData_row _ _ _ _ _ _ Z
 have aCd:(Builtin.unsafeString_ #[108,3] 9 #[.pointer (some ⟨g,0,none⟩),.int .i64 l.length]).run prog w.drew=.ok (.string ⟨l.toArray⟩) (w.drew.freeze ⟨g,0,none⟩ l.length):=by refine Lib.run_unsafeString_row w.drew 108 3 9 5 underlying108 bld_cells g cur.size (by have axm:w.drew.heap[g]?=some (.cells cur 5 (0,0)):=hg;simp[World.shape?,axm]) l h0 Z avp ?_;intro j x hx;have:=dG.cells (g:=g) rfl j (.int .u8 x.toNat) (by simp[Lib.byteCells,hx]);exact this
 have aFb:l.length≤9223372036854775807:=avp;revert h jM dG bL hg pC PT;refine eb ?_;intro Hh qq cZ cJ Hg IG aDp;go_enter func18,ntmps18;go_wp2_with fail;go_region
 all_goals
  go_wp2_with fail
  go_ret;exact⟨rfl,Lib.below_freeze (dA (aL B w)) (p:=⟨g,0,none⟩) Tl _⟩):=h
def aqa(h:P:=by
 refine oz hops 13 fun K hK=>?_;go_simp;obtain⟨k1,il⟩:=Y gB.heap.size;obtain⟨uy,hu⟩:=Y (gB.alloc (.cells #[.string ⟨#[]⟩,.int .i64 0,.slice none 0 0,.slice none 0 0,.slice none 0 0,.slice none 0 0,.slice none 0 0,.slice none 0 0] 45));have b9:Below gB.heap.size gB uy:=D8;have dD:uy.heap[k1]?=some (.cells #[.string ⟨#[]⟩,.int .i64 0,.slice none 0 0,.slice none 0 0,.slice none 0 0,.slice none 0 0,.slice none 0 0,.slice none 0 0] 45 (0,0)):=T8;have xP:w7.heap.size≤k1:=(by rw[il];exact qk.o.1.size);have cc:=G b9 dZ.o;have bL:k1≠k2:=acr;have pz:=qk.o.alloc (.cells #[.string ⟨#[]⟩,.int .i64 0,.slice none 0 0,.slice none 0 0,.slice none 0 0,.slice none 0 0,.slice none 0 0,.slice none 0 0] 45);rw[←hu,←il]at pz;clear aV;have aV:=gj.o _ pz.1;rw[←hu];clear hu;revert b9 dD xP cc bL pz;refine bX ?_;intro gk dv xL dZ cJ Lg;revert K hK;refine pj ?_;try rw[←il]
 clear il;exact Wl):=h
def aqb(h:P:=by
 have nN:=J ns.o 0;have nM:=J ns.o 1;have rQ:=aG ns.o 0;have rR:=aG ns.o 1;simp only[aq,ar,aw]at nN nM;refine oz hops 11 fun K hK=>?_;go_simp;obtain⟨uy,hu⟩:=Y ((gB.setCell ⟨k6,0,none⟩ (.slice v.b1 v.n1 v.c1)).setCell ⟨k6,1,none⟩ (.slice v.b2 v.n2 v.c2));have xD:am (fun z=>z=k6) gB uy:=(by rw[hu];exact aN (aN (am.refl _ _) 0 _) 1 _);have kj:uy.heap[k6]?=some (.cells #[.slice v.b1 v.n1 v.c1,.slice v.b2 v.n2 v.c2] 25 (0,0)):=(by rw[hu];exact ag _ k6 1 _ _ _ (ag _ k6 0 _ _ _ ns.o));have pz:=qk.o.store (k:=k6) ae UY.o UZ.o ns.o D xD;rw[←hu];clear hu aV nN nM rQ rR;have aV:=gj.o _ pz.1 pz.2.1;obtain⟨awr,ns,Lg⟩:=aQ xD kj pz;clear xD kj pz;refine hK.out _ _ aV (fun hHeld=>?_);clear hHeld hK K;refine iN ?_;refine oz hops 12 fun K hK=>?_;go_simp;refine hK.out _ _ aV (fun hHeld=>?_);clear hHeld hK K;refine iN ?_;refine Pr hops aA ?_;go_simp;clear aV;go_wp2_with fail;go_meet
 exact⟨k6,v,rfl,rfl,ns.o,UY.o,UZ.o,Lg.o⟩):=h
def aqc(h:P:=by
 simp only[aq,ar,aw]at T3;clear x0 x1 x2 px;revert ca hsm jN ack;refine bV ?_;intro d_ nW jH axr
 cases r with
 |true=>exact aly
 |false=>
  go_wp2_with fail
  refine axr.o.mono ?_;rintro e cH ⟨⟨r,rfl,act⟩,lX⟩;have Eu:=jH.o.trans (lX.mono jH.o.size);obtain⟨aBy,Ug,G7⟩:=aQ act lX Eu;clear act lX Eu;clear x3 x4 x5 T3
  cases r with
  |true=>
   go_wp2_with fail
   go_ret;exact⟨⟨true,rfl,fun h=>tm⟩,cr.o.trans (G7.o.mono cr.o.size)⟩
  |false=>
   go_wp2_with fail
   go_roundw
   case rel=>
    refine⟨k+1,Z,cj,fun j y hj hy=>?_,G7.o⟩;by_cases e:j=k
    ·subst e;rw[vW.o]at hy;obtain rfl:=nt hy;have h1:=nW.o Iw;have h2:=aBy.o Iw;rw[Qv.o]at h1;rw[QR.o]at h2;exact⟨h1,h2⟩
    exact OL
   case measure=>exact gT):=h
def ON(h:V Q→P:=by
 intro I;by_cases bL:n=n2
 case neg=>
  have k1:((n:Int) !=(n2:Int))=true:=aX;have lN:r=false:=(by rw[Hr.o];exact zkb (by rw[←Hn.o,←fV.o];exact bL));obtain⟨qR,cJ⟩:=ak lN bL;clear lN bL;go_wp2_with fail;go_ret;exact⟨GU,aL _ _⟩
 have k1:((n:Int) !=(n2:Int))=false:=aX;have cJ:=O bL;clear bL;revert k1 cJ;exact I.o):=h ⟨k⟩
def aqd(h:P:=by
 go_upto_region 6 with (fail)
 obtain⟨w3,hv⟩:=Y (w2.setCell ⟨go,1,none⟩ (.string hj));have aM:Below w0.heap.size w0 w3:=auq;revert a0 a1 a2 a3 b0 b1 b2 b3 Ha Hb;refine VT ?_;intro ha a0 a1 a2 a3 hb b0 b1 b2 b3 hr;clear Hr r0 r1 r2 r3;obtain⟨r0,r1,r2,r3⟩:=cP hr;have ho:w3.heap[go]?=some (.cells #[.string lo,.string hj] 51 (0,0)):=tL;exact ajp):=h
def aqe(h:P:=by
 go_upto_region 8 with (fail)
 revert a0 a1 a2 a3 b0 b1 b2 b3 Ha Hb;refine aie ?_;intro w6 hv cX ha a0 a1 a2 a3 hb b0 b1 b2 b3 hr;clear Hr r0 r1 r2 r3;obtain⟨r0,r1,r2,r3⟩:=cP hr;have ho:w6.heap[go]?=some (.cells #[.string lp,.string hj] 51 (0,0)):=tL;revert o0 o1 o2 o3 Ho hv;refine pV ?_;intro o0 o1 o2 o3;revert cX ha hb hr ho;refine bU ?_;intro je Ha Hb Hr Ho;refine Xv ?_;intro hZ s hs;exact Wt):=h
def aqf(h:P:=by
 have pt:=Lk gC.o.wds cz fM.o 1 bt;have lQ:=O pt;clear pt;refine aoh ?_;intro wz j3 da pJ gV df hHeld K hK;obtain⟨⟨bF,bG,bH,bD⟩,cC,cD,cB,cF⟩:=a8 df.o.pb;go_simp;have mV:=df.o.abn (j':=j3) (bad':=da) bZ wC.o;clear bF bG bH bD cC cD cB cF;obtain⟨w3,ea⟩:=Y (((((wz.setCell ⟨g+4,0,none⟩ (.slice (some ⟨b,off,none⟩) n c)).setCell ⟨g+4,1,none⟩ (.int .i64 j3)).setCell ⟨g+4,2,none⟩ (.int .i64 fin)).setCell ⟨g+4,3,none⟩ (.int .i64 da)));rw[←ea]at mV⊢;clear ea;have cN:=O mV;clear mV;revert K hK;refine qK ?_;intro hHeld;refine lq ?_;go_wp2_with fail;go_meet
 exact⟨j3,da,cN.o,(by rw[←qH.o];exact pJ.o)⟩):=h
def R5(h:V Q→P:=by
 intro I;obtain⟨W0,bw⟩:=Y (w.alloc (.cells #[.string lo,.string hi] 51));refine RZ ?_;intro nb ck hw;have de:∀W,Below W0.heap.size W0 W→W.cell? ⟨nb,0,none⟩=some (.string lo)∧W.cell? ⟨nb,1,none⟩=some (.string hi):=(by rw[bw,ck];exact zt5 _ _ _);obtain⟨c0,c1⟩:=de W0 (aL _ _);have cM:Below W0.heap.size W0 W0:=aL _ _;revert W0 bw nb ck hw de c0 c1 cM;exact I.o):=h ⟨k⟩
def aqg(h:P:=by go_enter Iu,Iv;go_wp2_with fail;refine HE.o.mono ?_;rintro e w1 ⟨rfl,Cu,Mw,AG,E3,h1⟩;have e4:=J h1.cells 4;simp only[kx,aq,aw,ar]at e4;have Eh:=h1.bm.size;have dB:=dM h1.word h1.cells D;have aCh:=h1.word;have Lq:s.word.length≤m:=Hs.o.word;revert h1 dB aCh;refine fo ?_;intro H1 gD How;go_wp2_with (at_builtin;refine PR zwp (w:=w1) rfl (.tmp 16) (.tmp 18) rfl w0.heap.size Cu s.word.length (Fm s.word) rfl How.o 1 D #[.int .u8 n] rfl rfl dW Z cY Eh ?_);intro g8 c8 w8 lu iG qU;have GI:=bI H1.o.cells ((am.refl _ w1).grown iG (S:=fun k=>Cu.ownBlock=some k) (fun k hk=>.inr hk)) gD.o;have k4:=J GI 4;have f4:=aG GI 4;simp only[kx,aq,aw,ar]at k4;have hP:=H1.o.pushByte c (by rw[←Hn.o];exact lu) iG;have HP:=O hP;clear hP;clear lu iG qU GI;go_wp2_with fail;go_ret;exact Aw HP.o MC MC):=h
def aqh(h:P:=by
 go_upto_region 1 with (fail)
 refine iE ?_;clear aK hg;go_wp2_with fail;refine HS.o.mono ?_;rintro e w2 ⟨rfl,af⟩;have cR:=aB.o.trans (af.mono aB.o.size);clear x0 x1 x2 y0 y1 y2
 cases bn with
 |false=>exact aml
 |true=>
  have x3:=J (G af dR.o) 3;have x4:=J (G af dR.o) 4;have x5:=J (G af dR.o) 5;have y3:=J (G af fG.o) 3;have y4:=J (G af fG.o) 4;have y5:=J (G af fG.o) 5;simp only[aq,ar,aw]at x3 x4 x5 y3 y4 y5;have vL:=HT.o _ cR;obtain⟨bh,eI,Ep⟩:=aQ af cR vL;clear af cR vL;go_wp2_with fail;refine Ep.o.mono ?_;exact aii):=h
def XK(h:P:=by
 have hM:=Pm uA.o;rw[be e8]at hM;have HM:=O hM;clear hM;go_wp2_with fail;refine mU ?_;rintro e u1 ⟨rfl,q5,rfl⟩;have aW:=dU (aL W9.heap.size W9) q5;generalize W9.drewN q5=u1 at aW⊢;have hY:=Ej u1 r;obtain⟨cQ,HY⟩:=ak aW hY;clear aW hY;go_wp2_with fail;refine HY.o.mono ?_;rintro e u2 ⟨rfl,uI⟩;subst uI;go_wp2_with fail;go_end0
 exact axv (Cc.o e8) Pc.o kJ.o Zz.o cQ.o rfl):=h
def td(h:P:=by
 go_wp2_with fail
 go_ret;exact⟨⟨true,rfl,fun h=>tm⟩,cr.o⟩):=h
def aqi(h:V Q→P:=by
 intro I L;refine We ?_;intro m2 jP m3 qV m4 pK m5 yH m6 yN m7 iJ;rw[←jP,←qV,←pK,←yH,←yN,←iJ]at L;clear jP qV pK yH yN iJ;obtain⟨nm,zP⟩:=mq p.name;obtain⟨li,K8⟩:=mq p.line;have MS:Ln6 w t g B (some ⟨b,off,none⟩) n c ln fin ws 1 0 t1 (.slice (some ⟨pb,0,none⟩) (ps.length+1) pc) (.slice fa fn fc) x w7:=by rw[←Ma];exact iF.o
 have oA:pb<w7.heap.size:=(L.row.lt pb rfl).2;have re:t1 pb=1:=L.tag pb rfl;have hL:eW w7 t1 B (.slice (some ⟨pb,0,none⟩) (ps.length+1) pc) ps p bN (.slice b2 m2 d2) (.slice b3 m3 d3) (.slice b4 m4 d4) (.slice b5 m5 d5) (.slice b6 m6 d6) (.slice b7 m7 d7):=by have e2:=L;rw[Ma]at e2;exact e2
 have MY:=L.last;have M9:z9 p:=tJ.o.2 p (by rw[yI];simp);have MQ:B≤w7.heap.size:=fu mH.o (fu (jg HG.o) iF.o.gc.size);have MX:pb<w7.heap.size:=oA;revert m2 m3 m4 m5 m6 m7 L nm zP li K8 MS oA re hL MY M9 MQ MX;exact I.o):=h ⟨k⟩
def aqj(h:P:=by
 go_upto_region 1 with (fail)
 refine iE ?_;clear aK hg
 cases bn with
 |false=>
  go_wp2_with fail
  go_ret;exact⟨mu Va,aB.o⟩
 |true=>
  cases bs with
  |false=>
   go_wp2_with fail
   refine HS.o.mono ?_;rintro e w2 ⟨rfl,q,rfl⟩;go_wp2_with fail;go_ret;exact⟨mu Va,dU aB.o q⟩
  |true=>
   go_wp2_with fail
   refine HS.o.mono ?_;rintro e w2 ⟨rfl,q,rfl⟩;have rO:Below W1.heap.size W1 (W1.drewN q):=dU (aL _ _) q;have vL:=HT.o _ rO;obtain⟨x3,x4,x5,-⟩:=cT (G rO dR.o);obtain⟨y3,y4,y5,-⟩:=cT (G rO fG.o);rw[←fV.o]at x5;rw[←Hn4.o]at y5;obtain⟨Ep,ee⟩:=ak vL rO;clear vL rO;go_wp2_with fail;refine Ep.o.mono ?_;rintro e w2 ⟨rfl,q2,rfl⟩;go_wp2_with fail;go_ret;exact⟨mu Va,dU aB.o _⟩):=h
def XL(h:V Q→P:=by
 intro I;obtain⟨w7,gL⟩:=Y (((((w6.setCell ⟨g+4,0,none⟩ (.slice (some ⟨b,off,none⟩) n c)).setCell ⟨g+4,1,none⟩ (.int .i64 1)).setCell ⟨g+4,2,none⟩ (.int .i64 fin)).setCell ⟨g+4,3,none⟩ (.int .i64 0)));have TW:Ln6 w t g B (some ⟨b,off,none⟩) n c ln fin ws 1 0 t1 (.slice pa pn pc) (.slice fa fn fc) x w7:=(by rw[gL];exact D5.o.abn (j':=1) (bad':=0) bZ wC.o);rw[←gL];clear gL;have b_:=J TW.rc.box 0;simp only[aq,ar,aw]at b_;have iF:=O TW;clear TW;revert w7 b_ iF;exact I.o):=h ⟨k⟩
def aqk(h:V Q→P:=by
 intro I;refine Wg ?_;intro pT l_ pU ma sZ mK uq oQ s8 nB s9 nD;have E0:=zjk (nm:=pT) (bz jm _ _ _ _ nr aF) (bz kR _ _ _ _ uS aF);have E6:=fun(W:World)(k:Below W0.heap.size W0 W)=>zjk (nm:=uq) (bz jm _ _ _ _ uT k) (bz kR _ _ _ _ uU k);have gX:∀W,Below W0.heap.size W0 W→W.cell? ⟨b,off+k*7+3,none⟩=some (.string x.2.1.1)∧W.cell? ⟨b,off+k*7+4,none⟩=some (.slice CS x.2.1.2.1.length wL)∧W.cell? ⟨b,off+k*7+5,none⟩=some (.slice CT x.2.1.2.2.length wM):=fun W hW=>⟨ab hW x3,ab hW x4,ab hW x5⟩;have x0:=ab aF x0;have x1:=ab aF x1;have x2:=ab aF x2;rw[l_]at E0;simp only[oQ]at E6;have fA:∀r,(r=false→tQ (x.1.1,x.1.2.1,x.1.2.2))→r=false→tQ x.1:=fun _ h=>h;simp only[←l_,←ma,←mK]at E0;rw[←l_]at x0;rw[←ma]at x1;rw[←mK]at x2;simp only[←oQ,←nB,←nD]at E6 gX;revert pT l_ pU ma sZ mK uq oQ s8 nB s9 nD x0 x1 x2 fA E0 E6 gX;exact I.o):=h ⟨k⟩
def R6(h:V Q→P:=by
 intro I q0 q1 hy;rw[←hy]at q0 q1;obtain⟨y0,gm⟩:=Y (f0 y);rw[←gm]at q0;obtain⟨y1,dX⟩:=Y (f1 y);rw[←dX]at q1;have lf:∀bP,Below wr.heap.size wr bP→Calls prog g (#[.agg #[.string (x0),.string (x1)],.agg #[.string (y0),.string (y1)]]++cb) bP fun e w'=>e=.returned (.int .i64 (cf x y))∧Below bP.heap.size bP w':=fun bP hV=>(by rw[dt,gm,dB,dX];exact C bP (aax.SRW.below S hV).gc x y)
 revert hy y0 q0 gm y1 q1 dX lf;exact I.o):=h ⟨k⟩
def zM(h:V Q→P:=by
 intro I K hK;obtain⟨⟨bF,bG,bH,bD⟩,-⟩:=a8 qO.o.pb;revert K hK;refine gS ?_;intro hHeld;clear bF bG bH bD;revert hHeld;exact I.o):=h ⟨k⟩
def OO(h:P:=by
 obtain rfl:n=k:=Z;have lN:r=true:=by rw[Hr.o];exact abt ZQ (fun j h1 h2=>aj j h1 h2 gl)
 revert aF aj lN;refine fo ?_;intro bO cd qR;go_wp2_with fail;go_ret;exact⟨GU,bO.o⟩):=h
def aqm(h:P:=by
 go_wp2_with (at_builtin;refine PR acv rfl (.tmp 80) (.tmp 88) rfl w.heap.size (.slice va st.out.length vc) st.out.length (st.out.flatMap mF) rfl cZ.o 1 D #[.int .i64 ((k:Int)+1),.string (s.extract k q)] rfl rfl dW Z cY hB ?_)
 intro g8 c8 w8 lu iG qU;have eD:=iX DS.o cZ.o (aE _) iG hB;have ZT:w8.ownsRow w.heap.size 81 2 (.slice (some ⟨g8,0,none⟩) (st.out.length+1) c8) (ac.iu t st k c).out.length ((ac.iu t st k c).out.flatMap mF):=by rw[cd.o,bM,rm];simp only[oR,Qy,h_,mF,Hw.o];exact lu
 obtain⟨si,ayb⟩:=ak eD ZT;clear eD ZT;clear lu iG qU;go_wp2_with fail;go_roundw
 case rel=>exact⟨k+1,Z,cj,ac.iu t st k c,aah,(by rw[Au.o]),ayb.o,(by rw[cd.o,bM];simp;omega),si.o⟩
 case measure=>simp[intOf];omega):=h
def aqn(h:P:=by
 go_wp2_with fail
 first
  |go_region_with (first|(go_at_call 103;refine (HP.o _ od).mono ?_;rintro e wz ⟨rfl,a_⟩;replace H:=H.trans (a_.mono H.size);obtain⟨⟨q0,q1⟩,q2,q3,q4,q5⟩:=BC.o _ H;replace di:=BC.o _ H)|(go_at_call 106;refine (HT.o _ od).mono ?_;rintro e wz ⟨rfl,a_⟩;replace H:=H.trans (a_.mono H.size);obtain⟨⟨q0,q1⟩,q2,q3,q4,q5⟩:=BC.o _ H;replace di:=BC.o _ H))
  |fail "the region"
 all_goals
  exact aft):=h
def OP(h:V Q→P:=by
 intro I hR qm hf h hm;obtain⟨-,hz,g1⟩:=ZY h;obtain⟨-,cc,g2⟩:=ZY hm;obtain⟨n,hn⟩:=Y l.length;obtain⟨n2,cS⟩:=Y m.length;obtain⟨r,hr⟩:=Y (q_ g l m);rw[←hr];rw[←hn]at hz h⊢;rw[←cS]at cc hm⊢;revert hR qm hf g1 g2 h hn hm cS hr;refine dE ?_;intro HR qI Hf sq lB Hh Hn Hm fV Hr;revert n hz n2 cc r HR qI Hf sq lB Hh Hn Hm fV Hr;exact I.o):=h ⟨k⟩
def R7(h:V Q→P:=by
 intro I K hK;go_simp;refine Lx.o.mono ?_;rintro e wt ⟨he,hwt⟩;obtain⟨bt,BH⟩:=Y (eL s);have he:e=.returned (.bool bt):=T7;subst he;have fP:Below wd.heap.size wd wt:=aag;clear hwt;obtain⟨qH,ki⟩:=ak BH fP;clear BH fP;revert K hK;refine j_ ?_;intro hHeld;have pY:=qO.o.to ki.o;have gC:=O pY;clear pY;revert wt bt he qH ki hHeld gC;exact I.o):=h ⟨k⟩
def aqo(h:P:=by
 refine oz hops 14 fun K hK=>?_;go_simp;obtain⟨k2,eE⟩:=Y gB.heap.size;obtain⟨uy,hu⟩:=Y (gB.alloc (.cells #[.slice none 0 0,.int .i64 0,.int .i64 0,.int .i64 0] 150));have b9:Below gB.heap.size gB uy:=D8;have cc:uy.heap[k2]?=some (.cells #[.slice none 0 0,.int .i64 0,.int .i64 0,.int .i64 0] 150 (0,0)):=T9;have xQ:w7.heap.size≤k2:=(by rw[eE];exact qk.o.1.size);have dD:=G b9 dv.o;have bL:k1≠k2:=acq;have pz:=qk.o.alloc (.cells #[.slice none 0 0,.int .i64 0,.int .i64 0,.int .i64 0] 150);rw[←hu,←eE]at pz;clear aV;have aV:=gj.o _ pz.1;rw[←hu];clear hu;revert b9 cc xQ dD bL pz;refine bX ?_;intro gk dZ xM dv cJ Lg;revert K hK;refine pj ?_;try rw[←eE]
 clear eE;exact Wl):=h
def R8(h:V Q→P:=by
 intro I;by_cases bL:n=n2
 case neg=>
  have k1:((n:Int) !=(n2:Int))=true:=aX;have hf:r=false:=(by rw[Hr.o,pQ];intro e;exact bL (by rw[Hn.o,fV.o,e]));obtain⟨Hf,cJ⟩:=ak hf bL;clear hf bL;go_wp2_with fail;go_ret;exact⟨mu Hf.o.symm,0,rfl⟩
 have k1:((n:Int) !=(n2:Int))=false:=aX;have cJ:=O bL;clear bL;revert k1 cJ;exact I.o):=h ⟨k⟩
def aqp(h:V Q→P:=by
 intro I;refine afn ?_;intro W1 aK g hg;have ai:Below w.heap.size w W1:=LF;have jQ:W1.heap[g]?=some (.cells #[.string nm,.int .i64 li,.slice b2 n2 c2,.slice b3 n3 c3,.slice b4 n4 c4,.slice b5 n5 c5,.slice b6 n6 c6,.slice b7 n7 c7] 45 (0,0)):=yz;have eA:W1.heap[g+1]?=some (.cells #[.string nm2,.int .i64 li2,.slice d2 m2 e2,.slice d3 m3 e3,.slice d4 m4 e4,.slice d5 m5 e5,.slice d6 m6 e6,.slice d7 m7 e7] 45 (0,0)):=yq;have f_:=hp.below ai;have eF:=hq.below ai;revert W1 aK g hg ai jQ eA f_ eF;exact I.o):=h ⟨k⟩
def aqq(h:V Q→P:=by
 intro I;obtain⟨cH,et⟩:=Y (((((w9.setCell ⟨g+1,3,none⟩ (.slice a9 (m3+1) c9)).setCell ⟨g,0,none⟩ (.slice a n c)).setCell ⟨g,1,none⟩ (.int .i64 j5)).setCell ⟨g,2,none⟩ (.int .i64 fin)).setCell ⟨g,3,none⟩ (.int .i64 cG));have oK:cH.heap[g+1]?=some (.cells #[.string nm,.int .i64 li,.slice b2 m2 d2,.slice a9 (m3+1) c9,.slice b4 m4 d4,.slice b5 m5 d5,.slice b6 m6 d6,.slice b7 m7 d7] 45 (0,0)):=(by rw[et];exact ah (b:=g) (i:=3) (u:=.int .i64 cG) (ah (b:=g) (i:=2) (u:=.int .i64 fin) (ah (b:=g) (i:=1) (u:=.int .i64 j5) (ah (b:=g) (i:=0) (u:=.slice a n c) (ag w9 (g+1) 3 _ _ (.slice a9 (m3+1) c9) Hxb9.o) (by omega)) (by omega)) (by omega)) (by omega));have oJ:es g a n c j5 fin cG cH:=(by rw[et];exact abe (ah (b:=g+1) (i:=3) (u:=.slice a9 (m3+1) c9) IL.o (by omega)));have nh:cH.heap[g+2]?=some (.cells #[.string ⟨#[]⟩,.int .i64 0,.slice none 0 0,.slice none 0 0,.slice none 0 0,.slice none 0 0,.slice none 0 0,.slice none 0 0] 45 (0,0)):=(by rw[et];exact ah (b:=g) (i:=3) (u:=.int .i64 cG) (ah (b:=g) (i:=2) (u:=.int .i64 fin) (ah (b:=g) (i:=1) (u:=.int .i64 j5) (ah (b:=g) (i:=0) (u:=.slice a n c) (ah (b:=g+1) (i:=3) (u:=.slice a9 (m3+1) c9) (lY) (by omega)) (by omega)) (by omega)) (by omega)) (by omega));have ng:es (g+3) none 0 0 0 0 0 cH:=(by rw[et];exact ah (b:=g) (i:=3) (u:=.int .i64 cG) (ah (b:=g) (i:=2) (u:=.int .i64 fin) (ah (b:=g) (i:=1) (u:=.int .i64 j5) (ah (b:=g) (i:=0) (u:=.slice a n c) (ah (b:=g+1) (i:=3) (u:=.slice a9 (m3+1) c9) (lZ) (by omega)) (by omega)) (by omega)) (by omega)) (by omega));have ep:am (fun z=>z=g+1∨z=g) w9 cH:=(by rw[et];exact (((((am.refl (fun z=>z=g+1∨z=g) w9).setCell (p:=⟨g+1,3,none⟩) (.inr (.inl rfl)) _).setCell (p:=⟨g,0,none⟩) (.inr (.inr rfl)) _).setCell (p:=⟨g,1,none⟩) (.inr (.inr rfl)) _).setCell (p:=⟨g,2,none⟩) (.inr (.inr rfl)) _).setCell (p:=⟨g,3,none⟩) (.inr (.inr rfl)) _);rw[←et];clear et;revert cH oK oJ nh ng ep;exact I.o):=h ⟨k⟩
def Ri(h:P:=by rintro e w1 ⟨rfl,ai⟩;have aB:=O ai;clear ai;exact RQ):=h
def iN(h:V Q→P:=by
 intro I;try simp only[Act.put,zT,zU,zV]
 exact I.o):=h ⟨k⟩
def Oq(h:V Q→P:=by
 intro I;have pN:am (fun k=>Live (t k)∧¬Ty w k) w WF:=(am.ce cN.o.bm).trans rf fun z hz hk=>by
  rcases hk with h|⟨h,rY⟩
  ·exact absurd hz ZB
  rw[aR hz]at h;rw[h];exact⟨⟨Z,Z⟩,rY⟩
 revert pN;exact I.o):=h ⟨k⟩
def VG(h:P:=by
 go_wp2_with fail
 go_round
 case rel=>exact⟨k+1,Z,cj,qQ.o⟩
 case measure=>simp[intOf];omega):=h
def Rj(h:P:=by
 obtain rfl:n=k:=Z;have hf:r=true:=by rw[Hr.o,fE];exact Ia ZQ (fun j h1 h2=>aj j h1 h2 gl)
 obtain⟨cd,Hf⟩:=ak aj hf;clear aj hf;exact V9):=h
def adm(h:P:=by
 go_wp2_with (at_builtin;(refine PR zwo rfl (.tmp 26) (.tmp 31) rfl w.heap.size (.slice a m cap) m (strL done) rfl cZ.o 1 D #[.string (s.extract f k)] rfl rfl (Cq.o _) g1 g2 g3 ?_;intro g8 c8 w8 lu iG qU;have eD:=iX eI.o cZ.o (aE _) iG eI.o.size;obtain⟨EG,si⟩:=ak lu eD;clear lu eD iG qU))
 go_roundw
 case rel=>refine⟨k+1,k+1,done++[(l.take k).drop f],_,_,m+1,dV.o,Z,(by rw[bM,rD,←Hm.o]),cj,cj,rfl,?_,si.o⟩;have h:=EG.o;rw[QN.o]at h;rw[show strL (done++[(l.take k).drop f])=strL done++[.string ⟨((l.take k).drop f).toArray⟩] by simp[strL]];exact h
 case measure=>exact gT):=h
def vH(h:V Q→P:=by
 intro I;have oU:True:=trivial;refine xZ (S:=fun _=>True) aA trivial (fun hHeld=>?_);revert oU hHeld;exact I.o):=h ⟨k⟩
def Bj(h:V Q→P:=by
 intro I a0 a1 a2 a3 b0 b1 b2 b3 r0 r1 r2 r3 Ha Hb Hr;have ha:=G hs Ha.o;clear Ha a0 a1 a2 a3;obtain⟨a0,a1,a2,a3⟩:=cP ha;have hb:=G hs Hb.o;clear Hb b0 b1 b2 b3;obtain⟨b0,b1,b2,b3⟩:=cP hb;have hr:=G hs Hr.o;clear Hr r0 r1 r2 r3;obtain⟨r0,r1,r2,r3⟩:=cP hr;revert ha a0 a1 a2 a3 hb b0 b1 b2 b3 hr r0 r1 r2 r3;exact I.o):=h ⟨k⟩
def zG(h:V Q→P:=by
 intro I;refine aCo rfl rfl (GC _ _ Hr.o) rfl ?_;exact I.o):=h ⟨k⟩
def adn(h:V Q→P:=by
 intro I d0 d1 d2 d3 d4 d5 bJ a_;have aK:=fun(W:World)(hb:Below wr.heap.size wr W)=>zi8 (nm:=s.1) (bz jm _ _ _ _ t1 (cR.trans (hb.mono cR.size))) (bz kR _ _ _ _ t2 (cR.trans (hb.mono cR.size))) S1;have eh:=fun(W:World)(hb:Below wr.heap.size wr W)=>zi8 (nm:=c.1) (bz jm _ _ _ _ t3 (cR.trans (hb.mono cR.size))) (bz kR _ _ _ _ t4 (cR.trans (hb.mono cR.size))) S2;obtain⟨q1,sf⟩:=Y s.2.1.length;obtain⟨q2,mX⟩:=Y s.2.2.length;obtain⟨q3,BP⟩:=Y c.2.1.length;obtain⟨q4,Ce⟩:=Y c.2.2.length;simp only[←sf]at d1 aK;simp only[←mX]at d2 aK;simp only[←BP]at d4 eh;simp only[←Ce]at d5 eh;have oE:((s.1,s.2.1,s.2.2):dj)=s:=rfl;have jj:((c.1,c.2.1,c.2.2):dj)=c:=rfl;simp only[oE]at aK;simp only[jj]at eh;obtain⟨sn,BM⟩:=Y s.1;obtain⟨cn,kL⟩:=Y c.1;simp only[←BM]at aK d0;simp only[←kL]at eh d3;obtain⟨u1,Ct⟩:=Y (k_ s);obtain⟨u2,uI⟩:=Y (k_ c);simp only[←Ct]at aK bJ a_;simp only[←uI]at eh bJ a_;clear oE jj;revert q1 sf q2 mX q3 BP q4 Ce d1 d2 d4 d5 sn BM cn kL d0 d3 u1 Ct u2 uI aK eh bJ a_;exact I.o):=h ⟨k⟩
def ado(h:V Q→P:=by
 intro I hx t1 t2 t3 t4 d0 d1 d2 d3 d4 d5 aU rV;obtain⟨⟨l1,S1⟩,l2,S2⟩:=rV;obtain⟨q1,sf⟩:=Y s.2.1.length;obtain⟨q2,mX⟩:=Y s.2.2.length;obtain⟨q3,BP⟩:=Y c.2.1.length;obtain⟨q4,Ce⟩:=Y c.2.2.length;rw[←sf]at d1 t1;rw[←mX]at d2 t2;rw[←BP]at d4 t3;rw[←Ce]at d5 t4;have aK:=fun(W:World)(hb:Below wr.heap.size wr W)=>zoe S1 (bz jm _ _ _ _ t1 (hS.bm.trans (hb.mono hS.bm.size))) (bz kR _ _ _ _ t2 (hS.bm.trans (hb.mono hS.bm.size))) (HD.o.below (hS.bm.trans (hb.mono hS.bm.size)));have eh:=fun(W:World)(hb:Below wr.heap.size wr W)=>zoe S2 (bz jm _ _ _ _ t3 (hS.bm.trans (hb.mono hS.bm.size))) (bz kR _ _ _ _ t4 (hS.bm.trans (hb.mono hS.bm.size))) (HD.o.below (hS.bm.trans (hb.mono hS.bm.size)));obtain⟨sw,hsw⟩:=Y (cI s);obtain⟨cw,hcw⟩:=Y (cI c);simp only[←hsw]at aK;simp only[←hcw]at eh;obtain⟨sn,BM⟩:=Y s.1;obtain⟨cn,kL⟩:=Y c.1;simp only[←BM]at aK d0;simp only[←kL]at eh d3;revert hx aU S1 S2 t1 sf t2 mX t3 BP t4 Ce hsw hcw BM kL aK eh;refine OS ?_;intro Hx fS nX uW iT qY Ht2 vQ Qu Ql Ht4 DM Hsw Gd Uv mE C0 LQ;revert l1 l2 q1 d1 q2 d2 q3 d4 q4 d5 sw cw sn cn d0 d3 Hx fS nX uW iT qY Ht2 vQ Qu Ql Ht4 DM Hsw Gd Uv mE C0 LQ;exact I.o):=h ⟨k⟩
def adp(h:P:=by
 go_upto_region 8 with (fail)
 refine Xk ?_;intro w5 hv aW;revert a0 a1 a2 a3 b0 b1 b2 b3 r0 r1 r2 r3 Ha Hb Hr;refine KO ?_;intro ha a0 a1 a2 a3 hb b0 b1 b2 b3 hr r0 r1 r2 r3;have ho:w5.heap[go]?=some (.cells #[.string lo,.string hj] 51 (0,0)):=tL;revert o0 o1 o2 o3 Ho hv;refine pV ?_;intro o0 o1 o2 o3;revert aW ha hb hr ho;refine bU ?_;intro cQ Ha Hb Hr Ho;refine Xy ?_;intro hZ s hs;exact Ov):=h
def Ot(h:V Q→P:=by
 intro I;have fe:∀i,(aD ws i).size≤70000:=fun i=>by
  by_cases h:i<ws.length
  ·rw[Ec h];show (ws[i].2.toArray).size≤_;rw[Ad];exact hz _ (eZ h)
  rw[uJ Z];decide
 revert fe;exact I.o):=h ⟨k⟩
def Ou(h:V Q→P:=by
 intro I ev oB hZ hs;rw[←hs]at hZ;have dz:=ev.o;have DX:=oB.o;simp only[reduceCtorEq,aCw,TB,Zx,lv,aCx,aCy,aCz,axb,TA,TC,Zy,axa,Pq,aDa,aDb,x8,BK,←hs]at dz DX;clear hs ev oB;revert hZ dz DX;refine fo ?_;intro HZ ev oB;revert HZ ev oB;exact I.o):=h ⟨k⟩
def Ks(h:V Q→P:=by
 intro I;have jn:∀k,k<w.heap.size→aJ t w.heap.size 3 k=t k:=fun k hk=>aR hk;have fB:aJ t w.heap.size 3 r=10:=(by rw[aR nV,tr]);have pg:aJ t w.heap.size 3 pb=1:=(by rw[aR (L.row.lt pb rfl).2,L.tag pb rfl]);revert jn fB pg;exact I.o):=h ⟨k⟩
def VI(h:P:=by have awx:=HC.o.want Ii.o;obtain⟨axl,Ee⟩:=ak awx GQ;clear awx GQ;go_wp2_with fail;refine XB ?_;go_wp2_with fail;refine axl.o.mono ?_;rintro e w6 ⟨rfl,q5,rfl⟩;refine cK ?_;exact⟨rfl,.inr ⟨i,Ee.o,rfl⟩,adc.o.drewN q5⟩):=h
def s_(h:V Q→P:=by
 intro I;refine kG ?_;intro k5;have k6:(k:Int)<(n:Int):=Z;revert k5 k6;exact I.o):=h ⟨k⟩
def adq(h:P:=by refine DR ?_;go_wp2_with fail;refine fZ (v:=.tuple #[.slice va st.out.length vc,.int .i64 ((k:Int)+1),.int .i64 4]) UN rfl ?_;exact Xx):=h
def adr(h:P:=by
 exact uY h4 (T:=fun k=>k=hp∨k=hc) (((((((am.refl _ w9).setCell (p:=⟨hc,3,none⟩) (.inr (.inr rfl)) _).setCell (p:=⟨hc,4,none⟩) (.inr (.inr rfl)) _).setCell (p:=⟨hc,5,none⟩) (.inr (.inr rfl)) _).setCell (p:=⟨hp,0,none⟩) (.inr (.inl rfl)) _).setCell (p:=⟨hp,1,none⟩) (.inr (.inl rfl)) _).setCell (p:=⟨hp,2,none⟩) (.inr (.inl rfl)) _ |>.setCell (p:=⟨hp,3,none⟩) (.inr (.inl rfl)) _) fun k _ hk=>by
  rcases hk with h|h
  ·rw[h];exact dF Me.o.pb D
  rw[h];exact dF Me.o.cb D):=h
def ads(h:V Q→P:=by
 intro I;refine Xt ?_;intro af iq eK;have BO:=zi5 (n:=pT) (m:=wO) (bz jm _ _ _ _ nr iq) (bz kR _ _ _ _ uS iq) (bz jm _ _ _ _ rj iq) (bz kR _ _ _ _ CP iq);have vN:=fun(W:World)(k:Below W1.heap.size W1 W)=>zi5 (n:=uq) (m:=I6) (bz jm _ _ _ _ uT k) (bz kR _ _ _ _ uU k) (bz jm _ _ _ _ CQ k) (bz kR _ _ _ _ CR k);rw[l_,wk]at BO;rw[oQ,AA]at vN;obtain⟨s1,eV⟩:=Y (decide ((x.1.1,x.1.2.1,x.1.2.2)=(y.1.1,y.1.2.1,y.1.2.2)));obtain⟨s2,gH⟩:=Y (decide ((x.2.1.1,x.2.1.2.1,x.2.1.2.2)=(y.2.1.1,y.2.1.2.1,y.2.1.2.2)));rw[←eV,←l_,←wk]at BO;rw[←gH,←oQ,←AA]at vN;refine kG ?_;intro k5;revert af iq eK s1 BO eV s2 vN gH k5;exact I.o):=h ⟨k⟩
def Rk(h:P:=by
 refine cK ?_;go_roundw
 case rel=>exact⟨k+1,Z,cj,zmx aI Hx.o HP.o HR.o gD.o vU.o Ea.o Ep.o bO.o d_.o ED.o Hown11.o (by have:=HN8.o;omega)⟩
 case measure=>(simp[RowKit.intOf])<;>omega):=h
def adu(h:P:=by go_enter Qw,Qx;go_wp2_with fail;refine HL.o.mono ?_;refine mT ?_;go_wp2_with fail;refine mU ?_;refine mT ?_;go_wp2_with fail;refine HD.o.mono ?_;refine mT ?_;go_wp2_with fail;go_ret;exact KQ):=h
def j_(h:V Q→P:=by
 intro I K hK;refine cK ?_;revert K hK;refine qK ?_;intro hHeld;revert hHeld;exact I.o):=h ⟨k⟩
def Rl(h:P:=by
 refine agr ?_;intro lQ wz j3 da pJ gV df hHeld K hK w3 cN;revert K hK;refine qK ?_;intro hHeld;refine lq ?_;go_wp2_with fail;go_meet
 exact⟨j3,da,cN.o,(by rw[rA.o,←qH.o];exact pJ.o)⟩):=h
def adv(h:V Q→P:=by
 intro I aV Bi dI;generalize wr.drew=wd at aV Bi dI⊢;refine ale ?_;refine lr hops 7 ?_;refine lr hops 8 ?_;refine lr hops 9 ?_;refine lr hops 10 ?_;refine lr hops 11 ?_;refine lr hops 12 ?_;refine lr hops 13 ?_;refine lr hops 14 ?_;refine oz hops 15 fun K hK=>?_;go_simp;refine Bi.o.mono ?_;rintro e w' ⟨rfl,hwe⟩;subst hwe;refine cK ?_;revert K hK;refine pj ?_;refine pr hops 16 ?_;refine pr hops 17 ?_;refine oz hops 18 fun K hK=>?_;go_simp;revert K hK;refine pj ?_;refine Pr hops aA ?_;go_simp;clear aV;revert w' Bi dI;exact I.o):=h ⟨k⟩
def Kt(h:V Q→P:=by
 intro I;refine c_ 0 fun K hK=>?_;obtain⟨⟨bF,bG,bH,bD⟩,-⟩:=a8 gC.o.pb;revert K hK;refine gS ?_;intro hHeld;clear bF bG bH bD;revert hHeld;exact I.o):=h ⟨k⟩
def Rm(h:V Q→P:=by
 intro I;go_enter func141,adk;go_wp2_with fail;refine (HL.o _).mono ?_;refine mT ?_;go_wp2_with fail;refine (HD.o _).mono ?_;refine mT ?_;go_wp2_with fail;go_ret;exact I.o):=h ⟨k⟩
def adw(h:P:=by have zQ:am (fun k=>k=r) w w1:=pD.o.trans bC (fun _ _ h=>h);revert bC aj iv zQ;refine bV ?_;intro iR cd iQ BF;refine cK ?_;exact⟨rfl,G2 iQ.o rfl BF.o⟩):=h
def VJ(h:V Q→P:=by
 intro I d0 d1 f0 f1 cq bQ;obtain⟨x,hx⟩:=Y (l[k]);obtain⟨y,hy⟩:=Y (m[k]);rw[←hx]at d0 d1 cq bQ;rw[←hy]at f0 f1 cq bQ;have q2:=qY.o x.1 x.2 y.1 y.2;have jK:(decide (x.1=y.1)&&decide (x.2=y.2))=decide (x=y):=by rw[Cs];simp[Il]
 rw[jK]at q2;refine DQ ?_;intro s hs t ht;obtain⟨s',lS⟩:=Y y.1;obtain⟨t',nS⟩:=Y y.2;rw[←hs,←ht,←lS,←nS]at q2;rw[←hs]at d0;rw[←ht]at d1;rw[←lS]at f0;rw[←nS]at f1;revert x hx y bQ cq hy jK s d0 hs t d1 ht s' f0 lS t' f1 q2 nS;exact I.o):=h ⟨k⟩
def VK(h:V Q→P:=by
 intro I;have eV:s1.size≤9000:=hs.1;have gH:s2.size≤9000:=hs.2;obtain⟨W0,bw⟩:=Y (w.alloc (.cells #[.string s1,.string s2] 51));refine RZ ?_;intro nb ck hw;have dt:=G hw hx;have lT:W0.heap[nb]?=some (.cells #[.string s1,.string s2] 51 (0,0)):=avm;have lE:=fh dG hw;have B6:=fL.trans (hw.mono fL.size);revert eV gH W0 bw nb ck hw dt lT lE B6;exact I.o):=h ⟨k⟩
def Rn(h:V Q→P:=by
 intro I;refine Gr ?_;refine bB 4 ?_;refine bB 5 ?_;refine bB 6 ?_;refine bB 7 ?_;refine KV ?_;refine bB 10 ?_;exact I.o):=h ⟨k⟩
def vI(h:P:=by have e:=hr.tag k hk;exact⟨Z,Z,ly hr D hk⟩):=h
def DN(h:V Q→P:=by
 intro I;refine fZ (Tu (g:=g+1) (k:=g+1+1) rfl rfl rfl nP qN xV rfl aA BB rfl aA) rfl ?_;exact I.o):=h ⟨k⟩
def ady(h:P:=by have m3:=m2.setCell (p:=⟨g+1,2,none⟩) (.inr (.inr (.inl rfl))) (.slice sb sm sd);have m4:=m3.setCell (p:=⟨g+1+1,0,none⟩) (.inr (.inr (.inr rfl))) (.slice a n c);have m5:=m4.setCell (p:=⟨g+1+1,1,none⟩) (.inr (.inr (.inr rfl))) (.int .i64 (i':Int));have m6:=m5.setCell (p:=⟨g+1+1,2,none⟩) (.inr (.inr (.inr rfl))) (.int .i64 fin);have m7:=m6.setCell (p:=⟨g+1+1,3,none⟩) (.inr (.inr (.inr rfl))) (.int .i64 bad');rw[fQ];exact m7):=h
def zH(h:V Q→P:=by
 intro I;have nV:r<w.heap.size:=(bS.1 S.box).1;have hn:=C.len;have cz:=C.n1000;have km:=C.low;revert nV hn cz km;exact I.o):=h ⟨k⟩
def adz(h:P:=by
 have aCd:(Builtin.unsafeString_ #[108,3] 9 #[.pointer none,.int .i64 0]).run prog w.drew=.ok (.string .empty) w.drew:=Lib.run_unsafeString_none w.drew _ _ _ none;have aCc:(Builtin.unsafeSliceData_ #[57] 108 #[.slice none 0 0]).run prog w.drew=.ok (.pointer none) w.drew:=rfl;have qq:=O jM;clear jM;go_enter func18,ntmps18;go_wp2_with fail;go_region
 all_goals
  go_wp2_with fail
  go_ret;exact⟨rfl,dA (aL _ w)⟩):=h
def VL(h:V Q→P:=by
 intro I;refine GY.o.mono ?_;rintro e w8 ⟨sb,sm,sd,i',bad',rfl,eH,eD⟩;obtain⟨g10,ve⟩:=Y w8.heap.size;obtain⟨w9,fN⟩:=Y (w8.alloc (.cells #[.slice a n c,.int .i64 i',.int .i64 fin,.int .i64 bad'] 150));have qi:Below w8.heap.size w8 w9:=(by rw[fN];exact aS _ _);have yg:=eD.trans (qi.mono eD.size);have jO:=Qc.o.to yg;have p9:es g10 a n c i' fin bad' w9:=(by rw[fN,ve];exact dq _ _);have QZ:g4<g10:=(by rw[ve];exact (bS.1 (G eD Qc.o.s)).1)
 revert w8 sb sm sd i' bad' eH eD g10 ve w9 fN qi yg jO p9 QZ;exact I.o):=h ⟨k⟩
def zI(h:V Q→P:=by
 intro I;refine OZ rfl rfl rfl (GC _ _ Hr.o) rfl ?_;exact I.o):=h ⟨k⟩
def Gn(h:V Q→P:=by
 intro I a0 a1 a2 a3 b0 b1 b2 b3 r0 r1 r2 r3 o0 o1 o2 o3 Ha Hb Hr Ho;rintro e w4 ⟨rfl,hs⟩;have bA:=bK.o.trans (hs.mono bK.o.size);revert a0 a1 a2 a3 b0 b1 b2 b3 r0 r1 r2 r3 o0 o1 o2 o3 Ha Hb Hr Ho;refine tc ?_;intro ha a0 a1 a2 a3 hb b0 b1 b2 b3 hr r0 r1 r2 r3 ho o0 o1 o2 o3;revert hs bA ha hb hr ho;refine bX ?_;intro Hs dL Ha Hb Hr Ho;revert w4 a0 a1 a2 a3 b0 b1 b2 b3 r0 r1 r2 r3 o0 o1 o2 o3 Hs dL Ha Hb Hr Ho;exact I.o):=h ⟨k⟩
def Bk(h:V Q→P:=by
 intro I;have aY:=hr.row;rw[←cg]at aY;obtain⟨N,hN⟩:=Y css.flatten;rw[←hN]at aY;revert N aY hN;exact I.o):=h ⟨k⟩
def VM(h:V Q→P:=by
 intro I;have hF:am (fun k=>k=g+4) W ((((W.setCell ⟨g+4,0,none⟩ (.slice a n c)).setCell ⟨g+4,1,none⟩ (.int .i64 j')).setCell ⟨g+4,2,none⟩ (.int .i64 fin)).setCell ⟨g+4,3,none⟩ (.int .i64 bad')):=aN (aN (aN (aN (am.refl _ _) _ _) _ _) _ _) _ _;revert hF;exact I.o):=h ⟨k⟩
def aeb(h:V Q→P:=by
 intro I;obtain⟨W1,aK⟩:=Y ((w.alloc (.cells #[.string n,.slice a1 l1.length c1,.slice a2 g1.length c2] 55)).alloc (.cells #[.string m,.slice a3 l2.length c3,.slice a4 g2.length c4] 55));refine KR ?_;intro g hg ai;have p0:dQ g (.string n) (.slice a1 l1.length c1) (.slice a2 g1.length c2) W1:=yz;have p1:dQ (g+1) (.string m) (.slice a3 l2.length c3) (.slice a4 g2.length c4) W1:=yq;have r1:=bz jm _ _ _ _ h1 ai;have r2:=bz kR _ _ _ _ h2 ai;have r3:=bz jm _ _ _ _ h3 ai;have r4:=bz kR _ _ _ _ h4 ai;obtain⟨x0,x1,x2,-⟩:=cT p0;obtain⟨y0,y1,y2,-⟩:=cT p1;obtain⟨r,hr⟩:=Y (decide ((n,l1,g1)=(m,l2,g2)));revert W1 aK g hg ai p0 p1 r1 r2 r3 r4 x0 x1 x2 y0 y1 y2 r hr;exact I.o):=h ⟨k⟩
def aec(h:V Q→P:=by
 intro I;refine lM ?_;intro g hg;obtain⟨W1,aK⟩:=Y (((w.alloc (.cells #[.slice a n c,.int .i64 i,.int .i64 fin,.int .i64 bad] 150)).alloc (.cells #[.string ⟨#[]⟩,.slice none 0 0,.slice none 0 0] 55)).alloc (.cells #[.slice none 0 0,.int .i64 0,.int .i64 0,.int .i64 0] 150));have cM:Below w.heap.size w W1:=(by rw[aK];exact ((aS _ _).alloc (by simp) _).alloc (by simp<;>omega) _);have h0:es g a n c i fin bad W1:=(by rw[aK,hg];exact G ((aS _ _).alloc (by simp) _) (dx rfl));have h1:dQ (g+1) (.string ⟨#[]⟩) (.slice none 0 0) (.slice none 0 0) W1:=(by rw[aK,hg];exact G (aS _ _) (dx (by simp)));have h2:es (g+2) none 0 0 0 0 0 W1:=yq;have eV:W1.heap.size=g+3:=P0;refine ur ?_;intro bZ;have kb:(bad !=0)=true:=Ra;revert g hg W1 aK cM h0 h1 h2 eV bZ kb;exact I.o):=h ⟨k⟩
def aed(h:P:=by have k0:=ag W (g+1) 0 _ _ (.slice a n c) h1;have k1:=ag _ (g+1) 1 _ _ (.int .i64 (i:Int)) k0;have k2:=ag _ (g+1) 2 _ _ (.int .i64 fin) k1;have k3:=ag _ (g+1) 3 _ _ (.int .i64 x) k2;exact⟨k3,(((hb.setCell (p:=⟨g+1,0,none⟩) yA _).setCell (p:=⟨g+1,1,none⟩) yA _).setCell (p:=⟨g+1,2,none⟩) yA _).setCell (p:=⟨g+1,3,none⟩) yA _⟩):=h
def aee(h:P:=by
 have iv:dy line (az ws i) x=none:=by
  rw[fy Z,←lV.o,P6 Hf.o];rcases aj with h|h
  ·rw[mA h];rfl
  by_cases hl:i+1<ws.length
  ·rw[LW hl,E (by rw[←Hs.o,h];simp)];rfl
  rw[mA Z];rfl
 have zQ:am (fun k=>k=r∨t k≤9) w w3:=(pD.o.trans bC (fun _ _ h=>h)).mono fun _ _ h=>Or.inl h;exact akk):=h
def aef(h:V Q→P:=by
 intro I;have hS:=Vo (n:=s1) (m:=t1) (bz jm _ _ _ _ h1 ai) (bz kR _ _ _ _ h2 ai) (bz jm _ _ _ _ k1 ai) (bz kR _ _ _ _ k2 ai);have hT:=fun(W:World)(k:Below w.heap.size w W)=>Vo (n:=s2) (m:=t2) (bz jm _ _ _ _ h3 k) (bz kR _ _ _ _ h4 k) (bz jm _ _ _ _ k3 k) (bz kR _ _ _ _ k4 k);have x0:=J p0 0;have x1:=J p0 1;have x2:=J p0 2;have y0:=J p1 0;have y1:=J p1 1;have y2:=J p1 2;simp only[aq,ar,aw]at x0 x1 x2 y0 y1 y2;obtain⟨bn,fR⟩:=Y (decide ((s1,l1,g1)=(t1,l3,g3)));obtain⟨bs,oF⟩:=Y (decide ((s2,l2,g2)=(t2,l4,g4)));rw[←fR]at hS;rw[←oF]at hT;rw[←fR,←oF];revert x0 x1 x2 y0 y1 y2 bn hS fR bs hT oF;exact I.o):=h ⟨k⟩
def Ku(h:V Q→P:=by
 intro I;refine qJ ?_;rintro e w1 ⟨rfl,q1,rfl⟩;have ai:=dU (aL w.heap.size w) q1;generalize w.drewN q1=w1 at ai⊢;revert q1 w1 ai;exact I.o):=h ⟨k⟩
def DO(h:P:=by
 go_wp2_with fail
 go_ret;exact Gz):=h
def aeg(h:P:=by
 by_cases aM:da=0
 ·subst aM;have Lu:=O D3;clear D3;go_wp2_with fail;refine Lu.o.mono ?_;rintro e w6 ⟨rfl,cX⟩;have yB:=Mk.o.to cX;clear bF bG bH bD;obtain⟨je,Ay⟩:=ak cX yB;clear cX yB;go_wp2_with fail;go_meet
  exact⟨ae,Ay.o⟩
 have kb:(da==0)=false:=by simpa using aM
 obtain⟨Lu,bK⟩:=ak D3 aM;clear D3 aM;go_wp2_with fail;go_meet
 exact⟨by rw[be bK.o];rfl,Mk.o⟩):=h
def aeh(h:V Q→P:=by
 intro I;have k2:=ag _ g 2 _ _ (.slice a3 z c3) k1;have eY:am (fun k=>k=r) w W9:=(by rw[mz];exact ((Hf8.o.setCell (p:=⟨g,0,none⟩) (.inl bZ) _).setCell (p:=⟨g,1,none⟩) (.inl bZ) _).setCell (p:=⟨g,2,none⟩) (.inl bZ) _);have Bh:am (fun k=>k=r∨k=g∨k=g1) w9 W9:=by rw[mz];exact (((am.refl _ w9).setCell (p:=⟨g,0,none⟩) (.inr (.inr (.inl rfl))) _).setCell (p:=⟨g,1,none⟩) (.inr (.inr (.inl rfl))) _).setCell (p:=⟨g,2,none⟩) (.inr (.inr (.inl rfl))) _
 have ca:l7 r (.slice a n c) j fin W9:=(by rw[mz];exact ah (ah (ah wE.o.box (by omega)) (by omega)) (by omega));rw[←mz]at k2;have Gl:=Cv wE.o.box IF.o QH.o;refine fZ (yx rfl _ _ _ _ _ _ _ rfl k2 xV rfl aA) rfl ?_;revert k2 eY Bh ca Gl;exact I.o):=h ⟨k⟩
def aej(h:V Q→P:=by
 intro I;have hn:=(pF hw).1;refine lM ?_;intro g hg;obtain⟨W0,bw⟩:=Y (((w.alloc (.cells #[.slice a n c,.int .i64 i,.int .i64 fin,.int .i64 0] 150)).alloc (.cells #[.string ⟨#[]⟩,.slice none 0 0,.slice none 0 0] 55)).alloc (.cells #[.slice none 0 0,.int .i64 0,.int .i64 0,.int .i64 0] 150));have cM:Below w.heap.size w W0:=(by rw[bw];exact ((aS _ _).alloc (by simp) _).alloc (by simp;omega) _);have p0:es g a n c i fin 0 W0:=(by rw[bw,hg];exact G (aS _ _) (G (aS _ _) (dx rfl)));have p1:dQ (g+1) (.string ⟨#[]⟩) (.slice none 0 0) (.slice none 0 0) W0:=(by rw[bw,hg];exact G (aS _ _) (dx (by simp)));have p2:es (g+1+1) none 0 0 0 0 0 W0:=YP;refine ur ?_;intro bZ;revert hn g hg W0 bw cM p0 p1 p2 bZ;exact I.o):=h ⟨k⟩
def Kv(h:P:=by
 intro l
 induction l with
 |nil=>intro p;simp
 |cons a l ih=>intro p;rw[EJ,ih];simp):=h
def Kw(h:P:=by obtain⟨x,-,rfl⟩:=P5 h;refine fin _ ⟨?_,?_,?_,?_,?_,?_⟩<;>simp<;>omega):=h
def aek(h:P:=by
 go_upto_region 6 with (fail)
 refine Xj ?_;intro w4 hv bA;revert a0 a1 a2 a3 b0 b1 b2 b3 r0 r1 r2 r3 Ha Hb Hr;refine R3 ?_;intro ha a0 a1 a2 a3 hb b0 b1 b2 b3 hr r0 r1 r2 r3;have ho:w4.heap[go]?=some (.cells #[.string lp,.string hj] 51 (0,0)):=tL;exact agi):=h
def ael(h:V Q→P:=by
 intro I K hK bC rP dz de;have awt:am (fun k=>k=r) w w3:=pD.o.trans bC (fun _ _ h=>h);have ays:=oH.o _ awt;have Pj:¬i+1+1<n→dy line (az ws i) x=some ⟨x.pk++[vg s line],x.pf⟩:=fun e8=>by rw[fy Z];rw[←lV.o,Iq Hf.o,Ib Z (by rw[←Hs.o];exact dz),←Hs.o];rfl
 have Ph:i+1+1<n→dy line (az ws i) x=none:=fun e8=>by rw[fy Z];rw[←lV.o,Iq Hf.o,vT (.inr (.inr Z))];rfl
 revert bC rP dz de awt ays Pj Ph;refine fg ?_;intro iR qh ev cU iI Ml Cc Ca;revert K hK;refine j_ ?_;intro hHeld;refine bB 8 ?_;have H3:=pE.o _ iI.o;obtain⟨bN,aY,E9,EU,Af⟩:=H3.pk.open;have nQ:w3.ownsRow B 45 8 (.slice ra m rc) m bN.flatten:=by have h1:=aY;rw[←Hm.o]at h1;exact h1
 have bL:(Value.slice ra m rc).ownBlock≠some xb:=fun e=>by have e1:=Af xb e;have e2:=H3.o9;omega
 revert iR qh ev cU iI Ml Cc Ca hHeld H3 bN aY E9 EU Af nQ bL;exact I.o):=h ⟨k⟩
def cK(h:V Q→P:=by
 intro I;go_wp2_with fail
 exact I.o):=h ⟨k⟩
def VN(h:V Q→P:=by
 intro I;obtain⟨W1,aK⟩:=Y (w.alloc (.cells #[.string nm,.slice a1 n1 c1,.slice a2 n2 c2] 55));refine lM ?_;intro g hg;have ai:Below w.heap.size w W1:=yF;have p0:dQ g (.string nm) (.slice a1 n1 c1) (.slice a2 n2 c2) W1:=IJ;obtain⟨x0,x1,x2,-⟩:=cT p0;have r1:=bz jm _ _ _ _ h1 ai;revert W1 aK g hg ai p0 x0 x1 x2 r1;exact I.o):=h ⟨k⟩
def VO(h:V Q→P:=by
 intro I tn gF hi;have k7:((i':Int)==(i:Int))=true:=(by rw[hi];simp);have kL:=(by first|exact Lw.o l i' af gF hi|exact Lw.o l i' trivial gF hi:db ws i=(none,i'));have axe:=Uq (bz lz _ _ _ _ Hw.o gA.o.bm) i' fin;obtain⟨bq,rO⟩:=Y (cO ws fin i');rw[←rO]at axe;revert tn gF hi kL axe rO;refine bX ?_;intro Cj oN Hi mE Fb ee;revert k7 bq Cj oN Hi mE Fb ee;exact I.o):=h ⟨k⟩
def aem(h:V Q→P:=by
 intro I;rw[←Ps];have eH:=yac (g1:=g1) AE.o (i:=j) cU.o Z Z Z Ps;have xN:am (fun k=>k=r) w W8:=(by rw[Ps];exact (((tJ.o.setCell (p:=⟨g1,2,none⟩) (.inl (show w.heap.size≤g1 by omega)) _).setCell (p:=⟨g,0,none⟩) (.inl bZ) _).setCell (p:=⟨g,1,none⟩) (.inl bZ) _).setCell (p:=⟨g,2,none⟩) (.inl bZ) _);have tv:am (fun k=>k=r∨k=g∨k=g1) w7 W8:=by rw[Ps];exact ((((am.refl _ w7).setCell (p:=⟨g1,2,none⟩) (.inr (.inr (.inr rfl))) _).setCell (p:=⟨g,0,none⟩) (.inr (.inr (.inl rfl))) _).setCell (p:=⟨g,1,none⟩) (.inr (.inr (.inl rfl))) _).setCell (p:=⟨g,2,none⟩) (.inr (.inr (.inl rfl))) _
 refine fZ (yx rfl _ _ _ _ _ _ _ rfl eH.1 xV rfl aA) rfl ?_;revert eH xN tv;exact I.o):=h ⟨k⟩
def VP(h:V Q→P:=by
 intro I;refine (HC.o _ Hh.o).mono ?_;rintro e w1 ⟨rfl,⟨hB,v,jM,dG,bL⟩,ai,PE⟩;have c0:w1.cell? ⟨b,0,none⟩=some (.pointer (some ⟨b,0,none⟩)):=(by rw[Gf jM];rfl);have c1:w1.cell? ⟨b,1,none⟩=some v:=(by rw[Gf jM];rfl);have Eh:B≤w1.heap.size:=(by have:=ai.size;omega);revert jM dG bL ai PE;refine bU ?_;intro qq cZ cJ aB JP;revert w1 hB v c0 c1 Eh qq cZ cJ aB JP;exact I.o):=h ⟨k⟩
def Ro(h:V Q→P:=by
 intro I;go_simp;refine ZN.o.mono ?_;rintro e wt ⟨rfl,cR⟩;have pY:=qO.o.to cR;obtain⟨eI,gC⟩:=ak cR pY;clear cR pY;revert wt eI gC;exact I.o):=h ⟨k⟩
def VQ(h:V Q→P:=by
 intro I;have hP:=C.peek S;simp only[←nd]at hP
 have jL:∀W,am (fun k=>k=r∨t k≤9) w W→j7 W [.slice a n c] ws:=fun W hF=>QB (C.wds S) hF (fun p hp hk=>by
  obtain⟨h1,h2⟩:=ta p hp;rcases hk with hk|hk
  ·exact h1 hk
  omega)
 revert hP jL;exact I.o):=h ⟨k⟩
def Rp(h:V Q→P:=by
 intro I iw hr cg aY hN b_;have yG:=J xO.o.cb 0;have yM:=J xO.o.cb 1;have yQ:=J xO.o.cb 2;have yR:=J xO.o.cb 3;have yS:=J xO.o.cb 4;have yT:=J xO.o.cb 5;have yU:=J xO.o.cb 6;simp only[aq,ar,aw]at b_ yG yM yQ yR yS yT yU;revert iw hr cg aY hN;refine bU ?_;intro uR Hr qT bY HN;revert b_ yG yM yQ yR yS yT yU uR Hr qT bY HN;exact I.o):=h ⟨k⟩
def aeo(h:V Q→P:=by
 intro I;obtain⟨kk,xR⟩:=Y w8.heap.size;obtain⟨w9,fN⟩:=Y ((w8.alloc (.cells #[.string y,.slice d dn dc,.slice e2 en ec] 55)).alloc (.cells #[.slice a n c,.int .i64 j5,.int .i64 fin,.int .i64 cG] 150));have qi:Below w8.heap.size w8 w9:=(by rw[fN];exact (aS _ _).alloc (by simp) _);have mJ:=IW.to qi;have wW:w9.heap[kk]?=some (.cells #[.string y,.slice d dn dc,.slice e2 en ec] 55 (0,0)):=(by rw[fN,xR];exact G (aS _ _) (dx rfl));have G1:es (kk+1) a n c j5 fin cG w9:=by rw[fN,xR];exact dx ae
 have PE:hp<kk:=(by rw[xR];exact (bS.1 IW.pb).1);have GF:hc<kk:=(by rw[xR];exact (bS.1 IW.cb).1);have dB:¬kk=hc:=Z;have nR:¬kk+1=hc:=Z;have Zh:¬kk=hp:=Z;have Zi:¬kk+1=hp:=Z;have Zj:¬hp=hc:=Z;revert kk xR w9 fN qi mJ wW G1 PE GF dB nR Zh Zi Zj;exact I.o):=h ⟨k⟩
def VR(h:V Q→P:=by
 intro I;obtain⟨kr,sx⟩:=Y ((((x9.setCell ⟨g10,0,none⟩ (.slice a n c)).setCell ⟨g10,1,none⟩ (.int .i64 i')).setCell ⟨g10,2,none⟩ (.int .i64 fin)).setCell ⟨g10,3,none⟩ (.int .i64 bq));have ni:am (fun z=>z=g10) x9 kr:=(by rw[sx];exact aN (aN (aN (aN (am.refl _ _) 0 _) 1 _) 2 _) 3 _)
 revert kr sx ni;exact I.o):=h ⟨k⟩
def VS(h:V Q→P:=by
 intro I;refine OB ?_;intro ai dC;have An:=ab dC (lU 0 _ rfl);have Lt:=ab dC (lU 1 _ rfl);have I5:=ab dC (lU 2 _ rfl);have Km:=ab dC (lU 3 _ rfl);have Kn:=ab dC (lU 4 _ rfl);have Ko:=ab dC (lU 5 _ rfl);have IE:=ab dC (lU 6 _ rfl);revert ai dC An Lt I5 Km Kn Ko IE;exact I.o):=h ⟨k⟩
def VT(h:V Q→P:=by
 intro I a0 a1 a2 a3 b0 b1 b2 b3 Ha Hb;have ha:w3.heap[nb]?=some (.cells #[.string lo,.string hi] 51 (0,0)):=Ll;clear Ha a0 a1 a2 a3;obtain⟨a0,a1,a2,a3⟩:=cP ha;have hb:w3.heap[nb+1]?=some (.cells #[.string lp,.string hj] 51 (0,0)):=Lm;clear Hb b0 b1 b2 b3;obtain⟨b0,b1,b2,b3⟩:=cP hb;have hr:w3.heap[nb+1+1]?=some (.cells #[.string ⟨#[]⟩,.string ⟨#[]⟩] 51 (0,0)):=Lp;revert ha a0 a1 a2 a3 hb b0 b1 b2 b3 hr;exact I.o):=h ⟨k⟩
def Gp(h:P:=by revert eC fF aj hf;refine bV ?_;intro jd rW cd Hf;exact zK):=h
def VU(h:V Q→P:=by
 intro I;obtain⟨bp,Ue⟩:=Y (decide (first=iK));have kP:(first.toList==[112,97,99,107,97,103,101])=bp:=(by rw[jb first [112,97,99,107,97,103,101] iK rfl,Ue]);obtain⟨bf,mv⟩:=Y (decide (first=lI));have kF:(first.toList==[112,114,101,102,101,114])=bf:=(by rw[jb first [112,114,101,102,101,114] lI rfl,mv]);obtain⟨uo,qS⟩:=ak Ue mv;clear Ue mv;revert bp kP bf kF uo qS;exact I.o):=h ⟨k⟩
def Kx(h:P:=by revert eC xK fw hf;refine bV ?_;intro jd TP yd Hf;exact zK):=h
def aep(h:V Q→P:=by
 intro I;have nd:first=nZ∨first=n8∨first=kX∨first=kY:=by
  have h:=bO.o.symm;rw[MK]at h;have h2:=vZ.o.symm;rw[h.1,h.2]at h2;simp only[n_,Bool.or_false]at h2;rcases h2 with h2|h2|h2|h2
  ·exact .inl (ed (rA.o.symm.trans h2))
  ·exact .inr (.inl (ed (gk.o.symm.trans h2)))
  ·exact .inr (.inr (.inl (ed (Dl.o.symm.trans h2))))
  exact .inr (.inr (.inr (ed (Dk.o.symm.trans h2))))
 have lV:=O nd;clear nd;revert lV;exact I.o):=h ⟨k⟩
def aeq(h:P:=by
 rw[←cL];clear cL nN rQ nM rR pW uC pX uD ti xS tj xT tk xU;have axh:=uY QK.o ZE (fun k _ hk=>by rw[hk];exact dF lO.o D);revert cX nu ZE axh;refine bV ?_;intro je UW HF6 Up;refine hK.out _ _ (AD.o _ (je.o)) (fun hHeld=>?_);clear hK K;refine iN ?_;refine lq ?_;go_wp2_with fail;go_meet
 exact⟨hc,kA,rfl,rl.o,je.o,UW.o,Up.o⟩):=h
def gS(h:V Q→P:=by
 intro I K hK;go_simp;revert K hK;refine qK ?_;intro hHeld;revert hHeld;exact I.o):=h ⟨k⟩
def Rq(h:V Q→P:=by
 intro I;have lY:=bI cN.o.r1 eY (dM bY.o cN.o.r1 D);have lZ:=bI cN.o.r2 eY (dM bY.o cN.o.r2 D);revert lY lZ;exact I.o):=h ⟨k⟩
def aer(h:V Q→P:=by
 intro I a aU hv;obtain⟨b,off,rfl,c0,c1⟩:=aU 0 x (by rw[hL];rfl);simp only[AQ,mL]at c0 c1;have cz:0<n:=by rw[hn,hL];simp
 have k1:decide ((0:Int)<(n:Int))=true:=aO Z;have k2:((n:Int)==0)=false:=l9;have q1:=fun(W:World)=>zok x.1 x.2 ⟨#[]⟩ ⟨#[]⟩ W;obtain⟨y,hy⟩:=Y x.1;obtain⟨z,hz⟩:=Y x.2;have fF:=zv9 hr hL;have r_:=zva hL;rw[←hy,←hz]at fF r_ q1;rw[←hy]at c0;rw[←hz]at c1;have x1:=zug y;have x2:=zug z;rw[yai]at x1 x2;have k5:(0:Int)<(n:Int):=Z;obtain⟨p1,eA⟩:=Y (decide (y=⟨#[]⟩));obtain⟨p2,oI⟩:=Y (decide (z=⟨#[]⟩));rw[←eA]at x1;rw[←oI]at x2;rw[←eA,←oI]at fF r_ q1;clear aU;revert b off hv cz k1 k2 y c0 hy z c1 hz k5 p1 x1 eA p2 q1 r_ fF x2 oI;exact I.o):=h ⟨k⟩
def mT(h:V Q→P:=by
 intro I;rintro e w1 ⟨rfl,rfl⟩;exact I.o):=h ⟨k⟩
def DP(h:P:=by
 by_cases e:j=k
 ·subst e;exact h
 exact KT):=h
def Rr(h:P:=by
 go_roundw
 case rel=>exact⟨k+1,Z,cj,ac.iu t st k c,aah,(by rw[Au.o]),(by rw[cd.o];exact cZ.o),(by rw[cd.o];omega),DS.o⟩
 case measure=>simp[intOf];omega):=h
def aes(h:V Q→P:=by
 intro I;go_simp;obtain⟨k1,il⟩:=Y jh.heap.size;obtain⟨gB,hu⟩:=Y (jh.alloc (.cells #[.string ⟨#[]⟩,.int .i64 0,.slice none 0 0,.slice none 0 0,.slice none 0 0,.slice none 0 0,.slice none 0 0,.slice none 0 0] 45));have b9:Below jh.heap.size jh gB:=D8;have dD:gB.heap[k1]?=some (.cells #[.string ⟨#[]⟩,.int .i64 0,.slice none 0 0,.slice none 0 0,.slice none 0 0,.slice none 0 0,.slice none 0 0,.slice none 0 0] 45 (0,0)):=T8;revert k1 il gB hu b9 dD;exact I.o):=h ⟨k⟩
def aet(h:V Q→P:=by
 intro I;refine iN ?_;refine c_ 8 fun K hK=>?_;go_simp;refine hK.out _ _ (by exact ace.o) (fun hHeld=>?_);clear hK K;refine iN ?_;refine lq ?_;obtain⟨wP,Cd⟩:=Y ((((wz.setCell ⟨g,0,none⟩ (.slice a n c)).setCell ⟨g,1,none⟩ (.int .i64 i2)).setCell ⟨g,2,none⟩ (.int .i64 fin)).setCell ⟨g,3,none⟩ (.int .i64 GS));have vO:am (fun z=>z=g) wz wP:=(by rw[Cd];exact aN (aN (aN (aN (am.refl _ _) 0 _) 1 _) 2 _) 3 _);have y0:es g a n c i2 fin GS wP:=(by rw[Cd];exact abe lO.o);have y1:=dh vO dv.o Z;have y2:=dh vO dZ.o Z;have y5:=dh vO G5.o Z;revert hHeld wP Cd vO y0 y1 y2 y5;exact I.o):=h ⟨k⟩
def Ky(h:V Q→P:=by
 intro I bF bG bH bD iD fb fC fD cC cD cB cF jV jW jX jY jZ j8 j9 jU b_ fU hd g_ jt jw jB jx jD jy jE jz jF jA jG js eJ;have gE:am (fun z=>z=g+2∨z=g+3) cH WF:=(by rw[eJ];exact ((((((((((((am.refl (fun z=>z=g+2∨z=g+3) cH).setCell (p:=⟨g+2,0,none⟩) (.inr (.inl rfl)) _).setCell (p:=⟨g+2,1,none⟩) (.inr (.inl rfl)) _).setCell (p:=⟨g+2,2,none⟩) (.inr (.inl rfl)) _).setCell (p:=⟨g+2,3,none⟩) (.inr (.inl rfl)) _).setCell (p:=⟨g+2,4,none⟩) (.inr (.inl rfl)) _).setCell (p:=⟨g+2,5,none⟩) (.inr (.inl rfl)) _).setCell (p:=⟨g+2,6,none⟩) (.inr (.inl rfl)) _).setCell (p:=⟨g+2,7,none⟩) (.inr (.inl rfl)) _).setCell (p:=⟨g+3,0,none⟩) (.inr (.inr rfl)) _).setCell (p:=⟨g+3,1,none⟩) (.inr (.inr rfl)) _).setCell (p:=⟨g+3,2,none⟩) (.inr (.inr rfl)) _).setCell (p:=⟨g+3,3,none⟩) (.inr (.inr rfl)) _);rw[←eJ];clear eJ;clear b_ jV fU hd jW g_ jt jX jw jB jY jx jD jZ jy jE j8 jz jF j9 jA jG jU js bF bG bH bD iD fb fC fD cC cD cB cF;refine fZ (Tu (g:=g+2) (k:=g+3) rfl rfl rfl x1 x2 ZV rfl aA BB rfl aA) rfl ?_;revert gE;exact I.o):=h ⟨k⟩
def aeu(h:V Q→P:=by
 intro I;obtain⟨wa,cW⟩:=Y (wr.alloc (.cells #[.string nm,.int .i64 li,.slice b2 m2 Lj,.slice b3 m3 c3,.slice b4 m4 c4,.slice b5 m5 c5,.slice b6 m6 c6,.slice b7 m7 c7] 45));refine KH ?_;intro za ll b9;have pa:wa.heap[za]?=some (.cells #[.string nm,.int .i64 li,.slice b2 m2 Lj,.slice b3 m3 c3,.slice b4 m4 c4,.slice b5 m5 c5,.slice b6 m6 c6,.slice b7 m7 c7] 45 (0,0)):=I9;have y0:=J pa 0;revert wa cW za ll b9 pa y0;exact I.o):=h ⟨k⟩
def Rs(h:P:=by
 unfold cO
 cases hj:ws[j]? with
 |none=>simp only;omega
 |some z=>simp only;have:=(gJ z (uQ hj)).1;omega):=h
def aev(h:V Q→P:=by
 intro I;have kh:=Pw.2.1;have kj:=Py.2.1;obtain⟨W1,aK⟩:=Y (w.alloc (.cells #[.string nm,.int .i64 li,.slice b2 n2 c2,.slice b3 n3 c3,.slice b4 n4 c4,.slice b5 n5 c5,.slice b6 n6 c6,.slice b7 n7 c7] 45));obtain⟨bx,de⟩:=Y w.heap.size;have ai:Below w.heap.size w W1:=yF;have C9:W1.heap[bx]?=some (.cells #[.string nm,.int .i64 li,.slice b2 n2 c2,.slice b3 n3 c3,.slice b4 n4 c4,.slice b5 n5 c5,.slice b6 n6 c6,.slice b7 n7 c7] 45 (0,0)):=(by rw[aK,de];exact dq _ _)
 revert kh kj W1 aK bx de ai C9;exact I.o):=h ⟨k⟩
def aew(h:V Q→P:=by
 intro I;refine⟨((zgf hb).trans ((Vf _ _ _).from B)).trans ((Vf _ _ _).from B),?_,?_,?_,?_⟩
 ·exact (((h.bm.trans (hb.mono h.bm.size)).setCell (p:=⟨w.heap.size,0,none⟩) (aE _) _).setCell (p:=⟨w.heap.size+1,0,none⟩) R_ _)
 ·exact ah (ag _ _ 0 _ _ _ (G hb h.r2)) Z
 ·exact ag _ _ 0 _ _ _ (ah (G hb h.r3) Z)
 exact I.o):=h ⟨k⟩
def VW(h:P:=by have hl:0<ws.length:=(by have:=Hn.o;have:=xx.o;omega);obtain⟨b',gK,e,d0,-⟩:=(pF hW).2.2 0 _ (bR hl);cases e;refine⟨ws[0].1,by simpa using d0,?_⟩;have:=(yv.o _ (eZ hl)).1;omega):=h
def Gq(h:V Q→P:=by
 intro I;obtain⟨n,hn⟩:=Y l.length;obtain⟨n2,cS⟩:=Y m.length;obtain⟨r,hr⟩:=Y (decide (l=m));revert n hn n2 cS r hr;exact I.o):=h ⟨k⟩
def aex(h:P:=by have k2:=ag _ (g+1) 2 _ _ (.slice sb sm sd) k1;have k3:=ah (b:=g+1+1) (i:=0) (u:=.slice a n c) k2 Z;have k4:=ah (b:=g+1+1) (i:=1) (u:=.int .i64 (i':Int)) k3 Z;have k5:=ah (b:=g+1+1) (i:=2) (u:=.int .i64 fin) k4 Z;have k6:=ah (b:=g+1+1) (i:=3) (u:=.int .i64 bad') k5 Z;rw[fQ];exact k6):=h
def Kz(h:V Q→P:=by
 intro I;have tN:=eP.owns L.row (fun k hk kT=>by have e:=hr.tag k kT;have e2:=L.tag k hk;omega)
 revert tN;exact I.o):=h ⟨k⟩
def Rt(h:V Q→P:=by
 intro I;refine mU ?_;rintro e w3 ⟨rfl,q3,rfl⟩;have aM:Below wB.heap.size wB (wB.drewN q3):=dU (aL _ _) q3;generalize wB.drewN q3=w3 at aM⊢;revert q3 w3 aM;exact I.o):=h ⟨k⟩
def VY(h:V Q→P:=by
 intro I;have k0:(first.toList==[118,101,114,115,105,111,110])=false:=CM;have k1:(first.toList==[118,97,114,105,97,110,116])=false:=IK;have k2:(first.toList==[112,114,111,118,105,100,101,115])=false:=QS;revert k0 k1 k2;exact I.o):=h ⟨k⟩
def aey(h:V Q→P:=by
 intro I;have CV:(tB P).flatMap dd=T1++T2:=(by rw[xG,vL,←rm,tB,tB,←oP,mi]);have MV:∀u∈T1,u.oneCell'=true:=by rw[xG];exact Vv _
 have MW:∀u∈T2,u.oneCell'=true:=by rw[vL];exact Vv _
 have pA:∀bP,Below wz.heap.size wz bP→∀j u,T1[j]?=some u→∃b off,some (⟨gw,0,none⟩:Addr)=some ⟨b,off,none⟩∧bP.cell? ⟨b,off+j,none⟩=some u:=fun bP hV j u hu=>by have hj:=(ie.1 hu).1;exact⟨gw,0,rfl,(by rw[og];exact ab hV (ab d_.o (Az.o j u (by rw[CV,pS hj];exact hu))))⟩
 revert CV MV MW pA;exact I.o):=h ⟨k⟩
def VZ(h:P:=by
 have uw:=fF h1 h2;revert eC fF aj uw;refine bV ?_;intro jd rW cd qQ;refine cK ?_;go_round
 case rel=>exact⟨k+1,Z,cj,qQ.o⟩
 case measure=>exact gT):=h
def V0(h:P:=by refine RX ?_;intro Ae;revert tu aj iv Ae;refine bV ?_;intro UK cd iQ Ey;refine cK ?_;exact⟨rfl,G2 iQ.o rfl Ey.o⟩):=h
def aez(h:P:=by
 have iv:dy line (az ws i) x=none:=by rw[fy Z,←lV.o,P6 Hf.o,LW qh.o,M G6,fp];rfl
 have zQ:am (fun k=>k=r∨t k≤9) w w4:=(iI.o.trans BQ (fun _ _ h=>h)).mono fun _ _ h=>Or.inl h;revert BQ fp iv zQ;refine bV ?_;intro QG mG iQ BF;refine cK ?_;exact⟨rfl,Pk iQ.o BF.o (aL _ _) rfl⟩):=h
def afa(h:P:=by have aB:=O ai;clear ai;go_wp2_with fail;refine (HB.o w1).mono ?_;rintro e acy ⟨rfl,oe⟩;subst oe;have acl:=U4.o acy aB.o;have aDr:=O acl;clear acl;go_wp2_with fail;refine (U4.o _ avu).mono ?_;rintro e u ⟨rfl,q,rfl⟩;refine cK ?_;exact⟨rfl,Pk iQ.o (kS (am.refl _ _) avu) (dU (aL _ _) q) rfl⟩):=h
def afb(h:P:=by
 subst hp;have mZ:g<g+2:=Z
 exact⟨abe h0,ah (ah (ah (ah h1 Z) Z) Z) Z,sr (sr (sr (sr ho mZ 0 _) mZ 1 _) mZ 2 _) mZ 3 _,
  (((hb.setCell (p:=⟨g,0,none⟩) bZ _).setCell (p:=⟨g,1,none⟩) bZ _).setCell (p:=⟨g,2,none⟩) bZ _).setCell (p:=⟨g,3,none⟩) bZ _,a_,bJ⟩):=h
def afc(h:P:=by
 have iv:dy line (az ws i) x=none:=by rw[fy Z];rw[←lV.o,Iq Hf.o,vT (by rw[←Hs.o];exact aj.elim Or.inl fun h=>Or.inr (Or.inl h))];rfl
 have zQ:am (fun k=>k=r∨t k≤9) w w3:=(pD.o.trans bC (fun _ _ h=>h)).mono fun _ _ h=>.inl h;exact akk):=h
def afd(h:P:=by
 refine cK ?_;go_roundw
 case rel=>exact⟨k+1,Z,cj,Mo,bO.o⟩
 case measure=>exact gT):=h
def afe(h:V Q→P:=by
 intro I;have oC:Ft w7 (Fx w7 (aJ t w.heap.size 3)) (fun W'=>fX W' [.string nm,.slice b1 m1 d1,.slice b2 m2 d2,.string nm2,.slice b3 m3 d3,.slice b4 m4 d4,.int .i64 line] (s,s2,line)):=(MD (auw.o.and aux.o)).imp fun bP h=>⟨_,_,_,_,_,_,rfl,h.1,h.2⟩;have y0:=J El.o 0;have y1:=J El.o 1;have y2:=J El.o 2;have y3:=J El.o 3;have y4:=J El.o 4;have y5:=J El.o 5;have y6:=J El.o 6;simp only[aq,ar,aw]at y0 y1 y2 y3 y4 y5 y6;revert oC y0 y1 y2 y3 y4 y5 y6;exact I.o):=h ⟨k⟩
def Ru(h:P:=by
 go_wp2_with fail
 refine zG ?_;exact⟨zZ PC PD,ik _ _ (eG Hw.o bK.o) iP.o⟩):=h
def V3(h:V Q→P:=by
 intro I d0 d1;have jk:=gJ x1 (uQ dB);obtain⟨xc,vz⟩:=Y x1.1;obtain⟨xt,vA⟩:∃z:ByteArray,z=⟨x1.2.toArray⟩:=⟨_,rfl⟩;rw[←vz]at d0;rw[←vA]at d1;have Sf:1≤xc∧xc≤70000:=(by rw[vz];exact⟨jk.1,jk.2.1⟩);have Ab:xt.size≤70000:=(by rw[vA];show x1.2.toArray.size≤_;rw[Ad];exact jk.2.2.2);obtain⟨fin,eH⟩:∃z:Int,z=xc+xt.size:=⟨_,rfl⟩;revert jk xc d0 vz xt d1 vA Sf Ab fin eH;exact I.o):=h ⟨k⟩
def aff(h:P:=by have k1:KeepsFrom B W (W3.alloc tmp):=zgf aM;have k2:KeepsFrom B (W3.alloc tmp) w1:=⟨hg.size,fun k o _ hk hc=>(hg.block k (bS.1 hk).1 (fun e=>by obtain⟨cs,pC⟩:=tH To k e.symm;rw[pC]at hk;cases hk;cases hc)).trans hk⟩;exact (k1.trans k2).trans ((Vf _ _ _).from B)):=h
def Gr(h:V Q→P:=by
 intro I;refine bB 0 ?_;refine bB 1 ?_;refine bB 2 ?_;refine bB 3 ?_;exact I.o):=h ⟨k⟩
def Rv(h:V Q→P:=by
 intro I aj aF jI hp lU hq pa ai dC pb af iq eK hC cq;have bQ:g l[k] m[k]=false→q_ g l m=false:=fun h=>azh aI gY h;obtain⟨e,he⟩:=Y (g l[k] m[k]);rw[←he]at hC cq bQ;refine s_ ?_;intro k5 k6;have k7:(k:Int)<(n2:Int):=GN;clear jI lU;revert aj aF hp hq pa ai dC pb af iq eK bQ cq hC he;refine uv ?_;intro cd bO Hp Hq l8 aB LB kU bh x_ yE dI dV HC He;revert e k5 k6 k7 cd bO Hp Hq l8 aB LB kU bh x_ yE dI dV HC He;exact I.o):=h ⟨k⟩
def Rw(h:V Q→P:=by
 intro I;refine Xt ?_;intro af iq eK;have y0:=J eK 0;have z0:=J pb 0;have y1:=J eK 1;have z1:=J pb 1;revert af iq eK y0 z0 y1 z1;exact I.o):=h ⟨k⟩
def Rx(h:V Q→P:=by
 intro I K hK;go_simp;refine (Qo _).mono ?_;rintro e wn ⟨rfl,LA⟩;subst LA;refine cK ?_;refine hK.out _ _ PK (fun hHeld=>?_);clear hK K;refine iN ?_;refine bB 6 ?_;revert hHeld;exact I.o):=h ⟨k⟩
def afg(h:P:=by
 rw[←hwr];clear hwr K2 K3 zz0 aam aap abd qq3 qq4 qq5 qq6 qq7 nN rQ nM rR pW uC pX uD ti xS tj xT tk xU DY Lh;obtain⟨⟨bF,bG,bH,bD⟩,-⟩:=a8 avh.o;obtain⟨⟨iD,fb,fC,fD⟩,cC,cD,cB,cF⟩:=a8 HE.o.pb;go_wp2_with fail;go_meet
 exact zqp HE.o HCC.o bZ fun p hp=>(wC.o p hp).1):=h
def lq(h:V Q→P:=by
 intro I;refine awg aA ?_ _;go_simp;exact I.o):=h ⟨k⟩
def afh(h:V Q→P:=by
 intro I;obtain⟨W1,aK⟩:=Y ((w.alloc (.cells #[.slice a1 n1 c1,.slice a2 n2 c2] 25)).alloc (.cells #[.slice d1 m1 e1,.slice d2 m2 e2] 25));refine KR ?_;intro g hg ai;have jQ:W1.heap[g]?=some (.cells #[.slice a1 n1 c1,.slice a2 n2 c2] 25 (0,0)):=yz;have eA:W1.heap[g+1]?=some (.cells #[.slice d1 m1 e1,.slice d2 m2 e2] 25 (0,0)):=yq;have f_:=hp.below ai;have eF:=hq.below ai;revert W1 aK g hg ai jQ eA f_ eF;exact I.o):=h ⟨k⟩
def KA(h:V Q→P:=by
 intro I h;obtain⟨a,cap,hv,BR,z_,se⟩:=h;simp only[nj,lv]at hv;unfold maxLen at z_;refine⟨a,cap,hv,Z,fun i x hi=>?_⟩;revert a cap BR z_ se hv i x hi;exact I.o):=h ⟨k⟩
def afi(h:P:=by have h7:am (fun k=>k=r∨k=g∨k=g1) w6 w7:=(am.setCell (S:=fun k=>k=r∨k=g∨k=g1) (am.refl _ w6) (p:=⟨r,1,none⟩) (.inr (.inl rfl)) _).trans (T:=fun k=>k=r) iR.o (fun _ _ h=>.inl h);exact lA IN.o (h7.trans tv (fun _ _ h=>h)) (Cv HI.o.st.box HI.o.g0 HI.o.g1)):=h
def Ow(h:P:=by
 unfold aJ;by_cases h:z<w3.heap.size
 ·rw[M h,M h,E ZB]
 rw[E h,E h]):=h
def afj(h:V Q→P:=by
 intro I K hK BQ fp Cp tw Ly dG dH xY Pe;have Pj:¬ws.length<n→dy line (az ws i) x=some ⟨x.pk,x.pf++[(s,l,line)]⟩:=fun e8=>by rw[fy Z,←lV.o,P6 Hf.o,LW qh.o,M G6,fp,←Hs.o];rfl
 have Ph:ws.length<n→dy line (az ws i) x=none:=fun e8=>Z;revert BQ fp Cp tw Ly dG dH xY Pe Pj Ph;refine kH ?_;intro QG mG Cn sg LR cZ iH UF Ew Cc Ca;revert K hK;refine j_ ?_;intro hHeld;refine bB 10 ?_;have H4:=pE.o _ sg.o;obtain⟨css,hr⟩:=H4.pf;have nQ:w4.ownsRow B 47 3 (.slice ra m rc) m css.flatten:=by have h1:=hr.row;rw[←Hm.o]at h1;exact h1
 have bL:(Value.slice ra m rc).ownBlock≠some xb:=fun e=>by have e1:=hr.tag xb e;have e2:=H4.o9;omega
 revert QG mG Cn sg LR cZ iH UF Ew Cc Ca hHeld H4 css hr nQ bL;exact I.o):=h ⟨k⟩
def Bm(h:P:=by have e1:=hr.tag pb e;have e2:=r9.o;omega):=h
def afk(h:P:=by
 have iv:dw first line p (az ws i)=none:=by refine ka ?_;rw[E D,M rfl,Qf aby.o,fp];split<;>rfl
 have zQ:am (fun k=>k=r) w w1:=pD.o.trans bC (fun _ _ h=>h);revert bC fp iv zQ;refine bV ?_;intro iR mG iQ BF;refine cK ?_;exact⟨rfl,G2 iQ.o rfl BF.o⟩):=h
def afl(h:P:=by
 have hf:=fF rfl;obtain⟨Hr,Hv,Hf,Hb,HL,Hn,Hy,Hz,rW,Cq,fG,q9⟩:=Bx hr hv hf hb hL hn hy hz fF r_ eA oI;clear hr hv hf hb hL hn hy hz fF r_ eA oI;go_wp2_with fail;go_quiet (fail)
 go_wp2_with fail
 go_ret2
 exact⟨_,_,_,EA,(fun _=>pG Hv.o (dU (aL _ _) _)),dU Hb.o _⟩):=h
def Ry(h:P:=by
 obtain⟨je,B_,Hr⟩:=aQ cX Zt hr;clear cX Zt hr;go_wp2_with fail;go_ret2
 exact⟨G_,B_.o⟩):=h
def afm(h:P:=by
 rw[←uw,←hs,←ht]at BA;clear Lb;revert aF ho hx Zq uw hs ht hz BA;refine fK ?_;intro bO Ho Hx awy qQ Hs Ht Hz ZD;go_wp2_with fail;go_region
 go_wp2_with fail
 go_roundw
 case rel=>exact⟨k+1,Z,cj,(by rw[←ZD.o]),dA bO.o,awy.o⟩
 case measure=>(simp[RowKit.intOf])<;>omega):=h
def V4(h:P:=by go_simp;have e1:=em.gu s a;have e2:=em.gu t b;by_cases h1:s=a<;>by_cases h2:t=b<;>simp[h1,h2]at e1 e2⊢<;>simp_all):=h
def V5(h:P:=by
 go_wp2_with fail
 go_region
 go_wp2_with fail
 go_roundw
 case rel=>exact⟨k+1,Z,cj,Hq.o,_,rfl⟩
 case measure=>exact gT):=h
def KB(h:V Q→P:=by
 intro I;rw[←aK,←hg,show g+1+1+1=g+3 from rfl,show g+1+1=g+2 from rfl];exact I.o):=h ⟨k⟩
def afn(h:V Q→P:=by
 intro I;obtain⟨W1,aK⟩:=Y ((w.alloc (.cells #[.string nm,.int .i64 li,.slice b2 n2 c2,.slice b3 n3 c3,.slice b4 n4 c4,.slice b5 n5 c5,.slice b6 n6 c6,.slice b7 n7 c7] 45)).alloc (.cells #[.string nm2,.int .i64 li2,.slice d2 m2 e2,.slice d3 m3 e3,.slice d4 m4 e4,.slice d5 m5 e5,.slice d6 m6 e6,.slice d7 m7 e7] 45));refine lM ?_;intro g hg;revert W1 aK g hg;exact I.o):=h ⟨k⟩
def KC(h:V Q→P:=by
 intro I;have eP:=eS hg;have oA:pb<W.heap.size:=(L.row.lt pb rfl).2;have re:t pb=1:=L.tag pb rfl;revert eP oA re;exact I.o):=h ⟨k⟩
def afo(h:P:=by
 intro k cs t fr h _ h2;refine (hg.block k (bS.1 h).1 (fun e=>?_)).trans h;rcases dG.2 with⟨hv,_⟩|⟨g,cap,cur,hv,_,aDe,_⟩
 ·rw[hv]at e;simp[Value.ownBlock]at e
 rw[hv]at e;simp[Value.ownBlock]at e;subst e;rw[aDe]at h;simp at h;exact h2 h.2.1.symm):=h
def Ox(h:V Q→P:=by
 intro I;refine⟨_,_,_,_,_,_,_,_,_,_,_,_,_,_,_,_,_,_,j5,cG,(by rw[mj.o,rq.o]),?_,pN.drew⟩;exact I.o):=h ⟨k⟩
def afp(h:P:=by
 go_upto_region 1 with (fail)
 refine iE ?_;clear aK hg
 cases bn with
 |false=>exact RQ
 |true=>
  go_wp2_with fail
  refine HS.o.mono ?_;rintro e w2 ⟨rfl,q,rfl⟩;go_wp2_with fail;go_ret;exact⟨adh,dU aB.o q⟩):=h
def afq(h:P:=by
 obtain⟨e1,e2,e3⟩:pa=none∧pn=0∧pc=0:=by cases GG;exact⟨rfl,rfl,rfl⟩
 obtain rfl:mk= -1:=YU;have aj:dy ln (az ws 0) x=none:=(by rw[UP.o];exact zmu (lC uo.o.symm) (lC qS.o.symm) dt);revert dt GG e1 e2 e3 aj;refine bX ?_;intro vR Hv0 abw T_ He3 cd;go_upto_region 25 with (fail);exact akd):=h
def Rz(h:V Q→P:=by
 intro I K hK;obtain⟨aDd,Zr,Lj,aCr⟩:=Mm.o;go_simp;refine hK.out _ _ PK (fun hHeld=>?_);clear hK K;refine iN ?_;clear aDd Zr Lj aCr;revert hHeld;exact I.o):=h ⟨k⟩
def RA(h:V Q→P:=by
 intro I kq p0 p1 q0 q1 hx y hy;rw[←hx]at p0 p1 kq;rw[←hy]at q0 q1 kq;obtain⟨x0,dt⟩:=Y (f0 x);obtain⟨y0,gm⟩:=Y (f0 y);rw[←dt]at p0 kq;rw[←gm]at q0 kq;obtain⟨x1,dB⟩:=Y (f1 x);obtain⟨y1,dX⟩:=Y (f1 y);rw[←dB]at p1 kq;rw[←dX]at q1 kq;revert hx y hy x0 p0 dt y0 q0 gm x1 p1 dB y1 kq q1 dX;exact I.o):=h ⟨k⟩
def afs(h:P:=by
 obtain⟨x,b1,n1,c1,b2,n2,c2,j5,cG,he,h1,h2⟩:=h;refine⟨x,b1,n1,c1,b2,n2,c2,j5,cG,he,?_,h2⟩;rcases h1 with⟨s,k1,k2,k3,k4,k5⟩|⟨k,k1,k2⟩
 ·exact .inl ⟨rfl,k2,s,k1,k3,k4,k5⟩
 exact .inr ⟨by rw[k2];exact pw k,fun _=>⟨k,k1⟩⟩):=h
def V6(h:P:=by
 all_goals
  go_wp2_with fail
  go_roundw
  case rel=>exact⟨h+1,j,cj,rfl,vY.o,GX.o.below H⟩
  case measure=>simp[intOf];omega):=h
def V7(h:V Q→P:=by
 intro I;have Am:=ab aF (jI 0 _ rfl);have Ir:=ab aF (jI 1 _ rfl);have IQ:=ab aF (jI 2 _ rfl);have ID:=ab aF (jI 3 _ rfl);have Kj:=ab aF (jI 4 _ rfl);have Kk:=ab aF (jI 5 _ rfl);have Kl:=ab aF (jI 6 _ rfl);revert Am Ir IQ ID Kj Kk Kl;exact I.o):=h ⟨k⟩
def V8(h:P:=by
 all_goals
  go_wp2_with fail
  go_roundw
  case rel=>exact⟨i,h,rfl,rfl,vY.o,GX.o.below H⟩
  case measure=>simp[intOf];omega):=h
def Bn(h:V Q→P:=by
 intro I;refine kG ?_;intro k5;have k6:(k:Int)<(n2:Int):=Z;revert k5 k6;exact I.o):=h ⟨k⟩
def V9(h:P:=by
 go_wp2_with fail
 go_ret;exact⟨mu Hf.o.symm,_,rfl⟩):=h
def aft(h:P:=by have awv:=G H gZ.o;have ca:=bK.o.trans (H.mono bK.o.size);obtain⟨yp,d_⟩:=ak awv ca;clear awv ca;go_wp2_with fail;refine OZ rfl rfl rfl (GC _ _ yp.o) rfl ?_;exact⟨_,_,tf rfl rfl (by rw[YF.o]<;>rfl),(fun _=>HB.o.symm),ik _ _ (eG Hw.o d_.o) iP.o⟩):=h
def Gs(h:V Q→P:=by
 intro I;have aI:k<l.length:=(by have:=iH.o;omega);obtain⟨n,hn⟩:=Y (s[k].toNat);have sC:n<256:=aaf;revert aI n hn sC;exact I.o):=h ⟨k⟩
def afu(h:V Q→P:=by
 intro I;have bQ:Below w7.heap.size w7 w7.drew:=dA (aL _ _);have IX:=PF.o.trans (bQ.mono PF.o.size);have aV:w7.drew.cell? ⟨g5,0,none⟩=some (.string nm):=(cT tF.o).1;have Mb:=(a8 (G bQ Em.o)).1;obtain⟨qO,Mm⟩:=ak aV Mb;clear aV Mb;refine xZ (S:=fun w'=>w'.cell? ⟨g5,0,none⟩=some (.string nm)) aA PK (fun hHeld=>?_);refine bB 1 ?_;refine bB 2 ?_;revert bQ IX qO Mm hHeld;exact I.o):=h ⟨k⟩
def afv(h:P:=by refine c_ 7 fun K hK=>?_;go_simp;refine L4.o.mono ?_;rintro e wy ⟨rfl,rfl⟩;revert K hK;refine j_ ?_;intro hHeld;refine KV ?_;exact amd):=h
def V_(h:P:=by
 go_wp2_with fail
 refine OZ rfl rfl rfl (GC _ _ gZ.o) rfl ?_;exact⟨tf gU gU ev.o.symm,ik _ _ (eG Hw.o d_.o) iP.o⟩):=h
def KD(h:P:=by
 go_wp2_with fail
 go_ret;exact⟨rfl,eG Hw.o aB.o⟩):=h
def Oy(h:P:=by have axn:k<w3.heap.size:=jq hk cN.o.bm.size;rw[aR axn,aR hk]):=h
def afx(h:P:=by have hf:=fF rfl;obtain⟨Hr,Hv,Hf,Hb,HL,Hn,Hy,Hz,rW,Cq,fG,q9⟩:=Bx hr hv hf hb hL hn hy hz fF r_ eA oI;clear hr hv hf hb hL hn hy hz fF r_ eA oI;go_wp2_with fail;refine cK ?_;go_ret2;exact⟨_,_,_,EA,(fun _=>Hv.o),Hb.o⟩):=h
def afy(h:V Q→P:=by
 intro I;refine lM ?_;intro g hg;obtain⟨W1,aK⟩:=Y ((w.alloc (.cells #[.slice a n c,.int .i64 i,.int .i64 fin,.int .i64 0] 150)).alloc (.cells #[.slice none 0 0,.int .i64 0,.int .i64 0,.int .i64 0] 150));have ai:Below w.heap.size w W1:=LF;have p0:es g a n c i fin 0 W1:=yz;have p1:es (g+1) none 0 0 0 0 0 W1:=yq;refine ur ?_;intro bZ;revert g hg W1 aK ai p0 p1 bZ;exact I.o):=h ⟨k⟩
def afz(h:P:=by
 obtain⟨Hm,HD⟩:=ak hm hD;clear hm hD
 gi_wp2
 refine⟨_,IB rfl rfl rfl (G (aS _ _) (dx rfl)) (dx ae) (isAgg173 _) (IP _),?_⟩;refine⟨_,by rw[Hm.o],fun h=>YX,fun _=>rfl,((aL _ w).alloc (aE _) _).alloc ae _⟩):=h
def RB(h:V Q→P:=by
 intro I K hK;revert K hK;refine pj ?_;refine pr hops 10 ?_;refine pr hops 11 ?_;refine pr hops 12 ?_;exact I.o):=h ⟨k⟩
def KE(h:V Q→P:=by
 intro I;have tE:am (fun k=>k=r) w w1:=pD.o.trans bC (fun _ _ h=>h);have fA:=oH.o _ tE;revert tE fA;exact I.o):=h ⟨k⟩
def aga(h:V Q→P:=by
 intro I H4 hr nQ bL Lz;have hB:B≤w4.heap.size:=fu mH.o sg.o.size;have iJ:m≤70000:=Vy;obtain⟨N,hN⟩:=Y css.flatten;rw[←hN]at nQ;have oC:Ft w4 (Fx w4 (aJ t w.heap.size 3)) (fun W'=>AC W' [.string s,.slice la ln lc,.int .i64 line] (s,l,line)):=((Qj acm Ew.o).mono fun k hk hkv=>.inl (by have:=(cZ.o.lt k hkv).1;have h2:=iI.o.size;exact pL Z)).imp fun bP hV=>⟨_,rfl,hV⟩;revert H4 hr bL Lz nQ hN oC;refine eb ?_;intro Qp Hr cJ EF ql HN iz;revert hB iJ N Qp Hr cJ EF ql HN iz;exact I.o):=h ⟨k⟩
def Wa(h:V Q→P:=by
 intro I;obtain⟨-,x1,-,x3⟩:=sy fA.box;obtain⟨w2,eo⟩:=Y (w1.setCell ⟨r,1,none⟩ (.int .i64 ((i:Int)+1)));have BE:na w0 r a n c fin (i+1) w2:=(by rw[eo];exact fA.on km);have Ac:am (fun k=>k=r) w w2:=(by rw[eo];exact aN (kS (am.refl _ _) ai) 1 _)
 revert x1 x3 w2 eo BE Ac;exact I.o):=h ⟨k⟩
def RC(h:P:=by
 go_wp2_with fail
 refine zG ?_;exact⟨zZ PC PD,ik _ _ (eG Hw.o bh.o) iP.o⟩):=h
def Gt(h:P:=by
 go_wp2_with fail
 go_meet
 exact⟨(by rw[vZ.o];rfl),rfl⟩):=h
def agc(h:V Q→P:=by
 intro I;have e:dy n (f::r) x=if f=iK then (p8 eL r).map fun s=>{ x with pk:=x.pk++[vg s n] }
  else if f=lI then (wQ n r).map fun q=>{ x with pf:=x.pf++[q] }
  else match x.pk.getLast? with
  |none=>none
  |some p=>(dw f n p r).map fun q=>{ x with pk:=x.pk.dropLast++[q] }:=rfl
 revert e;exact I.o):=h ⟨k⟩
def Wc(h:P:=by obtain⟨Hp,Hq⟩:=ak hp hq;clear hp hq;go_enter func170,ntmps170;go_wp2;go_ret;exact Gz):=h
def agd(h:P:=by
 go_upto_region 6 with (fail)
 rw[←ju,←Hq.o];clear ju;go_wp2_with fail;refine Vq.o.mono ?_;rintro e w9 ⟨rfl,ca⟩;have d_:=O ca;clear ca;go_wp2_with fail;go_ret2
 exact⟨G_,E1.o.trans (d_.o.mono E1.o.size)⟩):=h
def age(h:V Q→P:=by
 intro I;have Y5:¬off+(jp+1)*2=off+(jp)*2:=Z;have Y9:¬off+(jp)*2=off+(jp+1)*2:=Z;have Y6:¬off+(jp+1)*2=off+(jp)*2+1:=Z;have Y_:¬off+(jp)*2=off+(jp+1)*2+1:=Z;have Y7:¬off+(jp+1)*2+1=off+(jp)*2:=Z;have Za:¬off+(jp)*2+1=off+(jp+1)*2:=Z;have Y8:¬off+(jp+1)*2+1=off+(jp)*2+1:=Z;have Zb:¬off+(jp)*2+1=off+(jp+1)*2+1:=Z;revert Y5 Y9 Y6 Y_ Y7 Za Y8 Zb;exact I.o):=h ⟨k⟩
def KF(h:P:=by obtain⟨cs',hc⟩:=tH tN pb rfl;exact dF hc D):=h
def agf(h:P:=by revert eC fF aj hf;refine bV ?_;intro jd rW cd Hf;go_wp2_with fail;refine QD rfl rfl rfl (Qz _ _ _ bY.o) rfl ?_;exact⟨⟨_,_,_,QC Hf.o.symm,fun h=>by rw[Hf.o]at h;cases h⟩,QA _ _ _ Hb.o (aE _)⟩):=h
def We(h:V Q→P:=by
 intro I;obtain⟨m2,jP⟩:=Y p.rel.length;obtain⟨m3,qV⟩:=Y p.vars.length;obtain⟨m4,pK⟩:=Y p.cl.length;obtain⟨m5,yH⟩:=Y p.gr.length;obtain⟨m6,yN⟩:=Y p.ci.length;obtain⟨m7,iJ⟩:=Y p.files.length;revert m2 jP m3 qV m4 pK m5 yH m6 yN m7 iJ;exact I.o):=h ⟨k⟩
def Wf(h:P:=by
 go_wp2_with fail
 go_roundw
 case rel=>exact⟨k+1,Z,cj,Hq.o,mC.o⟩
 case measure=>exact gT):=h
def KG(h:V Q→P:=by
 intro I;unfold ip;refine List.Perm.cons _ ?_;simp only[oP,eU,Aq];exact I.o):=h ⟨k⟩
def agi(h:P:=by revert o0 o1 o2 o3 Ho hv;refine pV ?_;intro o0 o1 o2 o3;revert bA ha hb hr ho;refine bU ?_;intro dL Ha Hb Hr Ho;exact ank):=h
def agj(h:P:=by have hl:=It w g t ty cs (0,0) d hg hu O hi;have EM:tmps[p]?.getD undef=.pointer (some ⟨g,0,none⟩):=Mz;have nO:tmps[u]?.getD undef=x:=Q_;simp only[results,h];simp[E8,Result.andThen,asAddr,EM,nO,hl]):=h
def agk(h:P:=by have hf:r=false:=avn;have Hf:=O hf;clear hf;go_wp2_with fail;refine Xf ?_;intro nq;go_wp2_with fail;go_ret;exact⟨mu Hf.o.symm,_,(by rw[OV])⟩):=h
def agl(h:P:=by rw[gL];have k0:=ag _ bx 3 _ _ (.string s2.1) p6;have k1:=ag _ bx 4 _ _ (.slice b3 s2.2.1.length d3) k0;exact ag _ bx 5 _ _ (.slice b4 s2.2.2.length d4) k1):=h
def agm(h:V Q→P:=by
 intro I;have ai:Below w.heap.size w (w.alloc (.cells #[.int .i64 0,.int .i64 0,.string ⟨#[]⟩] 199)):=aS _ _;have fB:(w.alloc (.cells #[.int .i64 0,.int .i64 0,.string ⟨#[]⟩] 199)).heap[w.heap.size]?=some (.cells #[.int .i64 0,.int .i64 0,.string ⟨#[]⟩] 199 (0,0)):=dx rfl;revert ai fB;exact I.o):=h ⟨k⟩
def agn(h:P:=by
 have mX:=dV.o (ed ss.o.symm) (ed tM.o.symm);obtain⟨vQ,Ug,G7⟩:=aQ mX lX Eu;clear mX lX Eu;go_wp2_with fail;go_roundw
 case rel=>exact⟨k+1,Z,cj,vQ.o,G7.o⟩
 case measure=>exact gT):=h
def ago(h:V Q→P:=by
 intro I;obtain⟨cH,et⟩:=Y (w9.setCell ⟨g+1,6,none⟩ (.slice a9 (m6+1) c9));have oK:cH.heap[g+1]?=some (.cells #[.string nm,.int .i64 li,.slice b2 m2 d2,.slice b3 m3 d3,.slice b4 m4 d4,.slice b5 m5 d5,.slice a9 (m6+1) c9,.slice b7 m7 d7] 45 (0,0)):=(by rw[et];exact ag w9 (g+1) 6 _ _ _ Hxb9.o);have oJ:es hp a n c j5 fin cG cH:=Mp;revert cH et oK oJ;exact I.o):=h ⟨k⟩
def agp(h:V Q→P:=by
 intro I;obtain⟨cH,et⟩:=Y (w9.setCell ⟨g+1,5,none⟩ (.slice a9 (m5+1) c9));have oK:cH.heap[g+1]?=some (.cells #[.string nm,.int .i64 li,.slice b2 m2 d2,.slice b3 m3 d3,.slice b4 m4 d4,.slice a9 (m5+1) c9,.slice b6 m6 d6,.slice b7 m7 d7] 45 (0,0)):=(by rw[et];exact ag w9 (g+1) 5 _ _ _ Hxb9.o);have oJ:es hp a n c j5 fin cG cH:=Mp;revert cH et oK oJ;exact I.o):=h ⟨k⟩
def agq(h:P:=by
 intro k hk;have e8:=h.size hs k hk;have aCa:k<w.heap.size+6:=(by rcases hk with rfl|rfl|rfl<;>omega);have bL:k≠w.heap.size+1+1:=YV;rw[AF _ _ _ _ bL]
 cases ho:W.heap[k]? with
 |none=>exact absurd ho (by rw[Array.getElem?_eq_getElem e8];simp)
 |some o=>exact old aCa ho):=h
def Wg(h:V Q→P:=by
 intro I;obtain⟨pT,l_⟩:=Y x.1.1;obtain⟨pU,ma⟩:=Y x.1.2.1.length;obtain⟨sZ,mK⟩:=Y x.1.2.2.length;obtain⟨uq,oQ⟩:=Y x.2.1.1;obtain⟨s8,nB⟩:=Y x.2.1.2.1.length;obtain⟨s9,nD⟩:=Y x.2.1.2.2.length;revert pT l_ pU ma sZ mK uq oQ s8 nB s9 nD;exact I.o):=h ⟨k⟩
def RD(h:P:=by obtain⟨a,cap,hv,_⟩:=h;simp only[nj,lv]at hv;exact⟨a,cap,hv⟩):=h
def RE(h:P:=by
 rintro z (rfl|rfl)
 ·exact jf gA.o.r1 D D
 exact jf gA.o.r2 D D):=h
def ags(h:P:=by have mY:=(aN HI.o.gc 1 (.int .i64 ((i:Int)+1))).trans bC (fun _ _ h=>h);obtain⟨oN,iR,tJ⟩:=aQ gF bC mY;clear gF bC mY;refine cK ?_;exact⟨rfl,.inr ⟨j,QJ.o.2 _ oN.o,rfl⟩,tJ.o⟩):=h
def Wh(h:P:=by
 go_wp2_with fail
 go_quiet (fail)
 go_wp2_with fail
 go_ret2
 exact⟨_,_,_,EA,(fun k=>acf),dU Hb.o _⟩):=h
def agt(h:P:=by have hf:r=false:=avn;have Hf:=O hf;clear hf;refine Xi ?_;intro nq;exact aps):=h
def lM(h:V Q→P:=by
 intro I;obtain⟨g,hg⟩:=Y w.heap.size;revert g hg;exact I.o):=h ⟨k⟩
def Oz(h:V Q→P:=by
 intro I hz;rcases hz with h|h
 ·rw[h,lR _ Z,M Z];exact⟨pH,Z,dF fY.o D⟩
 rw[h,lR _ Z,M Z];revert h;exact I.o):=h ⟨k⟩
def agu(h:P:=by obtain⟨a1,a2,a3,b1,b2,b3,rfl,h1,h2⟩:=h;obtain⟨b1,c1,b2,c2,rfl,rfl,rfl,k1,k2⟩:=u_ h1;obtain⟨b3,c3,b4,c4,rfl,rfl,rfl,k3,k4⟩:=u_ h2;exact⟨_,_,_,_,_,_,_,_,_,_,_,_,_,_,_,rfl⟩):=h
def agv(h:P:=by have hf:r=false:=(by rw[Hr.o,pQ];exact bQ e);rw[be e]at q2;simp only[U8]at q2;clear e;revert aj hx bQ cq hy hs ht lS nS hf;refine dE ?_;intro cd Hx dI dV Hy Hs Ht ZM ZP Hf;exact Xz):=h
def agx(h:P:=by
 constructor
 ·show (if _ then _ else _:ByteArray).size≤9000
  split
  ·exact zjy ha.1 hb.1
  exact h0
 show (if _ then _ else _:ByteArray).size≤9000
 split
 ·exact zlx ha.2 hb.2
 exact h0):=h
def agy(h:V Q→P:=by
 intro I;have hl:(Lib.byteCells bs).length=bs.length:=Vw bs;have HC:=aH (fun w=>aaq (w:=w) (B:=B) (b:=b) (bs:=Lib.byteCells bs));have Ex:Lib.byteCells bs++Lib.strCells s=Lib.byteCells (bs++s.data.toList):=by simp[Lib.byteCells,Lib.strCells]
 obtain⟨L,hL⟩:=Y (Lib.byteCells bs);revert hl HC Ex L hL;exact I.o):=h ⟨k⟩
def agz(h:V Q→P:=by
 intro I;have GF:=zoq bY.o;have UD:T2=[]:=oT ML;have jj:∀bP:World,∀j u,T2[j]?=some u→∃b off,some (⟨gw,0,none⟩:Addr)=some ⟨b,off,none⟩∧bP.cell? ⟨b,off+j,none⟩=some u:=fun bP j u hu=>by rw[UD]at hu;simp at hu
 obtain⟨T4,Gc⟩:=ak UD jj;clear UD jj;revert GF T4 Gc;exact I.o):=h ⟨k⟩
def aha(h:P:=by have k2:=ag _ x 3 _ _ (.bool false) k1;have k3:=ag _ x 0 _ _ (.int .i64 (s.line+1)) k2;have k4:=ag _ x 1 _ _ (.int .i64 0) k3;rw[k4];rfl):=h
def Gu(h:V Q→P:=by
 intro I;refine c_ 4 fun K hK=>?_;revert K hK;refine gS ?_;intro hHeld;revert hHeld;exact I.o):=h ⟨k⟩
def Wj(h:P:=by
 go_wp2_with fail
 go_ret;exact⟨⟨true,rfl,fun h=>tm⟩,cr.o.trans (bO.o.mono cr.o.size)⟩):=h
def ahb(h:V Q→P:=by
 intro I;refine Ox ?_
 have Bu:i<ws.length→dw first line p (az ws i)=(if eL s=true then (eQ qp (az ws (i+1))).map fun q=>(s,q) else none).map fun q=>{ p with vars:=p.vars++[q] }:=fun h=>by
  rw[Hf.o];show (varL (az ws i)).map _=_;rw[Qf h,←Hs.o]
 have G3:=Hn.o;revert Bu G3;exact I.o):=h ⟨k⟩
def RF(h:P:=by revert eC fF aj uw;refine bV ?_;intro jd rW cd qQ;exact VG):=h
def ahc(h:P:=by have x3:Below w.heap.size w WF:=(by rw[eJ];exact (((((((fL).setCell (p:=⟨g+1,0,none⟩) (by show w.heap.size≤g+1;omega) _).setCell (p:=⟨g+1,1,none⟩) (by show w.heap.size≤g+1;omega) _).setCell (p:=⟨g+1,2,none⟩) (by show w.heap.size≤g+1;omega) _).setCell (p:=⟨g+2,0,none⟩) (by show w.heap.size≤g+2;omega) _).setCell (p:=⟨g+2,1,none⟩) (by show w.heap.size≤g+2;omega) _).setCell (p:=⟨g+2,2,none⟩) (by show w.heap.size≤g+2;omega) _).setCell (p:=⟨g+2,3,none⟩) (by show w.heap.size≤g+2;omega) _);rw[←eJ];clear eJ;refine fZ (Tu (g:=g+1) (k:=g+2) rfl rfl rfl x1 x2 xV rfl aA BB rfl aA) rfl ?_;exact⟨⟨_,_,_,_,_,_,_,rfl⟩,x3.drew⟩):=h
def ahd(h:P:=by
 go_wp2_with fail
 refine (HC.o _ bh.o).mono ?_;rintro e w3 ⟨rfl,aM⟩;obtain⟨c0,c1⟩:=cU.o _ aM;have bK:=O aM;clear aM;go_wp2_with fail;go_ret;exact⟨rfl,eG Hw.o bK.o⟩):=h
def ahf(h:P:=by subst he;exact⟨_,rfl,_,_,_,[],_,[],abr,trodAll_mk1 (shut_bool YN _),(trodAll_cons_mk (Below.trod laidOut aA (ed aA) awn bm lt0) trodAll_mk0),rfl,bm.frame _,fun h=>tm⟩):=h
def ahg(h:P:=by rintro pre W W' row h hg hr;have uM:∀r,row=some r→B≤r:=fun r e=>(hr r e).1;exact⟨h.bm.grown hg h.bm.size (fun k e=>YS),CJ hg uM Z h.r2,CJ hg uM Z h.r3,h.bad⟩):=h
def ahh(h:V Q→P:=by
 intro I aK x1 x2 y1 y2 hr hS hT;obtain⟨n1,cz⟩:=Y l1.length;obtain⟨n2,cS⟩:=Y g1.length;obtain⟨n3,CL⟩:=Y l2.length;obtain⟨n4,IU⟩:=Y g2.length;have dJ:=em.gu n m;rw[←hr];rw[←cz]at x1 hS aK⊢;rw[←cS]at x2 hT aK⊢;rw[←CL]at y1 hS aK⊢;rw[←IU]at y2 hT aK⊢;obtain⟨bs,oF⟩:=Y (decide (l1=l2));obtain⟨bt,fP⟩:=Y (decide (g1=g2));obtain⟨bn,fR⟩:=Y (decide (n=m));rw[←oF]at hS;rw[←fP]at hT;rw[←fR]at dJ;have fw:r=(bn&&(bs&&bt)):=by rw[hr,fR,oF,fP,Cs];simp[Il]
 clear hr oF fP fR;revert n1 x1 cz n2 x2 cS n3 y1 CL n4 aK y2 IU bs hS bt hT bn dJ fw;exact I.o):=h ⟨k⟩
def RG(h:P:=by have tt:=dM this jj D;exact f2.owns this (fun k hk e=>tt we)):=h
def ahi(h:V Q→P:=by
 intro I;obtain⟨W0,bw⟩:=Y ((w.alloc (.cells #[.string lo,.string hi] 51)).alloc (.cells #[.string lp,.string hj] 51));obtain⟨nb,ck⟩:=Y w.heap.size;have hw:Below w.heap.size w W0:=Vk;have c0:W0.cell? ⟨nb,0,none⟩=some (.string lo):=(by rw[bw,ck];exact (cP (zto _ _ _ _ _)).1);have d0:W0.cell? ⟨nb+1,0,none⟩=some (.string lp):=(by rw[bw,ck];exact (cP (ztn _ _ _ _ _)).1)
 revert W0 bw nb ck hw c0 d0;exact I.o):=h ⟨k⟩
def Wk(h:P:=by
 cases L with
 |nil=>simp[Lib.join_nil]
 |cons x r=>rw[VF];simp only[fO,tO]at *;omega):=h
def ahj(h:V Q→P:=by
 intro I;go_simp;obtain⟨k2,eE⟩:=Y jh.heap.size;obtain⟨gB,hu⟩:=Y (jh.alloc (.cells #[.slice none 0 0,.int .i64 0,.int .i64 0,.int .i64 0] 150));have b9:Below jh.heap.size jh gB:=D8;have cc:gB.heap[k2]?=some (.cells #[.slice none 0 0,.int .i64 0,.int .i64 0,.int .i64 0] 150 (0,0)):=T9;revert k2 eE gB hu b9 cc;exact I.o):=h ⟨k⟩
def ahk(h:P:=by revert fj BZ my tD;refine bV ?_;intro Ez Vd UH PH;go_wp2_with fail;refine (HP.o _).mono ?_;refine DR ?_;go_wp2_with fail;refine (HQ.o _).mono ?_;exact adq):=h
def ahl(h:P:=by revert K hK;refine zM ?_;intro hHeld;refine c_ 2 fun K hK=>?_;refine Ro ?_;intro wt eI gC;go_wp2_with fail;revert K hK;refine qK ?_;intro hHeld;refine bB 3 ?_;exact aen):=h
def ahm(h:V Q→P:=by
 intro I;have iw:zz w5 T1 B p (.slice b2 m2 d2) (.slice b3 m3 d3) (.slice b4 m4 d4) (.slice b5 m5 d5) (.slice b6 m6 d6) (.slice b7 m7 d7):=HH.o.to (am.ce (S:=fun _=>False) fH.o.bm) (fun _ _ h=>h.elim) (fun k hk _=>U3.o k hk);obtain⟨css,hr⟩:=iw.vars;revert iw css hr;exact I.o):=h ⟨k⟩
def aho(h:P:=by revert h;refine KA ?_;intro a cap BR z_ se hv i x hi;obtain⟨b,off,hH,h1,h2,h3,h4,h5,h6⟩:=se i x hi;subst h4;unfold maxLen at h5 h6;exact⟨b,off,h1,CY,Fu,Z,Z⟩):=h
def kG(h:V Q→P:=by
 intro I;have k5:(0:Int)≤(k:Int):=Z;revert k5;exact I.o):=h ⟨k⟩
def Wm(h:V Q→P:=by
 intro I;obtain⟨h,hh⟩:=Y ((i+j) / 2);have w1:IntKind.i64.wrap ((i:Int)+(j:Int))=(i:Int)+(j:Int):=i_ _ Z;have w2:((i:Int)+(j:Int)) / 2=(h:Int):=Z;revert h hh w1 w2;exact I.o):=h ⟨k⟩
def ahp(h:P:=by
 obtain⟨dL,UR,dV⟩:=aQ bA Mu cq;clear bA Mu cq;go_wp2_with fail;go_roundw
 case rel=>exact⟨k+1,Z,cj,by rw[dV.o],UR.o⟩
 case measure=>exact gT):=h
def ahq(h:P:=by
 have e1:=J eH.2.2.2.1 0;have e2:=aG eH.2.2.2.1 0;simp only[aq,ar]at e1;have nU:=O eH;clear eH;refine aH ?_
 gi_wp2
 exact⟨nU.o.1,nU.o.2.1,nU.o.2.2.2.2,nU.o.2.2.1⟩):=h
def KH(h:V Q→P:=by
 intro I;obtain⟨za,ll⟩:=Y wr.heap.size;have b9:Below wr.heap.size wr wa:=Pu;revert za ll b9;exact I.o):=h ⟨k⟩
def pV(h:V Q→P:=by
 intro I o0 o1 o2 o3 Ho hv;clear Ho o0 o1 o2 o3;obtain⟨o0,o1,o2,o3⟩:=cP ho;rw[←hv];clear hv;revert o0 o1 o2 o3;exact I.o):=h ⟨k⟩
def ahr(h:P:=by
 obtain⟨Hc,uL⟩:=ak hc gX;clear hc gX;go_wp2_with fail;refine uL.o.mono ?_;rintro e w2 ⟨rfl,eo⟩;have yh:=O eo;clear eo;go_wp2_with fail;go_meet
 exact yh.o):=h
def Wn(h:V Q→P:=by
 intro I;have k1:∀{w':World} {o:Obj} {k:Nat} {o':Obj},w'.heap[k]?=some o→(w'.alloc o').heap[k]?=some o:=fun h=>G (aS _ _) h;revert k1;exact I.o):=h ⟨k⟩
def ahs(h:V Q→P:=by
 intro I v jM dG bL;have Bz:l.length≠0:=by simpa using h0
 rw[Vw]at dG
 obtain⟨g,cap,cur,rfl,Tl,hg,TQ,xH,pC,PT⟩:∃g cap cur,v=.slice (some ⟨g,0,none⟩) l.length cap∧B≤g∧w.heap[g]?=some (.cells cur 5 (0,0))∧l.length≤cap∧cap≤maxLen∧cur.size=cap*1∧cur.toList.take (l.length*1)=Lib.byteCells l:=by
  rcases dG.2 with⟨_,hz⟩|⟨g,cap,cur,hv,r⟩
  ·exact absurd hz Bz
  exact⟨g,cap,cur,hv,r⟩
 revert Bz g cap cur jM dG bL Tl hg TQ xH pC PT;exact I.o):=h ⟨k⟩
def OA(h:V Q→P:=by
 intro I aV K hK;obtain⟨bF,bG,bH,bD⟩:=aV;revert K hK;refine gS ?_;intro hHeld;clear bF bG bH bD;have aV:=gj.o _ qL.o;revert hHeld aV;exact I.o):=h ⟨k⟩
def ahu(h:P:=by
 obtain⟨l,hl,Vm⟩:=mm m (pm.mem_iff.1 hm);have h1:=Vm.length_le;have h2:=(g4 l hl).2.2.1;have e:(iZ l).length=l.2.length:=by unfold iZ;rw[List.length_map]
 omega):=h
def Wo(h:V Q→P:=by
 intro I;obtain⟨zb,hzb⟩:=Y wr.heap.size;have oO:Below wr.heap.size wr wb:=TL;have fL:=(aL wr.heap.size wr).trans (oO.mono (aL wr.heap.size wr).size);revert zb hzb oO fL;exact I.o):=h ⟨k⟩
def ahv(h:P:=by have Ev:am (fun k=>k=r) w w6:=Ey.o.trans yf (fun _ _ h=>h);revert yf eo iv Ev;refine bV ?_;intro aab yh iQ UT;refine cK ?_;exact⟨rfl,G2 iQ.o rfl UT.o⟩):=h
def Wp(h:P:=by obtain⟨qS,gV⟩:=ak mv H;clear mv H;exact Xn):=h
def ahw(h:P:=by
 rcases aY.2 with⟨rfl,_⟩|⟨g,cap,cur,rfl,_,aCg,_⟩
 ·exact .inl rfl
 refine .inr fun e'=>?_;obtain⟨_,o,ho,hc⟩:=hr g (by simpa [Value.ownBlock] using e'.symm);rw[aCg]at ho;cases ho;cases hc):=h
def ahx(h:P:=by rw[←xY]at hx;obtain⟨j,hj,rfl⟩:=oS hx;have Zs:i+1+1+j<ws.length:=U7;have e:=Is Zs;rw[bR hj]at e;rw[nt e];have:=HC.o.o4 (i+1+1+j);unfold maxLen;omega):=h
def Wq(h:P:=by obtain⟨Hr,Hf⟩:=ak hr hf;clear hr hf;go_enter func84,ntmps84;exact zK):=h
def Wr(h:P:=by obtain⟨Hr,Hf⟩:=ak hr hf;clear hr hf;go_enter func85,ntmps85;exact zK):=h
def RH(h:V Q→P:=by
 intro I;have mixed:prog.follows .mixedOrders=true:=aA;refine OJ ?_;intro H di;revert mixed H di;exact I.o):=h ⟨k⟩
def ahz(h:V Q→P:=by
 intro I;have FC:=Qi hv3 hv4;have I8:¬Ty w6 bx:=dF p6 D;obtain⟨w7,gL⟩:=Y (((w6.setCell ⟨bx,3,none⟩ (.string s2.1)).setCell ⟨bx,4,none⟩ (.slice b3 s2.2.1.length d3)).setCell ⟨bx,5,none⟩ (.slice b4 s2.2.2.length d4));have tW:am (fun k=>k=bx) w6 w7:=(by rw[gL];exact aN (aN (aN (am.refl _ _) 3 _) 4 _) 5 _)
 revert FC I8 w7 gL tW;exact I.o):=h ⟨k⟩
def Ws(h:P:=by
 rcases rZ with⟨_,_,h1,h2⟩|⟨h1|h1,_⟩
 ·exact⟨h1,h2⟩
 ·cases h1
 omega):=h
def rN(h:V Q→P:=by
 intro I;rintro e w5 ⟨rfl,rfl⟩;exact I.o):=h ⟨k⟩
def aia(h:P:=by have Es:=O CK;clear CK;go_enter func54,ntmps54;go_upto_region 1 with (fail);refine iE ?_;clear aK hg;go_wp2_with fail;go_ret;exact⟨GU,Es.o⟩):=h
def aib(h:P:=by have mY:=HI.o.gc.trans bC (fun _ _ h=>h);obtain⟨oN,iR,tJ⟩:=aQ gF bC mY;clear gF bC mY;refine cK ?_;exact⟨rfl,.inr ⟨j,Ee.o _ oN.o,rfl⟩,tJ.o⟩):=h
def aic(h:P:=by clear hA;go_wp2_with fail;refine fZ (v:=.tuple #[.slice va st.out.length vc,.int .i64 ((k:Int)+1),.int .i64 3]) UN rfl ?_;exact Xx):=h
def aid(h:P:=by rw[←xY]at hx;obtain⟨j,hj,rfl⟩:=oS hx;have Zs:i+1+j<ws.length:=U7;have e:=Is Zs;rw[bR hj]at e;rw[nt e];have:=HC.o.o4 (i+1+j);unfold maxLen;omega):=h
def KI(h:V Q→P:=by
 intro I;refine fZ (ayn rfl rfl rfl hp.1 BB rfl aA) rfl ?_;exact I.o):=h ⟨k⟩
def aie(h:V Q→P:=by
 intro I a0 a1 a2 a3 b0 b1 b2 b3 Ha Hb;obtain⟨w6,hv⟩:=Y (w5.setCell ⟨go,1,none⟩ (.string hj));have cX:Below w0.heap.size w0 w6:=(by rw[hv];exact cQ.o.setCell (p:=⟨go,1,none⟩) vh.o _);have ha:w6.heap[nb]?=some (.cells #[.string lo,.string hi] 51 (0,0)):=Ll;clear Ha a0 a1 a2 a3;obtain⟨a0,a1,a2,a3⟩:=cP ha;have hb:w6.heap[nb+1]?=some (.cells #[.string lp,.string hj] 51 (0,0)):=Lm;clear Hb b0 b1 b2 b3;obtain⟨b0,b1,b2,b3⟩:=cP hb;have hr:w6.heap[nb+1+1]?=some (.cells #[.string ⟨#[]⟩,.string ⟨#[]⟩] 51 (0,0)):=Lp;revert w6 hv cX ha a0 a1 a2 a3 hb b0 b1 b2 b3 hr;exact I.o):=h ⟨k⟩
def aif(h:V Q→P:=by
 intro I;obtain⟨wr,hwr⟩:=Y (wq.alloc (.cells #[.slice a n c,.int .i64 i',.int .i64 fin,.int .i64 bad'] 150));have D6:Below wq.heap.size wq wr:=(by rw[hwr];exact aS _ _);have zS:=rO.trans (D6.mono rO.size);obtain⟨h11,B8⟩:=Y wq.heap.size;have t11:es h11 a n c i' fin bad' wr:=(by rw[hwr,B8];exact dq _ _);have x5:=G zS TY.o;have x1:=G zS Le.o;have x2:=G zS Tx.o;revert wr hwr D6 zS h11 B8 t11 x5 x1 x2;exact I.o):=h ⟨k⟩
def OB(h:V Q→P:=by
 intro I;have ai:Below wr.heap.size wr wa:=Pu;have dC:=aF.trans (ai.mono aF.size);revert ai dC;exact I.o):=h ⟨k⟩
def aih(h:P:=by exact ((h.bm.trans (aM.mono h.bm.size)).grown hg (by have:=aM.size;have:=h.bm.size;omega) (fun k e=>by have:=(To.lt k e).1;omega)).setCell (p:=⟨w.heap.size+1+1,0,none⟩) (by show w.heap.size≤w.heap.size+1+1;omega) _):=h
def Gv(h:P:=by go_ret;exact⟨rfl,aL _ _⟩):=h
def KJ(h:P:=by rw[yy _ _ Z,fT,v_]at h1;exact h1):=h
def aii(h:P:=by rintro e w3 ⟨rfl,aM⟩;have H:=eI.o.trans (aM.mono eI.o.size);obtain⟨bK,gV⟩:=ak aM H;clear aM H;go_wp2_with fail;go_ret;exact⟨adh,gV.o⟩):=h
def aij(h:P:=by revert K hK;refine zM ?_;intro hHeld;refine c_ 2 fun K hK=>?_;refine Ro ?_;intro wt eI gC;revert K hK;refine j_ ?_;intro hHeld;refine bB 3 ?_;exact ahe):=h
def aik(h:V Q→P:=by
 intro I bF bG bH bD cC cD cB cF;have mV:=df.o.abn (j':=j3) (bad':=da) bZ;clear bF bG bH bD cC cD cB cF;obtain⟨w3,ea⟩:=Y (((((wz.setCell ⟨g,0,none⟩ (.slice a n c)).setCell ⟨g,1,none⟩ (.int .i64 j3)).setCell ⟨g,2,none⟩ (.int .i64 fin)).setCell ⟨g,3,none⟩ (.int .i64 da)));rw[←ea]at mV⊢;clear ea;have cN:=O mV;clear mV;revert w3 cN;exact I.o):=h ⟨k⟩
def Bo(h:V Q→P:=by
 intro I;have aI:k<l.length:=gl;have gY:k<m.length:=(by have:=fV.o;have:=cJ.o;omega)
 revert aI gY;exact I.o):=h ⟨k⟩
def RI(h:V Q→P:=by
 intro I;have hC:=Hf.o wb _ _ _ _ iq (HR.o _ _ _ _ hp iq) (HR.o _ _ _ _ hq iq) (eZ aI) (eZ gY);revert hC;exact I.o):=h ⟨k⟩
def ail(h:P:=by rw[←h0]at hD;revert hr hq uF h0 hD;refine bU ?_;intro Hr Hq Qe H0 HD;go_enter Qw,Qx;go_wp2_with fail;refine HD.o.mono ?_;refine mT ?_;exact DO):=h
def Wu(h:P:=by
 go_wp2_with fail
 refine zG ?_;exact⟨zZ gU gU,ik _ _ (eG Hw.o cQ.o) iP.o⟩):=h
def aim(h:V Q→P:=by
 intro I;have k7:decide ((0:Int)<((k'+1:Nat):Int))=true:=by rw[fE];omega
 have k8:(((k'+1:Nat):Int)-1)=(k':Int):=Z;have Zn:IntKind.i64.wrap (((k'+1:Nat):Int)-1)=(k':Int):=(by rw[k8];exact i_ _ (by omega));have k9:(0:Int)≤(k':Int):=Z;have Zm:(k':Int)<(n:Int):=Z;revert k7 k8 Zn k9 Zm;exact I.o):=h ⟨k⟩
def ain(h:P:=by rw[hv];obtain⟨HA,Hp,HD,Hv⟩:=kg hA hp hD hv;clear hA hp hD hv;go_enter func155,ntmps155;go_wp2_with fail;refine HA.o.mono ?_;exact Ri):=h
def aio(h:P:=by rw[hv];obtain⟨HA,Hp,HD,Hv⟩:=kg hA hp hD hv;clear hA hp hD hv;go_enter func154,ntmps154;go_wp2_with fail;refine HA.o.mono ?_;exact Ri):=h
def KK(h:V Q→P:=by
 intro I;refine c_ 11 fun K hK=>?_;revert K hK;refine gS ?_;intro hHeld;revert hHeld;exact I.o):=h ⟨k⟩
def KL(h:V Q→P:=by
 intro I;refine bB 1 ?_;refine mr (rs:=[0,2]) aA ae ?_;exact I.o):=h ⟨k⟩
def Wv(h:P:=by have H0:=O h0;clear h0;go_wp2_with fail;go_ret;exact⟨E2 H0.o.symm,Hb.o⟩):=h
def aip(h:V Q→P:=by
 intro I;refine⟨trivial,(AP.2 HT.o).mono ?_⟩;rintro e W5 ⟨rfl,aW⟩;have r2:=G aW Hh.o.r2;have r3:=G aW Hh.o.r3;have O1:=G aW hK;have c5:=ab aW c0;have Tw:=fh bY.o aW;have c1:=J r2 0;have c2:=J r3 0;have f1:=aG r2 0;have f2:=aG r3 0;simp only[aq,ar]at c1 c2;revert aW r2 r3 Tw;refine bV ?_;intro cQ ga gZ tK;revert W5 O1 c5 f1 f2 c1 c2 cQ ga gZ tK;exact I.o):=h ⟨k⟩
def aiq(h:V Q→P:=by
 intro I;have M8:am (fun k=>k=r) w w8:=(by rw[ju];exact mY.setCell (p:=⟨g1,2,none⟩) (.inl (show w.heap.size≤g1 by omega)) _);have tv:am (fun k=>k=r∨k=g∨k=g1) w7 w8:=(by rw[ju];exact (am.refl _ w7).setCell (p:=⟨g1,2,none⟩) (.inr (.inr (.inr rfl))) _);have E7:=Cv de nT il;have M0:=uK hv tv E7;have M7:=lA (lA BD (am.mono (T:=fun k=>k=r∨k=g∨k=g1) bC (fun _ _ h=>.inl h)) (Cv HI.o.st.box HI.o.g0 HI.o.g1)) tv E7;revert M8 tv E7 M0 M7;exact I.o):=h ⟨k⟩
def Ww(h:V Q→P:=by
 intro I;have d0:=ab hS.bm d0;have d1:=ab hS.bm d1;have d2:=ab hS.bm d2;have d3:=ab hS.bm d3;have d4:=ab hS.bm d4;have d5:=ab hS.bm d5;have d6:=ab hS.bm d6;revert d0 d1 d2 d3 d4 d5 d6;exact I.o):=h ⟨k⟩
def Wy(h:V Q→P:=by
 intro I;refine fZ (zlu (g:=g) (k:=g+1) rfl rfl rfl rfl x0 x1 LU rfl aA underlying31 rfl aA) rfl ?_;exact I.o):=h ⟨k⟩
def air(h:V Q→P:=by
 intro I;obtain⟨W0,bw⟩:=Y ((w.alloc (.cells #[.slice a n c,.int .i64 i,.int .i64 fin,.int .i64 bad] 150)).alloc (.cells #[.slice none 0 0,.int .i64 0,.int .i64 0,.int .i64 0] 150));have cM:Below w.heap.size w W0:=Vk;have th:W0.heap.size=g+2:=Vz;revert W0 bw cM th;exact I.o):=h ⟨k⟩
def Wz(h:P:=by
 go_wp2_with fail
 refine cK ?_;go_ret2;exact⟨_,_,_,EA,(fun k=>acf),Hb.o⟩):=h
def ais(h:P:=by refine aok ?_;intro cur css hB iJ N a_ cJ kd ku iW Hr jr iA bY HN iz;refine c_ 7 fun K hK=>?_;revert K hK;refine gS ?_;intro hHeld;exact ahy):=h
def ait(h:P:=by refine aoe ?_;intro cur css hB iJ N a_ cJ kd ku iW Hr jr iA bY HN iz;refine c_ 7 fun K hK=>?_;revert K hK;refine gS ?_;intro hHeld;exact agw):=h
def aiu(h:V Q→P:=by
 intro I;have hl:=It w g t1 ty cs (0,0) d1 hg hu O hi;have gG:=It w k t2 tz ds (0,0) d2 hk uI ak rP;have EM:tmps[p]?.getD undef=.pointer (some ⟨g,0,none⟩):=Mz;have MZ:tmps[q]?.getD undef=.pointer (some ⟨k,0,none⟩):=by simpa using hq
 revert hl gG EM MZ;exact I.o):=h ⟨k⟩
def WA(h:V Q→P:=by
 intro I bF bG bH bD;refine HW.o.mono ?_;rintro e w5 ⟨rfl,aW⟩;have uz:=so.o.to aW;have Z6:=lQ.o _ aW;clear bF bG bH bD;obtain⟨⟨bF,bG,bH,bD⟩,-⟩:=a8 uz.pb;obtain⟨cQ,fH,Ge⟩:=aQ aW uz Z6;clear aW uz Z6;revert w5 bF bG bH bD cQ fH Ge;exact I.o):=h ⟨k⟩
def aiv(h:P:=by obtain⟨Hm,Hr,Hf⟩:=aQ hm hr hf;clear hm hr hf;go_enter func112,ntmps112;go_wp2_with fail;go_ret;exact⟨mu Hf.o.symm,aL _ _⟩):=h
def aiw(h:V Q→P:=by
 intro I a Hh Hg;have aI:k<l.length:=gl;obtain⟨b,off,rfl,d0,d1,eV,gH⟩:=Hg.o k _ (bR aI);have cW:=zur aI
 have cq:uV l k=true→∀j,j<k+1→uV l j=true:=fun h j hj=>by
  by_cases e:j=k
  ·rw[e];exact h
  exact aj j Z
 have bQ:=fun(h:uV l k=false)=>zup aI h;obtain⟨x,hx⟩:=Y (l[k]);rw[←hx]at d0 d1 eV gH cW;refine DQ ?_;intro s hs t ht;rw[←hs]at d0 eV cW;rw[←ht]at d1 gH cW;revert aI b off Hh Hg cq bQ x hx s eV d0 hs t cW gH d1 ht;exact I.o):=h ⟨k⟩
def RL(h:P:=by
 go_wp2_with fail
 go_ret;exact⟨rfl,eG Hw.o bh.o⟩):=h
def aiy(h:V Q→P:=by
 intro I;obtain⟨W0,bw⟩:=Y ((w.alloc (.cells #[.slice a n c,.int .i64 i,.int .i64 fin,.int .i64 0] 150)).alloc (.cells #[.slice none 0 0,.int .i64 0,.int .i64 0,.int .i64 0] 150));have cM:Below w.heap.size w W0:=Vk;have th:W0.heap.size=g+2:=Vz;revert W0 bw cM th;exact I.o):=h ⟨k⟩
def aiz(h:V Q→P:=by
 intro I;have oE:w.heap.size+6≤(((W2.alloc (.cells #[.int .i64 r,.int .i64 q,.string y] 199)).setCell ⟨w.heap.size,0,none⟩ (.slice none 0 0)).setCell ⟨w.heap.size+1,0,none⟩ (.bool false)).heap.size:=aum;revert oE;exact I.o):=h ⟨k⟩
def ka(h:V Q→P:=by
 intro I;rw[Hf.o];unfold dw;exact I.o):=h ⟨k⟩
def aja(h:P:=by refine amy ?_;intro cur css hB iJ N cJ kd ku iW Hr jr iA bY HN iz;refine c_ 9 fun K hK=>?_;revert K hK;refine gS ?_;intro hHeld;exact aig):=h
def ajb(h:P:=by obtain⟨Hr,Hq,H0,Qe,HL,HM,HD,Hx,Hy,Hz,VB⟩:=O2 hr hq h0 uF hL hM hD hx hy hz jK;clear hr hq h0 uF hL hM hD hx hy hz jK;exact adu):=h
def ajc(h:V Q→P:=by
 intro I;have hS:=zid (iY h1 ai) (iY h2 ai);have x0:=J p0 0;have x1:=J p0 1;have y0:=J p1 0;have y1:=J p1 1;simp only[aq,ar,aw]at x0 x1 y0 y1;have dJ:=em.gu n m;obtain⟨bn,fR⟩:=Y (decide (n=m));obtain⟨bs,oF⟩:=Y (decide (l1=l2));rw[←oF]at hS;rw[←fR]at dJ;rw[←fR,←oF];revert x0 x1 y0 y1 bn dJ fR bs hS oF;exact I.o):=h ⟨k⟩
def KM(h:V Q→P:=by
 intro I;rintro e' w9 ⟨rfl,ca⟩;have jN:=x_.o.trans (ca.mono x_.o.size);revert w9 ca jN;exact I.o):=h ⟨k⟩
def WB(h:P:=by obtain⟨bN,aY,-⟩:=aP.2.open;obtain⟨_,_,e⟩:=bg aY;injection e):=h
def KN(h:V Q→P:=by
 intro I;obtain⟨p,hp⟩:=Y (eg (lo.data.toList,hi.data.toList));revert p hp;exact I.o):=h ⟨k⟩
def ajd(h:V Q→P:=by
 intro I Al;have zX:ok s=qp s:=(by rw[Al];simp);clear Al;have ZG:=acu s Ih wd;obtain⟨vb,Tz⟩:=Y (qp s);have BD:pM s.data.toList=vb:=Tz.symm;rw[BD]at ZG;clear BD;rw[←Tz]at zX;obtain⟨L4,T6⟩:=ak ZG Tz;clear ZG Tz;refine bB 3 ?_;refine bB 4 ?_;refine bB 5 ?_;refine bB 6 ?_;revert vb zX L4 T6;exact I.o):=h ⟨k⟩
def WC(h:V Q→P:=by
 intro I;have D7:∀W,am (fun k=>k=r) w W→W.heap[xb]?=some (.cells #[vp,vf] 25 (0,0)):=fun W hF=>bI aP.box hF Ie;revert D7;exact I.o):=h ⟨k⟩
def ajf(h:V Q→P:=by
 intro I K hK;go_simp;refine Lx.o.mono ?_;rintro e wt ⟨he,hwt⟩;have fP:Below wd.heap.size wd wt:=aag;obtain⟨bt,BH⟩:=Y (eL s);have he:e=.returned (.bool bt):=T7;subst he;clear hwt;obtain⟨qH,ki⟩:=ak BH fP;clear BH fP;revert K hK;refine j_ ?_;intro hHeld;have pY:=qO.o.to ki.o;have gC:=O pY;clear pY;revert wt bt he qH ki hHeld gC;exact I.o):=h ⟨k⟩
def WD(h:V Q→P:=by
 intro I;have wX:∀z∈ws,z.2.length≤70000:=fun z hz=>(gJ z hz).2.2.2;have cz:n≤1000:=Z;have cR:b<w.heap.size:=wH w _ d0;revert wX cz cR;exact I.o):=h ⟨k⟩
def WE(h:P:=by go_enter func169,ntmps169;go_wp2;go_ret;exact Gz):=h
def RM(h:V Q→P:=by
 intro I;have uP:ac.EQ t room st k c=0:=(by rw[Hr.o,M fj]);have aj:(ac.iu t st k c).out=st.out:=(by unfold ac.iu;rw[if_pos fj])
 revert uP aj;exact I.o):=h ⟨k⟩
def ajg(h:P:=by
 intro k cs' t aqv h h1 _;have bL:k≠b:=by intro e;subst e;rw[hb]at h;simp at h;exact h1 h.2.1.symm
 rw[AF _ _ _ _ bL];exact h):=h
def WG(h:V Q→P:=by
 intro I;have ux:w9.heap[pb]?=some (.cells cur 45 (0,0)):=(aT.block pb (bS.1 kd.o).1 (fun e=>cJ.o (by rw[Hrv0.o];exact e.symm))).trans kd.o
 revert ux;exact I.o):=h ⟨k⟩
def RN(h:V Q→P:=by
 intro I;have hZ:=HO.o lp hi gG hh;obtain⟨s,hs⟩:=Y (eg (lp.data.toList,hi.data.toList));revert hZ s hs;exact I.o):=h ⟨k⟩
def ajh(h:P:=by revert aj hy dX vM cq iV;refine bX ?_;intro cd Hy Le PL dV Tx;exact apb):=h
def aji(h:V Q→P:=by
 intro I;have old:∀{k:Nat} {o:Obj},k<w.heap.size+6→W.heap[k]?=some o→w1.heap[k]?=some o:=fun {k o} hk ho=>
  (hg.block k (by have:=aM.size;have:=(bS.1 ho).1;omega) (fun e=>by have:=(To.lt k e.symm).1;omega)).trans (G aM ho)
 revert old;exact I.o):=h ⟨k⟩
def ur(h:V Q→P:=by
 intro I;have bZ:w.heap.size≤g:=jg hg.symm;revert bZ;exact I.o):=h ⟨k⟩
def xC(h:V Q→P:=by
 intro I;apply em.ext
 simp only[fz];exact I.o):=h ⟨k⟩
def ajj(h:P:=by obtain⟨⟨x,b1,n1,c1,b2,n2,c2,he⟩,h2⟩:=h;exact⟨x,b1,n1,c1,b2,n2,c2,j,bad,he,.inr ⟨hb,fun h=>absurd h hb⟩,h2⟩):=h
def ajk(h:P:=by
 go_wp2_with fail
 refine QD rfl rfl rfl (Qz _ _ _ bY.o) rfl ?_;exact⟨⟨_,_,_,QC kU.o.symm,QE.o⟩,QA _ _ _ Hb.o (aE _)⟩):=h
def ajl(h:P:=by
 rcases Z1.o with⟨l,h1,h2,h3⟩|h
 ·exact .inl ⟨_,h1,h2,rfl,lA (HL.o (azg h1 Hs.o)) kK aj,uK h3 kK aj⟩
 exact .inr h):=h
def ajm(h:P:=by
 cases bd with
 |true=>
  go_wp2_with fail
  go_meet
  exact⟨(by rw[bO.o];rfl),rfl⟩
 |false=>
  go_wp2_with fail
  go_meet
  exact⟨(by rw[bO.o];rfl),rfl⟩):=h
def ajn(h:P:=by revert hl dH hr hh fT Qh Qg hf;refine fg ?_;intro Hl iH Hr Hh im axs azv Hf;go_enter func76,ntmps76;exact zK):=h
def ajo(h:V Q→P:=by
 intro I;have kh:=lO.o;have nN:=J kh 0;have rQ:=aG kh 0;have nM:=J kh 1;have rR:=aG kh 1;have pW:=J kh 2;have uC:=aG kh 2;have pX:=J kh 3;have uD:=aG kh 3;have ti:=J kh 4;have xS:=aG kh 4;have tj:=J kh 5;have xT:=aG kh 5;have tk:=J kh 6;have xU:=aG kh 6;simp only[aq,ar,aw]at nN nM pW pX ti tj tk;clear kh;refine c_ 6 fun K hK=>?_;go_simp;revert rQ rR uC uD xS xT xU nN nM pW pX ti tj tk K hK;exact I.o):=h ⟨k⟩
def iE(h:V Q→P:=by
 intro I;rw[←aK,←hg];exact I.o):=h ⟨k⟩
def ajp(h:P:=by revert o0 o1 o2 o3 Ho hv;refine pV ?_;intro o0 o1 o2 o3;revert aM ha hb hr ho;refine bU ?_;intro bK Ha Hb Hr Ho;exact Ru):=h
def RO(h:V Q→P:=by
 intro I;have hZ:=HO.o lo hi hl hh;obtain⟨s,hs⟩:=Y (eg (lo.data.toList,hi.data.toList));revert hZ s hs;exact I.o):=h ⟨k⟩
def WH(h:P:=by
 rw[hn]
 cases ws with
 |nil=>exact absurd rfl bL
 |cons x r=>simp):=h
def ajr(h:P:=by
 rcases BG with⟨h0,h1,s,h2,h3,h4,h5⟩|h1
 ·exact .inl ⟨h0,h1,s,h2,by rw[h3];exact wi (Qi h4 h5) qi⟩
 exact .inr h1):=h
def ajs(h:P:=by
 have h:=bO.o.symm;rw[n_]at h;rcases h with h|h
 ·exact .inl (ed (dI.o.symm.trans h))
 exact .inr (ed (nA.o.symm.trans h))):=h
def ajt(h:P:=by
 have iv:dw first line p (az ws i)=none:=by refine ka ?_;rw[E D,E D,E D,E D,E D,M rfl,vT avs];rfl
 exact adw):=h
def WI(h:P:=by obtain⟨css,hr⟩:=aP.1;obtain⟨_,_,e⟩:=bg hr.row;injection e):=h
def aju(h:P:=by
 rintro⟨h1,h2,h3⟩;refine⟨h1,h2,?_⟩;rcases h3 with h|h|h
 ·exact .inr (.inl h)
 ·exact .inl h
 exact .inr (.inr h)):=h
def ajv(h:P:=by obtain⟨qR,d_,jH⟩:=aQ lN ca jN;clear lN ca jN;go_wp2_with fail;go_ret;exact⟨GU,Es.o.trans (jH.o.mono Es.o.size)⟩):=h
def ajw(h:P:=by obtain⟨qR,Ug,G7⟩:=aQ lN lX Eu;clear lN lX Eu;go_wp2_with fail;go_ret;exact⟨GU,Es.o.trans (G7.o.mono Es.o.size)⟩):=h
def WJ(h:V Q→P:=by
 intro I;have d1:w2.cell? ⟨b,1,none⟩=some v:=(by rw[Gf af];rfl);have f1:w2.frozen? ⟨b,1,none⟩=false:=Lib.frozen_of_heap af 1;revert d1 f1;exact I.o):=h ⟨k⟩
def ajy(h:P:=by unfold joinedFacts;rw[cInPlace,aay,cRecurses,cNamed,cPlain,cMake,cLifted,cHeard,cEnter,cLaid,cMaps];kernel_rfl):=h
def WK(h:P:=by have tt:=dM this jj D;exact hf.owns this (fun k hk e=>tt we)):=h
def RP(h:P:=by go_enter func107,ntmps107;exact DO):=h
def ajz(h:P:=by
 go_wp2_with fail
 refine (HD.o _).mono ?_;refine mT ?_;exact VG):=h
def WL(h:P:=by
 go_wp2_with fail
 refine (HD.o _).mono ?_;refine mT ?_;exact zK):=h
def aka(h:P:=by have Hb:=O hb;clear hb;go_enter func83,ntmps83;go_wp2_with fail;go_ret;exact Aw HL.o rfl (by rw[Hb.o];rfl)):=h
def mU(h:V Q→P:=by
 intro I;refine HM.o.mono ?_;exact I.o):=h ⟨k⟩
def akb(h:P:=by rintro pre W i u h;exact⟨h.bm.setCell (p:=⟨w.heap.size+1+1+1,i,none⟩) YT _,ah h.r2 Z,ah h.r3 Z,h.bad⟩):=h
def WM(h:P:=by rw[hr]at jl;simp only[Result.ok.injEq]at jl;rw[jl.1];rfl):=h
def akc(h:P:=by
 have hf:r=false:=by rw[fw,be h0];rfl
 have k2:s.size≤0:=Z;have k3:decide (0<(s.size:Int))=false:=be Z;exact Kx):=h
def ake(h:P:=by clear Lb;revert aF ho Zq KZ BG hz;refine bX ?_;intro bO Ho awy GL ayh Hz;go_wp2_with fail;go_ret;exact⟨(by rw[ayh.o];rfl),bO.o⟩):=h
def akf(h:V Q→P:=by
 intro I;have Bw:w3.heap[w.heap.size]?=some (.cells #[.int .i64 0,.int .i64 0] 31 (0,0)):=by rw[h3.bm.block _ ae];exact dq w _
 have z0:=J Bw 0;have z1:=J Bw 1;have y0:=aG Bw 0;have y1:=aG Bw 1;simp only[aq,aw,ar]at z0 z1;revert Bw y0 y1 z0 z1;exact I.o):=h ⟨k⟩
def RQ(h:P:=by
 go_wp2_with fail
 go_ret;exact⟨rfl,aB.o⟩):=h
def RR(h:P:=by
 go_wp2_with fail
 go_ret2
 exact⟨G_,oL.o⟩):=h
def akg(h:P:=by
 constructor
 ·intro h s hs;obtain⟨x,hx,rfl⟩:=gb.1 hs;exact h x hx
 intro h x hx;exact h _ (gb.2 ⟨x,hx,rfl⟩)):=h
def akh(h:V Q→P:=by
 intro I v hv;obtain⟨a3,c3,rfl⟩:=CH hv.1;have mY:=(aN HI.o.gc 1 (.int .i64 ((i:Int)+1))).trans bC (fun _ _ h=>h);obtain⟨z,hz⟩:=Y l.length;rw[←hz]at hv⊢;have nT:dQ g (.string ⟨#[]⟩) (.slice none 0 0) (.slice none 0 0) w7:=dh bC (ah (b:=r) (i:=1) HI.o.g0 Z) Z;revert a3 c3 mY z hv hz nT;exact I.o):=h ⟨k⟩
def WN(h:V Q→P:=by
 intro I;have mW:¬Ty w1 pb:=dF bW D;have hB:B≤w1.heap.size:=fu iO r8.o.size;have aY:=hr.row;rw[←Hm.o,Hrv0.o]at aY;revert mW hB aY;exact I.o):=h ⟨k⟩
def aki(h:P:=by
 by_cases h1:a.2=[]
 ·exact .inl (.inl h1)
 by_cases h2:b.2=[]
 ·exact .inr (.inl h2)
 exact absurd ⟨h1,h2⟩ h):=h
def Gw(h:V Q→P:=by
 intro I;have sj:B≤w3.heap.size:=fu mH.o cN.o.bm.size;revert sj;exact I.o):=h ⟨k⟩
def akj(h:P:=by
 go_wp2_with fail
 go_roundw
 case rel=>exact⟨k+1,Z,cj,UG.o,nA.o⟩
 case measure=>(simp[RowKit.intOf])<;>omega):=h
def WO(h:P:=by go_enter Iu,Iv;go_wp2_with fail;go_ret;exact Aw H2.o rfl rfl):=h
def WQ(h:P:=by exact (h.bm.trans b1).trans (f2.below avo (fun k hk=>Vx))):=h
def WR(h:V Q→P:=by
 intro I;have xW:=xW.below (dA (aL _ _));refine⟨_,_,_,_,_,_,_,_,_,_,_,_,_,_,_,_,_,_,j3,da,(by rw[mj.o,rq.o]),?_,pN.drew⟩;revert xW;exact I.o):=h ⟨k⟩
def WS(h:V Q→P:=by
 intro I;refine vH ?_;intro oU hHeld;have bQ:Below w2.heap.size w2 w2.drew:=dA (aL _ _);generalize w2.drew=wd at bQ⊢;have aV:=uW.o.to bQ;revert oU hHeld wd bQ aV;exact I.o):=h ⟨k⟩
def Bq(h:V Q→P:=by
 intro I;show (if _ then _ else _)=_
 exact I.o):=h ⟨k⟩
def KP(h:P:=by subst hk;exact⟨Z,Z,Ic⟩):=h
def akk(h:P:=by revert bC aj iv zQ;refine bV ?_;intro iR cd iQ BF;refine cK ?_;exact⟨rfl,Pk iQ.o BF.o (aL _ _) rfl⟩):=h
def akl(h:V Q→P:=by
 intro I;refine iW.o.mono ?_;rintro e w2 ⟨v,rfl,dH,af⟩;obtain⟨ad,cp,rfl⟩:∃a c,v=.slice a ls.length c:=by obtain⟨a,cap,hv,_⟩:=dH;simp only[nj,lv]at hv;exact⟨a,cap,hv⟩
 obtain⟨n,hn⟩:=Y ls.length;rw[←hn]at dH⊢;revert w2 af ad cp n dH hn;exact I.o):=h ⟨k⟩
def akm(h:V Q→P:=by
 intro I a0 a1 a2 a3 b0 b1 b2 b3 Ha Hb;have lP:Below w0.heap.size w0 w7:=(by rw[hv];exact je.o.setCell (p:=⟨go,1,none⟩) vh.o _);have ha:w7.heap[nb]?=some (.cells #[.string lo,.string hi] 51 (0,0)):=Ll;clear Ha a0 a1 a2 a3;obtain⟨a0,a1,a2,a3⟩:=cP ha;have hb:w7.heap[nb+1]?=some (.cells #[.string lp,.string hj] 51 (0,0)):=Lm;clear Hb b0 b1 b2 b3;obtain⟨b0,b1,b2,b3⟩:=cP hb;have hr:w7.heap[nb+1+1]?=some (.cells #[.string ⟨#[]⟩,.string ⟨#[]⟩] 51 (0,0)):=Lp;revert lP ha a0 a1 a2 a3 hb b0 b1 b2 b3 hr;exact I.o):=h ⟨k⟩
def zJ(h:V Q→P:=by
 intro I;go_simp;refine Ea.o.mono ?_;exact I.o):=h ⟨k⟩
def akn(h:P:=by revert hl dH hr hh fT hf;refine bX ?_;intro Hl iH Hr Hh im Hf;go_enter func76,ntmps76;exact zK):=h
def ako(h:V Q→P:=by
 intro I;have m_:wa.heap[hc]?=some (.cells #[.string ⟨#[]⟩,.slice none 0 0,.slice none 0 0,.string ⟨#[]⟩,.slice none 0 0,.slice none 0 0,.int .i64 0] 96 (0,0)):=(by rw[cW,uZ];exact dq _ _);rw[←cW];revert m_;exact I.o):=h ⟨k⟩
def akp(h:V Q→P:=by
 intro I;obtain⟨w8,ju⟩:=Y (w7.setCell ⟨g1,2,none⟩ (.slice a3 z c3));have Ap:na w0 r a n c fin j w8:=(by rw[ju];exact⟨ah Ms.box (by omega),Ms.bm.setCell (p:=⟨g1,2,none⟩) (by have:=HC.o.low;show w0.heap.size≤g1;omega) _⟩);have Na:dQ g (.string ⟨#[]⟩) (.slice none 0 0) (.slice none 0 0) w8:=by rw[ju];exact ah nT Z
 revert w8 ju Ap Na;exact I.o):=h ⟨k⟩
def akq(h:V Q→P:=by
 intro I;have Kd:=(((Me.o.setc Tq 3 (.string y)).setc Tq 4 (.slice d dn dc)).setc Tq 5 (.slice e2 en ec)).abn (j':=j5) (bad':=cG) vX;refine⟨y,d,dn,dc,e2,en,ec,j5,cG,Kd,?_⟩;have OC:=Hn.o;revert Kd OC;exact I.o):=h ⟨k⟩
def akr(h:P:=by
 refine cK ?_;go_roundw
 case rel=>exact⟨q+1,Z,cj,bY.o,gV.o⟩
 case measure=>(simp[RowKit.intOf])<;>omega):=h
def uu(h:P:=by simpa using this):=h
def aks(h:V Q→P:=by
 intro I;have aj:(ac.iu t st k c).out=st.out++[((k:Int)+1,ac.wl t k)]:=by unfold ac.iu;rw[if_neg BZ]
 have rU:(ac.iu t st k c).off=false:=QF.o;have fe:ac.part (t.getD k 0)=true:=(by rw[Ht.o,ME s k e8,←Hc.o,←ES.o]);revert aj rU fe;exact I.o):=h ⟨k⟩
def akt(h:P:=by
 go_wp2_with fail
 go_roundw
 case rel=>exact⟨2*bs,_,cj,Z,Z,rk.o,HS.o⟩
 case measure=>simp[intOf];omega):=h
def aku(h:V Q→P:=by
 intro I;obtain⟨wS,B9⟩:=Y (wr.setCell ⟨g5,2,none⟩ (.slice sb sm sd));have s1:dQ (g+1) (.string ⟨#[]⟩) (.slice none 0 0) (.slice none 0 0) wS:=(by rw[B9];exact ah gD.o (by omega));have s2:es (g+1+1) none 0 0 0 0 0 wS:=(by rw[B9];exact ah vU.o (by omega));rw[←B9];revert wS B9 s1 s2;exact I.o):=h ⟨k⟩
def KQ(h:P:=by exact⟨mu H0.o.symm,rfl⟩):=h
def WT(h:V Q→P:=by
 intro I;have EN:∀l,iy w8 (.slice sb sm sd) l→iy cH (.slice sb sm sd) l:=fun l h=>uK (LV h qi) ep BU;revert EN;exact I.o):=h ⟨k⟩
def akw(h:V Q→P:=by
 intro I;have fj:s[k].toNat=n:=hn.symm;have e:l[k]=s[k]:=Fs;have fF:97≤n→n≤122→(l.take (k+1)).all wR=true:=fun h1 h2=>by rw[pP aI,CX,eC];simp only[wK,Fz,BK,x8];rw[Fl,e,fj];exact⟨h1,h2⟩
 revert fj e fF;exact I.o):=h ⟨k⟩
def akx(h:V Q→P:=by
 intro I;have GW:=ah (b:=g) (i:=3) (u:=.int .i64 GS) (ah (b:=g) (i:=2) (u:=.int .i64 fin) (ah (b:=g) (i:=1) (u:=.int .i64 i2) (ah (b:=g) (i:=0) (u:=.slice a n c) z5 Z) Z) Z) Z;revert GW;exact I.o):=h ⟨k⟩
def WU(h:P:=by
 go_wp2_with fail
 go_meet
 exact⟨by rw[aBp.o];rfl,rfl⟩):=h
def aky(h:P:=by rintro e w1 ⟨rfl,Cu,Mw,AG,E3,h1⟩;have H1:=O h1;clear h1;go_wp2_with fail;go_ret;exact Aw H1.o rfl rfl):=h
def akz(h:P:=by obtain⟨Hq,fS,iS,ir,kd,dV,bO⟩:=oD hq aU bJ a_ bW cq aF;clear hq aU bJ a_ bW cq aF;exact afd):=h
def ala(h:V Q→P:=by
 intro I;obtain⟨d1,k1⟩:=mq lp.toList.isEmpty;obtain⟨d2,k2⟩:=mq lo.toList.isEmpty;obtain⟨d3,k3⟩:=mq hj.toList.isEmpty;obtain⟨d4,k4⟩:=mq hi.toList.isEmpty;revert d1 k1 d2 k2 d3 k3 d4 k4;exact I.o):=h ⟨k⟩
def alb(h:P:=by
 obtain⟨abw,T_⟩:=ak e1 e2;clear e1 e2;go_wp2_with fail;go_meet
 exact⟨by rw[abw.o],by rw[T_.o],rfl⟩):=h
def KR(h:V Q→P:=by
 intro I;refine lM ?_;intro g hg;have ai:Below w.heap.size w W1:=LF;revert g hg ai;exact I.o):=h ⟨k⟩
def alc(h:P:=by
 have iv:dw first line p (az ws i)=none:=by refine ka ?_;rw[E D,E D,M rfl,vT avs];rfl
 exact adw):=h
def WV(h:V Q→P:=by
 intro I;have kK:=hT.drew;have nP:dQ (g+1) (.string ⟨#[]⟩) (.slice a2 n2 q2) (.slice sb sm sd) wT.drew:=r1;revert kK nP;exact I.o):=h ⟨k⟩
def WW(h:P:=by have:=hT k k1 k2;unfold Live;exact⟨Z,Z,Z,this.2⟩):=h
def ale(h:V Q→P:=by
 intro I;refine lr hops 0 ?_;refine lr hops 1 ?_;refine lr hops 2 ?_;refine lr hops 3 ?_;refine lr hops 4 ?_;refine lr hops 5 ?_;refine lr hops 6 ?_;exact I.o):=h ⟨k⟩
def alf(h:P:=by revert fj BZ my tD;refine bV ?_;intro Ez Vd UH PH;go_wp2_with fail;refine (HP.o _).mono ?_;exact adq):=h
def mn(h:V Q→P:=by
 intro I;rw[←bw,←ck];exact I.o):=h ⟨k⟩
def alg(h:V Q→P:=by
 intro I;have nu:w6.heap[hc]?=some (.cells #[.string xs,.slice ua un uc,.slice va vn vc,.string ⟨#[]⟩,.slice (some kA) 1 1,.slice none 0 0,.int .i64 line] 96 (0,0)):=(by rw[cL];exact ag _ hc 6 _ _ (.int .i64 line) (ag _ hc 5 _ _ (.slice none 0 0) (ag _ hc 4 _ _ (.slice (some kA) 1 1) (ag _ hc 3 _ _ (.string ⟨#[]⟩) (ag _ hc 2 _ _ (.slice va vn vc) (ag _ hc 1 _ _ (.slice ua un uc) (ag _ hc 0 _ _ (.string xs) (lO.o))))))))
 revert nu;exact I.o):=h ⟨k⟩
def alh(h:V Q→P:=by
 intro I;have hA:=fun(W:World)(k:Below w0.heap.size w0 W)=>E4 lo hi hl hh (hD.below (eG hw k));have hB:=fun(W:World)(k:Below w0.heap.size w0 W)=>E4 lp hj gG zW (hD.below (eG hw k));revert hA hB;exact I.o):=h ⟨k⟩
def RU(h:V Q→P:=by
 intro I;have eY:=eS fq.o;have qZ:=bI xO.o.pb eY (dM bY.o xO.o.pb D);refine Rq ?_;intro lY lZ;revert eY qZ lY lZ;exact I.o):=h ⟨k⟩
def ali(h:P:=by
 go_wp2_with fail
 refine wp_loop_rounds 1 ?_;rw[rounds_succ];go_wp2_with fail;go_end0
 exact Gz):=h
def alj(h:P:=by
 go_wp2_with fail
 go_roundw
 case rel=>exact⟨k+1,Z,cj,Hq.o,_,rfl⟩
 case measure=>simp[intOf];omega):=h
def WX(h:V Q→P:=by
 intro I;have x0:=ab aF x0;have x1:=ab aF x1;have x2:=ab aF x2;have x3:=ab aF x3;have x4:=ab aF x4;have x5:=ab aF x5;have x6:=ab aF x6;revert x0 x1 x2 x3 x4 x5 x6;exact I.o):=h ⟨k⟩
def WY(h:V Q→P:=by
 intro I;refine fZ (yx rfl _ _ _ _ _ _ _ rfl bJ.1 underlying72 rfl aA) rfl ?_;exact I.o):=h ⟨k⟩
def alm(h:V Q→P:=by
 intro I;refine⟨ae,.inl ⟨_,_,rfl,Rh O0,?_⟩⟩;refine⟨_,IB rfl rfl rfl ((tV Z).trans x1) ((tV Z).trans x2) (isAgg52 _) (IP _),?_⟩;exact I.o):=h ⟨k⟩
def WZ(h:V Q→P:=by
 intro I;obtain⟨cH,et⟩:=Y (w9.setCell ⟨g4,2,none⟩ (.slice sb sm sd));have ep:am (fun z=>z=g4) w9 cH:=(by rw[et];exact aN (am.refl _ _) 2 _)
 revert cH et ep;exact I.o):=h ⟨k⟩
def W6(h:V Q→P:=by
 intro I;have kK:=hT.drew;have nP:dQ (g+1) (.string ⟨#[]⟩) (.slice va 1 1) (.slice sb sm sd) wT.drew:=r1;revert kK nP;exact I.o):=h ⟨k⟩
def aln(h:P:=by obtain⟨hB,v,jM,dG,bL⟩:=h;exact⟨hB,v,(hb.block b (bS.1 jM).1).trans jM,fh dG hb,bL⟩):=h
def W_(h:V Q→P:=by
 intro I;rintro e w5 ⟨rfl,aW⟩;have cR:=bO.o.trans (aW.mono bO.o.size);obtain⟨cQ,eI⟩:=ak aW cR;clear aW cR;revert w5 cQ eI;exact I.o):=h ⟨k⟩
def alo(h:V Q→P:=by
 intro I;obtain⟨go,hg⟩:=Y w2.heap.size;have hs:Below w2.heap.size w2 w3:=YZ;have aM:=bh.o.trans (hs.mono bh.o.size);have Mf:w0.heap.size≤go:=by rw[hg];exact bh.o.size
 have Mh:nb≠go:=aun;have Mi:nb+1≠go:=auo;have Mj:nb+1+1≠go:=aup;revert go hg hs aM Mf Mh Mi Mj;exact I.o):=h ⟨k⟩
def Xa(h:P:=by
 go_wp2_with fail
 go_ret;exact⟨mu Hf.o.symm,kM.o⟩):=h
def alp(h:V Q→P:=by
 intro I;have L0:g5<h11:=(by rw[B8];exact (bS.1 (G rO TY.o)).1);have XO:¬h11=g5:=Z;have ak:¬g5=h11:=Z;have aQ:¬h11=g+1:=Z;have kg:¬h11=g+1+1:=Z;have K4:¬g5=g+1:=Z;have By:¬g5=g+1+1:=Z;have cR:Below w.heap.size w wr:=TK.o.trans (zS.mono TK.o.size);have hL:=fun h=>pG (Z3.o h) zS;revert L0 XO ak aQ kg K4 By cR hL;exact I.o):=h ⟨k⟩
def Xb(h:V Q→P:=by
 intro I;obtain⟨zb,hzb⟩:=Y wa.heap.size;have oO:Below wa.heap.size wa wb:=TL;have fL:=gk.o.trans (oO.mono gk.o.size);revert zb hzb oO fL;exact I.o):=h ⟨k⟩
def alr(h:P:=by
 rcases Tn.2 with⟨hv,_⟩|⟨g,cap,cur,hv,_⟩
 ·exact⟨_,_,_,hv⟩
 exact⟨_,_,_,hv⟩):=h
def Xc(h:P:=by
 go_wp2_with fail
 go_ret;exact⟨rfl,eG Hw.o cr.o⟩):=h
def Xd(h:V Q→P:=by
 intro I;refine (HA.o _ cr.o).mono ?_;rintro e w1 ⟨rfl,ai⟩;obtain⟨c0,c1⟩:=cU.o _ ai;have aB:=O ai;clear ai;revert w1 c0 c1 aB;exact I.o):=h ⟨k⟩
def als(h:P:=by
 rintro e w2 ⟨rfl,eo⟩;have yh:=O eo;clear eo;go_wp2_with fail;go_end0
 exact⟨rfl,yh.o⟩):=h
def alt(h:V Q→P:=by
 intro I;have u3:=J (G ca yE.o) 3;have u4:=J (G ca yE.o) 4;have u5:=J (G ca yE.o) 5;have t3:=J (G ca kU.o) 3;have t4:=J (G ca kU.o) 4;have t5:=J (G ca kU.o) 5;simp only[aq,ar,aw]at u3 u4 u5 t3 t4 t5;have G0:=qW.o _ jN;revert u3 u4 u5 t3 t4 t5 G0;exact I.o):=h ⟨k⟩
def qJ(h:V Q→P:=by
 intro I;refine HP.o.mono ?_;exact I.o):=h ⟨k⟩
def alu(h:P:=by revert bC hw iv;refine fo ?_;intro iR Hw iQ;refine cK ?_;exact⟨rfl,G2 iQ.o rfl iR.o⟩):=h
def alv(h:P:=by revert eC xK hf;refine fo ?_;intro jd TP Hf;go_wp2_with fail;go_ret;exact⟨mu Hf.o,rfl⟩):=h
def alw(h:V Q→P:=by
 intro I;have aI:(k:Int)<(m:Int):=Z;have Zl:(0:Int)≤(k:Int):=Z;have kw:IntKind.i64.wrap ((m:Int)-1)=(k:Int):=sR;have kp:(0:Int)<(m:Int):=Z;have kn:0<m:=Z;have Tr:k<m:=Z;have kt:decide ((0:Int)<(m:Int))=true:=aO kp;revert aI Zl kw kp kn Tr kt;exact I.o):=h ⟨k⟩
def alx(h:P:=by have pt:=Ed (bz lz _ _ _ _ Hw.o (jH.o.trans (qL.o.mono jH.o.size))) cz m fin false;exact V2):=h
def aly(h:P:=by
 go_wp2_with fail
 go_ret;exact⟨⟨true,rfl,fun h=>tm⟩,cr.o.trans (jH.o.mono cr.o.size)⟩):=h
def Xe(h:V Q→P:=by
 intro I;refine Ii.o.mono ?_;rintro e w4 ⟨rfl,eM⟩;obtain⟨bo,tI⟩:=Y w3.heap.size;have mw:Below w3.heap.size w3 w4:=My;revert w4 eM bo tI mw;exact I.o):=h ⟨k⟩
def Xf(h:V Q→P:=by
 intro I;go_quiet (first|(go_at_call 76;exact aac (HN.o _))|(go_at_call 108;exact aac (HV.o _)))
 revert nq;exact I.o):=h ⟨k⟩
def Xg(h:V Q→P:=by
 intro I;have f1:am (fun k=>ov.ownBlock=some k) w w3:=(am.refl _ w).grown hg (fun k hk=>.inr hk);revert f1;exact I.o):=h ⟨k⟩
def alz(h:P:=by have pt:=Ed (bz lz _ _ _ _ Hw.o (jH.o.trans (qL.o.mono jH.o.size))) cz m fin true;exact V2):=h
def ama(h:P:=by unfold n0;rw[←zol,GO,←zsx,←k1,←tC,hp,em.gu];exact iB _ (rz.2 ba_eq.symm)):=h
def Xh(h:V Q→P:=by
 intro I;have d1:¬g10=g+1:=Z;have d2:¬g10=g+1+1:=Z;have d3:¬g4=g+1:=Z;have d4:¬g4=g+1+1:=Z;have d5:¬g10=g4:=Z;revert d1 d2 d3 d4 d5;exact I.o):=h ⟨k⟩
def amb(h:P:=by exact (aB.o.grown Uh.o Eh (fun k hk=>(cZ.o.lt k hk).1)).setCell (p:=⟨b,1,none⟩) hB _):=h
def RV(h:P:=by rw[iT.o r LD.o,Ei.o]at e1;cases e1):=h
def Xi(h:V Q→P:=by
 intro I;go_quiet (first|(go_at_call 47;exact aad (HN.o _))|(go_at_call 88;exact aad (HV.o _)))
 revert nq;exact I.o):=h ⟨k⟩
def amd(h:P:=by have pt:=Ed (bz lz _ _ _ _ Hw.o (jH.o.trans (qL.o.mono jH.o.size))) cz m fin vb;exact V2):=h
def ame(h:P:=by
 rintro z (rfl|rfl|rfl)
 ·exact jf Z2.o D D
 ·exact jf gD.o D D
 exact jf vU.o D D):=h
def OD(h:V Q→P:=by
 intro I;rintro e w2 ⟨rfl,hs⟩;have af:=aB.o.trans (hs.mono aB.o.size);revert w2 hs af;exact I.o):=h ⟨k⟩
def Xj(h:V Q→P:=by
 intro I;obtain⟨w4,hv⟩:=Y (w3.setCell ⟨go,1,none⟩ (.string hj));have bA:Below w0.heap.size w0 w4:=(by rw[hv];exact bK.o.setCell (p:=⟨go,1,none⟩) vh.o _)
 revert w4 hv bA;exact I.o):=h ⟨k⟩
def Xk(h:V Q→P:=by
 intro I;obtain⟨w5,hv⟩:=Y (w4.setCell ⟨go,1,none⟩ (.string hj));have aW:Below w0.heap.size w0 w5:=acs;revert w5 hv aW;exact I.o):=h ⟨k⟩
def OE(h:V Q→P:=by
 intro I;have k5:(0:Int)≤(i:Int):=Z;have k6:(i:Int)<(n:Int):=Z;revert k5 k6;exact I.o):=h ⟨k⟩
def OF(h:V Q→P:=by
 intro I;obtain⟨l,hl⟩:=Y s.data.toList;have dH:l.length=s.size:=(by rw[hl];exact dl s)
 revert l hl dH;exact I.o):=h ⟨k⟩
def Xl(h:P:=by
 go_wp2_with fail
 go_ret;exact⟨ret_i MB,Hw.o⟩):=h
def amf(h:P:=by
 rw[xK]
 cases l with
 |nil=>simp at h0;rw[aO Z];rfl
 |cons x t=>simp at h0;rw[be Z];rfl):=h
def DQ(h:V Q→P:=by
 intro I;obtain⟨s,hs⟩:=Y x.1;obtain⟨t,ht⟩:=Y x.2;revert s hs t ht;exact I.o):=h ⟨k⟩
def ami(h:P:=by obtain⟨bh,bK⟩:=ak af aM;clear af aM;go_wp2_with fail;go_ret;exact⟨rfl,bK.o⟩):=h
def amj(h:V Q→P:=by
 intro I;have UE:=B3 iF.o.wds 1 fin 0;obtain⟨s,hs⟩:=Y (aD ws 1);rw[←hs]at UE;have a_:s.size≤70000:=by rw[hs];exact kV.o 1
 obtain⟨⟨bF,bG,bH,bD⟩,-⟩:=a8 iF.o.pb;obtain⟨L7,Hs,ir⟩:=aQ UE hs a_;clear UE hs a_;revert s bF bG bH bD L7 Hs ir;exact I.o):=h ⟨k⟩
def Xm(h:V Q→P:=by
 intro I;obtain⟨bl,pZ⟩:=Y ((bv || (ba || (bo || (bi || (bd || bc))))));have vZ:=O pZ;clear pZ;revert bl vZ;exact I.o):=h ⟨k⟩
def amk(h:P:=by
 intro p hp;rcases ff.1 hp with hp|hp
 ·exact h.ok p hp
 rw[gd]at hp;subst hp;exact hx):=h
def OG(h:P:=by cases e;exact⟨rfl,hz,g⟩):=h
def aml(h:P:=by obtain⟨bh,eI⟩:=ak af cR;clear af cR;go_wp2_with fail;go_ret;exact⟨rfl,eI.o⟩):=h
def amm(h:V Q→P:=by
 intro I;simp only[Rc,Re,Rf,Rg,ig,ru,zT,zU,zV];refine wpS_of_wp ?_;generalize hQ:(fun(e:Exit)(a':Act)(w':World)=>_)=Q;have HQ:=O hQ;clear hQ;refine cK ?_;rw[←HQ.o];revert Q HQ;exact I.o):=h ⟨k⟩
def amn(h:V Q→P:=by
 intro I;have a_:∀y∈out++[x],y.1.size≤70000∧y.2.size≤70000:=fun y hy=>by
  rcases ff.1 hy with hy|hy
  ·exact h.sz y hy
  rw[gd]at hy;rw[hy];exact hx
 revert a_;exact I.o):=h ⟨k⟩
def KS(h:V Q→P:=by
 intro I;rintro e w2 ⟨rfl,af⟩;have bh:=O af;clear af;revert w2 bh;exact I.o):=h ⟨k⟩
def amp(h:P:=by revert aF hv aU a_ bJ bW cq;refine eb ?_;intro bO Hv fS ir iS kd dV;exact afd):=h
def amq(h:P:=by
 rcases h with h|h
 ·exact .inl (A0 h hb)
 exact .inr (A0 h hb)):=h
def KT(h:P:=by exact aj j h1 h2 Z):=h
def amr(h:P:=by
 rintro (⟨l,u⟩|⟨l,u⟩)
 ·exact⟨.inl l,.inl u⟩
 exact⟨.inr l,.inr u⟩):=h
def ams(h:P:=by
 rcases Aa.o with⟨k1,k2,k3⟩|⟨k1,k2⟩
 ·exact⟨k1,k2⟩
 exact absurd h1 k2):=h
def amt(h:P:=by
 intro h;rcases zjh a b with e|e
 ·rw[e]at h;exact .inl h
 rw[e]at h;exact .inr h):=h
def amu(h:V Q→P:=by
 intro I K hK;go_simp;refine Lx.o.mono ?_;rintro e wt ⟨he,fP⟩;obtain⟨bt,BH⟩:=Y (tS s);have he:e=.returned (.bool bt):=T7;subst he;obtain⟨qH,ki⟩:=ak BH fP;clear BH fP;revert K hK;refine j_ ?_;intro hHeld;have pY:=qO.o.to ki.o;have gC:=O pY;clear pY;revert wt bt he qH ki hHeld gC;exact I.o):=h ⟨k⟩
def amv(h:P:=by
 cases r' with
 |nil=>rfl
 |cons y t=>refine Bq ?_;rw[E (by rw[hr y rfl];simp)]):=h
def amw(h:V Q→P:=by
 intro I a0 a1 a2 a3 b0 b1 b2 b3 Ha Hb;have ha:w2.heap[nb]?=some (.cells #[.string lo,.string hi] 51 (0,0)):=Ll;clear Ha a0 a1 a2 a3;obtain⟨a0,a1,a2,a3⟩:=cP ha;have hb:w2.heap[nb+1]?=some (.cells #[.string lp,.string hj] 51 (0,0)):=Lm;clear Hb b0 b1 b2 b3;obtain⟨b0,b1,b2,b3⟩:=cP hb;have hr:w2.heap[nb+1+1]?=some (.cells #[.string ⟨#[]⟩,.string ⟨#[]⟩] 51 (0,0)):=Lp;revert ha a0 a1 a2 a3 hb b0 b1 b2 b3 hr;exact I.o):=h ⟨k⟩
def amx(h:P:=by intro v' w' h2 h3 h4;obtain⟨g,cap,rfl,_⟩:=AH h2 Z;exact h g cap w' h2 h3 h4):=h
def amz(h:P:=by
 go_wp2_with fail
 refine zI ?_;exact⟨tf gU gU YY,ik _ _ (eG Hw.o dL.o) iP.o⟩):=h
def ana(h:P:=by have HD:=O hD;clear hD;go_enter func150,ntmps150;refine cK ?_;exact Gv):=h
def anb(h:P:=by
 go_wp2_with fail
 refine zI ?_;exact⟨tf gU gU GM,ik _ _ (eG Hw.o si.o) iP.o⟩):=h
def anc(h:P:=by
 go_wp2_with fail
 refine zI ?_;exact⟨tf gU gU GM,ik _ _ (eG Hw.o dL.o) iP.o⟩):=h
def ane(h:P:=by
 go_wp2_with fail
 refine zI ?_;exact⟨tf gU gU GM,ik _ _ (eG Hw.o je.o) iP.o⟩):=h
def anf(h:P:=by
 go_wp2_with fail
 refine zI ?_;exact⟨tf gU gU GM,ik _ _ (eG Hw.o kM.o) iP.o⟩):=h
def ang(h:P:=by
 go_wp2_with fail
 refine zI ?_;exact⟨tf gU gU GM,ik _ _ (eG Hw.o cQ.o) iP.o⟩):=h
def anh(h:V Q→P:=by
 intro I;have Zg:∀(fn:Fn)(first cap:Array Value)(w:World),(Instr.makeFunc fn first cap).run prog w=.ok (.func fn first cap) w:=fun _ _ _ _=>rfl;revert Zg;exact I.o):=h ⟨k⟩
def Xn(h:P:=by
 go_wp2_with fail
 go_ret;exact⟨rfl,gV.o⟩):=h
def OH(h:P:=by unfold Live at this;omega):=h
def OI(h:P:=by rw[iU,iU,iU]at a_;omega):=h
def ani(h:P:=by
 obtain⟨Hc,uL⟩:=ak hc gX;clear hc gX;go_wp2_with fail;go_meet
 exact uL.o):=h
def anj(h:P:=by rw[hq]at h;cases h;obtain⟨e1,e2⟩:=zs5 hq;exact⟨⟨hk,e2⟩,by rw[e1]⟩):=h
def ank(h:P:=by
 go_wp2_with fail
 refine zG ?_;exact⟨zZ PC PD,ik _ _ (eG Hw.o dL.o) iP.o⟩):=h
def anl(h:P:=by
 rcases hc with⟨_,h,h0,h1⟩|⟨h,_⟩
 ·cases h;exact⟨h0,h1⟩
 cases h):=h
def anm(h:P:=by
 go_wp2_with fail
 refine zG ?_;exact⟨zZ gU gU,ik _ _ (eG Hw.o bK.o) iP.o⟩):=h
def ann(h:P:=by refine⟨l,aug,l2,h0,(by rw[←h2];show q.length≤1000;omega),fun y hy=>?_⟩;rw[←h2]at hy;have:=g1 y hy;omega):=h
def Xo(h:V Q→P:=by
 intro I;have e:∀l:List UInt8,(⟨l.toArray⟩:ByteArray).size=l.length:=fun l=>rfl;revert e;exact I.o):=h ⟨k⟩
def ano(h:V Q→P:=by
 intro I;have e:mb (x::l) out=if hasB 61 x=true then (if nz (out++[lG x])=true then mb l (out++[lG x]) else none) else some (out,x::l):=rfl
 revert e;exact I.o):=h ⟨k⟩
def anp(h:V Q→P:=by
 intro I;unfold Oper.wp execOp;simp only[ho,resolve,invoke,builtin,E8,Q9,Result.andThen_ok,List.map_toArray,eU,Aq,hs,hx,hr];exact I.o):=h ⟨k⟩
def anq(h:P:=by have k2:=ah (b:=g+1) (i:=2) (u:=.slice sb sm sd) k1 Z;rw[fQ];exact abe k2):=h
def Xp(h:P:=by have:=ta p hp;cases hp;exact⟨cR,this⟩):=h
def anr(h:P:=by
 rintro (h|h|h)
 ·exact .inr (.inl h)
 ·exact .inl h
 exact .inr (.inr h)):=h
def ans(h:V Q→P:=by
 intro I;refine kG ?_;intro k5;have k6:(k:Int)<(n5:Int):=Z;have yr:k<9223372036854775807:=by have:=G5.o;omega
 have aI:k<p.gr.length:=by have:=tF.o.1;omega
 obtain⟨x,hx⟩:=Y (p.gr[k]);revert k5 k6 yr aI x hx;exact I.o):=h ⟨k⟩
def ant(h:V Q→P:=by
 intro I;have bQ:Below w6.heap.size w6 w6.drew:=dA (aL _ _);generalize w6.drew=wd at bQ⊢;have aV:=Ay.o.to bQ;have LO:=B3 (qg.o _ aV.bm) j3 fin 0;obtain⟨o6,CA⟩:=Y (aD ws j3);rw[←CA]at LO;revert wd bQ aV o6 LO CA;exact I.o):=h ⟨k⟩
def anu(h:P:=by
 have HS:=O S;clear S;go_wp2_with fail;go_end0
 exact⟨rfl,_,HS.o,HE.o⟩):=h
def anv(h:P:=by exact fZ (yx rfl _ _ _ _ _ _ _ rfl hf.1 BB rfl aA) rfl ⟨rfl,hf.2⟩):=h
def anw(h:P:=by obtain⟨cur,hc⟩:=tH L.row pb rfl;exact⟨cur,bI hc hF fun h=>(by have:=h.1;rw[re]at this;unfold Live at this;omega)⟩):=h
def Xq(h:V Q→P:=by
 intro I;refine (HA.o _ cr.o).mono ?_;rintro e w1 ⟨rfl,hs⟩;have ai:=cr.o.trans (hs.mono cr.o.size);revert w1 hs ai;exact I.o):=h ⟨k⟩
def anx(h:P:=by refine c_ 9 fun K hK=>?_;revert K hK;refine gS ?_;intro hHeld;exact aea):=h
def anz(h:P:=by refine c_ 0 fun K hK=>?_;revert K hK;refine Rz ?_;intro hHeld;exact amh):=h
def Gz(h:P:=by exact⟨rfl,rfl⟩):=h
def KU(h:V Q→P:=by
 intro I;have H:wr.heap.size≤wb.heap.size:=fL.size;revert H;exact I.o):=h ⟨k⟩
def GA(h:P:=by exact absurd rfl h):=h
def aoa(h:P:=by rcases Hq.o with h|h|h|h<;>exact absurd (h.symm.trans hE) D):=h
def RW(h:V Q→P:=by
 intro I;refine Hc.o.mono ?_;rintro e w2 ⟨rfl,S⟩;have HS:=O S;clear S;revert w2 HS;exact I.o):=h ⟨k⟩
def Xs(h:P:=by have h1:=aP.o9;rw[e,tr]at h1;cases h1):=h
def aob(h:P:=by
 rcases hk with h|h
 ·rw[h];exact dF Im.pb D
 rw[h];exact dF Im.cb D):=h
def aoc(h:P:=by
 by_cases e:j=k
 ·subst e;rw[←hx,←hy];unfold gn;rw[h,h']
 exact KT):=h
def aod(h:V Q→P:=by
 intro I;have uN:=bI ES.o (eS fq.o) (dM cZ.o ES.o D);have y0:=J uN 0;have y1:=J uN 1;have y2:=J uN 2;have y3:=J uN 3;have y4:=J uN 4;have y5:=J uN 5;have y6:=J uN 6;simp only[aq,ar,aw]at y0 y1 y2 y3 y4 y5 y6;revert uN y0 y1 y2 y3 y4 y5 y6;exact I.o):=h ⟨k⟩
def aof(h:P:=by exact (JP.o.trans (Pl Uh.o cZ.o)).trans (aae bh.o 1 _)):=h
def RX(h:V Q→P:=by
 intro I;have Ae:am (fun k=>k=r) w w5:=sg.o.trans tu (fun _ _ h=>h);revert Ae;exact I.o):=h ⟨k⟩
def Xt(h:V Q→P:=by
 intro I;have af:Below wa.heap.size wa wb:=TL;have iq:=dC.trans (af.mono dC.size);have eK:=G af pa;revert af iq eK;exact I.o):=h ⟨k⟩
def RY(h:V Q→P:=by
 intro I hp iO;have Ak:=aH hp;have mH:=aH iO;have HG:=aH hg;clear hp iO;go_enter func79,ntmps79;revert Ak mH HG;exact I.o):=h ⟨k⟩
def aog(h:V Q→P:=by
 intro I;refine c_ 4 fun K hK=>?_;go_simp;refine lQ.o.mono ?_;rintro e wz ⟨j6,gW,rfl,rZ,H⟩;have kI:=gC.o.to H;obtain⟨Aa,gV,df⟩:=aQ rZ H kI;clear rZ H kI;revert K hK;refine j_ ?_;intro hHeld;refine c_ 5 fun K hK=>?_;revert wz j6 gW Aa gV df hHeld K hK;exact I.o):=h ⟨k⟩
def aoh(h:V Q→P:=by
 intro I;refine c_ 3 fun K hK=>?_;go_simp;refine lQ.o.mono ?_;rintro e wz ⟨j3,da,rfl,p_,H⟩;have kI:=gC.o.to H;obtain⟨pJ,gV,df⟩:=aQ p_ H kI;clear p_ H kI;revert K hK;refine j_ ?_;intro hHeld;refine c_ 4 fun K hK=>?_;revert wz j3 da pJ gV df hHeld K hK;exact I.o):=h ⟨k⟩
def KV(h:V Q→P:=by
 intro I;refine bB 8 ?_;refine bB 9 ?_;exact I.o):=h ⟨k⟩
def Xu(h:P:=by
 go_wp2_with fail
 refine qJ ?_;exact Ri):=h
def aoi(h:V Q→P:=by
 intro I;obtain⟨d1,k1⟩:=mq lo.toList.isEmpty;obtain⟨d2,k2⟩:=mq ((lo.toList==hi.toList));have e0:(lo++⟨#[58]⟩).size=lo.size+1:=(by rw[←em.len,fz,bM,em.len];rfl)
 revert d1 k1 d2 k2 e0;exact I.o):=h ⟨k⟩
def aoj(h:P:=by
 rintro z (rfl|rfl)
 ·exact jf qf.o.r1 D D
 exact jf qf.o.r2 D D):=h
def aol(h:V Q→P:=by
 intro I;refine bB 3 ?_;refine kc 4 ?_;refine kc 5 ?_;refine kc 6 ?_;refine kc 7 ?_;refine kc 8 ?_;refine bB 9 ?_;exact I.o):=h ⟨k⟩
def aom(h:V Q→P:=by
 intro I;have fj:s[k].toNat=n:=hn.symm;have fF:rr n=true→(l.take (k+1)).all W7=true:=fun h=>cy.all_succ aI eC MM;have aj:rr n=false→r=false:=fun h=>(by rw[Hv.o,cy.all_no aI (by rw[A5];exact h)];rfl)
 revert fj fF aj;exact I.o):=h ⟨k⟩
def DR(h:V Q→P:=by
 intro I;rintro e w' ⟨rfl,rfl⟩;exact I.o):=h ⟨k⟩
def RZ(h:V Q→P:=by
 intro I;obtain⟨nb,ck⟩:=Y w.heap.size;have hw:Below w.heap.size w W0:=LH;revert nb ck hw;exact I.o):=h ⟨k⟩
def R0(h:P:=by exact⟨fun l hl=>Vb,ae⟩):=h
def aon(h:V Q→P:=by
 intro I;refine leaves_cons (f:=44) (args:=#[.pointer (some ⟨w.heap.size,0,none⟩)]) ae (by simp[go_sem]) ?_;exact I.o):=h ⟨k⟩
def OJ(h:V Q→P:=by
 intro I;have H:=dU (aL wr.heap.size wr) 1;have di:=qo.o _ H;revert H di;exact I.o):=h ⟨k⟩
def Xv(h:V Q→P:=by
 intro I;have hZ:=HO.o lp hj gG zW;obtain⟨s,hs⟩:=Y (eg (lp.data.toList,hj.data.toList));revert hZ s hs;exact I.o):=h ⟨k⟩
def Xw(h:P:=by
 gi_wp2
 exact⟨cd.o.1,oE,cd.o.2⟩):=h
def Xx(h:P:=by rw[PH.o];exact⟨_,rfl,cZ.o,DS.o⟩):=h
def aop(h:P:=by
 go_wp2_with fail
 go_ret;exact⟨⟨true,rfl,fun h=>tm⟩,rfl⟩):=h
def aoq(h:V Q→P:=by
 intro I gJ hL;obtain⟨R,hR⟩:=Y (ac.ej t.data.toList);have C6:mI t.data.toList=if R.e=0 then goL R.lines ⟨[],[]⟩ else none:=by unfold mI;rw[hR]
 rw[←hR]at hL gJ;have fT:t.data.toList.length=t.size:=em.len t;revert R gJ hL hR C6 fT;exact I.o):=h ⟨k⟩
def aor(h:P:=by rcases Hq.o with h|h<;>exact absurd (h.symm.trans hE) D):=h
def Xy(h:V Q→P:=by
 intro I;have hZ:=HO.o lo hj hl zW;obtain⟨s,hs⟩:=Y (eg (lo.data.toList,hj.data.toList));revert hZ s hs;exact I.o):=h ⟨k⟩
def aos(h:V Q→P:=by
 intro I;have cM:Below w.heap.size w w0:=by rw[hw0];exact aS _ _
 have p0:w0.heap[g]?=some (.cells #[.slice a1 n1 c1,.slice a2 n2 c2] 25 (0,0)):=(by rw[hw0,hg];exact dq _ _)
 revert cM p0;exact I.o):=h ⟨k⟩
def aot(h:P:=by
 rename_i h1
 cases (List.cons.inj h1).1;rw[E (by rw[hv];simp)]):=h
def Xz(h:P:=by
 go_wp2_with fail
 go_region
 exact V9):=h
def aou(h:V Q→P:=by
 intro I;go_simp;refine (HWi.o _ bQ).mono ?_;rintro e wy ⟨rfl,q,rfl⟩;have Zd:=dU bQ q;generalize w8.drew.drewN q=wy at Zd⊢;have mC:=O Zd;clear Zd;revert q wy mC;exact I.o):=h ⟨k⟩
def aov(h:P:=by by_cases h1:lo=hi<;>by_cases h2:lo.size=0<;>simp[h1,h2]):=h
def vJ(h:V Q→P:=by
 intro I;refine cK ?_;go_end0
 exact I.o):=h ⟨k⟩
def aow(h:P:=by
 by_cases hc:mid<m
 ·have:=BL.1 hc;omega
 have:=BL.2 hc;omega):=h
def aox(h:P:=by have:=B7.o.symm;rw[fI]at this;exact⟨ed this.1,ed this.2⟩):=h
def aoy(h:P:=by
 go_wp2_with fail
 refine (HL.o _).mono ?_;refine mT ?_;exact ajz):=h
def aoz(h:P:=by
 go_wp2_with fail
 refine (HN.o _).mono ?_;refine mT ?_;exact zK):=h
def apa(h:V Q→P:=by
 intro I;have a_:s.size≤maxLen:=(by have:=HC.o.o4 i;rw[←Hs.o]at this;unfold maxLen;omega);have oC:Ft w1 (Fx w1 (aJ t w.heap.size 3)) (fun W'=>qr W' [.string s] s):=fun bP _ _=>⟨rfl,a_⟩;have cJ:=aH bL;have kd:=aH bW;revert a_ oC cJ kd;exact I.o):=h ⟨k⟩
def apb(h:P:=by
 go_wp2_with fail
 go_ret;exact⟨⟨_,rfl,fun h=>tm⟩,rfl⟩):=h
def apc(h:P:=by obtain⟨⟨a⟩⟩:=x;obtain⟨⟨b⟩⟩:=y;simp at h;rw[h]):=h
def apd(h:V Q→P:=by
 intro I v hv;obtain⟨a3,c3,rfl⟩:=CH hv.1;have mY:=HI.o.gc.trans bC (fun _ _ h=>h);obtain⟨z,hz⟩:=Y l.length;rw[←hz]at hv⊢;have nT:dQ g (.string ⟨#[]⟩) (.slice none 0 0) (.slice none 0 0) w7:=dh bC HI.o.g0 Z;revert a3 c3 mY z hv hz nT;exact I.o):=h ⟨k⟩
def ape(h:P:=by exact⟨G (aS _ _) (G (aS _ _) a1),G (aS _ _) a2,a3⟩):=h
def apf(h:P:=by rw[E (fun h=>h.2 h1),M (.inl h1)];exact (size0 h1).symm):=h
def aph(h:P:=by exact⟨b',m,d,i',bad,rfl,.inl ⟨l,h2,h3,h1,rfl⟩,ca⟩):=h
def api(h:P:=by exact .inl ⟨h1,s,h2,by rw[h3];exact wi (Qi h4 h5) GJ⟩):=h
def apj(h:P:=by rw[Q1 (g:=gn) (fun x y=>by unfold gn;simp)]at h1;exact h1):=h
def apk(h:P:=by
 have:=J1 c;cases hh:part c
 ·rfl
 have:=this.1 hh;omega):=h
def R1(h:V Q→P:=by
 intro I p0 p1 hx;rw[←hx]at p0 p1;obtain⟨x0,dt⟩:=Y (f0 x);rw[←dt]at p0;obtain⟨x1,dB⟩:=Y (f1 x);rw[←dB]at p1;revert hx x0 p0 dt x1 p1 dB;exact I.o):=h ⟨k⟩
def apl(h:V Q→P:=by
 intro I;refine kG ?_;intro k5;have k6:(k:Int)<(n6:Int):=Z;have yr:k<9223372036854775807:=auh;have aI:k<p.ci.length:=by have:=yw.o.1;omega
 obtain⟨x,hx⟩:=Y (p.ci[k]);revert k5 k6 yr aI x hx;exact I.o):=h ⟨k⟩
def OK(h:V Q→P:=by
 intro I;go_enter func25,ntmps25;exact I.o):=h ⟨k⟩
def OL(h:P:=by exact cd.o j y Z hy):=h
def XB(h:V Q→P:=by
 intro I;refine (awu _).mono ?_;rintro e wN ⟨rfl,axu⟩;subst axu;exact I.o):=h ⟨k⟩
def apm(h:P:=by
 split at h
 ·rename_i hk;cases h;exact⟨hk,rfl⟩
 cases h):=h
def apo(h:P:=by clear hE;go_wp2_with fail;revert K hK;refine RB ?_;exact Wl):=h
def apq(h:V Q→P:=by
 intro I;have Cz:=kS bC Et;have Cy:=G Et de;have Cw:na w0 r a n c fin j wB:=zc HS.o km Cz Cy;have hM:=HC.o.more Cw;have cR:w.heap.size≤bx:=(by rw[←Nx];exact fu bC.size yu.size);have AB:=wi (Qi jo hv2) Et;have zY:=wi eC Ci;revert Cz Cy Cw hM cR AB zY;exact I.o):=h ⟨k⟩
def XC(h:P:=by have:=CF.neg a b;unfold le;omega):=h
def OM(h:V Q→P:=by
 intro I;refine bB 11 ?_;refine bB 12 ?_;exact I.o):=h ⟨k⟩
def apr(h:V Q→P:=by
 intro I;have fe:ct 8 GE w0 [.slice a1 n1 c1] x.pk:=bz Fk _ _ _ _ h.1 cM;have CC:ct 3 AC w0 [.slice a2 n2 c2] x.pf:=bz AI _ _ _ _ h.2 cM;revert fe CC;exact I.o):=h ⟨k⟩
def XD(h:P:=by rintro z rfl;exact jf jO.s D D):=h
def aps(h:P:=by
 go_wp2_with fail
 go_ret;exact⟨mu Hf.o.symm,dU aB.o _⟩):=h
def XE(h:V Q→P:=by
 intro I;have mW:¬Ty w3 pb:=dF bW D;have hB:B≤w3.heap.size:=fu iO iI.o.size;have aY:=hr.row;revert mW hB aY;exact I.o):=h ⟨k⟩
def apt(h:V Q→P:=by
 intro I;have k1:(er !=0)=false:=QT;have hq:=QQ.o;rw[M he]at hq;obtain⟨q,eF⟩:=Y w3.heap.size;obtain⟨w4,eM⟩:=Y (w3.alloc (.cells #[.slice none 0 0,.slice none 0 0] 25));revert k1 hq q eF w4 eM;exact I.o):=h ⟨k⟩
end Go.Proofs.YthgibhhbmmkjmaaGreatDoor
