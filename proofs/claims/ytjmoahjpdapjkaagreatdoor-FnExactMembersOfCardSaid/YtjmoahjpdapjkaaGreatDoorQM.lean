/- A part of the proof: the engine and the contracts, joined. -/
import Derived.Test.YtjmoahjpdapjkaaGreatDoorQL
import Derived.ProofKit
import Derived.Test.YtjmoahjpdapjkaaGreatDoorProg
section
set_option linter.unusedVariables false
set_option linter.unusedSimpArgs false
namespace Go.My
open Go.Eng Go.Proofs
variable {G:GInv}
def rdF(s:ST)(g:Gs):AV:= .pf [sgs s.sg,.int .i64 s.z,.int .i64 g.pos,.int .i64 g.deep,.bool g.bad,nds g.nodes,.sl false 0 2 (Int×Int) (fun(p:Int×Int)=>[AV.int IntKind.i64 p.1,AV.int IntKind.i64 p.2]) s.ms]
theorem a3R{l:List Sg}{z p d:Int}{b:Bool}{ns:List Nd}{ms:List (Int×Int)}:AV.pf (fzL [AV.sl false 0 4 Sg sgA l,.int .i64 z,.int .i64 p,.int .i64 d,.bool b,AV.sl true 0 4 Nd (ndA true) ns,AV.sl true 0 2 (Int×Int) (fun(p:Int×Int)=>[AV.int IntKind.i64 p.1,AV.int IntKind.i64 p.2]) ms])=
 AV.pf [AV.sl false 0 4 Sg sgA l,.int .i64 z,.int .i64 p,.int .i64 d,.bool b,AV.sl false 0 4 Nd (ndA false) ns,AV.sl false 0 2 (Int×Int) (fun(p:Int×Int)=>[AV.int IntKind.i64 p.1,AV.int IntKind.i64 p.2]) ms]:=rfl
def rgJ(sg:List Sg)(ms:List (Int×Int))(i:Int)(o:List Rg)(a b:Int)(e:Sg):Prop:=rgI sg ms i o∧(i<ms.length∧ms[i.toNat]? =some (a,b))∧sg[(b-1).toNat]? =some e
theorem a3S{t:List UInt8}{L:List Nd}(h1:(CB t).isSome=true)(h2:L=(CB t).getD []∧BE L):mbI t L 0 0 []:=by
 cases h:CB t with
 |none=>rw[h] at h1;cases h1
 |some M=>rw[h] at h2;rw[h2.1];exact b4Y h
theorem a3T{t:List UInt8}{L:List Nd}{sg:List Sg}(h1:(CB t).isSome=true)(hs:sgQ t sg):Br t=some sg∧sgB sg:=by
 rcases hs with hs|hs
 ·exact hs
 ·rw[CB,hs.1] at h1;cases h1
theorem b5e{t:List UInt8}{L:List Nd}(h1:(CB t).isSome=true)(h2:L=(CB t).getD []∧BE L):1≤L.length∧L.length≤300:=by
 have:=Na (a3S h1 h2)
 have:=JT this.1
 exact⟨this.2.1,this.2.2.1⟩
theorem a3U{t:List UInt8}{L:List Nd}{sg:List Sg}{i p k:Int}{o:List Rg}(h:mbI t L i p o∧(Br t=some sg∧sgB sg)∧BE L)(hk:(Cm L)[i.toNat]? =some k):
 (((0≤p∧1≤(AY L 300 k).length)∧p+(AY L 300 k).length≤(Ct sg).length)∧(Ct sg).length≤3000)∧(0≤i∧i<(Cm L).length)∧(o.length≤12∧(Cm L).length≤12):=by
 have h1:=b5b h.2.1.1 h.1 hk
 have h2:=Na h.1
 have h3:= @b3T sg
 have h4:=h.2.1.2.1
 have h5:=(Ds hk).1
 exact⟨⟨h1,by omega⟩,⟨h2.2.2.1.1,by omega⟩,h2.2.2.2,h2.2.1⟩
theorem b5f{t:List UInt8}{L:List Nd}{sg:List Sg}{i p k:Int}{o:List Rg}{a b:Sg}(h:mbI t L i p o∧(Br t=some sg∧sgB sg)∧BE L)(hk:(Cm L)[i.toNat]? =some k)(ha:(Ct sg)[p.toNat]? =some a)(hb:(Ct sg)[(p+([]++AY L 300 k).length-1).toNat]? =some b):
 mbI t L (i+1) (p+([]++AY L 300 k).length) (o++[⟨a.pos,b.pos+b.text.length⟩]):=by
 rw[List.nil_append] at hb ⊢
 exact b5a h.2.1.1 h.1 hk ha hb
theorem b5g{t:List UInt8}{L:List Nd}{sg:List Sg}{i p:Int}{o:List Rg}{e:Sg}{n:Nat}(h:mbI t L i p o∧(Br t=some sg∧sgB sg)∧BE L)(he:(Ct sg)[n]? =some e):(0≤e.pos∧e.pos≤3000)∧e.text.length≤3000:=b5d h.2.1.1 h.2.1.2 he
theorem b5h{t:List UInt8}{L:List Nd}{sg:List Sg}{i p k:Int}{o:List Rg}(h:mbI t L i p o∧(Br t=some sg∧sgB sg)∧BE L)(hk:(Cm L)[i.toNat]? =some k):FK L 300 k:=a3O (Na h.1).1 hk
theorem b5i{t:List UInt8}{L:List Nd}{i p n:Int}{o:List Rg}(h:mbI t L (i+1) (p+n) o∧(0≤i∧0≤p)∧n≤5400∧p+n≤3000):(0≤i∧i<(Cm L).length)∧(0≤p+n∧p+n≤3000)∧(Cm L).length≤12:=by
 have:=Na h.1
 obtain⟨sg,ms,h1,h2,h3,h4,h5⟩:=h.1
 exact⟨⟨h.2.1.1,by omega⟩,⟨by omega,h.2.2.2⟩,this.2.1⟩
theorem b5j:fB 300 []:=by unfold fB;exact Nat.le_of_ble_eq_true rfl
theorem b5k{t:List UInt8}(h:(CB t).isSome=false):[]=DZ t:=by
 cases hr:CB t with
 |none=>rw[a3Q hr]
 |some _=>rw[hr] at h;cases h
theorem b5l{L:List Nd}{z:Nd}(h:L[((L.length:Int)-1).toNat]? =some z):z.kids=Cm L:=by rw[Cm,BG h]
theorem b5m{sg:List Sg}{ms:List (Int×Int)}{i a b:Int}{o:List Rg}{e:Sg}(h:rgI sg ms i o)(hi:i<ms.length)(h1:ms[i.toNat]? =some (a,b))(h2:sg[(b-1).toNat]? =some e):rgJ sg ms i o a b e:=⟨h,⟨hi,h1⟩,h2⟩
theorem a3V{sg:List Sg}{ms:List (Int×Int)}{i a b:Int}{o:List Rg}{e:Sg}(hm:IG sg ms)(h:rgJ sg ms i o a b e):(((0≤i∧i<ms.length)∧o.length≤3001)∧(0≤a∧a<b)∧b≤sg.length)∧sg.length≤3000∧(0≤e.pos∧e.pos≤3000)∧e.text.length≤3000:=by
 have h1:=RV h.1;have h2:=hm.1;have h3:=(a3N hm h.2.1.2).1;have h4:=b4U hm h.2.2;have h5:=h.2.1.1
 exact⟨⟨⟨⟨h1.1.1,h5⟩,by omega⟩,h3⟩,h2.1,h4⟩
theorem b5n{sg:List Sg}{ms:List (Int×Int)}{i a b:Int}{o:List Rg}{e f:Sg}(h:rgJ sg ms i o a b e)(hf:sg[a.toNat]? =some f):rgI sg ms (i+1) (o++[⟨f.pos,e.pos+e.text.length⟩]):=b4V h.1 h.2.1.2 hf h.2.2
theorem a3W{sg:List Sg}{ms:List (Int×Int)}(hm:IG sg ms):sg.length≤3000∧ms.length≤3001:=hm.1
theorem a3X{t:List UInt8}{sg:List Sg}{ms:List (Int×Int)}{g:Gs}(h:rsQ t sg ms g)(hb:g.bad=false):IG sg ms∧ms.map (Jr sg)=DZ t:=by
 rcases h with h|⟨⟨_,h2,h3⟩,h4,_⟩
 ·rw[h.1] at hb;cases hb
 ·refine⟨b4S h3 h2 h4,?_⟩
  rw[DZ,h3];simp only[h4]
theorem b5o{t:List UInt8}{sg:List Sg}{ms:List (Int×Int)}{g:Gs}(h:rsQ t sg ms g)(hb:g.bad=true):DZ t=[]:=a3Q (UZ h hb)
attribute [local irreducible] IG rgI DZ mbI Br FZ CB FL
def RW(x:ST×Int×Int×Bool×List Nd):LS:= {
 ι:=Int×List Rg,inv:=fun i=>rgI x.1.sg x.1.ms i.1 i.2,regs:=fun i=>[(0,rdF x.1 (xg x)),(3,Fr i.2),(10,.sl false 0 2 (Int×Int) (fun(p:Int×Int)=>[AV.int IntKind.i64 p.1,AV.int IntKind.i64 p.2]) x.1.ms),(11,.int .i64 x.1.ms.length),(12,.int .i64 i.1)],als:=[],meas:=fun i=>x.1.ms.length-i.1.toNat,
 sub:=fun i=>[(100005,{ι:=Int×Int×Sg,inv:=fun j=>rgJ x.1.sg x.1.ms i.1 i.2 j.1 j.2.1 j.2.2,regs:=fun j=>[(0,rdF x.1 (xg x)),(3,Fr i.2),(5,.box 0 [.int .i64 j.1,.int .i64 j.2.1]),(6,.box 0 (sgA j.2.2)),(10,.sl false 0 2 (Int×Int) (fun(p:Int×Int)=>[AV.int IntKind.i64 p.1,AV.int IntKind.i64 p.2]) x.1.ms),(11,.int .i64 x.1.ms.length),(12,.int .i64 i.1)],als:=[],meas:=fun _=>0}),
  (100006,{ι:=List Rg,inv:=fun o=>rgI x.1.sg x.1.ms (i.1+1) o,regs:=fun o=>[(0,rdF x.1 (xg x)),(3,Fr o),(10,.sl false 0 2 (Int×Int) (fun(p:Int×Int)=>[AV.int IntKind.i64 p.1,AV.int IntKind.i64 p.2]) x.1.ms),(11,.int .i64 x.1.ms.length),(12,.int .i64 i.1)],als:=[],meas:=fun _=>0})]}
def Nb:Sig:= {X:=ST×Int×Int×Bool×List Nd,args:=fun x=>[rdF x.1 (xg x)],pre:=fun x=>IG x.1.sg x.1.ms,Y:=Unit,post:=fun x y=>True,res:=fun x y=>Fr (x.1.ms.map (Jr x.1.sg)),outs:=fun x y=>[.top],keep:=false}
theorem b5p:Aj G Tryz.prog 38 Nb:=
 vcFun_okP [] [(28,⟨Rg,rgA⟩)] false (fun x=>[(3,RW x)]) Tryz.func38 rfl (by decide) trivial (fun(x:ST×Int×Int×Bool×List Nd)=>(∀(y:Unit),True→(∀(x:Rg),True∧True∧True)∧True∧True)∧eA (RW x) [AV.pf [sgs x.1.sg,.int .i64 x.1.z,.int .i64 (xg x).pos,.int .i64 (xg x).deep,.bool (xg x).bad,nds (xg x).nodes,AV.sl false (0:Nat) (2:Nat) (Int×Int) (fun(p:Int×Int)=>[.int .i64 p.1,.int .i64 p.2]) x.1.ms],.nil,AV.sl false (0:Nat) (2:Nat) (Int×Int) (fun(p:Int×Int)=>[.int .i64 p.1,.int .i64 p.2]) x.1.ms,.int .i64 (↑(List.length x.1.ms):Int),.int .i64 (0:Int)]∧∀(i:Int×List Rg),rgI x.1.sg x.1.ms i.1 i.2→Aa (decide (i.1<(↑(List.length x.1.ms):Int))) (((0:Int)≤i.1∧i.1<(↑(List.length x.1.ms):Int))∧∀(e:Int×Int),x.1.ms[Int.toNat i.1]? =some e→true=true∧(((0:Int)≤(1:Int)∧(1:Int)<(↑(2:Nat):Int))∧((inR IntKind.i64 (e.2-(1:Int))∧((0:Int)≤e.2-(1:Int)∧e.2-(1:Int)<(↑(List.length x.1.sg):Int))∧∀(e_1:Sg),x.1.sg[Int.toNat (e.2-(1:Int))]? =some e_1→true=true∧∃(i_1:Int×Int×Sg),rgJ x.1.sg x.1.ms i.1 i.2 i_1.1 i_1.2.1 i_1.2.2∧(AV.pf [sgs x.1.sg,.int .i64 x.1.z,.int .i64 (xg x).pos,.int .i64 (xg x).deep,.bool (xg x).bad,nds (xg x).nodes,AV.sl false (0:Nat) (2:Nat) (Int×Int) (fun(p:Int×Int)=>[.int .i64 p.1,.int .i64 p.2]) x.1.ms]=AV.pf [sgs x.1.sg,.int .i64 x.1.z,.int .i64 (xg x).pos,.int .i64 (xg x).deep,.bool (xg x).bad,nds (xg x).nodes,AV.sl false (0:Nat) (2:Nat) (Int×Int) (fun(p:Int×Int)=>[.int .i64 p.1,.int .i64 p.2]) x.1.ms]∧AV.sl true (0:Nat) (2:Nat) Rg rgA i.2=AV.sl true (0:Nat) (2:Nat) Rg rgA i.2∧e.1=i_1.1∧e.2=i_1.2.1∧e_1.kind=i_1.2.2.kind∧e_1.text=i_1.2.2.text∧e_1.pos=i_1.2.2.pos∧e_1.blank=i_1.2.2.blank∧AV.sl false (0:Nat) (2:Nat) (Int×Int) (fun(p:Int×Int)=>[.int .i64 p.1,.int .i64 p.2]) x.1.ms=AV.sl false (0:Nat) (2:Nat) (Int×Int) (fun(p:Int×Int)=>[.int .i64 p.1,.int .i64 p.2]) x.1.ms∧(↑(List.length x.1.ms):Int)=(↑(List.length x.1.ms):Int)∧i.1=i.1∧True)∧True)∧inR IntKind.i64 (e.2-(1:Int))∧((0:Int)≤e.2-(1:Int)∧e.2-(1:Int)<(↑(List.length x.1.sg):Int))∧∀(e_1:Sg),x.1.sg[Int.toNat (e.2-(1:Int))]? =some e_1→true=true∧∃(i_1:Int×Int×Sg),rgJ x.1.sg x.1.ms i.1 i.2 i_1.1 i_1.2.1 i_1.2.2∧(AV.pf [sgs x.1.sg,.int .i64 x.1.z,.int .i64 (xg x).pos,.int .i64 (xg x).deep,.bool (xg x).bad,nds (xg x).nodes,AV.sl false (0:Nat) (2:Nat) (Int×Int) (fun(p:Int×Int)=>[.int .i64 p.1,.int .i64 p.2]) x.1.ms]=AV.pf [sgs x.1.sg,.int .i64 x.1.z,.int .i64 (xg x).pos,.int .i64 (xg x).deep,.bool (xg x).bad,nds (xg x).nodes,AV.sl false (0:Nat) (2:Nat) (Int×Int) (fun(p:Int×Int)=>[.int .i64 p.1,.int .i64 p.2]) x.1.ms]∧AV.sl true (0:Nat) (2:Nat) Rg rgA i.2=AV.sl true (0:Nat) (2:Nat) Rg rgA i.2∧e.1=i_1.1∧e.2=i_1.2.1∧e_1.kind=i_1.2.2.kind∧e_1.text=i_1.2.2.text∧e_1.pos=i_1.2.2.pos∧e_1.blank=i_1.2.2.blank∧AV.sl false (0:Nat) (2:Nat) (Int×Int) (fun(p:Int×Int)=>[.int .i64 p.1,.int .i64 p.2]) x.1.ms=AV.sl false (0:Nat) (2:Nat) (Int×Int) (fun(p:Int×Int)=>[.int .i64 p.1,.int .i64 p.2]) x.1.ms∧(↑(List.length x.1.ms):Int)=(↑(List.length x.1.ms):Int)∧i.1=i.1∧True)∧True)∧inR IntKind.i64 (e.2-(1:Int))∧((0:Int)≤e.2-(1:Int)∧e.2-(1:Int)<(↑(List.length x.1.sg):Int))∧∀(e_1:Sg),x.1.sg[Int.toNat (e.2-(1:Int))]? =some e_1→true=true∧∃(i_1:Int×Int×Sg),rgJ x.1.sg x.1.ms i.1 i.2 i_1.1 i_1.2.1 i_1.2.2∧(AV.pf [sgs x.1.sg,.int .i64 x.1.z,.int .i64 (xg x).pos,.int .i64 (xg x).deep,.bool (xg x).bad,nds (xg x).nodes,AV.sl false (0:Nat) (2:Nat) (Int×Int) (fun(p:Int×Int)=>[.int .i64 p.1,.int .i64 p.2]) x.1.ms]=AV.pf [sgs x.1.sg,.int .i64 x.1.z,.int .i64 (xg x).pos,.int .i64 (xg x).deep,.bool (xg x).bad,nds (xg x).nodes,AV.sl false (0:Nat) (2:Nat) (Int×Int) (fun(p:Int×Int)=>[.int .i64 p.1,.int .i64 p.2]) x.1.ms]∧AV.sl true (0:Nat) (2:Nat) Rg rgA i.2=AV.sl true (0:Nat) (2:Nat) Rg rgA i.2∧e.1=i_1.1∧e.2=i_1.2.1∧e_1.kind=i_1.2.2.kind∧e_1.text=i_1.2.2.text∧e_1.pos=i_1.2.2.pos∧e_1.blank=i_1.2.2.blank∧AV.sl false (0:Nat) (2:Nat) (Int×Int) (fun(p:Int×Int)=>[.int .i64 p.1,.int .i64 p.2]) x.1.ms=AV.sl false (0:Nat) (2:Nat) (Int×Int) (fun(p:Int×Int)=>[.int .i64 p.1,.int .i64 p.2]) x.1.ms∧(↑(List.length x.1.ms):Int)=(↑(List.length x.1.ms):Int)∧i.1=i.1∧True)∧True)∧∀(i_1:Int×Int×Sg),rgJ x.1.sg x.1.ms i.1 i.2 i_1.1 i_1.2.1 i_1.2.2→true=true∧(((0:Int)≤(0:Int)∧(0:Int)<(↑(2:Nat):Int))∧(((0:Int)≤i_1.1∧i_1.1<(↑(List.length x.1.sg):Int))∧∀(e:Sg),x.1.sg[Int.toNat i_1.1]? =some e→(inR IntKind.i64 (i_1.2.2.pos+(↑(List.length i_1.2.2.text):Int))∧∃(x_1:Rg),e.pos=x_1.fr∧i_1.2.2.pos+(↑(List.length i_1.2.2.text):Int)=x_1.to∧∃(zs:List Rg),AV.sl true (0:Nat) (2:Nat) Rg rgA [x_1]=AV.sl true (0:Nat) (2:Nat) Rg rgA zs∧Be rgA∧AS (List.length i.2+List.length zs) (16:Nat)∧true=true∧∃(i_2:List Rg),rgI x.1.sg x.1.ms (i.1+(1:Int)) i_2∧(AV.pf [sgs x.1.sg,.int .i64 x.1.z,.int .i64 (xg x).pos,.int .i64 (xg x).deep,.bool (xg x).bad,nds (xg x).nodes,AV.sl false (0:Nat) (2:Nat) (Int×Int) (fun(p:Int×Int)=>[.int .i64 p.1,.int .i64 p.2]) x.1.ms]=AV.pf [sgs x.1.sg,.int .i64 x.1.z,.int .i64 (xg x).pos,.int .i64 (xg x).deep,.bool (xg x).bad,nds (xg x).nodes,AV.sl false (0:Nat) (2:Nat) (Int×Int) (fun(p:Int×Int)=>[.int .i64 p.1,.int .i64 p.2]) x.1.ms]∧AV.sl true (0:Nat) (2:Nat) Rg rgA (i.2++zs)=AV.sl true (0:Nat) (2:Nat) Rg rgA i_2∧AV.sl false (0:Nat) (2:Nat) (Int×Int) (fun(p:Int×Int)=>[.int .i64 p.1,.int .i64 p.2]) x.1.ms=AV.sl false (0:Nat) (2:Nat) (Int×Int) (fun(p:Int×Int)=>[.int .i64 p.1,.int .i64 p.2]) x.1.ms∧(↑(List.length x.1.ms):Int)=(↑(List.length x.1.ms):Int)∧i.1=i.1∧True)∧True)∧(inR IntKind.i64 (i_1.2.2.pos+(↑(List.length i_1.2.2.text):Int))∧∃(x_1:Rg),e.pos=x_1.fr∧i_1.2.2.pos+(↑(List.length i_1.2.2.text):Int)=x_1.to∧∃(zs:List Rg),AV.sl true (0:Nat) (2:Nat) Rg rgA [x_1]=AV.sl true (0:Nat) (2:Nat) Rg rgA zs∧Be rgA∧AS (List.length i.2+List.length zs) (16:Nat)∧true=true∧∃(i_2:List Rg),rgI x.1.sg x.1.ms (i.1+(1:Int)) i_2∧(AV.pf [sgs x.1.sg,.int .i64 x.1.z,.int .i64 (xg x).pos,.int .i64 (xg x).deep,.bool (xg x).bad,nds (xg x).nodes,AV.sl false (0:Nat) (2:Nat) (Int×Int) (fun(p:Int×Int)=>[.int .i64 p.1,.int .i64 p.2]) x.1.ms]=AV.pf [sgs x.1.sg,.int .i64 x.1.z,.int .i64 (xg x).pos,.int .i64 (xg x).deep,.bool (xg x).bad,nds (xg x).nodes,AV.sl false (0:Nat) (2:Nat) (Int×Int) (fun(p:Int×Int)=>[.int .i64 p.1,.int .i64 p.2]) x.1.ms]∧AV.sl true (0:Nat) (2:Nat) Rg rgA (i.2++zs)=AV.sl true (0:Nat) (2:Nat) Rg rgA i_2∧AV.sl false (0:Nat) (2:Nat) (Int×Int) (fun(p:Int×Int)=>[.int .i64 p.1,.int .i64 p.2]) x.1.ms=AV.sl false (0:Nat) (2:Nat) (Int×Int) (fun(p:Int×Int)=>[.int .i64 p.1,.int .i64 p.2]) x.1.ms∧(↑(List.length x.1.ms):Int)=(↑(List.length x.1.ms):Int)∧i.1=i.1∧True)∧True)∧inR IntKind.i64 (i_1.2.2.pos+(↑(List.length i_1.2.2.text):Int))∧∃(x_1:Rg),e.pos=x_1.fr∧i_1.2.2.pos+(↑(List.length i_1.2.2.text):Int)=x_1.to∧∃(zs:List Rg),AV.sl true (0:Nat) (2:Nat) Rg rgA [x_1]=AV.sl true (0:Nat) (2:Nat) Rg rgA zs∧Be rgA∧AS (List.length i.2+List.length zs) (16:Nat)∧true=true∧∃(i_2:List Rg),rgI x.1.sg x.1.ms (i.1+(1:Int)) i_2∧(AV.pf [sgs x.1.sg,.int .i64 x.1.z,.int .i64 (xg x).pos,.int .i64 (xg x).deep,.bool (xg x).bad,nds (xg x).nodes,AV.sl false (0:Nat) (2:Nat) (Int×Int) (fun(p:Int×Int)=>[.int .i64 p.1,.int .i64 p.2]) x.1.ms]=AV.pf [sgs x.1.sg,.int .i64 x.1.z,.int .i64 (xg x).pos,.int .i64 (xg x).deep,.bool (xg x).bad,nds (xg x).nodes,AV.sl false (0:Nat) (2:Nat) (Int×Int) (fun(p:Int×Int)=>[.int .i64 p.1,.int .i64 p.2]) x.1.ms]∧AV.sl true (0:Nat) (2:Nat) Rg rgA (i.2++zs)=AV.sl true (0:Nat) (2:Nat) Rg rgA i_2∧AV.sl false (0:Nat) (2:Nat) (Int×Int) (fun(p:Int×Int)=>[.int .i64 p.1,.int .i64 p.2]) x.1.ms=AV.sl false (0:Nat) (2:Nat) (Int×Int) (fun(p:Int×Int)=>[.int .i64 p.1,.int .i64 p.2]) x.1.ms∧(↑(List.length x.1.ms):Int)=(↑(List.length x.1.ms):Int)∧i.1=i.1∧True)∧True)∧((((0:Int)≤i_1.1∧i_1.1<(↑(List.length x.1.sg):Int))∧∀(e:Sg),x.1.sg[Int.toNat i_1.1]? =some e→inR IntKind.i64 (i_1.2.2.pos+(↑(List.length i_1.2.2.text):Int))∧∃(x_1:Rg),e.pos=x_1.fr∧i_1.2.2.pos+(↑(List.length i_1.2.2.text):Int)=x_1.to∧∃(zs:List Rg),AV.sl true (0:Nat) (2:Nat) Rg rgA [x_1]=AV.sl true (0:Nat) (2:Nat) Rg rgA zs∧Be rgA∧AS (List.length i.2+List.length zs) (16:Nat)∧true=true∧∃(i_2:List Rg),rgI x.1.sg x.1.ms (i.1+(1:Int)) i_2∧(AV.pf [sgs x.1.sg,.int .i64 x.1.z,.int .i64 (xg x).pos,.int .i64 (xg x).deep,.bool (xg x).bad,nds (xg x).nodes,AV.sl false (0:Nat) (2:Nat) (Int×Int) (fun(p:Int×Int)=>[.int .i64 p.1,.int .i64 p.2]) x.1.ms]=AV.pf [sgs x.1.sg,.int .i64 x.1.z,.int .i64 (xg x).pos,.int .i64 (xg x).deep,.bool (xg x).bad,nds (xg x).nodes,AV.sl false (0:Nat) (2:Nat) (Int×Int) (fun(p:Int×Int)=>[.int .i64 p.1,.int .i64 p.2]) x.1.ms]∧AV.sl true (0:Nat) (2:Nat) Rg rgA (i.2++zs)=AV.sl true (0:Nat) (2:Nat) Rg rgA i_2∧AV.sl false (0:Nat) (2:Nat) (Int×Int) (fun(p:Int×Int)=>[.int .i64 p.1,.int .i64 p.2]) x.1.ms=AV.sl false (0:Nat) (2:Nat) (Int×Int) (fun(p:Int×Int)=>[.int .i64 p.1,.int .i64 p.2]) x.1.ms∧(↑(List.length x.1.ms):Int)=(↑(List.length x.1.ms):Int)∧i.1=i.1∧True)∧True)∧(((0:Int)≤i_1.1∧i_1.1<(↑(List.length x.1.sg):Int))∧∀(e:Sg),x.1.sg[Int.toNat i_1.1]? =some e→inR IntKind.i64 (i_1.2.2.pos+(↑(List.length i_1.2.2.text):Int))∧∃(x_1:Rg),e.pos=x_1.fr∧i_1.2.2.pos+(↑(List.length i_1.2.2.text):Int)=x_1.to∧∃(zs:List Rg),AV.sl true (0:Nat) (2:Nat) Rg rgA [x_1]=AV.sl true (0:Nat) (2:Nat) Rg rgA zs∧Be rgA∧AS (List.length i.2+List.length zs) (16:Nat)∧true=true∧∃(i_2:List Rg),rgI x.1.sg x.1.ms (i.1+(1:Int)) i_2∧(AV.pf [sgs x.1.sg,.int .i64 x.1.z,.int .i64 (xg x).pos,.int .i64 (xg x).deep,.bool (xg x).bad,nds (xg x).nodes,AV.sl false (0:Nat) (2:Nat) (Int×Int) (fun(p:Int×Int)=>[.int .i64 p.1,.int .i64 p.2]) x.1.ms]=AV.pf [sgs x.1.sg,.int .i64 x.1.z,.int .i64 (xg x).pos,.int .i64 (xg x).deep,.bool (xg x).bad,nds (xg x).nodes,AV.sl false (0:Nat) (2:Nat) (Int×Int) (fun(p:Int×Int)=>[.int .i64 p.1,.int .i64 p.2]) x.1.ms]∧AV.sl true (0:Nat) (2:Nat) Rg rgA (i.2++zs)=AV.sl true (0:Nat) (2:Nat) Rg rgA i_2∧AV.sl false (0:Nat) (2:Nat) (Int×Int) (fun(p:Int×Int)=>[.int .i64 p.1,.int .i64 p.2]) x.1.ms=AV.sl false (0:Nat) (2:Nat) (Int×Int) (fun(p:Int×Int)=>[.int .i64 p.1,.int .i64 p.2]) x.1.ms∧(↑(List.length x.1.ms):Int)=(↑(List.length x.1.ms):Int)∧i.1=i.1∧True)∧True)∧(((0:Int)≤i_1.1∧i_1.1<(↑(List.length x.1.sg):Int))∧∀(e:Sg),x.1.sg[Int.toNat i_1.1]? =some e→inR IntKind.i64 (i_1.2.2.pos+(↑(List.length i_1.2.2.text):Int))∧∃(x_1:Rg),e.pos=x_1.fr∧i_1.2.2.pos+(↑(List.length i_1.2.2.text):Int)=x_1.to∧∃(zs:List Rg),AV.sl true (0:Nat) (2:Nat) Rg rgA [x_1]=AV.sl true (0:Nat) (2:Nat) Rg rgA zs∧Be rgA∧AS (List.length i.2+List.length zs) (16:Nat)∧true=true∧∃(i_2:List Rg),rgI x.1.sg x.1.ms (i.1+(1:Int)) i_2∧(AV.pf [sgs x.1.sg,.int .i64 x.1.z,.int .i64 (xg x).pos,.int .i64 (xg x).deep,.bool (xg x).bad,nds (xg x).nodes,AV.sl false (0:Nat) (2:Nat) (Int×Int) (fun(p:Int×Int)=>[.int .i64 p.1,.int .i64 p.2]) x.1.ms]=AV.pf [sgs x.1.sg,.int .i64 x.1.z,.int .i64 (xg x).pos,.int .i64 (xg x).deep,.bool (xg x).bad,nds (xg x).nodes,AV.sl false (0:Nat) (2:Nat) (Int×Int) (fun(p:Int×Int)=>[.int .i64 p.1,.int .i64 p.2]) x.1.ms]∧AV.sl true (0:Nat) (2:Nat) Rg rgA (i.2++zs)=AV.sl true (0:Nat) (2:Nat) Rg rgA i_2∧AV.sl false (0:Nat) (2:Nat) (Int×Int) (fun(p:Int×Int)=>[.int .i64 p.1,.int .i64 p.2]) x.1.ms=AV.sl false (0:Nat) (2:Nat) (Int×Int) (fun(p:Int×Int)=>[.int .i64 p.1,.int .i64 p.2]) x.1.ms∧(↑(List.length x.1.ms):Int)=(↑(List.length x.1.ms):Int)∧i.1=i.1∧True)∧True)∧inR IntKind.i64 (i_1.2.2.pos+(↑(List.length i_1.2.2.text):Int))∧((0:Int)≤i_1.1∧i_1.1<(↑(List.length x.1.sg):Int))∧∀(e:Sg),x.1.sg[Int.toNat i_1.1]? =some e→∃(x_1:Rg),e.pos=x_1.fr∧i_1.2.2.pos+(↑(List.length i_1.2.2.text):Int)=x_1.to∧∃(zs:List Rg),AV.sl true (0:Nat) (2:Nat) Rg rgA [x_1]=AV.sl true (0:Nat) (2:Nat) Rg rgA zs∧Be rgA∧AS (List.length i.2+List.length zs) (16:Nat)∧true=true∧∃(i_2:List Rg),rgI x.1.sg x.1.ms (i.1+(1:Int)) i_2∧(AV.pf [sgs x.1.sg,.int .i64 x.1.z,.int .i64 (xg x).pos,.int .i64 (xg x).deep,.bool (xg x).bad,nds (xg x).nodes,AV.sl false (0:Nat) (2:Nat) (Int×Int) (fun(p:Int×Int)=>[.int .i64 p.1,.int .i64 p.2]) x.1.ms]=AV.pf [sgs x.1.sg,.int .i64 x.1.z,.int .i64 (xg x).pos,.int .i64 (xg x).deep,.bool (xg x).bad,nds (xg x).nodes,AV.sl false (0:Nat) (2:Nat) (Int×Int) (fun(p:Int×Int)=>[.int .i64 p.1,.int .i64 p.2]) x.1.ms]∧AV.sl true (0:Nat) (2:Nat) Rg rgA (i.2++zs)=AV.sl true (0:Nat) (2:Nat) Rg rgA i_2∧AV.sl false (0:Nat) (2:Nat) (Int×Int) (fun(p:Int×Int)=>[.int .i64 p.1,.int .i64 p.2]) x.1.ms=AV.sl false (0:Nat) (2:Nat) (Int×Int) (fun(p:Int×Int)=>[.int .i64 p.1,.int .i64 p.2]) x.1.ms∧(↑(List.length x.1.ms):Int)=(↑(List.length x.1.ms):Int)∧i.1=i.1∧True)∧True)∧(((0:Int)≤i_1.1∧i_1.1<(↑(List.length x.1.sg):Int))∧∀(e:Sg),x.1.sg[Int.toNat i_1.1]? =some e→(inR IntKind.i64 (i_1.2.2.pos+(↑(List.length i_1.2.2.text):Int))∧∃(x_1:Rg),e.pos=x_1.fr∧i_1.2.2.pos+(↑(List.length i_1.2.2.text):Int)=x_1.to∧∃(zs:List Rg),AV.sl true (0:Nat) (2:Nat) Rg rgA [x_1]=AV.sl true (0:Nat) (2:Nat) Rg rgA zs∧Be rgA∧AS (List.length i.2+List.length zs) (16:Nat)∧true=true∧∃(i_2:List Rg),rgI x.1.sg x.1.ms (i.1+(1:Int)) i_2∧(AV.pf [sgs x.1.sg,.int .i64 x.1.z,.int .i64 (xg x).pos,.int .i64 (xg x).deep,.bool (xg x).bad,nds (xg x).nodes,AV.sl false (0:Nat) (2:Nat) (Int×Int) (fun(p:Int×Int)=>[.int .i64 p.1,.int .i64 p.2]) x.1.ms]=AV.pf [sgs x.1.sg,.int .i64 x.1.z,.int .i64 (xg x).pos,.int .i64 (xg x).deep,.bool (xg x).bad,nds (xg x).nodes,AV.sl false (0:Nat) (2:Nat) (Int×Int) (fun(p:Int×Int)=>[.int .i64 p.1,.int .i64 p.2]) x.1.ms]∧AV.sl true (0:Nat) (2:Nat) Rg rgA (i.2++zs)=AV.sl true (0:Nat) (2:Nat) Rg rgA i_2∧AV.sl false (0:Nat) (2:Nat) (Int×Int) (fun(p:Int×Int)=>[.int .i64 p.1,.int .i64 p.2]) x.1.ms=AV.sl false (0:Nat) (2:Nat) (Int×Int) (fun(p:Int×Int)=>[.int .i64 p.1,.int .i64 p.2]) x.1.ms∧(↑(List.length x.1.ms):Int)=(↑(List.length x.1.ms):Int)∧i.1=i.1∧True)∧True)∧inR IntKind.i64 (i_1.2.2.pos+(↑(List.length i_1.2.2.text):Int))∧∃(x_1:Rg),e.pos=x_1.fr∧i_1.2.2.pos+(↑(List.length i_1.2.2.text):Int)=x_1.to∧∃(zs:List Rg),AV.sl true (0:Nat) (2:Nat) Rg rgA [x_1]=AV.sl true (0:Nat) (2:Nat) Rg rgA zs∧Be rgA∧AS (List.length i.2+List.length zs) (16:Nat)∧true=true∧∃(i_2:List Rg),rgI x.1.sg x.1.ms (i.1+(1:Int)) i_2∧(AV.pf [sgs x.1.sg,.int .i64 x.1.z,.int .i64 (xg x).pos,.int .i64 (xg x).deep,.bool (xg x).bad,nds (xg x).nodes,AV.sl false (0:Nat) (2:Nat) (Int×Int) (fun(p:Int×Int)=>[.int .i64 p.1,.int .i64 p.2]) x.1.ms]=AV.pf [sgs x.1.sg,.int .i64 x.1.z,.int .i64 (xg x).pos,.int .i64 (xg x).deep,.bool (xg x).bad,nds (xg x).nodes,AV.sl false (0:Nat) (2:Nat) (Int×Int) (fun(p:Int×Int)=>[.int .i64 p.1,.int .i64 p.2]) x.1.ms]∧AV.sl true (0:Nat) (2:Nat) Rg rgA (i.2++zs)=AV.sl true (0:Nat) (2:Nat) Rg rgA i_2∧AV.sl false (0:Nat) (2:Nat) (Int×Int) (fun(p:Int×Int)=>[.int .i64 p.1,.int .i64 p.2]) x.1.ms=AV.sl false (0:Nat) (2:Nat) (Int×Int) (fun(p:Int×Int)=>[.int .i64 p.1,.int .i64 p.2]) x.1.ms∧(↑(List.length x.1.ms):Int)=(↑(List.length x.1.ms):Int)∧i.1=i.1∧True)∧True)∧((((0:Int)≤i_1.1∧i_1.1<(↑(List.length x.1.sg):Int))∧∀(e:Sg),x.1.sg[Int.toNat i_1.1]? =some e→inR IntKind.i64 (i_1.2.2.pos+(↑(List.length i_1.2.2.text):Int))∧∃(x_1:Rg),e.pos=x_1.fr∧i_1.2.2.pos+(↑(List.length i_1.2.2.text):Int)=x_1.to∧∃(zs:List Rg),AV.sl true (0:Nat) (2:Nat) Rg rgA [x_1]=AV.sl true (0:Nat) (2:Nat) Rg rgA zs∧Be rgA∧AS (List.length i.2+List.length zs) (16:Nat)∧true=true∧∃(i_2:List Rg),rgI x.1.sg x.1.ms (i.1+(1:Int)) i_2∧(AV.pf [sgs x.1.sg,.int .i64 x.1.z,.int .i64 (xg x).pos,.int .i64 (xg x).deep,.bool (xg x).bad,nds (xg x).nodes,AV.sl false (0:Nat) (2:Nat) (Int×Int) (fun(p:Int×Int)=>[.int .i64 p.1,.int .i64 p.2]) x.1.ms]=AV.pf [sgs x.1.sg,.int .i64 x.1.z,.int .i64 (xg x).pos,.int .i64 (xg x).deep,.bool (xg x).bad,nds (xg x).nodes,AV.sl false (0:Nat) (2:Nat) (Int×Int) (fun(p:Int×Int)=>[.int .i64 p.1,.int .i64 p.2]) x.1.ms]∧AV.sl true (0:Nat) (2:Nat) Rg rgA (i.2++zs)=AV.sl true (0:Nat) (2:Nat) Rg rgA i_2∧AV.sl false (0:Nat) (2:Nat) (Int×Int) (fun(p:Int×Int)=>[.int .i64 p.1,.int .i64 p.2]) x.1.ms=AV.sl false (0:Nat) (2:Nat) (Int×Int) (fun(p:Int×Int)=>[.int .i64 p.1,.int .i64 p.2]) x.1.ms∧(↑(List.length x.1.ms):Int)=(↑(List.length x.1.ms):Int)∧i.1=i.1∧True)∧True)∧(((0:Int)≤i_1.1∧i_1.1<(↑(List.length x.1.sg):Int))∧∀(e:Sg),x.1.sg[Int.toNat i_1.1]? =some e→inR IntKind.i64 (i_1.2.2.pos+(↑(List.length i_1.2.2.text):Int))∧∃(x_1:Rg),e.pos=x_1.fr∧i_1.2.2.pos+(↑(List.length i_1.2.2.text):Int)=x_1.to∧∃(zs:List Rg),AV.sl true (0:Nat) (2:Nat) Rg rgA [x_1]=AV.sl true (0:Nat) (2:Nat) Rg rgA zs∧Be rgA∧AS (List.length i.2+List.length zs) (16:Nat)∧true=true∧∃(i_2:List Rg),rgI x.1.sg x.1.ms (i.1+(1:Int)) i_2∧(AV.pf [sgs x.1.sg,.int .i64 x.1.z,.int .i64 (xg x).pos,.int .i64 (xg x).deep,.bool (xg x).bad,nds (xg x).nodes,AV.sl false (0:Nat) (2:Nat) (Int×Int) (fun(p:Int×Int)=>[.int .i64 p.1,.int .i64 p.2]) x.1.ms]=AV.pf [sgs x.1.sg,.int .i64 x.1.z,.int .i64 (xg x).pos,.int .i64 (xg x).deep,.bool (xg x).bad,nds (xg x).nodes,AV.sl false (0:Nat) (2:Nat) (Int×Int) (fun(p:Int×Int)=>[.int .i64 p.1,.int .i64 p.2]) x.1.ms]∧AV.sl true (0:Nat) (2:Nat) Rg rgA (i.2++zs)=AV.sl true (0:Nat) (2:Nat) Rg rgA i_2∧AV.sl false (0:Nat) (2:Nat) (Int×Int) (fun(p:Int×Int)=>[.int .i64 p.1,.int .i64 p.2]) x.1.ms=AV.sl false (0:Nat) (2:Nat) (Int×Int) (fun(p:Int×Int)=>[.int .i64 p.1,.int .i64 p.2]) x.1.ms∧(↑(List.length x.1.ms):Int)=(↑(List.length x.1.ms):Int)∧i.1=i.1∧True)∧True)∧inR IntKind.i64 (i_1.2.2.pos+(↑(List.length i_1.2.2.text):Int))∧((0:Int)≤i_1.1∧i_1.1<(↑(List.length x.1.sg):Int))∧∀(e:Sg),x.1.sg[Int.toNat i_1.1]? =some e→∃(x_1:Rg),e.pos=x_1.fr∧i_1.2.2.pos+(↑(List.length i_1.2.2.text):Int)=x_1.to∧∃(zs:List Rg),AV.sl true (0:Nat) (2:Nat) Rg rgA [x_1]=AV.sl true (0:Nat) (2:Nat) Rg rgA zs∧Be rgA∧AS (List.length i.2+List.length zs) (16:Nat)∧true=true∧∃(i_2:List Rg),rgI x.1.sg x.1.ms (i.1+(1:Int)) i_2∧(AV.pf [sgs x.1.sg,.int .i64 x.1.z,.int .i64 (xg x).pos,.int .i64 (xg x).deep,.bool (xg x).bad,nds (xg x).nodes,AV.sl false (0:Nat) (2:Nat) (Int×Int) (fun(p:Int×Int)=>[.int .i64 p.1,.int .i64 p.2]) x.1.ms]=AV.pf [sgs x.1.sg,.int .i64 x.1.z,.int .i64 (xg x).pos,.int .i64 (xg x).deep,.bool (xg x).bad,nds (xg x).nodes,AV.sl false (0:Nat) (2:Nat) (Int×Int) (fun(p:Int×Int)=>[.int .i64 p.1,.int .i64 p.2]) x.1.ms]∧AV.sl true (0:Nat) (2:Nat) Rg rgA (i.2++zs)=AV.sl true (0:Nat) (2:Nat) Rg rgA i_2∧AV.sl false (0:Nat) (2:Nat) (Int×Int) (fun(p:Int×Int)=>[.int .i64 p.1,.int .i64 p.2]) x.1.ms=AV.sl false (0:Nat) (2:Nat) (Int×Int) (fun(p:Int×Int)=>[.int .i64 p.1,.int .i64 p.2]) x.1.ms∧(↑(List.length x.1.ms):Int)=(↑(List.length x.1.ms):Int)∧i.1=i.1∧True)∧True)∧(((0:Int)≤i_1.1∧i_1.1<(↑(List.length x.1.sg):Int))∧∀(e:Sg),x.1.sg[Int.toNat i_1.1]? =some e→inR IntKind.i64 (i_1.2.2.pos+(↑(List.length i_1.2.2.text):Int))∧∃(x_1:Rg),e.pos=x_1.fr∧i_1.2.2.pos+(↑(List.length i_1.2.2.text):Int)=x_1.to∧∃(zs:List Rg),AV.sl true (0:Nat) (2:Nat) Rg rgA [x_1]=AV.sl true (0:Nat) (2:Nat) Rg rgA zs∧Be rgA∧AS (List.length i.2+List.length zs) (16:Nat)∧true=true∧∃(i_2:List Rg),rgI x.1.sg x.1.ms (i.1+(1:Int)) i_2∧(AV.pf [sgs x.1.sg,.int .i64 x.1.z,.int .i64 (xg x).pos,.int .i64 (xg x).deep,.bool (xg x).bad,nds (xg x).nodes,AV.sl false (0:Nat) (2:Nat) (Int×Int) (fun(p:Int×Int)=>[.int .i64 p.1,.int .i64 p.2]) x.1.ms]=AV.pf [sgs x.1.sg,.int .i64 x.1.z,.int .i64 (xg x).pos,.int .i64 (xg x).deep,.bool (xg x).bad,nds (xg x).nodes,AV.sl false (0:Nat) (2:Nat) (Int×Int) (fun(p:Int×Int)=>[.int .i64 p.1,.int .i64 p.2]) x.1.ms]∧AV.sl true (0:Nat) (2:Nat) Rg rgA (i.2++zs)=AV.sl true (0:Nat) (2:Nat) Rg rgA i_2∧AV.sl false (0:Nat) (2:Nat) (Int×Int) (fun(p:Int×Int)=>[.int .i64 p.1,.int .i64 p.2]) x.1.ms=AV.sl false (0:Nat) (2:Nat) (Int×Int) (fun(p:Int×Int)=>[.int .i64 p.1,.int .i64 p.2]) x.1.ms∧(↑(List.length x.1.ms):Int)=(↑(List.length x.1.ms):Int)∧i.1=i.1∧True)∧True)∧(((0:Int)≤i_1.1∧i_1.1<(↑(List.length x.1.sg):Int))∧∀(e:Sg),x.1.sg[Int.toNat i_1.1]? =some e→inR IntKind.i64 (i_1.2.2.pos+(↑(List.length i_1.2.2.text):Int))∧∃(x_1:Rg),e.pos=x_1.fr∧i_1.2.2.pos+(↑(List.length i_1.2.2.text):Int)=x_1.to∧∃(zs:List Rg),AV.sl true (0:Nat) (2:Nat) Rg rgA [x_1]=AV.sl true (0:Nat) (2:Nat) Rg rgA zs∧Be rgA∧AS (List.length i.2+List.length zs) (16:Nat)∧true=true∧∃(i_2:List Rg),rgI x.1.sg x.1.ms (i.1+(1:Int)) i_2∧(AV.pf [sgs x.1.sg,.int .i64 x.1.z,.int .i64 (xg x).pos,.int .i64 (xg x).deep,.bool (xg x).bad,nds (xg x).nodes,AV.sl false (0:Nat) (2:Nat) (Int×Int) (fun(p:Int×Int)=>[.int .i64 p.1,.int .i64 p.2]) x.1.ms]=AV.pf [sgs x.1.sg,.int .i64 x.1.z,.int .i64 (xg x).pos,.int .i64 (xg x).deep,.bool (xg x).bad,nds (xg x).nodes,AV.sl false (0:Nat) (2:Nat) (Int×Int) (fun(p:Int×Int)=>[.int .i64 p.1,.int .i64 p.2]) x.1.ms]∧AV.sl true (0:Nat) (2:Nat) Rg rgA (i.2++zs)=AV.sl true (0:Nat) (2:Nat) Rg rgA i_2∧AV.sl false (0:Nat) (2:Nat) (Int×Int) (fun(p:Int×Int)=>[.int .i64 p.1,.int .i64 p.2]) x.1.ms=AV.sl false (0:Nat) (2:Nat) (Int×Int) (fun(p:Int×Int)=>[.int .i64 p.1,.int .i64 p.2]) x.1.ms∧(↑(List.length x.1.ms):Int)=(↑(List.length x.1.ms):Int)∧i.1=i.1∧True)∧True)∧inR IntKind.i64 (i_1.2.2.pos+(↑(List.length i_1.2.2.text):Int))∧((0:Int)≤i_1.1∧i_1.1<(↑(List.length x.1.sg):Int))∧∀(e:Sg),x.1.sg[Int.toNat i_1.1]? =some e→∃(x_1:Rg),e.pos=x_1.fr∧i_1.2.2.pos+(↑(List.length i_1.2.2.text):Int)=x_1.to∧∃(zs:List Rg),AV.sl true (0:Nat) (2:Nat) Rg rgA [x_1]=AV.sl true (0:Nat) (2:Nat) Rg rgA zs∧Be rgA∧AS (List.length i.2+List.length zs) (16:Nat)∧true=true∧∃(i_2:List Rg),rgI x.1.sg x.1.ms (i.1+(1:Int)) i_2∧(AV.pf [sgs x.1.sg,.int .i64 x.1.z,.int .i64 (xg x).pos,.int .i64 (xg x).deep,.bool (xg x).bad,nds (xg x).nodes,AV.sl false (0:Nat) (2:Nat) (Int×Int) (fun(p:Int×Int)=>[.int .i64 p.1,.int .i64 p.2]) x.1.ms]=AV.pf [sgs x.1.sg,.int .i64 x.1.z,.int .i64 (xg x).pos,.int .i64 (xg x).deep,.bool (xg x).bad,nds (xg x).nodes,AV.sl false (0:Nat) (2:Nat) (Int×Int) (fun(p:Int×Int)=>[.int .i64 p.1,.int .i64 p.2]) x.1.ms]∧AV.sl true (0:Nat) (2:Nat) Rg rgA (i.2++zs)=AV.sl true (0:Nat) (2:Nat) Rg rgA i_2∧AV.sl false (0:Nat) (2:Nat) (Int×Int) (fun(p:Int×Int)=>[.int .i64 p.1,.int .i64 p.2]) x.1.ms=AV.sl false (0:Nat) (2:Nat) (Int×Int) (fun(p:Int×Int)=>[.int .i64 p.1,.int .i64 p.2]) x.1.ms∧(↑(List.length x.1.ms):Int)=(↑(List.length x.1.ms):Int)∧i.1=i.1∧True)∧True)∧∀(i_2:List Rg),rgI x.1.sg x.1.ms (i.1+(1:Int)) i_2→inR IntKind.i64 (i.1+(1:Int))∧eN (RW x) i [AV.pf [sgs x.1.sg,.int .i64 x.1.z,.int .i64 (xg x).pos,.int .i64 (xg x).deep,.bool (xg x).bad,nds (xg x).nodes,AV.sl false (0:Nat) (2:Nat) (Int×Int) (fun(p:Int×Int)=>[.int .i64 p.1,.int .i64 p.2]) x.1.ms],AV.sl true (0:Nat) (2:Nat) Rg rgA i_2,AV.sl false (0:Nat) (2:Nat) (Int×Int) (fun(p:Int×Int)=>[.int .i64 p.1,.int .i64 p.2]) x.1.ms,.int .i64 (↑(List.length x.1.ms):Int),.int .i64 (i.1+(1:Int))]) (rA Nb x [AV.sl true (0:Nat) (2:Nat) Rg rgA i.2,.top])) (fun x=>by kernel_rfl) fun(x:ST×Int×Int×Bool×List Nd) (hx:IG x.1.sg x.1.ms)=>(by
 dsimp only[eA,eN,RW,Bg,nds,Fr,rA,rdF,Nb,Bj,sgs,Av,AB,Bw]
 obtain⟨s,p,d,b,ns⟩:=x;dsimp only[xg] at hx ⊢
 have hx:IG s.sg s.ms:=hx
 (repeat' first|refine a3M ?_|(with_reducible first|rfl|exact True.intro|apply AK|apply And.intro|((first|apply Az|apply AI|apply AA|apply AJ)<;>intro _))|(apply Aw<;>intro _)|apply AH|refine Ae () ?_ ?_|((first|apply AO|apply AN|apply AM|apply AL|apply AG|apply AF|apply AE|apply AD|apply AC)<;>try dsimp only)|apply Ae|(refine Prod.forall.2 ?_;intro _;try dsimp only)|(intro _;try dsimp only))
 all_goals first
  |rfl
  |exact b4T
  |(have hq:=RV (show rgI _ _ _ _ by assumption);have hm:=a3W hx;(try simp only[AR]);omega)
  |(have hq:=a3N hx ‹_›;(try simp only[AR]);omega)
  |exact b5m ‹_› ‹_› ‹_› ‹_›
  |exact b5n ‹_› ‹_›
  |assumption
  |(have hq:=RV (show rgI _ _ (_+1) _ by assumption);have hq2:=RV (show rgI _ _ _ _ by assumption);have hm:=a3W hx;(try simp only[AR]);omega)
  |exact b4W ‹_› ‹_›
  |(have hq:=a3V hx (show rgJ _ _ _ _ _ _ _ by assumption);(try simp only[AR]);omega)
  |(have hq:=a3V hx (show rgJ _ _ _ _ _ _ _ by assumption);(try simp only[AS,List.length_append,List.length_cons,List.length_nil]);omega)
  |skip)
def Kr:Sig:= {X:=List UInt8,args:=fun x=>[.str x],pre:=fun x=>x.length<2^62,Y:=Unit,post:=fun x y=>True,res:=fun x y=>Fr (DZ x),outs:=fun x y=>[.top],keep:=false}
theorem b5q:Aj G Tryz.prog 12 Kr:=
 vcFun_okP [(37,0,HK),(38,0,Nb)] [(28,⟨Rg,rgA⟩)] false (fun x=>[]) Tryz.func12 rfl (by decide) ⟨b0V,b5p,trivial⟩ (fun(x:List UInt8)=>(∀(y:Unit),True→(∀(x:Rg),True∧True∧True)∧True∧True)∧cA HK [.str x] fun x_1 y=>Aa y.2.2.2.2.1 (rA Kr x [.nil,.top]) (cA Nb [.box 0 [sgs y.1,.int .i64 (↑(List.length x_1):Int),.int .i64 y.2.2.1,.int .i64 y.2.2.2.1,.bool y.2.2.2.2.1,Au y.2.2.2.2.2.1,mbs y.2.1]] fun x_2 y=>rA Kr x [AV.sl true (0:Nat) (2:Nat) Rg rgA (List.map (Jr x_2.1.sg) x_2.1.ms),.top])) (fun x=>by kernel_rfl) fun(x:List UInt8) (hx:x.length<2^62)=>(by
 dsimp only[cA,mbs,Bg,nds,Au,Fr,rA,rdF,rdG,Kr,Nb,HK,Bj,sgs,Av,AB,mvL,lnL,mvE,lnE]
 have hx:x.length<2^62:=hx
 (repeat' first|(apply a1F<;>try dsimp only)|(show AV.pf _=AV.pf _;first|exact a3R|(with_unfolding_all exact a3R))|(with_reducible first|rfl|exact True.intro|apply AK|apply And.intro|((first|apply Az|apply AI|apply AA|apply AJ)<;>intro _))|(apply Aw<;>intro _)|apply AH|refine Ae () ?_ ?_|((first|apply AO|apply AN|apply AM|apply AL|apply AG|apply AF|apply AE|apply AD|apply AC)<;>try dsimp only)|apply Ae|(refine Prod.forall.2 ?_;intro _;try dsimp only)|(intro _;try dsimp only))
 all_goals first
  |rfl
  |exact hx
  |exact b5o ‹_› ‹_›
  |exact(a3X ‹_› ‹_›).1
  |exact(a3X ‹_› ‹_›).2
  |skip)
def RX(x:List UInt8):LS:= {
 ι:=List Nd×List Sg×Int×Int×List Rg,inv:=fun i=>mbI x i.1 i.2.2.1 i.2.2.2.1 i.2.2.2.2∧(Br x=some i.2.1∧sgB i.2.1)∧BE i.1,regs:=fun i=>[(3,Fr i.2.2.2.2),(4,nds i.1),(10,sgs (Ct i.2.1)),(11,.int .i64 i.2.2.2.1),(12,AQ (Cm i.1)),(13,.int .i64 i.2.2.1)],als:=[],meas:=fun i=>(Cm i.1).length-i.2.2.1.toNat,
 sub:=fun i=>[(100016,{ι:=List Rg×Int,inv:=fun j=>(mbI x i.1 (i.2.2.1+1) (i.2.2.2.1+j.2) j.1∧(0≤i.2.2.1∧0≤i.2.2.2.1)∧j.2≤5400∧i.2.2.2.1+j.2≤3000)∧(Br x=some i.2.1∧sgB i.2.1)∧BE i.1,regs:=fun j=>[(3,Fr j.1),(4,nds i.1),(10,sgs (Ct i.2.1)),(11,.int .i64 i.2.2.2.1),(12,AQ (Cm i.1)),(13,.int .i64 i.2.2.1),(15,.int .i64 j.2)],als:=[],meas:=fun _=>0})]}
def LJ:Sig:= {X:=List UInt8,args:=fun x=>[.str x],pre:=fun x=>x.length<2^62,Y:=Unit,post:=fun x y=>True,res:=fun x y=>Fr (DZ x),outs:=fun x y=>[.top],keep:=false}
theorem b5r:Aj G Tryz.prog 11 LJ:=
 vcFun_okP [(16,0,Gk),(18,0,HT),(35,0,MW),(36,0,(Ci 300))] [(28,⟨Rg,rgA⟩)] false (fun x=>[(10,RX x)]) Tryz.func11 rfl (by decide) ⟨b3O,a2S,b3V,(a3K 300),trivial⟩ (fun(x:List UInt8)=>(∀(y:Unit),True→(∀(x:Rg),True∧True∧True)∧True∧True)∧cA Gk [.str x] fun x_1 y=>Aa (!Option.isSome (CB x_1)) (rA LJ x [AV.sl true (0:Nat) (2:Nat) Rg rgA [],.top]) (cA HT [.str x] fun x_2 y_1=>cA MW [sgs y_1.1] fun x_3 y_2=>inR IntKind.i64 ((↑(List.length y.1):Int)-(1:Int))∧((0:Int)≤(↑(List.length y.1):Int)-(1:Int)∧(↑(List.length y.1):Int)-(1:Int)<(↑(List.length y.1):Int))∧∀(e:Nd),y.1[Int.toNat ((↑(List.length y.1):Int)-(1:Int))]? =some e→eA (RX x) [AV.sl true (0:Nat) (2:Nat) Rg rgA [],nds y.1,sgs (Ct x_3),.int .i64 (0:Int),AQ e.kids,.int .i64 (0:Int)]∧∀(i:List Nd×List Sg×Int×Int×List Rg),mbI x i.1 i.2.2.1 i.2.2.2.1 i.2.2.2.2∧(Br x=some i.2.1∧sgB i.2.1)∧BE i.1→Aa (decide (i.2.2.1<(↑(List.length (Cm i.1)):Int))) (((0:Int)≤i.2.2.1∧i.2.2.1<(↑(List.length (Cm i.1)):Int))∧∀(e:Int),(Cm i.1)[Int.toNat i.2.2.1]? =some e→cA (Ci (300:Nat)) [.box 0 [nds i.1,.nil,.nil],.int .i64 e] fun x_4 y=>inR IntKind.i64 (i.2.2.2.1+(↑(List.length (x_4.2.1++AY x_4.1 (300:Nat) x_4.2.2.2)):Int))∧inR IntKind.i64 (i.2.2.2.1+(↑(List.length (x_4.2.1++AY x_4.1 (300:Nat) x_4.2.2.2)):Int)-(1:Int))∧((0:Int)≤i.2.2.2.1+(↑(List.length (x_4.2.1++AY x_4.1 (300:Nat) x_4.2.2.2)):Int)-(1:Int)∧i.2.2.2.1+(↑(List.length (x_4.2.1++AY x_4.1 (300:Nat) x_4.2.2.2)):Int)-(1:Int)<(↑(List.length (Ct i.2.1)):Int))∧∀(e:Sg),(Ct i.2.1)[Int.toNat (i.2.2.2.1+(↑(List.length (x_4.2.1++AY x_4.1 (300:Nat) x_4.2.2.2)):Int)-(1:Int))]? =some e→true=true∧(((0:Int)≤i.2.2.2.1∧i.2.2.2.1<(↑(List.length (Ct i.2.1)):Int))∧∀(e_1:Sg),(Ct i.2.1)[Int.toNat i.2.2.2.1]? =some e_1→(inR IntKind.i64 (e.pos+(↑(List.length e.text):Int))∧∃(x_5:Rg),e_1.pos=x_5.fr∧e.pos+(↑(List.length e.text):Int)=x_5.to∧∃(zs:List Rg),AV.sl true (0:Nat) (2:Nat) Rg rgA [x_5]=AV.sl true (0:Nat) (2:Nat) Rg rgA zs∧Be rgA∧AS (List.length i.2.2.2.2+List.length zs) (16:Nat)∧true=true∧∃(i_1:List Rg×Int),((mbI x i.1 (i.2.2.1+(1:Int)) (i.2.2.2.1+i_1.2) i_1.1∧((0:Int)≤i.2.2.1∧(0:Int)≤i.2.2.2.1)∧i_1.2≤(5400:Int)∧i.2.2.2.1+i_1.2≤(3000:Int))∧(Br x=some i.2.1∧sgB i.2.1)∧BE i.1)∧(AV.sl true (0:Nat) (2:Nat) Rg rgA (i.2.2.2.2++zs)=AV.sl true (0:Nat) (2:Nat) Rg rgA i_1.1∧nds i.1=nds i.1∧sgs (Ct i.2.1)=sgs (Ct i.2.1)∧i.2.2.2.1=i.2.2.2.1∧AQ (Cm i.1)=AQ (Cm i.1)∧i.2.2.1=i.2.2.1∧(↑(List.length (x_4.2.1++AY x_4.1 (300:Nat) x_4.2.2.2)):Int)=i_1.2∧True)∧True)∧(inR IntKind.i64 (e.pos+(↑(List.length e.text):Int))∧∃(x_5:Rg),e_1.pos=x_5.fr∧e.pos+(↑(List.length e.text):Int)=x_5.to∧∃(zs:List Rg),AV.sl true (0:Nat) (2:Nat) Rg rgA [x_5]=AV.sl true (0:Nat) (2:Nat) Rg rgA zs∧Be rgA∧AS (List.length i.2.2.2.2+List.length zs) (16:Nat)∧true=true∧∃(i_1:List Rg×Int),((mbI x i.1 (i.2.2.1+(1:Int)) (i.2.2.2.1+i_1.2) i_1.1∧((0:Int)≤i.2.2.1∧(0:Int)≤i.2.2.2.1)∧i_1.2≤(5400:Int)∧i.2.2.2.1+i_1.2≤(3000:Int))∧(Br x=some i.2.1∧sgB i.2.1)∧BE i.1)∧(AV.sl true (0:Nat) (2:Nat) Rg rgA (i.2.2.2.2++zs)=AV.sl true (0:Nat) (2:Nat) Rg rgA i_1.1∧nds i.1=nds i.1∧sgs (Ct i.2.1)=sgs (Ct i.2.1)∧i.2.2.2.1=i.2.2.2.1∧AQ (Cm i.1)=AQ (Cm i.1)∧i.2.2.1=i.2.2.1∧(↑(List.length (x_4.2.1++AY x_4.1 (300:Nat) x_4.2.2.2)):Int)=i_1.2∧True)∧True)∧inR IntKind.i64 (e.pos+(↑(List.length e.text):Int))∧∃(x_5:Rg),e_1.pos=x_5.fr∧e.pos+(↑(List.length e.text):Int)=x_5.to∧∃(zs:List Rg),AV.sl true (0:Nat) (2:Nat) Rg rgA [x_5]=AV.sl true (0:Nat) (2:Nat) Rg rgA zs∧Be rgA∧AS (List.length i.2.2.2.2+List.length zs) (16:Nat)∧true=true∧∃(i_1:List Rg×Int),((mbI x i.1 (i.2.2.1+(1:Int)) (i.2.2.2.1+i_1.2) i_1.1∧((0:Int)≤i.2.2.1∧(0:Int)≤i.2.2.2.1)∧i_1.2≤(5400:Int)∧i.2.2.2.1+i_1.2≤(3000:Int))∧(Br x=some i.2.1∧sgB i.2.1)∧BE i.1)∧(AV.sl true (0:Nat) (2:Nat) Rg rgA (i.2.2.2.2++zs)=AV.sl true (0:Nat) (2:Nat) Rg rgA i_1.1∧nds i.1=nds i.1∧sgs (Ct i.2.1)=sgs (Ct i.2.1)∧i.2.2.2.1=i.2.2.2.1∧AQ (Cm i.1)=AQ (Cm i.1)∧i.2.2.1=i.2.2.1∧(↑(List.length (x_4.2.1++AY x_4.1 (300:Nat) x_4.2.2.2)):Int)=i_1.2∧True)∧True)∧∀(i_1:List Rg×Int),(mbI x i.1 (i.2.2.1+(1:Int)) (i.2.2.2.1+i_1.2) i_1.1∧((0:Int)≤i.2.2.1∧(0:Int)≤i.2.2.2.1)∧i_1.2≤(5400:Int)∧i.2.2.2.1+i_1.2≤(3000:Int))∧(Br x=some i.2.1∧sgB i.2.1)∧BE i.1→inR IntKind.i64 (i.2.2.2.1+i_1.2)∧inR IntKind.i64 (i.2.2.1+(1:Int))∧eN (RX x) i [AV.sl true (0:Nat) (2:Nat) Rg rgA i_1.1,nds i.1,sgs (Ct i.2.1),.int .i64 (i.2.2.2.1+i_1.2),AQ (Cm i.1),.int .i64 (i.2.2.1+(1:Int))]) (rA LJ x [AV.sl true (0:Nat) (2:Nat) Rg rgA i.2.2.2.2,.top]))) (fun x=>by kernel_rfl) fun(x:List UInt8) (hx:x.length<2^62)=>(by
 dsimp only[cA,eA,eN,AQ,RX,Bg,nds,Ab,Au,Fr,As,rA,Ci,MW,LJ,Gk,HT,Bj,sgs,srd,tlr,Av,AB,mvL,lnL,mvE,lnE,Bw]
 have hx:x.length<2^62:=hx
 (repeat' first|refine a3M ?_|(with_reducible first|rfl|exact True.intro|apply AK|apply And.intro|((first|apply Az|apply AI|apply AA|apply AJ)<;>intro _))|(apply Aw<;>intro _)|apply AH|refine Ae () ?_ ?_|((first|apply AO|apply AN|apply AM|apply AL|apply AG|apply AF|apply AE|apply AD|apply AC)<;>try dsimp only)|apply Ae|(refine Prod.forall.2 ?_;intro _;try dsimp only)|(intro _;try dsimp only))
 all_goals first
  |rfl
  |exact hx
  |exact b5k ‹_›
  |exact b5l ‹_›
  |exact a3S ‹_› ‹_›
  |exact(a3T (L:=[]) ‹_› ‹_›).1
  |exact(a3T (L:=[]) ‹_› ‹_›).2
  |exact And.right (show _=(CB x).getD []∧_ by assumption)
  |(have hq:=b5e ‹_› (show _=(CB x).getD []∧_ by assumption);(try simp only[AR]);omega)
  |exact b5h ‹_› ‹_›
  |exact(b3W ‹_›).2
  |exact b5j
  |exact And.right (And.right (show mbI _ _ _ _ _∧_ by assumption))
  |exact And.left (And.left (And.right (show mbI _ _ _ _ _∧_ by assumption)))
  |exact And.right (And.left (And.right (show mbI _ _ _ _ _∧_ by assumption)))
  |exact b5f ‹_› ‹_› ‹_› ‹_›
  |exact b5c (And.left (show mbI _ _ _ _ _∧_ by assumption)) ‹_›
  |exact And.left (And.left (show(mbI _ _ _ _ _∧_)∧_ by assumption))
  |(have hq:=Na (And.left (show mbI _ _ _ _ _∧_ by assumption));(try simp only[AR]);omega)
  |(have hq:=a3U ‹_› ‹_›;simp only[List.nil_append];(try simp only[AR]);omega)
  |(have hq:=a3U ‹_› ‹_›;(try simp only[AS,List.length_append,List.length_cons,List.length_nil]);omega)
  |(have hq:=b5i (And.left (show(mbI _ _ _ _ _∧_)∧_ by assumption));(try simp only[AR]);omega)
  |(repeat(rename(Ct _)[_]? =some _=>hq;have hz:=b5g ‹_› hq;clear hq)
    (try simp only[AR]);omega)
  |skip)
end Go.My
end
section
set_option linter.unusedVariables false
set_option linter.unusedSimpArgs false
namespace Go.My
open Go.Eng Go.Proofs
variable {G:GInv}
theorem b5s{p q:Rg→Prop}(a b:Int)(h2:q ⟨a,b⟩)(h1:p ⟨a,b⟩):∃x,p x∧q x:=⟨_,h1,h2⟩
def Jt(a b:Rg):Bool:=a.fr==b.fr&&a.to==b.to
theorem Wo{a b:Rg}:Jt a b=true↔a=b:=by
 cases a;cases b;simp [Jt]
theorem b5t(a:Rg):Jt a a=true:=Wo.2 rfl
def GJ:List Rg→List Rg→Bool
 |[],[]=>true
 |a::l,b::m=>Jt a b&&GJ l m
 |_,_=>false
theorem RY:∀ {a b:List Rg},GJ a b=true↔a=b
 |[],[]=>by simp [GJ]
 |[],_::_=>by simp [GJ]
 |_::_,[]=>by simp [GJ]
 |a::l,b::m=>by simp [GJ,Wo,RY (a:=l) (b:=m)]
theorem a3Y{a b:List Rg}(h:a≠b):false=GJ a b:=by
 cases hb:GJ a b
 ·rfl
 ·exact(h (RY.1 hb)).elim
theorem b5u{a b:List Rg}(h:a=b):true=GJ a b:=(RY.2 h).symm
theorem b5v(a:List Rg):GJ a a=true:=RY.2 rfl
theorem b5w{l:List Rg}:AV.sl false 0 2 Rg (fun x=>fzL (rgA x)) l=AV.sl false 0 2 Rg rgA l:=rfl
def Nc:Sig:= {X:=Rg×Rg,args:=fun x=>[.agg (rgA x.1),.agg (rgA x.2)],pre:=fun x=>True,Y:=Unit,post:=fun x y=>True,res:=fun x y=> .bool (Jt x.1 x.2),outs:=fun x y=>[.top,.top],keep:=false}
theorem b5x:Aj G Tryz.prog 39 Nc:=
 vcFun_okP [] [] false (fun x=>[]) Tryz.func39 rfl (by decide) trivial (fun(x:Rg×Rg)=>(∀(y:Unit),True→True∧True∧True∧True)∧Aa (x.1.fr != x.2.fr) (rA Nc x [.bool false,.top,.top]) (Aa (x.1.to != x.2.to) (rA Nc x [.bool false,.top,.top]) (rA Nc x [.bool true,.top,.top]))) (fun x=>by kernel_rfl) fun(x:Rg×Rg) (hx:True)=>(by
 dsimp only[rA,Nc,Av,AB]
 (repeat' first|(with_reducible first|rfl|exact True.intro|apply AK|apply And.intro|((first|apply Az|apply AI|apply AA|apply AJ)<;>intro _))|(apply Aw<;>intro _)|apply AH|refine Ae () ?_ ?_|((first|apply AO|apply AN|apply AM|apply AL|apply AG|apply AF|apply AE|apply AD|apply AC)<;>try dsimp only)|apply Ae|(refine Prod.forall.2 ?_;intro _;try dsimp only)|(intro _;try dsimp only))<;>(try dsimp only at*)<;>(try simp only[AR,List.length_cons,List.length_nil])<;>(try omega)
 all_goals simp [Jt, *])
def Ju:Sig:= {X:=List Rg×List Rg,args:=fun x=>[rgs x.1,rgs x.2],pre:=fun x=>x.1.length<2^62∧x.2.length<2^62,Y:=Unit,post:=fun x y=>True,res:=fun x y=> .bool (GJ x.1 x.2),outs:=fun x y=>[.top,.top],keep:=false}
def RZ(x:List Rg×List Rg):LS:= {ι:=Int,inv:=fun i=>0≤i∧i≤x.1.length∧x.1.take i.toNat=x.2.take i.toNat,regs:=fun i=>[(0,rgs x.1),(1,rgs x.2),(5,.int .i64 i)],als:=[],meas:=fun i=>x.1.length-i.toNat}
theorem b5y:Aj G Tryz.prog 13 Ju:=
 vcFun_okP [(39,0,Nc)] [] false (fun x=>[(4,RZ x)]) Tryz.func13 rfl (by decide) ⟨b5x,trivial⟩ (fun(x:List Rg×List Rg)=>(∀(y:Unit),True→True∧True∧True∧True)∧Aa ((↑(List.length x.1):Int) != (↑(List.length x.2):Int)) (rA Ju x [.bool false,.top,.top]) (eA (RZ x) [AV.sl false (0:Nat) (2:Nat) Rg rgA x.1,AV.sl false (0:Nat) (2:Nat) Rg rgA x.2,.int .i64 (0:Int)]∧∀(i:Int),(0:Int)≤i∧i≤(↑(List.length x.1):Int)∧List.take (Int.toNat i) x.1=List.take (Int.toNat i) x.2→Aa (decide (i<(↑(List.length x.1):Int))) (true=true∧true=true∧((0:Int)≤i∧i<(↑(List.length x.1):Int))∧∀(e:Rg),x.1[Int.toNat i]? =some e→((0:Int)≤i∧i<(↑(List.length x.2):Int))∧∀(e_1:Rg),x.2[Int.toNat i]? =some e_1→∃(x_1:Rg×Rg),True∧e.fr=x_1.1.fr∧e.to=x_1.1.to∧e_1.fr=x_1.2.fr∧e_1.to=x_1.2.to∧∃(y0:Unit),(∀(y:Unit),True→AV.bool (Jt x_1.1 x_1.2)=AV.bool (Jt x_1.1 x_1.2))∧true=true∧Aa (!Jt x_1.1 x_1.2) (rA Ju x [.bool false,.top,.top]) (inR IntKind.i64 (i+(1:Int))∧eN (RZ x) i [AV.sl false (0:Nat) (2:Nat) Rg rgA x.1,AV.sl false (0:Nat) (2:Nat) Rg rgA x.2,.int .i64 (i+(1:Int))])) (rA Ju x [.bool true,.top,.top]))) (fun x=>by kernel_rfl) fun(x:List Rg×List Rg) (hx:x.1.length<2^62∧x.2.length<2^62)=>(by
 dsimp only[eA,eN,RZ,rA,rgs,Ju,Av,AB,Bw]
 obtain⟨h1,h2⟩:=hx
 (repeat' first|(with_reducible first|rfl|exact True.intro|apply AK|apply And.intro|((first|apply Az|apply AI|apply AA|apply AJ)<;>intro _))|(apply Aw<;>intro _)|apply AH|refine Ae () ?_ ?_|((first|apply AO|apply AN|apply AM|apply AL|apply AG|apply AF|apply AE|apply AD|apply AC)<;>try dsimp only)|apply Ae|(refine Prod.forall.2 ?_;intro _;try dsimp only)|(intro _;try dsimp only))<;>(try dsimp only at*)<;>(try simp only[AR,List.length_cons,List.length_nil])<;>(try omega)
 ·rename_i h;exact a3Y (fun e=>h (by rw[e]))
 ·rfl
 ·rename_i h i hi hl e he f hf hn
  exact a3Y (fun e=>by rw[e,hf] at he;rw[Option.some.inj he,b5t] at hn;cases hn)
 ·rename_i h i hi hl e he f hf hn
  exact a5x hi.1 hi.2.2 he hf (Wo.1 hn)
 ·rename_i h i hi hl
  exact b5u (a5y (by omega) hi.2.2 (by omega)))
def Dr(k:Int)(x:Rg):Rg:=⟨k,k+1⟩
def Bx(x:Rg):Nat:=2
theorem Wp(k:Int)(x:Rg):Bx (Dr k x)=Bx x:=rfl
theorem a3Z(k:Int)(x:Rg):Dr k (Dr k x)=Dr k x:=rfl
def Nf:Sig:= {X:=List Rg×Int,args:=fun x=>[Fr x.1,.int .i64 x.2],pre:=fun x=>qgB Bx x.1∧0≤x.2∧x.2≤2^50,Y:=Unit,post:=fun x y=>True,res:=fun x y=> .int .i64 (x.2+Bv Bx x.1),outs:=fun x y=>[Fr (gMk Dr Bx x.2 x.1),.top],keep:=false,fixed:=[0]}
def Sa(x:List Rg×Int):LS:= {ι:=Int,inv:=qgI Bx x.1,regs:=fun i=>[(0,Fr (gSt Dr Bx x.2 x.1 i)),(1,.int .i64 (x.2+Bv Bx (x.1.take i.toNat))),(5,.int .i64 i)],als:=[],meas:=fun i=>x.1.length-i.toNat}
theorem b5z:Aj G Tryz.prog 14 Nf:=
 vcFun_okP [] [] false (fun x=>[(2,Sa x)]) Tryz.func14 rfl (by decide) trivial (fun(x:List Rg×Int)=>(∀(y:Unit),True→True∧(∀(x:Rg),True∧True∧True)∧True∧True)∧eA (Sa x) [AV.sl true (0:Nat) (2:Nat) Rg rgA x.1,.int .i64 x.2,.int .i64 (0:Int)]∧∀(i:Int),qgI Bx x.1 i→Aa (decide (i<(↑(List.length (gSt Dr Bx x.2 x.1 i)):Int))) (((0:Int)≤i∧i<(↑(List.length (gSt Dr Bx x.2 x.1 i)):Int))∧Int.toNat i<List.length (gSt Dr Bx x.2 x.1 i)∧∀(x_1:Rg),(gSt Dr Bx x.2 x.1 i)[Int.toNat i]? =some x_1→∃(x':Rg),((@List.nil AV)=[]∧[AV.int .i64 x'.to]=[.int .i64 x_1.to])∧x.2+Bv Bx (List.take (Int.toNat i) x.1)=x'.fr∧inR IntKind.i64 (x.2+Bv Bx (List.take (Int.toNat i) x.1)+(1:Int))∧((0:Int)≤i∧i<(↑(List.length (List.set (gSt Dr Bx x.2 x.1 i) (Int.toNat i) x')):Int))∧Int.toNat i<List.length (List.set (gSt Dr Bx x.2 x.1 i) (Int.toNat i) x')∧∀(x_2:Rg),(List.set (gSt Dr Bx x.2 x.1 i) (Int.toNat i) x')[Int.toNat i]? =some x_2→∃(x'_1:Rg),([AV.int .i64 x'_1.fr]=[.int .i64 x_2.fr]∧(@List.nil AV)=[])∧x.2+Bv Bx (List.take (Int.toNat i) x.1)+(1:Int)=x'_1.to∧inR IntKind.i64 (x.2+Bv Bx (List.take (Int.toNat i) x.1)+(1:Int)+(1:Int))∧inR IntKind.i64 (i+(1:Int))∧eN (Sa x) i [AV.sl true (0:Nat) (2:Nat) Rg rgA (List.set (List.set (gSt Dr Bx x.2 x.1 i) (Int.toNat i) x') (Int.toNat i) x'_1),.int .i64 (x.2+Bv Bx (List.take (Int.toNat i) x.1)+(1:Int)+(1:Int)),.int .i64 (i+(1:Int))]) (rA Nf x [.int .i64 (x.2+Bv Bx (List.take (Int.toNat i) x.1)),AV.sl true (0:Nat) (2:Nat) Rg rgA (gSt Dr Bx x.2 x.1 i),.top])) (fun x=>by kernel_rfl) fun(x:List Rg×Int) (hx:qgB Bx x.1∧0≤x.2∧x.2≤2^50)=>(by
 dsimp only[eA,eN,Sa,Fr,rA,Nf,Av,AB,Bw]
 obtain⟨h1,h2,h3⟩:=hx
 (repeat' first|refine b5s _ _ ⟨rfl,?_⟩ ⟨rfl,rfl⟩|(with_reducible first|rfl|exact True.intro|apply AK|apply And.intro|((first|apply Az|apply AI|apply AA|apply AJ)<;>intro _))|(apply Aw<;>intro _)|apply AH|refine Ae () ?_ ?_|((first|apply AO|apply AN|apply AM|apply AL|apply AG|apply AF|apply AE|apply AD|apply AC)<;>try dsimp only)|apply Ae|(refine Prod.forall.2 ?_;intro _;try dsimp only)|(intro _;try dsimp only))
 all_goals(repeat(rename(List.set _ _ _)[_]? =some _=>hq;have e:=b4n hq;clear hq;subst e))
 all_goals(try(rename Rg=>zz;obtain⟨_,_⟩:=zz;dsimp only at*))
 all_goals(try simp only[List.length_set,List.set_set])
 all_goals first
  |rfl
  |exact b4o
  |exact⟨h1,by omega,by omega⟩
  |(simp [Bv];done)
  |exact(show qgI _ _ _ by assumption).2.1
  |assumption
  |exact(a3u ‹_› ‹_›).1
  |exact(a3u ‹_› ‹_›).2
  |exact b4p ‹_› ‹_› rfl
  |exact b4r ‹_› ‹_›
  |(have ht:=b4q (k:=x.2) (show qgI _ _ _ by assumption) ‹_›;rw[ht];simp [Bx];omega)
  |(have hi:=(show qgI _ _ _ by assumption);have hl:= @Wh _ Dr Bx x.2 _ _ hi;have ht:=a3t hi;have:=hi.2.1;have:=hi.2.2;have:=h1.1;(try simp only[AR]);omega)
  |skip)
def Sb(x:List Rg×Int):LS:= {
 ι:=Int,inv:=qhI Dr Bx x.2 x.1,regs:=fun i=>[(0,rgs x.1),(1,.int .i64 (x.2+Bv Bx (x.1.take i.toNat))),(5,.int .i64 i)],als:=[],meas:=fun i=>x.1.length-i.toNat}
theorem b5A{k i:Int}{l:List Rg}{g:Rg}(h:qhI Dr Bx k l i)(hg:l[i.toNat]? =some g):g.fr=k+Bv Bx (l.take i.toNat)∧g.to=k+Bv Bx (l.take i.toNat)+1:=by
 have h2:=b4s h hg
 exact⟨congrArg Rg.fr h2,congrArg Rg.to h2⟩
def Jv:Sig:= {X:=List Rg×Int,args:=fun x=>[rgs x.1,.int .i64 x.2],pre:=fun x=>(qgB Bx x.1∧x.1=gMk Dr Bx x.2 x.1)∧0≤x.2∧x.2≤2^50,Y:=Unit,post:=fun x y=>True,res:=fun x y=> .int .i64 (x.2+Bv Bx x.1),outs:=fun x y=>[.top,.top],keep:=false}
theorem b5B:Aj G Tryz.prog 15 Jv:=
 vcFun_okP [] [] false (fun x=>[(2,Sb x)]) Tryz.func15 rfl (by decide) trivial (fun(x:List Rg×Int)=>(∀(y:Unit),True→True∧True∧True∧True)∧eA (Sb x) [AV.sl false (0:Nat) (2:Nat) Rg rgA x.1,.int .i64 x.2,.int .i64 (0:Int)]∧∀(i:Int),qhI Dr Bx x.2 x.1 i→Aa (decide (i<(↑(List.length x.1):Int))) (((0:Int)≤i∧i<(↑(List.length x.1):Int))∧∀(e:Rg),x.1[Int.toNat i]? =some e→Aa (e.fr != x.2+Bv Bx (List.take (Int.toNat i) x.1)) (rA Jv x [.int .i64 (-1:Int),.top,.top]) (inR IntKind.i64 (x.2+Bv Bx (List.take (Int.toNat i) x.1)+(1:Int))∧((0:Int)≤i∧i<(↑(List.length x.1):Int))∧∀(e:Rg),x.1[Int.toNat i]? =some e→Aa (e.to != x.2+Bv Bx (List.take (Int.toNat i) x.1)+(1:Int)) (rA Jv x [.int .i64 (-1:Int),.top,.top]) (inR IntKind.i64 (x.2+Bv Bx (List.take (Int.toNat i) x.1)+(1:Int)+(1:Int))∧inR IntKind.i64 (i+(1:Int))∧eN (Sb x) i [AV.sl false (0:Nat) (2:Nat) Rg rgA x.1,.int .i64 (x.2+Bv Bx (List.take (Int.toNat i) x.1)+(1:Int)+(1:Int)),.int .i64 (i+(1:Int))]))) (rA Jv x [.int .i64 (x.2+Bv Bx (List.take (Int.toNat i) x.1)),.top,.top])) (fun x=>by kernel_rfl) fun(x:List Rg×Int) (hx:(qgB Bx x.1∧x.1=gMk Dr Bx x.2 x.1)∧0≤x.2∧x.2≤2^50)=>(by
 dsimp only[eA,eN,Sb,rA,rgs,Jv,Av,AB,Bw]
 obtain⟨⟨h1,h0⟩,h2,h3⟩:=hx
 (repeat' first|(with_reducible first|rfl|exact True.intro|apply AK|apply And.intro|((first|apply Az|apply AI|apply AA|apply AJ)<;>intro _))|(apply Aw<;>intro _)|apply AH|refine Ae () ?_ ?_|((first|apply AO|apply AN|apply AM|apply AL|apply AG|apply AF|apply AE|apply AD|apply AC)<;>try dsimp only)|apply Ae|(refine Prod.forall.2 ?_;intro _;try dsimp only)|(intro _;try dsimp only))
 all_goals(repeat(rename x.1[Int.toNat _]? =some _=>hq;revert hq;rename x.1[Int.toNat _]? =some _=>hr;intro hq;rw[hr] at hq;cases hq))
 all_goals try(have hq1:=b5A (show qhI _ _ _ _ _ by assumption) ‹_›)
 all_goals first
  |rfl
  |exact⟨h0,h1,by omega,by omega⟩
  |(simp [Bv];done)
  |exact(show qhI _ _ _ _ _ by assumption).2.2.1
  |assumption
  |exact b4v ‹_› ‹_›
  |exact b4u ‹_› ‹_›
  |(exfalso;exact(show _≠_ by assumption) hq1.1)
  |(exfalso;exact(show _≠_ by assumption) hq1.2)
  |(rw[b4t ‹_› ‹_›];simp [Bx];omega)
  |(have hi:=(show qhI _ _ _ _ _ by assumption);have ht:=a3t hi.2;have:=hi.2.2.1;have:=hi.2.2.2;have:=h1.1;(try simp only[AR]);omega)
  |skip)
theorem a4a{t:List UInt8}:(DZ t).length≤3001:=by
 unfold DZ
 split
 ·simp
 ·rename_i sg h1
  split
  ·simp
  ·rename_i ms L h2
   obtain⟨a1,a2,q,a3,a4,a5⟩:=OK h2
   obtain⟨t1,t2,t3,t4⟩:=JT a1
   have hk:(Cm L).length≤12:=(FT (Lh t4)).2.1
   have:=(MZ (Int.le_refl _) a4).1
   rw[List.length_map];omega
theorem b5C{t:List UInt8}:qgB Bx (DZ t):=⟨by have:= @a4a t;omega,fun e he=>by simp [Bx]⟩
theorem b5D(l:List Rg)(k:Int):Bv Bx (gMk Dr Bx k l)=Bv Bx l:=(Wj Wp a3Z).2
theorem b5E(l:List Rg)(k:Int):gMk Dr Bx k l=gMk Dr Bx k (gMk Dr Bx k l):=(Wj Wp a3Z).1.symm
attribute [local irreducible] DZ
def IH:Sig:= {X:=List UInt8,args:=fun x=>[.str x],pre:=fun x=>x.length<2^63,Y:=Unit,post:=fun x y=>True,res:=fun x y=> .bool true,outs:=fun x y=>[.top],keep:=false}
theorem b5F:Aj G Tryz.prog 5 IH:=
 vcFun_okP [(11,0,LJ),(12,0,Kr),(13,0,Ju),(14,0,Nf),(15,0,Jv)] [] false (fun x=>[]) Tryz.func5 rfl (by decide) ⟨b5r,b5q,b5y,b5z,b5B,trivial⟩ (fun(x:List UInt8)=>(∀(y:Unit),True→True∧True∧True)∧Aa (decide ((↑(List.length x):Int)>(1048576:Int))) (rA IH x [.bool true,.top]) (cA LJ [.str x] fun x_1 y=>cA Kr [.str x] fun x_2 y=>cA Ju [AV.sl true (0:Nat) (2:Nat) Rg rgA (DZ x_2),AV.sl true (0:Nat) (2:Nat) Rg rgA (DZ x_1)] fun x_3 y=>Aa (!GJ x_3.1 x_3.2) (rA IH x [.bool false,.top]) (cA Nf [AV.sl true (0:Nat) (2:Nat) Rg rgA (DZ x_2),.int .i64 (1:Int)] fun x_4 y=>cA Jv [AV.sl true (0:Nat) (2:Nat) Rg rgA (gMk Dr Bx x_4.2 x_4.1),.int .i64 (1:Int)] fun x_5 y=>Aa (decide (x_5.2+Bv Bx x_5.1<(0:Int))) (rA IH x [.bool false,.top]) (Aa (x_5.2+Bv Bx x_5.1 != x_4.2+Bv Bx x_4.1) (rA IH x [.bool false,.top]) (cA Kr [.str x] fun x_6 y=>cA Ju [AV.sl true (0:Nat) (2:Nat) Rg rgA (DZ x_6),AV.sl true (0:Nat) (2:Nat) Rg rgA (DZ x_1)] fun x_7 y=>Aa (!GJ x_7.1 x_7.2) (rA IH x [.bool false,.top]) (cA Jv [AV.sl true (0:Nat) (2:Nat) Rg rgA (gMk Dr Bx x_4.2 x_4.1),.int .i64 (1:Int)] fun x_8 y=>Aa (decide (x_8.2+Bv Bx x_8.1<(0:Int))) (rA IH x [.bool false,.top]) (Aa (x_8.2+Bv Bx x_8.1 != x_4.2+Bv Bx x_4.1) (rA IH x [.bool false,.top]) (rA IH x [.bool true,.top])))))))) (fun x=>by kernel_rfl) fun(x:List UInt8) (hx:x.length<2^63)=>(by
 dsimp only[cA,Fr,rA,rgs,Ju,Jv,Kr,IH,Nf,LJ,Av,AB,mvL,lnL,mvE,lnE]
 have hx:x.length<2^63:=hx
 have hs:= @a4a x;have hg:= @b5C x;have hn2:=a3w Bx (DZ x)
 simp only[b5w]
 (repeat' first|(with_reducible first|rfl|exact True.intro|apply AK|apply And.intro|((first|apply Az|apply AI|apply AA|apply AJ)<;>intro _))|(apply Aw<;>intro _)|apply AH|refine Ae () ?_ ?_|((first|apply AO|apply AN|apply AM|apply AL|apply AG|apply AF|apply AE|apply AD|apply AC)<;>try dsimp only)|apply Ae|(refine Prod.forall.2 ?_;intro _;try dsimp only)|(intro _;try dsimp only))
 all_goals try rw[b5D] at*
 all_goals first
  |rfl
  |omega
  |contradiction
  |exact hg
  |exact b4w Wp hg
  |exact b5E _ _
  |(simp only[ne_eq,not_true_eq_false] at*;done)
  |(exfalso;simp [b5v] at*;done)
  |skip)
end Go.My
end
section
set_option linter.unusedVariables false
set_option linter.unusedSimpArgs false
namespace Go.Eng
def Old(w:World):FP:=fun b=>w.heap.size≤b
def a4b(P:Program)(t:TypeId){α:Type}(f:α→List AV)(good:α→Prop):Prop:=
 ∀ {H:Type} (enc:TypeId×Value→H) (w:World) (spare:Nat→Bool) (held:Bool) (fuel:Nat) (cs:List Value) (y:DataW H×List MemPlace),
   DataW.trod enc P w 0 spare held fuel t cs=some y→∃x:α,good x∧AZ (Old w) w (f x) cs (fun _=>False)
theorem a4c{Z:FP}{w:World}{a:AV}{v:Value}:AZ Z w [a] [v] (fun _=>False)↔Am Z w a v (fun _=>False):=by
 simp only[AZ]
 constructor
 ·rintro⟨u,cs',A,B,e,hj,h1,h2,h3⟩
  simp only[List.cons.injEq] at e
  obtain⟨rfl,rfl⟩:=e
  have:=(HX hj AW).1
  rwa [EA this] at h1
 ·intro h
  exact⟨v,[],fun _=>False,fun _=>False,rfl,Cj _,h,rfl,AW⟩
theorem b5G{Z:FP}{w:World}{a:AV}{azs:List AV}{v:Value}{vs:List Value}(h1:Am Z w a v (fun _=>False))(h2:AZ Z w azs vs (fun _=>False)):
 AZ Z w (a::azs) (v::vs) (fun _=>False):=by
 simp only[AZ]
 exact⟨v,vs,_,_,rfl,Cj _,h1,h2⟩
theorem b5H{P:Program}{t:TypeId}(ht:P.underlying t=some .string):a4b P t (fun s:List UInt8=>[.str s]) (fun s=>s.length<2^63):=by
 intro H enc w spare held fuel cs y h
 obtain⟨n,rfl,_,hl⟩:=DataW.trod_string ht h
 refine⟨n.data.toList,?_,a4c.2 ?_⟩
 ·have:n.data.toList.length≤maxLen:=hl
  unfold maxLen at this;omega
 ·simp only[Am];exact⟨trivial,AW⟩
end Go.Eng
end
section
set_option linter.unusedVariables false
set_option linter.unusedSimpArgs false
namespace Go.Eng
open Go.ChangeShapes Go.WideShapes Go.ChangeAt Go.RowKit
theorem b5I{Z Z' A':FP}{w w':World}(h:After Z w (fun _=>False) Z' w' A'):Below w.heap.size w w':=
 ⟨h.os,h.tape,h.output,h.size,fun b hb=>(h.old b hb (fun x=>x)).1⟩
theorem a4d{H:Type}{enc:TypeId×Value→H}{P:Program}(hl:laidOutB P=true){W W':World}(hb:Below W.heap.size W W'):
 ∀(ts:List TypeId) (vs:List Value) (ds:List (DataW H)) (ps:List MemPlace),ts.all (fun t=>P.readableRec t&&decide (t<P.types.size))=true→
 DataW.TrodAll enc P W 0 (fun _=>true) true ts vs ds ps→(∀x∈ps,x.block<W.heap.size)→DataW.TrodAll enc P W' 0 (fun b=>decide (b<W.heap.size)) true ts vs ds ps
 |[],[],[],ps,ht,h,hp=>h
 |t::ts,v::vs,d::ds,ps,ht,h,hp=>by
  obtain⟨p,q,h1,h2,rfl⟩:=h
  simp only[List.all_cons,Bool.and_eq_true,decide_eq_true_eq] at ht
  exact⟨p,q,Below.trod hl ht.1.1 ht.1.2 h1 hb (fun x hx=>hp x (List.mem_append_left _ hx)),a4d hl hb ts vs ds q ht.2 h2 (fun x hx=>hp x (List.mem_append_right _ hx)),rfl⟩
 |[],_::_,_,_,ht,h,hp=>h.elim
 |[],[],_::_,_,ht,h,hp=>h.elim
 |_::_,[],_,_,ht,h,hp=>h.elim
 |_::_,_::_,[],_,ht,h,hp=>h.elim
theorem b5J{H:Type}{enc:TypeId×Value→H}{P:Program}{f:Func}{s:ChangeSpec}{W W':World}{args:Array Value}{ds gs:List (DataW H)}{before:List MemPlace}{tb:TypeId}
 (hl:laidOutB P=true) (ht:f.params.toList.all (fun t=>P.readableRec t&&decide (t<P.types.size))=true) (hv:s.vars=[])
 (hs:s.fn H ds= {results:=[.lit (.bool true)],args:=ds}) (hr:f.resultTypes= #[tb]) (htb:P.underlying tb=some .bool)
 (hW:DataW.Whole enc P f.params.toList s.vars false W args.toList ds gs before) (hb:Below W.heap.size W W'):s.post enc P f false true false false W args (.bool true) W':=by
 have hW0:=hW
 obtain⟨p,q,hA,hV,rfl,hfz,hnd⟩:=hW
 rw[hv] at hV
 obtain⟨rfl,rfl⟩:=trodVars_none hV
 refine⟨ds,[],p++[],[],p,[],hW0,?_,?_,?_,hb.frame _,fun h=>by cases h⟩
 ·simp only[List.append_nil]
  rw[hs,hr]
  exact trodAll_mk1 (shut_bool htb _)
 ·simp only[List.append_nil]
  rw[hs]
  exact a4d hl hb _ _ _ _ ht hA (fun x hx=>by simpa using hW0.lt x (by simpa using hx))
 ·simp only[List.append_nil]
  rw[hs,hv]
  rfl
def noG:GInv:=⟨fun _ _=>True,fun _ _ _ _ _ _=>trivial⟩
def b5K(X:Type)(args:X→List AV)(pre:X→Prop)(n:Nat):Sig:=
 {X:=X,args:=args,pre:=pre,Y:=Unit,post:=fun _ _=>True,res:=fun _ _=> .bool true,outs:=fun _ _=>List.replicate n .top,keep:=false}
theorem b5L{H:Type}{enc:TypeId×Value→H}{P:Program}{fi:FuncId}{f:Func}{s:ChangeSpec}{W:World}{args:Array Value}{ds gs:List (DataW H)}{before:List MemPlace}{tb:TypeId}
 {X:Type} {azs:X→List AV} {pre:X→Prop} {n:Nat} {G:GInv} (hc:Aj G P fi (b5K X azs pre n)) (hG:G.p (Old W) W)
 (hl:laidOutB P=true) (ht:f.params.toList.all (fun t=>P.readableRec t&&decide (t<P.types.size))=true) (hv:s.vars=[])
 (hs:s.fn H ds= {results:=[.lit (.bool true)],args:=ds}) (hr:f.resultTypes= #[tb]) (htb:P.underlying tb=some .bool)
 (hW:DataW.Whole enc P f.params.toList s.vars false W args.toList ds gs before)
 (ho:∃x,pre x∧AZ (Old W) W (azs x) args.toList (fun _=>False)):
 Calls P fi args W fun e W'=>∃v,e= .returned v∧s.post enc P f false true false false W args v W':=by
 obtain⟨x,hx,hrel⟩:=ho
 refine(hc.2 x hx (Old W) W args.toList _ hG hrel (fun b h=>h.elim) trivial).mono fun e W' h=> ?_
 obtain⟨y,v,Z',A',_,rfl,hr2,hafter⟩:=h
 simp only[AZ] at hr2
 obtain⟨v',us,A1,A2,e1,_,h1,_⟩:=hr2
 simp only[List.cons.injEq] at e1
 obtain⟨rfl,_⟩:=e1
 have:v= .bool true:=by
  have h1:Am Z' W' (.bool true) v A1:=h1
  simp only[Am] at h1;exact h1.1
 subst this
 exact⟨_,rfl,b5J hl ht hv hs hr htb hW (b5I hafter)⟩
end Go.Eng
end
section
set_option linter.unusedVariables false
set_option linter.unusedSimpArgs false
namespace Go.Eng
open Go.ChangeShapes Go.WideShapes Go.ChangeAt Go.RowKit
theorem b5M{H:Type}{enc:TypeId×Value→H}{P:Program}{t:TypeId}{α:Type}{f:α→AV}{good:α→Prop}(hO:a4b P t (fun x=>[f x]) good){W:World}{v:Value}(hc:Db v)
 {d:DataW H} {ps:List MemPlace} (h:DataW.Trod enc P W 0 (fun _=>true) true t v d ps):∃x,good x∧Am (Old W) W (f x) v (fun _=>False):=by
 obtain⟨fuel,hf⟩:=h
 rw[WA hc] at hf
 obtain⟨x,hg,hr⟩:=hO enc W _ _ fuel _ _ hf
 exact⟨x,hg,a4c.1 hr⟩
theorem b5N{H:Type}{enc:TypeId×Value→H}{P:Program}{t:TypeId}(ht:P.underlying t=some .string){W:World}{r:Reach}{base:Nat}{v:Value}(hv:Value.okWide P W r base t v)
 {d:DataW H} {ps:List MemPlace} (h:DataW.Trod enc P W 0 (fun _=>true) true t v d ps):∃s:List UInt8,s.length<2^63∧Am (Old W) W (.str s) v (fun _=>False):=
 b5M (b5H ht) (by obtain⟨n,rfl⟩:=okWide_string ht hv;trivial) h
theorem b5O{Z:FP}{w:World}:AZ Z w [] [] (fun _=>False):=⟨rfl,AW⟩
end Go.Eng
end
section
namespace Go.My
end Go.My
end
