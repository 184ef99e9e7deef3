/- joined -/
import Derived.Test.YtpkkcecninnjiaaGreatDoorQL
set_option linter.unusedSimpArgs false
set_option linter.unusedVariables false
section
namespace Go.My
open Go.Eng Go.Proofs
variable {G:GInv}
variable {t v:Nat}
def ssB(t v:Nat)(i:Int)(l:Nat):Prop:=(i=0∧l≤t)∨(i=1∧l≤t+v)∨(i=2∧l≤t+2*v)∨(i=3∧l≤t+3*v)
theorem d1H{l:Aa}(h:l.length≤t):ssB t v 0 l.length:= .inl ⟨rfl,h⟩
theorem d1I{i:Int}{l:Nat}(h:ssB t v i l):(0≤i∧i≤3)∧l≤t+3*v:=by unfold ssB at h;omega
theorem b4J{i:Int}{l m:Nat}(h:ssB t v i l)(hi:i<3)(hm:m≤l+v):ssB t v (i+1) m:=by unfold ssB at h ⊢;omega
attribute [local irreducible] ssB
def stC(x:Md×Int)(i:Int)(T:Nat):LS:=⟨Int×Int×Aa,fun j=>j.2.2.length≤T∧Ah x.1.b j.1,fun j=>[(0,GD x.1 j.1 j.2.1 j.2.2),(1,.int .i64 x.2),(4,.int .i64 i)],[],fun _=>0,fun _=>[],[]⟩
def stL(v:Nat)(x:Md×Int):LS:=⟨Int×Int×Int×Aa,fun i=>ssB x.1.t.length v i.1 i.2.2.2.length∧Ah x.1.b i.2.1,fun i=>[(0,GD x.1 i.2.1 i.2.2.1 i.2.2.2),(1,.int .i64 x.2),(4,.int .i64 i.1)],[],fun i=>4-i.1.toNat,fun i=>[(200005,stC x i.1 (i.2.2.2.length+2)),(200012,stC x i.1 (i.2.2.2.length+2)),(200017,stC x i.1 (i.2.2.2.length+2)),(100012,stC x i.1 (i.2.2.2.length+12900)),(100014,stC x i.1 (i.2.2.2.length+12900)),(100017,stC x i.1 (i.2.2.2.length+12900)),(100019,stC x i.1 (i.2.2.2.length+12900)),(100021,stC x i.1 (i.2.2.2.length+12900)),(100024,stC x i.1 (i.2.2.2.length+12900)),(100007,stC x i.1 (i.2.2.2.length+12900))],[]⟩
def KU(n:Nat):Sig:=⟨Md×Int,fun x=>[mad x.1,.int .i64 x.2],fun x=>(mdP x.1∧n≤3)∧(x.2<n∧0≤x.2)∧x.1.t.length+n*2^25≤2^27,Int×Int×Aa,fun x y=>y.2.2.length≤x.1.t.length+sB n∧Ah x.1.b y.1,fun x y=> .tup [],fun x y=>[GD x.1 y.1 y.2.1 y.2.2,.top],true,[],[]⟩
def a5A(n:Nat):Sig:=⟨Md×Int,fun x=>[mad x.1,.q x.2],fun x=>(mdP x.1∧n+1≤3)∧(x.2<(n+1:Nat)∧0≤x.2)∧x.1.t.length+(n+1)*2^25≤2^27,Int×Int×Aa,fun x y=>y.2.2.length≤x.1.t.length+sB (n+1)∧Ah x.1.b y.1,fun x y=> .tup [],fun x y=>[GD x.1 y.1 y.2.1 y.2.2,.top],true,[],[]⟩
def SK(n:Nat)(x:Md×Int)(i:Int×Int×Int×Aa):Prop:=∀(i_2:Int×Int×Aa),i_2.2.2.length≤i.2.2.2.length+(12900:Nat)∧Ah x.1.b i_2.1→inR .i64 (i.1+(1:Int))∧(eN (stL ((2:Nat)*sB n+(13000:Nat)) x) i [.box 0 [AV.bv x.1.cv (cur x.1.b i_2.1 i_2.2.1),.str i_2.2.2],.q x.2,.q (i.1+(1:Int))])
def a5B(n:Nat)(x:Md×Int)(i:Int×Int×Int×Aa)(i_1:Int×Int×Aa)(x_2:Aa×Int×Int×Int)(y:Int×Int×Int):Prop:=true=true∧((((↑(i_1.2.2.length+(4:Nat)):Int)≤Aq∧(cA Cd [.box 0 [AV.bv x.1.cv (cur x_2.1 y.2.1 y.2.2),.str i_1.2.2]] fun x_3 y=>(↑((i_1.2.2++ #[(118:UInt8),97,114,32].toList).length+y.1.length):Int)≤Aq∧((↑((i_1.2.2++ #[(118:UInt8),97,114,32].toList++y.1).length+(3:Nat)):Int)≤Aq∧(cA (Du (4:Nat)) [.box 0 [AV.bv x_3.cv (cur x_3.b y.2.1 y.2.2),.str x_3.t],.q 2] fun x_4 y_1=>(↑((i_1.2.2++ #[(118:UInt8),97,114,32].toList++y.1++ #[(32:UInt8),61,32].toList).length+y_1.1.length):Int)≤Aq∧((↑((i_1.2.2++ #[(118:UInt8),97,114,32].toList++y.1++ #[(32:UInt8),61,32].toList++y_1.1).length+(2:Nat)):Int)≤Aq∧(true=true∧(eA (stC x i.1 (i.2.2.2.length+(12900:Nat))) [.box 0 [AV.bv x_4.1.cv (cur x_4.1.b y_1.2.1 y_1.2.2),.str (i_1.2.2++ #[(118:UInt8),97,114,32].toList++y.1++ #[(32:UInt8),61,32].toList++y_1.1++ #[(59:UInt8),32].toList)],.q x.2,.q i.1])))))))∧(cA Cd [.box 0 [AV.bv x.1.cv (cur x_2.1 y.2.1 y.2.2),.str i_1.2.2]] fun x_3 y=>((↑(x_3.t.length+(4:Nat)):Int)≤Aq∧((↑((x_3.t++ #[(118:UInt8),97,114,32].toList).length+y.1.length):Int)≤Aq∧((↑((x_3.t++ #[(118:UInt8),97,114,32].toList++y.1).length+(3:Nat)):Int)≤Aq∧(cA (Du (4:Nat)) [.box 0 [AV.bv x_3.cv (cur x_3.b y.2.1 y.2.2),.str x_3.t],.q 2] fun x_4 y_1=>(↑((x_3.t++ #[(118:UInt8),97,114,32].toList++y.1++ #[(32:UInt8),61,32].toList).length+y_1.1.length):Int)≤Aq∧((↑((x_3.t++ #[(118:UInt8),97,114,32].toList++y.1++ #[(32:UInt8),61,32].toList++y_1.1).length+(2:Nat)):Int)≤Aq∧(true=true∧(eA (stC x i.1 (i.2.2.2.length+(12900:Nat))) [.box 0 [AV.bv x_4.1.cv (cur x_4.1.b y_1.2.1 y_1.2.2),.str (x_3.t++ #[(118:UInt8),97,114,32].toList++y.1++ #[(32:UInt8),61,32].toList++y_1.1++ #[(59:UInt8),32].toList)],.q x.2,.q i.1])))))))∧(cA (Du (4:Nat)) [.box 0 [AV.bv x_3.cv (cur x_3.b y.2.1 y.2.2),.str x_3.t],.q 2] fun x_4 y_1=>(↑(x_4.1.t.length+(4:Nat)):Int)≤Aq∧((↑((x_4.1.t++ #[(118:UInt8),97,114,32].toList).length+y.1.length):Int)≤Aq∧((↑((x_4.1.t++ #[(118:UInt8),97,114,32].toList++y.1).length+(3:Nat)):Int)≤Aq∧((↑((x_4.1.t++ #[(118:UInt8),97,114,32].toList++y.1++ #[(32:UInt8),61,32].toList).length+y_1.1.length):Int)≤Aq∧((↑((x_4.1.t++ #[(118:UInt8),97,114,32].toList++y.1++ #[(32:UInt8),61,32].toList++y_1.1).length+(2:Nat)):Int)≤Aq∧(true=true∧(eA (stC x i.1 (i.2.2.2.length+(12900:Nat))) [.box 0 [AV.bv x_4.1.cv (cur x_4.1.b y_1.2.1 y_1.2.2),.str (x_4.1.t++ #[(118:UInt8),97,114,32].toList++y.1++ #[(32:UInt8),61,32].toList++y_1.1++ #[(59:UInt8),32].toList)],.q x.2,.q i.1])))))))))∧(SK n x i))
def a5C(n:Nat)(x:Md×Int)(i:Int×Int×Int×Aa)(i_1:Int×Int×Aa)(x_2:Aa×Int×Int×Int)(y:Int×Int×Int):Prop:=true=true∧(((cA (Du (4:Nat)) [.box 0 [AV.bv x.1.cv (cur x_2.1 y.2.1 y.2.2),.str i_1.2.2],.q 3] fun x_3 y=>(i_1.2.2.length+y.1.length:Int)≤Aq∧((↑((i_1.2.2++y.1).length+(2:Nat)):Int)≤Aq∧(true=true∧(eA (stC x i.1 (i.2.2.2.length+(12900:Nat))) [.box 0 [AV.bv x_3.1.cv (cur x_3.1.b y.2.1 y.2.2),.str (i_1.2.2++y.1++ #[(59:UInt8),32].toList)],.q x.2,.q i.1]))))∧(cA (Du (4:Nat)) [.box 0 [AV.bv x.1.cv (cur x_2.1 y.2.1 y.2.2),.str i_1.2.2],.q 3] fun x_3 y=>(x_3.1.t.length+y.1.length:Int)≤Aq∧((↑((x_3.1.t++y.1).length+(2:Nat)):Int)≤Aq∧(true=true∧(eA (stC x i.1 (i.2.2.2.length+(12900:Nat))) [.box 0 [AV.bv x_3.1.cv (cur x_3.1.b y.2.1 y.2.2),.str (x_3.1.t++y.1++ #[(59:UInt8),32].toList)],.q x.2,.q i.1])))))∧(SK n x i))
def a5D(x:Md×Int)(i:Int×Int×Int×Aa)(i_1:Int×Int×Aa)(x_6:Aa×Int×Int×List Aa)(y:Aa×Int×Int):Prop:=(↑((i_1.2.2++ #[(47:UInt8),47,32].toList).length+y.1.length):Int)≤Aq∧((↑((i_1.2.2++ #[(47:UInt8),47,32].toList++y.1).length+(1:Nat)):Int)≤Aq∧(true=true∧(eA (stC x i.1 (i.2.2.2.length+(12900:Nat))) [.box 0 [AV.bv x.1.cv (cur x_6.1 y.2.1 y.2.2),.str (i_1.2.2++ #[(47:UInt8),47,32].toList++y.1++ #[(10:UInt8)].toList)],.q x.2,.q i.1])))
def Zm(x:Md×Int)(i:Int×Int×Int×Aa)(i_1:Int×Int×Aa)(x_2:Aa×Int×Int×Int)(x_3:Aa)(x_4:Aa)(x_5:Aa)(y:Int×Int×Int):Prop:=∃(x_6:Aa×Int×Int×List Aa),(Ah x_6.1 x_6.2.1∧x_6.2.2.2≠[]∧x_6.2.2.2.length<(1073741824:Nat))∧x.1.cv=x.1.cv∧byL x_2.1=byL x_6.1∧y.2.1=x_6.2.1∧y.2.2=x_6.2.2.1∧AV.sl false 0 1 Aa (fun(x:Aa)=>fzL (Bo x)) [x_3,x_4,x_5]=AV.sl false 0 1 Aa Bo x_6.2.2.2∧(∀(y:Aa×Int×Int),y.1∈x_6.2.2.2∧Ah x_6.1 y.2.1→x.1.cv=x.1.cv∧(a5D x i i_1 x_6 y))
def a5E(x:Md×Int)(i:Int×Int×Int×Aa)(i_1:Int×Int×Aa)(x_2:Aa×Int×Int×Int)(x_3:Aa)(x_4:Aa)(x_5:Aa)(y:Int×Int×Int):Prop:=((↑(i_1.2.2.length+(3:Nat)):Int)≤Aq∧(Zm x i i_1 x_2 x_3 x_4 x_5 y))∧(∃(x_6:Aa×Int×Int×List Aa),(Ah x_6.1 x_6.2.1∧x_6.2.2.2≠[]∧x_6.2.2.2.length<(1073741824:Nat))∧x.1.cv=x.1.cv∧byL x_2.1=byL x_6.1∧y.2.1=x_6.2.1∧y.2.2=x_6.2.2.1∧AV.sl false 0 1 Aa (fun(x:Aa)=>fzL (Bo x)) [x_3,x_4,x_5]=AV.sl false 0 1 Aa Bo x_6.2.2.2∧(∀(y:Aa×Int×Int),y.1∈x_6.2.2.2∧Ah x_6.1 y.2.1→x.1.cv=x.1.cv∧((↑(i_1.2.2.length+(3:Nat)):Int)≤Aq∧(a5D x i i_1 x_6 y))))
def Zn(x:Md×Int)(i:Int×Int×Int×Aa)(i_1:Int×Int×Aa)(x_2:Aa×Int×Int×Int)(y:Int×Int×Int):Prop:=∃(x_3:Aa),#[(115:UInt8),97,105,100].toList=x_3∧(∃(x_4:Aa),#[].toList=x_4∧(∃(x_5:Aa),#[(97:UInt8),110,100,32,32,109,111,114,101,32,32].toList=x_5∧(Zm x i i_1 x_2 x_3 x_4 x_5 y)))
set_option maxRecDepth 100000 in set_option maxHeartbeats 8000000 in
theorem d1J(n:Nat)(hc:CtG G 46 (KU n)):CtG G 46 (a5A n):=
 vFq [(27,0,DA),(29,0,PU),(44,0,Cd),(45,0,PV),(75,0,(Du 4)),(46,0,(KU n))] [(44,⟨Aa,Bo⟩)] (fun x=>[(1,stL (2*sB n+13000) x)]) Tryz.func46 ⟨Jm,Zh,a5t,Zi,(b4I 4),hc,trivial⟩ (fun x=>True∧eA (stL ((2:Nat)*sB n+(13000:Nat)) x) [.box 0 [AV.bv x.1.cv (cur x.1.b x.1.i x.1.h),.str x.1.t],.q x.2,.q 0]∧∀(i:Int×Int×Int×Aa),ssB (x.1.t.length) ((2:Nat)*sB n+(13000:Nat)) i.1 (i.2.2.2.length)∧Ah x.1.b i.2.1→∃(x_1:Aa×Int×Int×Int),Ah x_1.1 x_1.2.1∧x.1.cv=x.1.cv∧byL x.1.b=byL x_1.1∧i.2.1=x_1.2.1∧i.2.2.1=x_1.2.2.1∧4=x_1.2.2.2∧∀(y:Int×Int×Int),((0<x_1.2.2.2→0≤y.1∧y.1<x_1.2.2.2)∧(x_1.2.2.2≤(0:Int)→y.1=(0:Int)))∧Ah x_1.1 y.2.1→x.1.cv=x.1.cv∧Ae (decide (i.1<y.1)) ((∃(x_2:Aa×Int×Int×Int),Ah x_2.1 x_2.2.1∧x.1.cv=x.1.cv∧byL x_1.1=byL x_2.1∧y.2.1=x_2.2.1∧y.2.2=x_2.2.2.1∧5=x_2.2.2.2∧∀(y:Bool×Int×Int),Ah x_2.1 y.2.1→x.1.cv=x.1.cv∧Ae y.1 ((↑(i.2.2.2.length+(2:Nat)):Int)≤Aq∧eA (stC x i.1 (i.2.2.2.length+(2:Nat))) [.box 0 [AV.bv x.1.cv (cur x_2.1 y.2.1 y.2.2),.str (i.2.2.2++ #[(10:UInt8),10].toList)],.q x.2,.q i.1]) (eA (stC x i.1 (i.2.2.2.length+(2:Nat))) [.box 0 [AV.bv x.1.cv (cur x_2.1 y.2.1 y.2.2),.str i.2.2.2],.q x.2,.q i.1]))∧∀(i_1:Int×Int×Aa),i_1.2.2.length≤i.2.2.2.length+(2:Nat)∧Ah x.1.b i_1.1→∃(x_2:Aa×Int×Int×Int),Ah x_2.1 x_2.2.1∧x.1.cv=x.1.cv∧byL x.1.b=byL x_2.1∧i_1.1=x_2.2.1∧i_1.2.1=x_2.2.2.1∧9=x_2.2.2.2∧∀(y:Int×Int×Int),((0<x_2.2.2.2→0≤y.1∧y.1<x_2.2.2.2)∧(x_2.2.2.2≤(0:Int)→y.1=(0:Int)))∧Ah x_2.1 y.2.1→x.1.cv=x.1.cv∧Ae (y.1==(0:Int)) (a5B n x i i_1 x_2 y) (Ae (y.1==(1:Int)) (a5B n x i i_1 x_2 y) (Ae (y.1==(2:Int)) (true=true∧((cA Cd [.box 0 [AV.bv x.1.cv (cur x_2.1 y.2.1 y.2.2),.str i_1.2.2]] fun x_3 y=>(i_1.2.2.length+y.1.length:Int)≤Aq∧(↑((i_1.2.2++y.1).length+(3:Nat)):Int)≤Aq∧cA (Du (4:Nat)) [.box 0 [AV.bv x_3.cv (cur x_3.b y.2.1 y.2.2),.str x_3.t],.q 3] fun x_4 y_1=>(↑((i_1.2.2++y.1++ #[(32:UInt8),61,32].toList).length+y_1.1.length):Int)≤Aq∧(↑((i_1.2.2++y.1++ #[(32:UInt8),61,32].toList++y_1.1).length+(2:Nat)):Int)≤Aq∧true=true∧eA (stC x i.1 (i.2.2.2.length+(12900:Nat))) [.box 0 [AV.bv x_4.1.cv (cur x_4.1.b y_1.2.1 y_1.2.2),.str (i_1.2.2++y.1++ #[(32:UInt8),61,32].toList++y_1.1++ #[(59:UInt8),32].toList)],.q x.2,.q i.1])∧cA Cd [.box 0 [AV.bv x.1.cv (cur x_2.1 y.2.1 y.2.2),.str i_1.2.2]] fun x_3 y=>((x_3.t.length+y.1.length:Int)≤Aq∧(↑((x_3.t++y.1).length+(3:Nat)):Int)≤Aq∧cA (Du (4:Nat)) [.box 0 [AV.bv x_3.cv (cur x_3.b y.2.1 y.2.2),.str x_3.t],.q 3] fun x_4 y_1=>(↑((x_3.t++y.1++ #[(32:UInt8),61,32].toList).length+y_1.1.length):Int)≤Aq∧(↑((x_3.t++y.1++ #[(32:UInt8),61,32].toList++y_1.1).length+(2:Nat)):Int)≤Aq∧true=true∧eA (stC x i.1 (i.2.2.2.length+(12900:Nat))) [.box 0 [AV.bv x_4.1.cv (cur x_4.1.b y_1.2.1 y_1.2.2),.str (x_3.t++y.1++ #[(32:UInt8),61,32].toList++y_1.1++ #[(59:UInt8),32].toList)],.q x.2,.q i.1])∧cA (Du (4:Nat)) [.box 0 [AV.bv x_3.cv (cur x_3.b y.2.1 y.2.2),.str x_3.t],.q 3] fun x_4 y_1=>(x_4.1.t.length+y.1.length:Int)≤Aq∧(↑((x_4.1.t++y.1).length+(3:Nat)):Int)≤Aq∧(↑((x_4.1.t++y.1++ #[(32:UInt8),61,32].toList).length+y_1.1.length):Int)≤Aq∧(↑((x_4.1.t++y.1++ #[(32:UInt8),61,32].toList++y_1.1).length+(2:Nat)):Int)≤Aq∧true=true∧eA (stC x i.1 (i.2.2.2.length+(12900:Nat))) [.box 0 [AV.bv x_4.1.cv (cur x_4.1.b y_1.2.1 y_1.2.2),.str (x_4.1.t++y.1++ #[(32:UInt8),61,32].toList++y_1.1++ #[(59:UInt8),32].toList)],.q x.2,.q i.1])∧(SK n x i)) (Ae (y.1==(3:Int)) (a5C n x i i_1 x_2 y) (Ae (y.1==(4:Int)) (a5C n x i i_1 x_2 y) (Ae (y.1==(5:Int)) (true=true∧(((↑(i_1.2.2.length+(7:Nat)):Int)≤Aq∧cA (Du (4:Nat)) [.box 0 [AV.bv x.1.cv (cur x_2.1 y.2.1 y.2.2),.str i_1.2.2],.q 2] fun x_3 y=>(↑((i_1.2.2++ #[(114:UInt8),101,116,117,114,110,32].toList).length+y.1.length):Int)≤Aq∧(↑((i_1.2.2++ #[(114:UInt8),101,116,117,114,110,32].toList++y.1).length+(2:Nat)):Int)≤Aq∧true=true∧eA (stC x i.1 (i.2.2.2.length+(12900:Nat))) [.box 0 [AV.bv x_3.1.cv (cur x_3.1.b y.2.1 y.2.2),.str (i_1.2.2++ #[(114:UInt8),101,116,117,114,110,32].toList++y.1++ #[(59:UInt8),32].toList)],.q x.2,.q i.1])∧cA (Du (4:Nat)) [.box 0 [AV.bv x.1.cv (cur x_2.1 y.2.1 y.2.2),.str i_1.2.2],.q 2] fun x_3 y=>(↑(x_3.1.t.length+(7:Nat)):Int)≤Aq∧(↑((x_3.1.t++ #[(114:UInt8),101,116,117,114,110,32].toList).length+y.1.length):Int)≤Aq∧(↑((x_3.1.t++ #[(114:UInt8),101,116,117,114,110,32].toList++y.1).length+(2:Nat)):Int)≤Aq∧true=true∧eA (stC x i.1 (i.2.2.2.length+(12900:Nat))) [.box 0 [AV.bv x_3.1.cv (cur x_3.1.b y.2.1 y.2.2),.str (x_3.1.t++ #[(114:UInt8),101,116,117,114,110,32].toList++y.1++ #[(59:UInt8),32].toList)],.q x.2,.q i.1])∧(SK n x i)) (Ae (y.1==(6:Int)) (true=true∧(((↑(i_1.2.2.length+(3:Nat)):Int)≤Aq∧(Zn x i i_1 x_2 y)∧(Zn x i i_1 x_2 y))∧(((↑(i_1.2.2.length+(3:Nat)):Int)≤Aq∧(Zn x i i_1 x_2 y))∧∃(x_3:Aa),#[(115:UInt8),97,105,100].toList=x_3∧∃(x_4:Aa),#[].toList=x_4∧∃(x_5:Aa),#[(97:UInt8),110,100,32,32,109,111,114,101,32,32].toList=x_5∧(a5E x i i_1 x_2 x_3 x_4 x_5 y))∧∃(x_3:Aa),#[(115:UInt8),97,105,100].toList=x_3∧∃(x_4:Aa),#[].toList=x_4∧∃(x_5:Aa),#[(97:UInt8),110,100,32,32,109,111,114,101,32,32].toList=x_5∧((↑(i_1.2.2.length+(3:Nat)):Int)≤Aq∧(Zm x i i_1 x_2 x_3 x_4 x_5 y))∧(a5E x i i_1 x_2 x_3 x_4 x_5 y))∧(SK n x i)) (Ae (y.1==(7:Int)) (Ae (decide (x.2>(0:Int))) (true=true∧(((↑(i_1.2.2.length+(4:Nat)):Int)≤Aq∧cA (Du (4:Nat)) [.box 0 [AV.bv x.1.cv (cur x_2.1 y.2.1 y.2.2),.str i_1.2.2],.q 2] fun x_3 y=>(↑((i_1.2.2++ #[(105:UInt8),102,32,40].toList).length+y.1.length):Int)≤Aq∧(↑((i_1.2.2++ #[(105:UInt8),102,32,40].toList++y.1).length+(3:Nat)):Int)≤Aq∧true=true∧eA (stC x i.1 (i.2.2.2.length+(12900:Nat))) [.box 0 [AV.bv x_3.1.cv (cur x_3.1.b y.2.1 y.2.2),.str (i_1.2.2++ #[(105:UInt8),102,32,40].toList++y.1++ #[(41:UInt8),32,123].toList)],.q x.2,.q i.1])∧cA (Du (4:Nat)) [.box 0 [AV.bv x.1.cv (cur x_2.1 y.2.1 y.2.2),.str i_1.2.2],.q 2] fun x_3 y=>(↑(x_3.1.t.length+(4:Nat)):Int)≤Aq∧(↑((x_3.1.t++ #[(105:UInt8),102,32,40].toList).length+y.1.length):Int)≤Aq∧(↑((x_3.1.t++ #[(105:UInt8),102,32,40].toList++y.1).length+(3:Nat)):Int)≤Aq∧true=true∧eA (stC x i.1 (i.2.2.2.length+(12900:Nat))) [.box 0 [AV.bv x_3.1.cv (cur x_3.1.b y.2.1 y.2.2),.str (x_3.1.t++ #[(105:UInt8),102,32,40].toList++y.1++ #[(41:UInt8),32,123].toList)],.q x.2,.q i.1])∧∀(i_2:Int×Int×Aa),i_2.2.2.length≤i.2.2.2.length+(12900:Nat)∧Ah x.1.b i_2.1→inR .i64 (x.2-(1:Int))∧cA (KU n) [.box 0 [AV.bv x.1.cv (cur x.1.b i_2.1 i_2.2.1),.str i_2.2.2],.q (x.2-(1:Int))] fun x_3 y=>(↑(y.2.2.length+(2:Nat)):Int)≤Aq∧∃(x_4:Aa×Int×Int×Int),Ah x_4.1 x_4.2.1∧x_3.1.cv=x_3.1.cv∧byL x_3.1.b=byL x_4.1∧y.1=x_4.2.1∧y.2.1=x_4.2.2.1∧2=x_4.2.2.2∧∀(y_1:Bool×Int×Int),Ah x_4.1 y_1.2.1→x_3.1.cv=x_3.1.cv∧Ae y_1.1 ((↑((y.2.2++ #[(125:UInt8),32].toList).length+(6:Nat)):Int)≤Aq∧inR .i64 (x.2-(1:Int))∧cA (KU n) [.box 0 [AV.bv x_3.1.cv (cur x_4.1 y_1.2.1 y_1.2.2),.str (y.2.2++ #[(125:UInt8),32].toList++ #[(101:UInt8),108,115,101,32,123].toList)],.q (x.2-(1:Int))] fun x_5 y=>(↑(y.2.2.length+(2:Nat)):Int)≤Aq∧inR .i64 (i.1+(1:Int))∧eN (stL ((2:Nat)*sB n+(13000:Nat)) x) i [.box 0 [AV.bv x_5.1.cv (cur x_5.1.b y.1 y.2.1),.str (y.2.2++ #[(125:UInt8),32].toList)],.q x.2,.q (i.1+(1:Int))]) (inR .i64 (i.1+(1:Int))∧eN (stL ((2:Nat)*sB n+(13000:Nat)) x) i [.box 0 [AV.bv x_3.1.cv (cur x_4.1 y_1.2.1 y_1.2.2),.str (y.2.2++ #[(125:UInt8),32].toList)],.q x.2,.q (i.1+(1:Int))])) (inR .i64 (i.1+(1:Int))∧(eN (stL ((2:Nat)*sB n+(13000:Nat)) x) i [.box 0 [AV.bv x.1.cv (cur x_2.1 y.2.1 y.2.2),.str i_1.2.2],.q x.2,.q (i.1+(1:Int))]))) (Ae (decide (x.2>(0:Int))) (true=true∧(((↑(i_1.2.2.length+(7:Nat)):Int)≤Aq∧cA (Du (4:Nat)) [.box 0 [AV.bv x.1.cv (cur x_2.1 y.2.1 y.2.2),.str i_1.2.2],.q 1] fun x_3 y=>(↑((i_1.2.2++ #[(119:UInt8),104,105,108,101,32,40].toList).length+y.1.length):Int)≤Aq∧(↑((i_1.2.2++ #[(119:UInt8),104,105,108,101,32,40].toList++y.1).length+(3:Nat)):Int)≤Aq∧true=true∧eA (stC x i.1 (i.2.2.2.length+(12900:Nat))) [.box 0 [AV.bv x_3.1.cv (cur x_3.1.b y.2.1 y.2.2),.str (i_1.2.2++ #[(119:UInt8),104,105,108,101,32,40].toList++y.1++ #[(41:UInt8),32,123].toList)],.q x.2,.q i.1])∧cA (Du (4:Nat)) [.box 0 [AV.bv x.1.cv (cur x_2.1 y.2.1 y.2.2),.str i_1.2.2],.q 1] fun x_3 y=>(↑(x_3.1.t.length+(7:Nat)):Int)≤Aq∧(↑((x_3.1.t++ #[(119:UInt8),104,105,108,101,32,40].toList).length+y.1.length):Int)≤Aq∧(↑((x_3.1.t++ #[(119:UInt8),104,105,108,101,32,40].toList++y.1).length+(3:Nat)):Int)≤Aq∧true=true∧eA (stC x i.1 (i.2.2.2.length+(12900:Nat))) [.box 0 [AV.bv x_3.1.cv (cur x_3.1.b y.2.1 y.2.2),.str (x_3.1.t++ #[(119:UInt8),104,105,108,101,32,40].toList++y.1++ #[(41:UInt8),32,123].toList)],.q x.2,.q i.1])∧∀(i_2:Int×Int×Aa),i_2.2.2.length≤i.2.2.2.length+(12900:Nat)∧Ah x.1.b i_2.1→inR .i64 (x.2-(1:Int))∧cA (KU n) [.box 0 [AV.bv x.1.cv (cur x.1.b i_2.1 i_2.2.1),.str i_2.2.2],.q (x.2-(1:Int))] fun x_3 y=>(↑(y.2.2.length+(2:Nat)):Int)≤Aq∧inR .i64 (i.1+(1:Int))∧eN (stL ((2:Nat)*sB n+(13000:Nat)) x) i [.box 0 [AV.bv x_3.1.cv (cur x_3.1.b y.1 y.2.1),.str (y.2.2++ #[(125:UInt8),32].toList)],.q x.2,.q (i.1+(1:Int))]) (inR .i64 (i.1+(1:Int))∧(eN (stL ((2:Nat)*sB n+(13000:Nat)) x) i [.box 0 [AV.bv x.1.cv (cur x_2.1 y.2.1 y.2.2),.str i_1.2.2],.q x.2,.q (i.1+(1:Int))]))))))))))) (rA (a5A n) x [.tup [],.box 0 [AV.bv x.1.cv (cur x_1.1 y.2.1 y.2.2),.str i.2.2.2],.top])) (by kernel_rfl) fun(x:Md×Int) (hx:(mdP x.1∧n+1≤3)∧(x.2<(n+1:Nat)∧0≤x.2)∧x.1.t.length+(n+1)*2^25≤2^27)=>(by
 dsimp only[Zn,a5E,Zm,a5D,a5C,a5B,SK,EU,byL,cA,cur,eA,eN,mad,GD,rA,Cd,KU,a5A,Du,stC,stL,AB,AF,mvL,lnL,mvE,lnE,Bn,Aq,AV.q]
 obtain⟨⟨cv,b,i,h,t⟩,d⟩:=x;dsimp only at hx ⊢
 obtain⟨⟨hx,hn⟩,⟨hd,hd2⟩,ht⟩:=hx
 have hx:Ah b i:=hx
 have hv3:vB 4=12800:=rfl
 have hs0:=b4H n;have hs1:=d1y n (by omega)
 (repeat' first|(apply Zk<;>try dsimp only)|(apply Zj<;>try dsimp only)|(with_reducible first|rfl|exact⟨⟩|apply AG|apply AM)|apply AL|(apply AK<;>try dsimp only)|apply AJ|((try refine AH.2 ?_);intro _;try dsimp only))
 all_goals(repeat(rename _∈_∧Ah _ _=>hq;obtain⟨hq1,_⟩:=hq;have hq2:=Zl (n:=20) hq1 (by decide);clear hq1))
 all_goals(try(have hb:=d1I (And.left ‹ssB _ _ _ _∧_›)))
 all_goals first
  |rfl
  |exact hx
  |(show Ah _ _;exact hx)
  |omega
  |exact d1H (Bu _)
  |exact And.right ‹_∧Ah _ _›
  |(show Ah _ _;exact And.right ‹_∧Ah _ _›)
  |(rename _=[]=>hq;cases hq;done)
  |skip
 all_goals(repeat(rename _∧Ah _ _=>hq;obtain⟨_,_⟩:=hq))
 all_goals first
  |(with_reducible assumption)
  |(show Ah _ _;with_reducible assumption)
  |((try simp only[Aw,Ba,AE,AX]);omega)
  |(refine b4J ‹_› (by omega) ?_;(try simp only[Ba,AE,AX]);omega)
  |((try simp only[Aw,Ba,AE,AX] at*);omega)
  |(refine b4J ‹_› (by omega) ?_;(try simp only[Ba,AE,AX] at*);omega)
  |skip)
theorem d1K:CtG G 46 (KU 0):=
 ⟨⟨⟨_,Go.Proofs.Tryz.func46,by kernel_rfl,by kernel_rfl⟩,fun x y _ _=>trivial⟩,fun x hx=>by
   exfalso
   have hx:(mdP x.1∧0≤3)∧(x.2<(0:Nat)∧0≤x.2)∧x.1.t.length+0*2^25≤2^27:=hx
   omega⟩
theorem b4K:∀n,CtG G 46 (KU n)
 |0=>d1K
 |n+1=>d1J n (b4K n)
end Go.My
end
section
namespace Go.My
open Go.Eng Go.Proofs
variable {G:GInv}
variable {l t:Nat}
def meC(x:Md)(T:Nat):LS:=⟨Int×Int×Aa,fun j=>j.2.2.length≤T∧Ah x.b j.1,fun j=>[(0,GD x j.1 j.2.1 j.2.2)],[],fun _=>0,fun _=>[],[]⟩
def txB(t:Nat)(i:Int)(l:Nat):Prop:=(i=0∧l≤t)∨(i=1∧l≤t+1912000)∨(i=2∧l≤t+3824000)
theorem d1L(h:l≤t):txB t 0 l:= .inl ⟨rfl,h⟩
theorem d1M{i:Int}(h:txB t i l):(0≤i∧i≤2)∧l≤t+3824000:=by unfold txB at h;omega
theorem d1N{i:Int}{m:Nat}(h:txB t i l)(hi:i<2)(hm:m≤l+1912000):txB t (i+1) m:=by unfold txB at h ⊢;omega
attribute [local irreducible] txB
attribute [local irreducible] CX CT
end Go.My
end
section
namespace Go.My
open Go.Eng Go.Proofs
variable {G:GInv}
variable {i:Int}{s:Aa}{t:Nat}
def Zo:Sig:=⟨Aa,fun x=>[.sl false 0 1 UInt8 byA x],fun x=>x.length≤2^21,Int,fun x y=>True,fun x y=> .box 0 (cur x 0 y),fun x y=>[.top],true,[],[]⟩
def Zp(x:Aa):LS:=⟨Int×Int,fun i=>(0≤i.1∧i.1≤x.length)∧0≤i.2∧i.2≤2^31,fun i=>[(0,.sl false 0 1 UInt8 byA x),(3,.q i.2),(4,.q i.1)],[],fun i=>x.length-i.1.toNat,fun _=>[],[]⟩
theorem d1O:CtG G 18 Zo:=
 vFq [] [] (fun x=>[(3,Zp x)]) Tryz.func18 trivial (fun(x:Aa)=>True∧inR .i64 ((78601:Int)+(nL x))∧eA (Zp x) (cur x ((78601:Int)+(nL x)) (0:Int))∧∀(i:Int×Int),(0≤i.1∧i.1≤(nL x))∧0≤i.2∧i.2≤(2:Int)^(31:Nat)→Ae (decide (i.1<(nL x))) (Ae (decide (i.1<(4000:Int))) (inR .i64 (i.2*(131:Int))∧(0≤i.1∧i.1<(nL x))∧∀(e:UInt8),x[Int.toNat i.1]? =some e→inR .i64 (↑(UInt8.toNat e):Int)∧inR .i64 (i.2*(131:Int)+(↑(UInt8.toNat e):Int))∧inR .i64 (i.2*(131:Int)+(↑(UInt8.toNat e):Int)+(7:Int))∧inR .i64 (i.1+(1:Int))∧eN (Zp x) i [byL x,.q (Fj BinOp.and IntKind.i64 (i.2*(131:Int)+(↑(UInt8.toNat e):Int)+(7:Int)) (1073741823:Int)),.q (i.1+(1:Int))]) (rA Zo x [.box 0 (cur x (0:Int) i.2),.top])) (rA Zo x [.box 0 (cur x (0:Int) i.2),.top])) (by kernel_rfl) fun(x:Aa) (hx:x.length≤2^21)=>(by
 dsimp only[nL,EU,byL,cur,eA,eN,Zp,rA,Zo,AB,AF,Bn,AV.q]
 have hx:x.length≤2^21:=hx
 (repeat' first|(with_reducible first|rfl|exact⟨⟩|apply AG|apply AM)|apply AL|(apply AK<;>try dsimp only)|apply AJ|((try refine AH.2 ?_);intro _;try dsimp only))
 all_goals first
  |rfl
  |omega
  |(have hq:=UInt8.toNat_lt ‹_›;omega)
  |(have hq:=a5r (_:Int);exact hq.1)
  |exact(a5r _).1
  |exact Int.le_trans (a5r _).2 (by decide)
  |skip)
theorem d1P{G:GInv}{P:Program}{f:FuncId}{S:Sig}{c:S.X→S.Y→List AV}(h:Eb G P f S)(hr:S.res=fun x y=> .box 0 (c x y))(hk:S.keep=true):
 Eb G P f {X:=S.X,args:=S.args,pre:=S.pre,Y:=S.Y×Value,post:=fun x y=>S.post x y.1,res:=fun x y=> .bv y.2 (c x y.1),outs:=fun x y=>S.outs x y.1,keep:=true,fixed:=S.fixed,caps:=S.caps}:=by
 obtain⟨⟨h1,_⟩,h2⟩:=h
 refine⟨⟨h1,fun x y _ _=>trivial⟩,fun x hx Z w vals A hG ha hA hc=>(h2 x hx Z w vals A hG ha hA hc).mono ?_⟩
 rintro e w' ⟨y,v,Z',A',hp,he,hrel,haf⟩
 refine⟨(y,v),v,Z',A',hp,he,?_,haf⟩
 rw[hr] at hrel
 simp only[AU,Aj] at hrel ⊢
 obtain⟨v',cs',A1,B1,e1,hj,⟨b,arr,ty,S1,e2,hb,hc1,hj1⟩,hrest⟩:=hrel
 simp only[HQ] at e1
 obtain⟨rfl,rfl⟩:=e1
 exact⟨_,_,A1,B1,rfl,hj,⟨rfl,b,arr,ty,S1,e2,hb,hc1,hj1⟩,hrest⟩
def Gg:Sig:=⟨Aa,fun x=>[.sl false 0 1 UInt8 byA x],fun x=>x.length≤2^21,Int×Value,fun x y=>True,fun x y=> .bv y.2 (cur x 0 y.1),fun x y=>[.top],true,[],[]⟩
theorem SL:CtG G 18 Gg:=d1P (c:=fun x y=>cur x 0 y) d1O rfl rfl
theorem SM{b:Aa}(h:b.length≤2^21):Ah b 0:=⟨by omega,h⟩
theorem a5F{a b:Aa}(h:nB b):nB (a++b):=by
 obtain⟨c,h1,h2⟩:=h
 exact⟨c,by simp [h1],h2⟩
theorem d1Q:nB [59,32]:=⟨59,by simp,by decide⟩
theorem d1R:nB [47,47,32,97,32,110,111,116,101,10]:=⟨47,by simp,by decide⟩
theorem d1S:nB [125,10]:=⟨125,by simp,by decide⟩
def meN(x:Md)(T:Nat):LS:=⟨Int×Int×Aa,fun j=>(j.2.2.length≤T∧nB j.2.2)∧Ah x.b j.1,fun j=>[(0,GD x j.1 j.2.1 j.2.2)],[],fun _=>0,fun _=>[],[]⟩
attribute [local irreducible] nB
def Kb:Sig:=⟨Md,fun x=>[mad x],fun x=>mdP x∧x.t.length≤2^24,Int×Int×Aa,fun x y=>(y.2.2.length≤x.t.length+1911100∧nB y.2.2)∧Ah x.b y.1,fun x y=> .tup [],fun x y=>[GD x y.1 y.2.1 y.2.2],true,[],[]⟩
def Vo(x:Md)(x_5:Cd.X)(x_6:Aa×Int×Int×List Aa)(y:Cd.Y)(y_1:Aa×Int×Int):Prop:=(↑((x_5.t++y.1++ #[(40:UInt8)].toList).length+y_1.1.length):Int)≤Aq∧((↑((x_5.t++y.1++ #[(40:UInt8)].toList++y_1.1).length+(4:Nat)):Int)≤Aq∧(true=true∧(eA (meC x (x.t.length+(60:Nat))) [.box 0 [AV.bv x_5.cv (cur x_6.1 y_1.2.1 y_1.2.2),.str (x_5.t++y.1++ #[(40:UInt8)].toList++y_1.1++ #[(41:UInt8),32,123,32].toList)]])))
def Vp(x:Md)(x_2:Cd.X)(x_6:Aa×Int×Int×List Aa)(y:Cd.Y)(y_1:Aa×Int×Int):Prop:=(↑((x_2.t++y.1++ #[(40:UInt8)].toList).length+y_1.1.length):Int)≤Aq∧((↑((x_2.t++y.1++ #[(40:UInt8)].toList++y_1.1).length+(4:Nat)):Int)≤Aq∧(true=true∧(eA (meC x (x.t.length+(60:Nat))) [.box 0 [AV.bv x_2.cv (cur x_6.1 y_1.2.1 y_1.2.2),.str (x_2.t++y.1++ #[(40:UInt8)].toList++y_1.1++ #[(41:UInt8),32,123,32].toList)]])))
def Zq(x:Md)(x_2:Cd.X)(x_3:Aa)(x_4:Aa)(x_5:Aa)(y:Cd.Y):Prop:=∃(x_6:Aa×Int×Int×List Aa),(Ah x_6.1 x_6.2.1∧x_6.2.2.2≠[]∧x_6.2.2.2.length<(1073741824:Nat))∧x_2.cv=x_2.cv∧byL x_2.b=byL x_6.1∧y.2.1=x_6.2.1∧y.2.2=x_6.2.2.1∧AV.sl false 0 1 Aa (fun(x:Aa)=>fzL (Bo x)) [x_3,x_4,x_5]=Gd x_6.2.2.2∧(∀(y_1:Aa×Int×Int),y_1.1∈x_6.2.2.2∧Ah x_6.1 y_1.2.1→x_2.cv=x_2.cv∧(Vp x x_2 x_6 y y_1))
def a5G(x:Md)(x_2:Cd.X)(x_3:Aa)(x_4:Aa)(x_5:Aa)(y:Cd.Y):Prop:=((x_2.t.length+y.1.length:Int)≤Aq∧((↑((x_2.t++y.1).length+(1:Nat)):Int)≤Aq∧(Zq x x_2 x_3 x_4 x_5 y)))∧(∃(x_6:Aa×Int×Int×List Aa),(Ah x_6.1 x_6.2.1∧x_6.2.2.2≠[]∧x_6.2.2.2.length<(1073741824:Nat))∧x_2.cv=x_2.cv∧byL x_2.b=byL x_6.1∧y.2.1=x_6.2.1∧y.2.2=x_6.2.2.1∧AV.sl false 0 1 Aa (fun(x:Aa)=>fzL (Bo x)) [x_3,x_4,x_5]=Gd x_6.2.2.2∧(∀(y_1:Aa×Int×Int),y_1.1∈x_6.2.2.2∧Ah x_6.1 y_1.2.1→x_2.cv=x_2.cv∧((x_2.t.length+y.1.length:Int)≤Aq∧((↑((x_2.t++y.1).length+(1:Nat)):Int)≤Aq∧(Vp x x_2 x_6 y y_1)))))
def a5H(x:Md)(x_2:Aa)(x_3:Aa)(x_4:Aa)(x_5:Cd.X)(y:Cd.Y):Prop:=(x_5.t.length+y.1.length:Int)≤Aq∧((↑((x_5.t++y.1).length+(1:Nat)):Int)≤Aq∧(∃(x_6:Aa×Int×Int×List Aa),(Ah x_6.1 x_6.2.1∧x_6.2.2.2≠[]∧x_6.2.2.2.length<(1073741824:Nat))∧x_5.cv=x_5.cv∧byL x_5.b=byL x_6.1∧y.2.1=x_6.2.1∧y.2.2=x_6.2.2.1∧AV.sl false 0 1 Aa (fun(x:Aa)=>fzL (Bo x)) [x_2,x_3,x_4]=Gd x_6.2.2.2∧(∀(y_1:Aa×Int×Int),y_1.1∈x_6.2.2.2∧Ah x_6.1 y_1.2.1→x_5.cv=x_5.cv∧(Vo x x_5 x_6 y y_1))))
def a5I(x:Md)(x_2:Cd.X)(x_3:Aa)(x_4:Aa)(x_5:Aa)(y:Cd.Y):Prop:=∃(x_6:Aa×Int×Int×List Aa),(Ah x_6.1 x_6.2.1∧x_6.2.2.2≠[]∧x_6.2.2.2.length<(1073741824:Nat))∧x_2.cv=x.cv∧byL x_2.b=byL x_6.1∧y.2.1=x_6.2.1∧y.2.2=x_6.2.2.1∧AV.sl false 0 1 Aa (fun(x:Aa)=>fzL (Bo x)) [x_3,x_4,x_5]=Gd x_6.2.2.2∧(∀(y_1:Aa×Int×Int),y_1.1∈x_6.2.2.2∧Ah x_6.1 y_1.2.1→x_2.cv=x.cv∧(Vp x x_2 x_6 y y_1))
def a5J(x:Md)(x_5:Cd.X)(x_6:Aa×Int×Int×List Aa)(y:Cd.Y)(y_1:Aa×Int×Int):Prop:=(↑((x.t++y.1++ #[(40:UInt8)].toList).length+y_1.1.length):Int)≤Aq∧((↑((x.t++y.1++ #[(40:UInt8)].toList++y_1.1).length+(4:Nat)):Int)≤Aq∧(true=true∧(eA (meC x (x.t.length+(60:Nat))) [.box 0 [AV.bv x_5.cv (cur x_6.1 y_1.2.1 y_1.2.2),.str (x.t++y.1++ #[(40:UInt8)].toList++y_1.1++ #[(41:UInt8),32,123,32].toList)]])))
def Zs(x:Md)(x_1:Aa×Int×Int×Int)(x_2:Aa)(x_3:Aa)(x_4:Aa)(y:Int×Int×Int):Prop:=cA Cd [.box 0 [AV.bv x.cv (cur x_1.1 y.2.1 y.2.2),.str x.t]] fun x_5 y=>(x.t.length+y.1.length:Int)≤Aq∧((↑((x.t++y.1).length+(1:Nat)):Int)≤Aq∧(∃(x_6:Aa×Int×Int×List Aa),(Ah x_6.1 x_6.2.1∧x_6.2.2.2≠[]∧x_6.2.2.2.length<(1073741824:Nat))∧x_5.cv=x.cv∧byL x_5.b=byL x_6.1∧y.2.1=x_6.2.1∧y.2.2=x_6.2.2.1∧AV.sl false 0 1 Aa (fun(x:Aa)=>fzL (Bo x)) [x_2,x_3,x_4]=Gd x_6.2.2.2∧(∀(y_1:Aa×Int×Int),y_1.1∈x_6.2.2.2∧Ah x_6.1 y_1.2.1→x_5.cv=x.cv∧(a5J x x_5 x_6 y y_1))))
def a5K(x:Md)(x_1:Aa×Int×Int×Int)(x_2:Aa)(x_3:Aa)(x_4:Aa)(y:Int×Int×Int):Prop:=(Zs x x_1 x_2 x_3 x_4 y)∧(cA Cd [.box 0 [AV.bv x.cv (cur x_1.1 y.2.1 y.2.2),.str x.t]] fun x_5 y=>((x_5.t.length+y.1.length:Int)≤Aq∧((↑((x_5.t++y.1).length+(1:Nat)):Int)≤Aq∧(∃(x_6:Aa×Int×Int×List Aa),(Ah x_6.1 x_6.2.1∧x_6.2.2.2≠[]∧x_6.2.2.2.length<(1073741824:Nat))∧x_5.cv=x.cv∧byL x_5.b=byL x_6.1∧y.2.1=x_6.2.1∧y.2.2=x_6.2.2.1∧AV.sl false 0 1 Aa (fun(x:Aa)=>fzL (Bo x)) [x_2,x_3,x_4]=Gd x_6.2.2.2∧(∀(y_1:Aa×Int×Int),y_1.1∈x_6.2.2.2∧Ah x_6.1 y_1.2.1→x_5.cv=x.cv∧(Vo x x_5 x_6 y y_1)))))∧(∃(x_6:Aa×Int×Int×List Aa),(Ah x_6.1 x_6.2.1∧x_6.2.2.2≠[]∧x_6.2.2.2.length<(1073741824:Nat))∧x_5.cv=x.cv∧byL x_5.b=byL x_6.1∧y.2.1=x_6.2.1∧y.2.2=x_6.2.2.1∧AV.sl false 0 1 Aa (fun(x:Aa)=>fzL (Bo x)) [x_2,x_3,x_4]=Gd x_6.2.2.2∧(∀(y_1:Aa×Int×Int),y_1.1∈x_6.2.2.2∧Ah x_6.1 y_1.2.1→x_5.cv=x.cv∧((x_5.t.length+y.1.length:Int)≤Aq∧((↑((x_5.t++y.1).length+(1:Nat)):Int)≤Aq∧(Vo x x_5 x_6 y y_1))))))
def a5L(x:Md)(x_1:Aa×Int×Int×Int)(x_2:Aa)(x_3:Aa)(x_4:Aa)(y:Int×Int×Int):Prop:=(cA Cd [.box 0 [AV.bv x.cv (cur x_1.1 y.2.1 y.2.2),.str x.t]] fun x_5 y=>(x.t.length+y.1.length:Int)≤Aq∧((↑((x.t++y.1).length+(1:Nat)):Int)≤Aq∧(∃(x_6:Aa×Int×Int×List Aa),(Ah x_6.1 x_6.2.1∧x_6.2.2.2≠[]∧x_6.2.2.2.length<(1073741824:Nat))∧x_5.cv=x_5.cv∧byL x_5.b=byL x_6.1∧y.2.1=x_6.2.1∧y.2.2=x_6.2.2.1∧AV.sl false 0 1 Aa (fun(x:Aa)=>fzL (Bo x)) [x_2,x_3,x_4]=Gd x_6.2.2.2∧(∀(y_1:Aa×Int×Int),y_1.1∈x_6.2.2.2∧Ah x_6.1 y_1.2.1→x_5.cv=x_5.cv∧(a5J x x_5 x_6 y y_1)))))∧(Zs x x_1 x_2 x_3 x_4 y)
def a5M(x:Md)(x_2:Cd.X)(x_6:Aa×Int×Int×List Aa)(y:Cd.Y)(y_1:Aa×Int×Int):Prop:=(↑((x.t++y.1++ #[(40:UInt8)].toList).length+y_1.1.length):Int)≤Aq∧((↑((x.t++y.1++ #[(40:UInt8)].toList++y_1.1).length+(4:Nat)):Int)≤Aq∧(true=true∧(eA (meC x (x.t.length+(60:Nat))) [.box 0 [AV.bv x_2.cv (cur x_6.1 y_1.2.1 y_1.2.2),.str (x.t++y.1++ #[(40:UInt8)].toList++y_1.1++ #[(41:UInt8),32,123,32].toList)]])))
def a5N(x:Md)(x_1:Aa×Int×Int×Int)(y:Int×Int×Int):Prop:=(cA Cd [.box 0 [AV.bv x.cv (cur x_1.1 y.2.1 y.2.2),.str x.t]] fun x_2 y=>(x.t.length+y.1.length:Int)≤Aq∧((↑((x.t++y.1).length+(1:Nat)):Int)≤Aq∧(∃(x_3:Aa),#[].toList=x_3∧(∃(x_4:Aa),#[(97:UInt8)].toList=x_4∧(∃(x_5:Aa),#[(97:UInt8),44,32,98,44].toList=x_5∧(∃(x_6:Aa×Int×Int×List Aa),(Ah x_6.1 x_6.2.1∧x_6.2.2.2≠[]∧x_6.2.2.2.length<(1073741824:Nat))∧x_2.cv=x.cv∧byL x_2.b=byL x_6.1∧y.2.1=x_6.2.1∧y.2.2=x_6.2.2.1∧AV.sl false 0 1 Aa (fun(x:Aa)=>fzL (Bo x)) [x_3,x_4,x_5]=Gd x_6.2.2.2∧(∀(y_1:Aa×Int×Int),y_1.1∈x_6.2.2.2∧Ah x_6.1 y_1.2.1→x_2.cv=x.cv∧(a5M x x_2 x_6 y y_1))))))))∧(∃(x_2:Aa),#[].toList=x_2∧(∃(x_3:Aa),#[(97:UInt8)].toList=x_3∧(∃(x_4:Aa),#[(97:UInt8),44,32,98,44].toList=x_4∧(Zs x x_1 x_2 x_3 x_4 y))))
def a5O(x:Md)(x_2:Cd.X)(y:Cd.Y):Prop:=∃(x_3:Aa),#[].toList=x_3∧(∃(x_4:Aa),#[(97:UInt8)].toList=x_4∧(∃(x_5:Aa),#[(97:UInt8),44,32,98,44].toList=x_5∧(∃(x_6:Aa×Int×Int×List Aa),(Ah x_6.1 x_6.2.1∧x_6.2.2.2≠[]∧x_6.2.2.2.length<(1073741824:Nat))∧x_2.cv=x_2.cv∧byL x_2.b=byL x_6.1∧y.2.1=x_6.2.1∧y.2.2=x_6.2.2.1∧AV.sl false 0 1 Aa (fun(x:Aa)=>fzL (Bo x)) [x_3,x_4,x_5]=Gd x_6.2.2.2∧(∀(y_1:Aa×Int×Int),y_1.1∈x_6.2.2.2∧Ah x_6.1 y_1.2.1→x_2.cv=x_2.cv∧(a5M x x_2 x_6 y y_1)))))
def Zt(x:Md)(x_2:Cd.X)(y:Cd.Y):Prop:=∃(x_3:Aa),#[].toList=x_3∧(∃(x_4:Aa),#[(97:UInt8)].toList=x_4∧(∃(x_5:Aa),#[(97:UInt8),44,32,98,44].toList=x_5∧(Zq x x_2 x_3 x_4 x_5 y)))
theorem d1T:CtG G 31 Kb:=
 vFq [(27,0,DA),(44,0,Cd),(45,0,PV),(46,0,(KU 3))] [(44,⟨Aa,Bo⟩)] (fun x=>[(100005,meN x (x.t.length+60)),(100001,meC x (x.t.length+60))]) Tryz.func31 ⟨Jm,a5t,Zi,(b4K 3),trivial⟩ (fun(x:Md)=>True∧∃(x_1:Aa×Int×Int×Int),Ah x_1.1 x_1.2.1∧x.cv=x.cv∧byL x.b=byL x_1.1∧x.i=x_1.2.1∧x.h=x_1.2.2.1∧5=x_1.2.2.2∧∀(y:Int×Int×Int),((0<x_1.2.2.2→0≤y.1∧y.1<x_1.2.2.2)∧(x_1.2.2.2≤(0:Int)→y.1=(0:Int)))∧Ah x_1.1 y.2.1→x.cv=x.cv∧Ae (y.1==(0:Int)) (true=true∧(((↑(x.t.length+(4:Nat)):Int)≤Aq∧cA Cd [.box 0 [AV.bv x.cv (cur x_1.1 y.2.1 y.2.2),.str x.t]] fun x_2 y=>(↑((x.t++ #[(118:UInt8),97,114,32].toList).length+y.1.length):Int)≤Aq∧(↑((x.t++ #[(118:UInt8),97,114,32].toList++y.1).length+(2:Nat)):Int)≤Aq∧true=true∧eA (meN x (x.t.length+(60:Nat))) [.box 0 [AV.bv x_2.cv (cur x_2.b y.2.1 y.2.2),.str (x.t++ #[(118:UInt8),97,114,32].toList++y.1++ #[(59:UInt8),32].toList)]])∧cA Cd [.box 0 [AV.bv x.cv (cur x_1.1 y.2.1 y.2.2),.str x.t]] fun x_2 y=>(↑(x_2.t.length+(4:Nat)):Int)≤Aq∧(↑((x_2.t++ #[(118:UInt8),97,114,32].toList).length+y.1.length):Int)≤Aq∧(↑((x_2.t++ #[(118:UInt8),97,114,32].toList++y.1).length+(2:Nat)):Int)≤Aq∧true=true∧eA (meN x (x.t.length+(60:Nat))) [.box 0 [AV.bv x_2.cv (cur x_2.b y.2.1 y.2.2),.str (x_2.t++ #[(118:UInt8),97,114,32].toList++y.1++ #[(59:UInt8),32].toList)]])∧∀(i:Int×Int×Aa),(i.2.2.length≤x.t.length+(60:Nat)∧nB i.2.2)∧Ah x.b i.1→rA Kb x [.tup [],.box 0 [AV.bv x.cv (cur x.b i.1 i.2.1),.str i.2.2]]) (Ae (y.1==(1:Int)) ((↑(x.t.length+(10:Nat)):Int)≤Aq∧rA Kb x [.tup [],.box 0 [AV.bv x.cv (cur x_1.1 y.2.1 y.2.2),.str (x.t++ #[(47:UInt8),47,32,97,32,110,111,116,101,10].toList)]]) (true=true∧(((cA Cd [.box 0 [AV.bv x.cv (cur x_1.1 y.2.1 y.2.2),.str x.t]] fun x_2 y=>(x.t.length+y.1.length:Int)≤Aq∧(↑((x.t++y.1).length+(1:Nat)):Int)≤Aq∧(a5O x x_2 y)∧(a5O x x_2 y))∧(a5N x x_1 y)∧∃(x_2:Aa),#[].toList=x_2∧∃(x_3:Aa),#[(97:UInt8)].toList=x_3∧∃(x_4:Aa),#[(97:UInt8),44,32,98,44].toList=x_4∧(a5L x x_1 x_2 x_3 x_4 y))∧(cA Cd [.box 0 [AV.bv x.cv (cur x_1.1 y.2.1 y.2.2),.str x.t]] fun x_2 y=>((x_2.t.length+y.1.length:Int)≤Aq∧(↑((x_2.t++y.1).length+(1:Nat)):Int)≤Aq∧(Zt x x_2 y)∧(Zt x x_2 y))∧(((x_2.t.length+y.1.length:Int)≤Aq∧(↑((x_2.t++y.1).length+(1:Nat)):Int)≤Aq∧(Zt x x_2 y))∧∃(x_3:Aa),#[].toList=x_3∧∃(x_4:Aa),#[(97:UInt8)].toList=x_4∧∃(x_5:Aa),#[(97:UInt8),44,32,98,44].toList=x_5∧(a5G x x_2 x_3 x_4 x_5 y))∧∃(x_3:Aa),#[].toList=x_3∧∃(x_4:Aa),#[(97:UInt8)].toList=x_4∧∃(x_5:Aa),#[(97:UInt8),44,32,98,44].toList=x_5∧((x_2.t.length+y.1.length:Int)≤Aq∧((↑((x_2.t++y.1).length+(1:Nat)):Int)≤Aq∧(Zq x x_2 x_3 x_4 x_5 y)))∧(a5G x x_2 x_3 x_4 x_5 y))∧((a5N x x_1 y)∧(cA Cd [.box 0 [AV.bv x.cv (cur x_1.1 y.2.1 y.2.2),.str x.t]] fun x_2 y=>((x_2.t.length+y.1.length:Int)≤Aq∧(↑((x_2.t++y.1).length+(1:Nat)):Int)≤Aq∧∃(x_3:Aa),#[].toList=x_3∧∃(x_4:Aa),#[(97:UInt8)].toList=x_4∧∃(x_5:Aa),#[(97:UInt8),44,32,98,44].toList=x_5∧(a5I x x_2 x_3 x_4 x_5 y))∧∃(x_3:Aa),#[].toList=x_3∧∃(x_4:Aa),#[(97:UInt8)].toList=x_4∧∃(x_5:Aa),#[(97:UInt8),44,32,98,44].toList=x_5∧((x_2.t.length+y.1.length:Int)≤Aq∧(↑((x_2.t++y.1).length+(1:Nat)):Int)≤Aq∧(a5I x x_2 x_3 x_4 x_5 y))∧∃(x_6:Aa×Int×Int×List Aa),(Ah x_6.1 x_6.2.1∧x_6.2.2.2≠[]∧x_6.2.2.2.length<(1073741824:Nat))∧x_2.cv=x.cv∧byL x_2.b=byL x_6.1∧y.2.1=x_6.2.1∧y.2.2=x_6.2.2.1∧AV.sl false 0 1 Aa (fun(x:Aa)=>fzL (Bo x)) [x_3,x_4,x_5]=Gd x_6.2.2.2∧∀(y_1:Aa×Int×Int),y_1.1∈x_6.2.2.2∧Ah x_6.1 y_1.2.1→x_2.cv=x.cv∧((x_2.t.length+y.1.length:Int)≤Aq∧((↑((x_2.t++y.1).length+(1:Nat)):Int)≤Aq∧(Vp x x_2 x_6 y y_1))))∧∃(x_2:Aa),#[].toList=x_2∧∃(x_3:Aa),#[(97:UInt8)].toList=x_3∧∃(x_4:Aa),#[(97:UInt8),44,32,98,44].toList=x_4∧(a5K x x_1 x_2 x_3 x_4 y))∧∃(x_2:Aa),#[].toList=x_2∧∃(x_3:Aa),#[(97:UInt8)].toList=x_3∧∃(x_4:Aa),#[(97:UInt8),44,32,98,44].toList=x_4∧(a5L x x_1 x_2 x_3 x_4 y)∧(cA Cd [.box 0 [AV.bv x.cv (cur x_1.1 y.2.1 y.2.2),.str x.t]] fun x_5 y=>(a5H x x_2 x_3 x_4 x_5 y)∧(a5H x x_2 x_3 x_4 x_5 y)∧∃(x_6:Aa×Int×Int×List Aa),(Ah x_6.1 x_6.2.1∧x_6.2.2.2≠[]∧x_6.2.2.2.length<(1073741824:Nat))∧x_5.cv=x_5.cv∧byL x_5.b=byL x_6.1∧y.2.1=x_6.2.1∧y.2.2=x_6.2.2.1∧AV.sl false 0 1 Aa (fun(x:Aa)=>fzL (Bo x)) [x_2,x_3,x_4]=Gd x_6.2.2.2∧∀(y_1:Aa×Int×Int),y_1.1∈x_6.2.2.2∧Ah x_6.1 y_1.2.1→x_5.cv=x_5.cv∧((x_5.t.length+y.1.length:Int)≤Aq∧((↑((x_5.t++y.1).length+(1:Nat)):Int)≤Aq∧(Vo x x_5 x_6 y y_1))))∧(a5K x x_1 x_2 x_3 x_4 y))∧∀(i:Int×Int×Aa),i.2.2.length≤x.t.length+(60:Nat)∧Ah x.b i.1→cA (KU (3:Nat)) [.box 0 [AV.bv x.cv (cur x.b i.1 i.2.1),.str i.2.2],.q 2] fun x_2 y=>(↑(y.2.2.length+(2:Nat)):Int)≤Aq∧rA Kb x [.tup [],.box 0 [AV.bv x_2.1.cv (cur x_2.1.b y.1 y.2.1),.str (y.2.2++ #[(125:UInt8),10].toList)]]))) (by kernel_rfl) fun(x:Md) (hx:mdP x∧x.t.length≤2^24)=>(by
 dsimp only[Zt,a5O,a5N,a5M,a5L,a5K,Zs,a5J,a5I,a5H,a5G,Zq,Vp,Vo,EU,byL,cA,cur,eA,mad,GD,meC,meN,rA,Kb,Cd,KU,Gd,AB,AF,mvL,lnL,mvE,lnE,Bn,Aq,AV.q]
 obtain⟨cv,b,i,h,t⟩:=x;dsimp only at hx ⊢
 obtain⟨hx,ht⟩:=hx
 have hx:Ah b i:=hx
 have hs2:sB 3=1911000:=rfl
 (repeat' first|(apply Zk<;>try dsimp only)|(apply Zj<;>try dsimp only)|(with_reducible first|rfl|exact⟨⟩|apply AG|apply AM)|apply AL|(apply AK<;>try dsimp only)|apply AJ|((try refine AH.2 ?_);intro _;try dsimp only))
 all_goals(repeat(rename _∈_∧Ah _ _=>hq;obtain⟨hq1,_⟩:=hq;have hq2:=Zl (n:=20) hq1 (by decide);clear hq1))
 all_goals first
  |rfl
  |exact hx
  |(show Ah _ _;exact hx)
  |omega
  |exact And.right ‹_∧Ah _ _›
  |(show Ah _ _;exact And.right ‹_∧Ah _ _›)
  |(rename _=[]=>hq;cases hq;done)
  |exact a5F d1Q
  |exact a5F d1R
  |exact a5F d1S
  |skip
 all_goals(repeat(rename _∧Ah _ _=>hq;obtain⟨_,_⟩:=hq))
 all_goals(repeat(rename _≤_∧nB _=>hq;obtain⟨_,_⟩:=hq))
 all_goals first
  |(with_reducible assumption)
  |(show Ah _ _;with_reducible assumption)
  |((try simp only[Aw,Ba,AE,AX]);omega)
  |skip)
def txO(t:Nat)(i:Int)(s:Aa):Prop:=txB t i s.length∧(i≤0∨nB s)
theorem b4L(h:s.length≤t):txO t 0 s:=⟨d1L h,.inl (Em _)⟩
theorem d1U(h:txO t i s):(0≤i∧i≤2)∧s.length≤t+3824000:=d1M h.1
theorem b4M{u:Aa}(h:txO t i s)(hi:i<2)(hm:u.length≤s.length+1912000)(hu:nB u):txO t (i+1) u:=⟨d1N h.1 hi hm,.inr hu⟩
theorem d1V(h:txO t i s)(hi:1≤i):nB s:=by
 rcases h.2 with h|h
 ·omega
 ·exact h
attribute [local irreducible] txO
def txM(k:Nat)(t:Nat)(x:Value×Aa×Int×Int):LS:=⟨Int×Int×Int×Aa,fun i=>txO t i.1 i.2.2.2∧Ah x.2.1 i.2.1,fun i=>[(0,.val x.1),(3,.box 0 [.bv x.1 (cur x.2.1 i.2.1 i.2.2.1),.str i.2.2.2]),(k,.int .i64 i.1)],[],fun i=>3-i.1.toNat,fun _=>[],[]⟩
def Vq:Sig:=⟨Value×Aa×Int×Int,fun x=>[.bv x.1 (cur x.2.1 x.2.2.1 x.2.2.2)],fun x=>Ah x.2.1 x.2.2.1,Aa×Int×Int,fun x y=>(y.1.length≤2^24∧nB y.1)∧Ah x.2.1 y.2.1,fun x y=> .str y.1,fun x y=>[.bv x.1 (cur x.2.1 y.2.1 y.2.2)],true,[],[]⟩
theorem Zu:CtG G 17 Vq:=
 vFq [(29,0,PU),(27,0,DA),(31,0,Kb)] [] (fun x=>[(5,txM 4 20 x),(10,txM 5 4000000 x)]) Tryz.func17 ⟨Zh,Jm,d1T,trivial⟩ (fun x=>True∧∃(x_1:Aa×Int×Int×Int),Ah x_1.1 x_1.2.1∧x.1=x.1∧byL x.2.1=byL x_1.1∧x.2.2.1=x_1.2.1∧x.2.2.2=x_1.2.2.1∧2=x_1.2.2.2∧∀(y:Bool×Int×Int),Ah x_1.1 y.2.1→x.1=x.1∧Ae y.1 ((∃(i:Int×Int×Int×Aa),(txO (20:Nat) i.1 i.2.2.2∧Ah x.2.1 i.2.1)∧(x.1=x.1∧(x.1=x.1∧x.1=x.1)∧byL x_1.1=byL x.2.1∧y.2.1=i.2.1∧y.2.2=i.2.2.1∧ #[(99:UInt8),108,97,115,115,32,66,105,103,32,123].toList=i.2.2.2∧0=i.1∧True)∧True)∧∀(i:Int×Int×Int×Aa),txO (20:Nat) i.1 i.2.2.2∧Ah x.2.1 i.2.1→∃(x_2:Aa×Int×Int×Int),Ah x_2.1 x_2.2.1∧x.1=x.1∧byL x.2.1=byL x_2.1∧i.2.1=x_2.2.1∧i.2.2.1=x_2.2.2.1∧2=x_2.2.2.2∧∀(y:Int×Int×Int),((0<x_2.2.2.2→0≤y.1∧y.1<x_2.2.2.2)∧(x_2.2.2.2≤(0:Int)→y.1=(0:Int)))∧Ah x_2.1 y.2.1→x.1=x.1∧inR .i64 ((1:Int)+y.1)∧Ae (decide (i.1<(1:Int)+y.1)) (cA Kb [.box 0 [AV.bv x.1 (cur x_2.1 y.2.1 y.2.2),.str i.2.2.2]] fun x_3 y=>inR .i64 (i.1+(1:Int))∧eN (txM (4:Nat) (20:Nat) x) i [.val x.1,.box 0 [AV.bv x_3.cv (cur x_3.b y.1 y.2.1),.str y.2.2],.q (i.1+(1:Int))]) ((↑(i.2.2.2.length+(1:Nat)):Int)≤Aq∧eA (txM (5:Nat) (4000000:Nat) x) [.val x.1,.box 0 [AV.bv x.1 (cur x_2.1 y.2.1 y.2.2),.str (i.2.2.2++ #[(125:UInt8)].toList)],.q 0]∧∀(i:Int×Int×Int×Aa),txO (4000000:Nat) i.1 i.2.2.2∧Ah x.2.1 i.2.1→∃(x_3:Aa×Int×Int×Int),Ah x_3.1 x_3.2.1∧x.1=x.1∧byL x.2.1=byL x_3.1∧i.2.1=x_3.2.1∧i.2.2.1=x_3.2.2.1∧2=x_3.2.2.2∧∀(y:Int×Int×Int),((0<x_3.2.2.2→0≤y.1∧y.1<x_3.2.2.2)∧(x_3.2.2.2≤(0:Int)→y.1=(0:Int)))∧Ah x_3.1 y.2.1→x.1=x.1∧inR .i64 ((1:Int)+y.1)∧Ae (decide (i.1<(1:Int)+y.1)) (∃(x_4:Aa×Int×Int×Int),Ah x_4.1 x_4.2.1∧x.1=x.1∧byL x_3.1=byL x_4.1∧y.2.1=x_4.2.1∧y.2.2=x_4.2.2.1∧3=x_4.2.2.2∧∀(y:Bool×Int×Int),Ah x_4.1 y.2.1→x.1=x.1∧Ae y.1 ((↑(i.2.2.2.length+(4:Nat)):Int)≤Aq∧cA Kb [.box 0 [AV.bv x.1 (cur x_4.1 y.2.1 y.2.2),.str (i.2.2.2++ #[(10:UInt8),32,10,10].toList)]] fun x_5 y=>inR .i64 (i.1+(1:Int))∧(eN (txM (5:Nat) (4000000:Nat) x) i [.val x.1,.box 0 [AV.bv x_5.cv (cur x_5.b y.1 y.2.1),.str y.2.2],.q (i.1+(1:Int))])) (cA Kb [.box 0 [AV.bv x.1 (cur x_4.1 y.2.1 y.2.2),.str i.2.2.2]] fun x_5 y=>inR .i64 (i.1+(1:Int))∧(eN (txM (5:Nat) (4000000:Nat) x) i [.val x.1,.box 0 [AV.bv x_5.cv (cur x_5.b y.1 y.2.1),.str y.2.2],.q (i.1+(1:Int))]))) (∃(y_1:Aa×Int×Int),((y_1.1.length≤(16777216:Nat)∧nB y_1.1)∧Ah x.2.1 y_1.2.1)∧i.2.2.2=y_1.1∧(x.1=x.1∧x.1=x.1)∧byL x_3.1=byL x.2.1∧y.2.1=y_1.2.1∧y.2.2=y_1.2.2∧True))) ((∃(i:Int×Int×Int×Aa),(txO (4000000:Nat) i.1 i.2.2.2∧Ah x.2.1 i.2.1)∧(x.1=x.1∧(x.1=x.1∧x.1=x.1)∧byL x_1.1=byL x.2.1∧y.2.1=i.2.1∧y.2.2=i.2.2.1∧ #[].toList=i.2.2.2∧0=i.1∧True)∧True)∧∀(i:Int×Int×Int×Aa),txO (4000000:Nat) i.1 i.2.2.2∧Ah x.2.1 i.2.1→∃(x_2:Aa×Int×Int×Int),Ah x_2.1 x_2.2.1∧x.1=x.1∧byL x.2.1=byL x_2.1∧i.2.1=x_2.2.1∧i.2.2.1=x_2.2.2.1∧2=x_2.2.2.2∧∀(y:Int×Int×Int),((0<x_2.2.2.2→0≤y.1∧y.1<x_2.2.2.2)∧(x_2.2.2.2≤(0:Int)→y.1=(0:Int)))∧Ah x_2.1 y.2.1→x.1=x.1∧inR .i64 ((1:Int)+y.1)∧Ae (decide (i.1<(1:Int)+y.1)) (∃(x_3:Aa×Int×Int×Int),Ah x_3.1 x_3.2.1∧x.1=x.1∧byL x_2.1=byL x_3.1∧y.2.1=x_3.2.1∧y.2.2=x_3.2.2.1∧3=x_3.2.2.2∧∀(y:Bool×Int×Int),Ah x_3.1 y.2.1→x.1=x.1∧Ae y.1 ((↑(i.2.2.2.length+(4:Nat)):Int)≤Aq∧cA Kb [.box 0 [AV.bv x.1 (cur x_3.1 y.2.1 y.2.2),.str (i.2.2.2++ #[(10:UInt8),32,10,10].toList)]] fun x_4 y=>inR .i64 (i.1+(1:Int))∧(eN (txM (5:Nat) (4000000:Nat) x) i [.val x.1,.box 0 [AV.bv x_4.cv (cur x_4.b y.1 y.2.1),.str y.2.2],.q (i.1+(1:Int))])) (cA Kb [.box 0 [AV.bv x.1 (cur x_3.1 y.2.1 y.2.2),.str i.2.2.2]] fun x_4 y=>inR .i64 (i.1+(1:Int))∧(eN (txM (5:Nat) (4000000:Nat) x) i [.val x.1,.box 0 [AV.bv x_4.cv (cur x_4.b y.1 y.2.1),.str y.2.2],.q (i.1+(1:Int))]))) (∃(y_1:Aa×Int×Int),((y_1.1.length≤(16777216:Nat)∧nB y_1.1)∧Ah x.2.1 y_1.2.1)∧i.2.2.2=y_1.1∧(x.1=x.1∧x.1=x.1)∧byL x_2.1=byL x.2.1∧y.2.1=y_1.2.1∧y.2.2=y_1.2.2∧True))) (by kernel_rfl) fun(x:Value×Aa×Int×Int) (hx:Ah x.2.1 x.2.2.1)=>(by
 dsimp only[EU,byL,cA,cur,eA,eN,mad,GD,Kb,txM,AB,AF,mvL,lnL,mvE,lnE,Bn,Aq,AV.q]
 obtain⟨cv,b,i,h⟩:=x;dsimp only at hx ⊢
 have hx:Ah b i:=hx
 (repeat' first|(apply Zj<;>try dsimp only)|(with_reducible first|rfl|exact⟨⟩|apply AG|apply AM)|apply AL|(apply AK<;>try dsimp only)|apply AJ|((try refine AH.2 ?_);intro _;try dsimp only))
 all_goals(try(have hb:=d1U (And.left ‹txO _ _ _∧_›)))
 all_goals first
  |rfl
  |exact hx
  |omega
  |exact b4L (HR rfl)
  |exact And.right ‹_∧Ah _ _›
  |(show Ah _ _;exact And.right ‹_∧Ah _ _›)
  |(with_reducible assumption)
  |(show Ah _ _;with_reducible assumption)
  |skip
 all_goals(repeat(rename _∧Ah _ _=>hq;obtain⟨_,_⟩:=hq))
 all_goals(repeat(rename _≤_∧nB _=>hq;obtain⟨_,_⟩:=hq))
 all_goals first
  |(with_reducible assumption)
  |(show Ah _ _;with_reducible assumption)
  |exact d1V ‹_› (by omega)
  |((try simp only[Aw,Ba,AE,AX]);omega)
  |(refine b4M ‹_› (by omega) ?_ ‹_›;(try simp only[Ba,AE,AX]);omega)
  |(refine b4M ‹_› (by omega) ?_ ‹_›;(try simp only[Ba,AE,AX] at*);omega)
  |(refine b4L ?_;(try simp only[Ba,AE,AX]);omega)
  |skip)
def Oo:Sig:=⟨Aa×Int×Int×Ad,fun x=>[.box 0 (cur x.1 x.2.1 x.2.2.1),Al x.2.2.2],fun x=>Ah x.1 x.2.1∧x.2.2.2≠[]∧x.2.2.2.length<2^30,Int×Int×Int,fun x y=>Ah x.1 y.2.1,fun x y=> .q y.1,fun x y=>[.box 0 (cur x.1 y.2.1 y.2.2),.top],true,[],[]⟩
theorem b4N:CtG G 74 Oo:=
 vFq [(27,0,DA)] [] (fun x=>[]) Tryz.func74 ⟨Jm,trivial⟩ (fun x=>True∧cA DA [.box 0 (cur x.1 x.2.1 x.2.2.1),.q (nL x.2.2.2)] fun x_1 y=>(0≤y.1∧y.1<(nL x.2.2.2))∧∀(e:Int),x.2.2.2[Int.toNat y.1]? =some e→rA Oo x [.q e,.box 0 (cur x_1.1 y.2.1 y.2.2),.top]) (by kernel_rfl) fun(x:Aa×Int×Int×Ad) (hx:Ah x.1 x.2.1∧x.2.2.2≠[]∧x.2.2.2.length<2^30)=>(by
 dsimp only[nL,EU,cA,cur,Al,rA,DA,Oo,AB,AF,mvL,lnL,mvE,lnE,AV.q]
 obtain⟨b,i,h,l⟩:=x;dsimp only at hx ⊢
 obtain⟨hx,hn,hl⟩:=hx
 have hp:0<l.length:=by cases l with|nil=>exact(hn rfl).elim|cons _ _=>simp
 (repeat' first|(with_reducible first|rfl|exact⟨⟩|apply AG|apply AM)|apply AL|(apply AK<;>try dsimp only)|apply AJ|((try refine AH.2 ?_);intro _;try dsimp only))
 all_goals(repeat(rename(_∧_)∧Ah _ _=>hq;obtain⟨⟨_,_⟩,_⟩:=hq))
 all_goals first
  |rfl
  |assumption
  |omega
  |skip)
def Zv:Sig:=⟨Aa×Int×Int,fun x=>[.box 0 (cur x.1 x.2.1 x.2.2)],fun x=>Ah x.1 x.2.1,Int×Int×Int×Int,fun x y=>Ah x.1 y.2.2.1,fun x y=> .tup [.q y.1,.q y.2.1],fun x y=>[.box 0 (cur x.1 y.2.2.1 y.2.2.2)],true,[],[]⟩
theorem d1W:CtG G 73 Zv:=
 vFq [(74,0,Oo)] [(27,⟨Int,BE⟩)] (fun x=>[]) Tryz.func73 ⟨b4N,trivial⟩ (fun x=>True∧∃(x_1:Int),20=x_1∧∃(x_2:Int),30=x_2∧∃(x_3:Int),40=x_3∧∃(x_4:Int),60=x_4∧∃(x_5:Int),80=x_5∧∃(x_6:Int),10=x_6∧cA Oo [.box 0 (cur x.1 x.2.1 x.2.2),An [x_1,x_2,x_3,x_4,x_5,x_6]] fun x_7 y=>∃(x_8:Int),5000=x_8∧∃(x_9:Int),5000=x_9∧∃(x_10:Int),5000=x_10∧∃(x_11:Int),20=x_11∧∃(x_12:Int),0=x_12∧cA Oo [.box 0 (cur x_7.1 y.2.1 y.2.2),An [x_8,x_9,x_10,x_11,x_12]] fun x_13 y_1=>rA Zv x [.tup [.q y.1,.q y_1.1],.box 0 (cur x_13.1 y_1.2.1 y_1.2.2)]) (by kernel_rfl) fun(x:Aa×Int×Int) (hx:Ah x.1 x.2.1)=>(by
 dsimp only[EU,cA,cur,Al,An,rA,Zv,Oo,AB,AF,mvL,lnL,mvE,lnE,AV.q]
 obtain⟨b,i,h⟩:=x;dsimp only at hx ⊢
 have hx:Ah b i:=hx
 (repeat' first|(with_reducible first|rfl|exact⟨⟩|apply AG|apply AM)|apply AL|(apply AK<;>try dsimp only)|apply AJ|((try refine AH.2 ?_);intro _;try dsimp only))
 all_goals first
  |rfl
  |exact hx
  |(with_reducible assumption)
  |(show Ah _ _;with_reducible assumption)
  |(rename _=[]=>hq;cases hq;done)
  |(simp;done)
  |skip)
def Jn:Sig:=⟨Aa×Int×Int×Int,fun x=>[.box 0 (cur x.1 x.2.1 x.2.2.1),.q x.2.2.2],fun x=>Ah x.1 x.2.1∧0≤x.2.2.2∧x.2.2.2≤5000,Aa×Int×Int,fun x y=>y.1.length≤5000∧Ah x.1 y.2.1,fun x y=> .str y.1,fun x y=>[.box 0 (cur x.1 y.2.1 y.2.2),.top],true,[],[]⟩
def Vr(x:Aa×Int×Int×Int):LS:=⟨Int×Int×Int×Aa,fun i=>((0≤i.1∧i.1≤x.2.2.2)∧(i.2.2.2.length:Int)=i.1)∧Ah x.1 i.2.1,fun i=>[(0,.box 0 (cur x.1 i.2.1 i.2.2.1)),(1,.q x.2.2.2),(5,.sl true 0 1 UInt8 byA i.2.2.2),(6,.q i.1)],[],fun i=>x.2.2.2.toNat-i.1.toNat,fun _=>[],[]⟩
def a5P(x:Aa×Int×Int×Int):Prop:=∀(i:Int×Int×Int×Aa),((0≤i.1∧i.1≤x.2.2.2)∧(nL i.2.2.2)=i.1)∧Ah x.1 i.2.1→Ae (decide (i.1<x.2.2.2)) (cA Ir [.box 0 (cur x.1 i.2.1 i.2.2.1)] fun x_1 y=>inR IntKind.u8 y.1∧(∃(x_2:UInt8),y.1=(↑(UInt8.toNat x_2):Int)∧(∃(zs:Aa),AV.sl true 0 1 UInt8 byA [x_2]=AV.sl true 0 1 UInt8 byA zs∧(Ca byA∧(Bb (i.2.2.2.length+zs.length) (1:Nat)∧inR .i64 (i.1+(1:Int))∧(eN (Vr x) i [.box 0 (cur x_1.1 y.2.1 y.2.2),.q x.2.2.2,AV.sl true 0 1 UInt8 byA (i.2.2.2++zs),.q (i.1+(1:Int))])))))) (∃(l:Aa),byL i.2.2.2=AV.sl false 0 1 UInt8 OI l∧rA Jn x [.str l,.box 0 (cur x.1 i.2.1 i.2.2.1),.top])
theorem d1X:CtG G 43 Jn:=
 vFq [(41,0,Ir)] [(22,⟨UInt8,byA⟩)] (fun x=>[(5,Vr x)]) Tryz.func43 ⟨b4F,trivial⟩ (fun x=>True∧Ae (decide (x.2.2.2>(5000:Int))) (eA (Vr x) [.box 0 (cur x.1 x.2.1 x.2.2.1),.q 5000,AV.sl true 0 1 UInt8 byA [],.q 0]∧(a5P x)) (eA (Vr x) [.box 0 (cur x.1 x.2.1 x.2.2.1),.q x.2.2.2,AV.sl true 0 1 UInt8 byA [],.q 0]∧(a5P x))) (by kernel_rfl) fun(x:Aa×Int×Int×Int) (hx:Ah x.1 x.2.1∧0≤x.2.2.2∧x.2.2.2≤5000)=>(by
 dsimp only[nL,a5P,EU,byL,cA,cur,eA,eN,Vr,rA,Jn,Ir,AB,AF,mvL,lnL,mvE,lnE,Bn,AV.q]
 obtain⟨b,i,h,n⟩:=x;dsimp only at hx ⊢
 obtain⟨hx,h0,h1⟩:=hx
 have hx:Ah b i:=hx
 (repeat' first|refine d1f ?_ ?_ (fun _ _=> ?_)|(with_reducible first|rfl|exact⟨⟩|apply AG|apply AM)|apply AL|(apply AK<;>try dsimp only)|apply AJ|((try refine AH.2 ?_);intro _;try dsimp only))
 all_goals(repeat(rename _∧Ah _ _=>hq;obtain⟨_,_⟩:=hq))
 all_goals first
  |rfl
  |exact hx
  |(with_reducible assumption)
  |(show Ah _ _;with_reducible assumption)
  |omega
  |(simp;done)
  |((try simp only[Aw,Bb,Ba,AE,AX]);omega)
  |(simp [inR,IntKind.min,IntKind.max,IntKind.bits,IntKind.signed];omega)
  |skip)
def LE:Sig:=⟨Aa×Int×Int×Aa,fun x=>[.box 0 (cur x.1 x.2.1 x.2.2.1),.str x.2.2.2],fun x=>Ah x.1 x.2.1∧x.2.2.2.length≤2^40,Aa×Int×Int,fun x y=>y.1.length≤x.2.2.2.length+5000∧Ah x.1 y.2.1,fun x y=> .str y.1,fun x y=>[.box 0 (cur x.1 y.2.1 y.2.2),.top],true,[],[]⟩
def d1Y(x:Aa×Int×Int×Aa):LS:=⟨Int×Int,fun i=>Ah x.1 i.1,fun i=>[(0,.box 0 (cur x.1 i.1 i.2)),(1,.str x.2.2.2)],[],fun _=>0,fun _=>[],[]⟩
def a5Q(x:Aa×Int×Int×Aa):LS:=⟨Aa×Int×Int,fun i=>i.1.length≤x.2.2.2.length+5000∧Ah x.1 i.2.1,fun i=>[(0,.box 0 (cur x.1 i.2.1 i.2.2)),(4,.str i.1)],[],fun _=>0,fun _=>[],[]⟩
def PY(x:Aa×Int×Int×Aa)(x_3:Jn.X)(y:DA.Y)(y_1:Jn.Y):Prop:=(↑((List.take (Int.toNat y.1) x.2.2.2++y_1.1).length+List.length (List.drop (Int.toNat (y.1+(1:Int))) x.2.2.2)):Int)≤Aq∧(true=true∧(eA (a5Q x) [.box 0 (cur x_3.1 y_1.2.1 y_1.2.2),.str (List.take (Int.toNat y.1) x.2.2.2++y_1.1++List.drop (Int.toNat (y.1+(1:Int))) x.2.2.2)]))
def a5R(x:Aa×Int×Int×Aa)(x_1:DA.X)(y:DA.Y):Prop:=Ae (decide ((nL x.2.2.2)>(0:Int))) (cA DA [.box 0 (cur x_1.1 y.2.1 y.2.2),.q (nL x.2.2.2)] fun x_2 y=>true=true∧((inR .i64 (y.1+(1:Int))∧((((0:Int)≤(0:Int)∧0≤y.1∧y.1≤(nL x.2.2.2))∧((cA Jn [.box 0 (cur x_2.1 y.2.1 y.2.2),.q 1] fun x_3 y_1=>(↑((List.take (Int.toNat y.1) x.2.2.2).length+y_1.1.length):Int)≤Aq∧((0≤y.1+(1:Int)∧y.1+1≤(nL x.2.2.2)∧(nL x.2.2.2)≤(nL x.2.2.2))∧(PY x x_3 y y_1)))∧((0≤y.1+(1:Int)∧y.1+1≤(nL x.2.2.2)∧(nL x.2.2.2)≤(nL x.2.2.2))∧(cA Jn [.box 0 (cur x_2.1 y.2.1 y.2.2),.q 1] fun x_3 y_1=>(↑((List.take (Int.toNat y.1) x.2.2.2).length+y_1.1.length):Int)≤Aq∧(PY x x_3 y y_1)))))∧((cA Jn [.box 0 (cur x_2.1 y.2.1 y.2.2),.q 1] fun x_3 y_1=>(((0:Int)≤(0:Int)∧0≤y.1∧y.1≤(nL x.2.2.2))∧((↑((List.take (Int.toNat y.1) x.2.2.2).length+y_1.1.length):Int)≤Aq∧((0≤y.1+(1:Int)∧y.1+1≤(nL x.2.2.2)∧(nL x.2.2.2)≤(nL x.2.2.2))∧(PY x x_3 y y_1))))∧((0≤y.1+(1:Int)∧y.1+1≤(nL x.2.2.2)∧(nL x.2.2.2)≤(nL x.2.2.2))∧(((0:Int)≤(0:Int)∧0≤y.1∧y.1≤(nL x.2.2.2))∧((↑((List.take (Int.toNat y.1) x.2.2.2).length+y_1.1.length):Int)≤Aq∧(PY x x_3 y y_1)))))∧((0≤y.1+(1:Int)∧y.1+1≤(nL x.2.2.2)∧(nL x.2.2.2)≤(nL x.2.2.2))∧((((0:Int)≤(0:Int)∧0≤y.1∧y.1≤(nL x.2.2.2))∧(cA Jn [.box 0 (cur x_2.1 y.2.1 y.2.2),.q 1] fun x_3 y_1=>(↑((List.take (Int.toNat y.1) x.2.2.2).length+y_1.1.length):Int)≤Aq∧(PY x x_3 y y_1)))∧(cA Jn [.box 0 (cur x_2.1 y.2.1 y.2.2),.q 1] fun x_3 y_1=>((0:Int)≤(0:Int)∧0≤y.1∧y.1≤(nL x.2.2.2))∧((↑((List.take (Int.toNat y.1) x.2.2.2).length+y_1.1.length):Int)≤Aq∧(PY x x_3 y y_1))))))))∧(∀(i:Aa×Int×Int),i.1.length≤x.2.2.2.length+(5000:Nat)∧Ah x.1 i.2.1→rA LE x [.str i.1,.box 0 (cur x.1 i.2.1 i.2.2),.top]))) (rA LE x [.str x.2.2.2,.box 0 (cur x_1.1 y.2.1 y.2.2),.top])
theorem a5S:CtG G 30 LE:=
 vFq [(27,0,DA),(43,0,Jn)] [] (fun x=>[(200008,d1Y x),(100010,a5Q x)]) Tryz.func30 ⟨Jm,d1X,trivial⟩ (fun x=>True∧cA DA [.box 0 (cur x.1 x.2.1 x.2.2.1),.q 12] fun x_1 y=>Ae (y.1==(0:Int)) (cA Jn [.box 0 (cur x_1.1 y.2.1 y.2.2),.q 1] fun x_2 y=>(x.2.2.2.length+y.1.length:Int)≤Aq∧rA LE x [.str (x.2.2.2++y.1),.box 0 (cur x_2.1 y.2.1 y.2.2),.top]) (Ae (y.1==(1:Int)) (inR .i64 ((nL x.2.2.2)+(1:Int))∧cA DA [.box 0 (cur x_1.1 y.2.1 y.2.2),.q ((nL x.2.2.2)+(1:Int))] fun x_2 y=>((0:Int)≤(0:Int)∧0≤y.1∧y.1≤(nL x.2.2.2))∧rA LE x [.str (List.take (Int.toNat y.1) x.2.2.2),.box 0 (cur x_2.1 y.2.1 y.2.2),.top]) (Ae (y.1==(2:Int)) (a5R x x_1 y) (Ae (y.1==(3:Int)) (a5R x x_1 y) (rA LE x [.str x.2.2.2,.box 0 (cur x_1.1 y.2.1 y.2.2),.top]))))) (by kernel_rfl) fun(x:Aa×Int×Int×Aa) (hx:Ah x.1 x.2.1∧x.2.2.2.length≤2^40)=>(by
 dsimp only[nL,a5R,PY,EU,cA,cur,eA,a5Q,rA,DA,Jn,LE,AB,AF,mvL,lnL,mvE,lnE,Bn,Aq,AV.q]
 obtain⟨b,i,h,s⟩:=x;dsimp only at hx ⊢
 obtain⟨hx,h0⟩:=hx
 have hx:Ah b i:=hx
 (repeat' first|(with_reducible first|rfl|exact⟨⟩|apply AG|apply AM)|apply AL|(apply AK<;>try dsimp only)|apply AJ|((try refine AH.2 ?_);intro _;try dsimp only))
 all_goals(repeat(rename(_∧_)∧Ah _ _=>hq;obtain⟨⟨_,_⟩,_⟩:=hq))
 all_goals(repeat(rename _∧Ah _ _=>hq;obtain⟨_,_⟩:=hq))
 all_goals first
  |rfl
  |exact hx
  |(with_reducible assumption)
  |(show Ah _ _;with_reducible assumption)
  |omega
  |((try simp only[Aw,Ba,DU,GW,AE,AX]);omega)
  |skip)
end Go.My
end
section
namespace Go.My
open Go.Eng Go.Proofs
variable {G:GInv}
variable {i:Int}{p:Pc}
def MT:Sig:=⟨Aa×Unit,fun x=>[.str x.1],fun x=>x.1.length≤2^62,Unit,fun x y=>True,fun x y=> .bool (BI x.1),fun x y=>[.top],false,[],[]⟩
def Zw(x:Aa×Unit):LS:=⟨Int,fun i=>DQ BV x.1 i,fun i=>[(0,.str x.1),(3,.q i)],[],fun i=>x.1.length-i.toNat,fun _=>[],[]⟩
theorem b4O:CtG G 114 MT:=
 vFq [(90,0,IH)] [] (fun x=>[(2,Zw x)]) Tryz.func114 ⟨a1W,trivial⟩ (fun x=>U3∧eA (Zw x) [.str x.1,.q 0]∧∀(i:Int),DQ BV x.1 i→Ae (decide (i<(nL x.1))) ((0≤i∧i<(nL x.1))∧∀(c:UInt8),x.1[Int.toNat i]? =some c→cA IH [AV.int IntKind.u8 (↑(UInt8.toNat c):Int)] fun x_1 y=>Ae (!BV x_1) (rA MT x [.bool false,.top]) (inR .i64 (i+1)∧eN (Zw x) i [.str x.1,.q (i+1)])) (rA MT x [.bool true,.top])) (by kernel_rfl) fun(x:Aa×Unit) (hx:x.1.length≤2^62)=>(by
 dsimp only[nL,U3,cA,eA,eN,Zw,rA,IH,MT,AB,AF,mvL,lnL,mvE,lnE,Bn,AV.q]
 obtain⟨x,_⟩:=x;dsimp only at hx ⊢
 have hx:x.length≤2^62:=hx
 (repeat' first|(with_reducible first|rfl|exact⟨⟩|apply AG|apply AM)|apply AL|(apply AK<;>try dsimp only)|apply AJ|((try refine AH.2 ?_);intro _;try dsimp only))
 all_goals first
  |with_reducible rfl
  |exact a4m
  |exact Oa ‹_› ‹_› ‹_› ‹_›
  |exact(PH ‹_› ‹_›).symm
  |exact(Sp ‹_› ‹_›).symm
  |(have hq:= ‹DQ _ _ _›.1;(try simp only[Aw]);omega)
  |skip)
def SN:Sig:=⟨Pc×Int×Int×Bool×Int,fun x=>[.agg (pcA false x.1),.agg [.q x.2.1,.q x.2.2.1,.bool x.2.2.2.1,.q x.2.2.2.2]],fun x=>pcS x.1,Unit,fun x y=>True,fun x y=> .bool (HN x.1 ⟨[],x.2.1,x.2.2.1,x.2.2.2.1,x.2.2.2.2⟩),fun x y=>[.top,.top],false,[],[]⟩
theorem d1Z:CtG G 144 SN:=
 vFq [(20,0,BZ)] [] (fun x=>[]) Tryz.func144 ⟨JK,trivial⟩ (fun x=>U4∧true=true∧true=true∧inR .i64 ((nL x.1.rules)-(1:Int))∧∃(x_1:Int×Int×Int),True∧x.2.1=x_1.1∧0=x_1.2.1∧(nL x.1.rules)-1=x_1.2.2∧∃(y0:Unit),(∀(y:Unit),True→AV.bool (inn x_1.1 x_1.2.1 x_1.2.2)=AV.bool (inn x_1.1 x_1.2.1 x_1.2.2))∧true=true∧Ae (inn x_1.1 x_1.2.1 x_1.2.2) ((0≤x.2.1∧x.2.1<(nL x.1.rules))∧∀(e:Ru),x.1.rules[Int.toNat x.2.1]? =some e→inR .i64 (e.vals-1)∧∃(x_2:Int×Int×Int),True∧x.2.2.1=x_2.1∧1=x_2.2.1∧e.vals-1=x_2.2.2∧∃(y0:Unit),(∀(y:Unit),True→AV.bool (inn x_2.1 x_2.2.1 x_2.2.2)=AV.bool (inn x_2.1 x_2.2.1 x_2.2.2))∧true=true∧Ae (inn x_2.1 x_2.2.1 x_2.2.2) (∃(x_3:Int×Int×Int),True∧(Z4 x)=x_3.1∧0=x_3.2.1∧40=x_3.2.2∧∃(y0:Unit),(∀(y:Unit),True→AV.bool (inn x_3.1 x_3.2.1 x_3.2.2)=AV.bool (inn x_3.1 x_3.2.1 x_3.2.2))∧true=true∧rA SN x [.bool (inn x_3.1 x_3.2.1 x_3.2.2),.top,.top]) (rA SN x [.bool false,.top,.top])) (rA SN x [.bool false,.top,.top])) (by kernel_rfl) fun(x:Pc×Int×Int×Bool×Int) (hx:pcS x.1)=>(by
 dsimp only[nL,U4,Z4,EP,pcA,rA,EO,SN,EQ,ER,AB,AF,AV.q]
 obtain⟨p,r,f,s,n⟩:=x;dsimp only at hx ⊢
 have hx:pcS p:=hx
 have hz:=hx.1;have hv:=hx.2.2
 (repeat' first|(with_reducible first|rfl|exact⟨⟩|apply AG|apply AM)|apply AL|(apply AK<;>try dsimp only)|apply AJ|((try refine AH.2 ?_);intro _;try dsimp only))
 all_goals first
  |with_reducible rfl
  |((try simp only[Cm] at*);omega)
  |(simp [HN, *];done)
  |(have hm:=hv _ (Bq ‹_›);omega)
  |(rename p.rules[_]? =some _=>hq;have hr:=Yu hq;simp [HN,hr, *];done)
  |skip)
def qoA(p:Pc):Prop:=(inn p.ind 0 60=true∧p.rules.length≤8)∧inn p.chunks.length 1 80=true∧p.spans.length≤40∧p.ties.length≤20
theorem Vs(h:(((inn p.ind 0 60=false∨(p.rules.length:Int)>8)∨inn p.chunks.length 1 80=false)∨(p.spans.length:Int)>40)∨(p.ties.length:Int)>20):false=CY p:=by
 symm
 rw[FI]
 simp only[CY,Lv,Jb,ne_eq,AY,Bf,not_and]
 intro h1 h2 h3 h4
 rw[h1,h3.1] at h
 simp at h;omega
theorem d2a(h:qoA p)(hr:p.rules.all JW=true):Lv p=true:=by simp [Lv,hr,h.1.2]
theorem d2b(h:p.rules.all JW=false):false=CY p:=by
 have:Lv p=false:=by simp [Lv,h]
 exact b2e (.inl (.inl (.inr this)))
theorem a5T(h:Jb p=false):false=CY p:=b2e (.inl (.inr h))
theorem d2c(h:qoA p)(hr:p.rules.all JW=true)(hc:Jb p=true):poA p:=⟨⟨⟨h.1.1,d2a h hr⟩,hc⟩,h.2.2⟩
theorem d2d{s:Sn}(h1:inn s.tuu 0 ((p.chunks.length:Int)-2)=true)(h2:inn s.fr 0 s.tuu=true)(h3:inn s.cost 0 9=true):Hn p s=true:=by
 have a:=Cm.1 h1;have b:=Cm.1 h2
 exact c6g (by omega) (by omega) (by omega) h3
theorem a5U{s:Sn}(h:(inn s.tuu 0 ((p.chunks.length:Int)-2)=false∨inn s.fr 0 s.tuu=false)∨inn s.cost 0 9=false):Hn p s=false:=by
 rw[FI]
 intro hs
 simp only[Hn,AY,Bf] at hs
 rcases h with(h|h)|h
 ·exact b1Y h (by omega)
 ·exact b1Y h (by omega)
 ·rw[h] at hs;cases hs.2.2
def Eu:Sig:=⟨Pc,fun x=>[.agg (pcA false x)],fun x=>pcS x,Unit,fun x y=>True,fun x y=> .bool (CY x),fun x y=>[.top],false,[],[]⟩
def Zx(x:Pc):LS:=⟨Int,fun i=>qoA x∧DQ JW x.rules i,fun i=>[(1,.box 0 (pcA false x)),(3,.q x.chunks.length),(4,.q i)],[],fun i=>x.rules.length-i.toNat,fun _=>[],[]⟩
def Vt(x:Pc):LS:=⟨Int,fun i=>(qoA x∧x.rules.all JW=true)∧chI x i,fun i=>[(1,.box 0 (pcA false x)),(3,.q x.chunks.length),(5,.q i)],[],fun i=>x.chunks.length-i.toNat,fun _=>[],[]⟩
def Zy(x:Pc):LS:=⟨Int,fun i=>poA x∧DQ (Hn x) x.spans i,fun i=>[(1,.box 0 (pcA false x)),(3,.q x.chunks.length),(6,.q i)],[],fun i=>x.spans.length-i.toNat,fun _=>[],[]⟩
def Zz(x:Pc):LS:=⟨Int,fun i=>(poA x∧x.spans.all (Hn x)=true)∧DQ (MJ x) x.ties i,fun i=>[(1,.box 0 (pcA false x)),(8,.q i)],[],fun i=>x.ties.length-i.toNat,fun _=>[],[]⟩
theorem b4P:CtG G 119 Eu:=
 vFq [(20,0,BZ),(114,0,MT),(144,0,SN)] [] (fun x=>[(5,Zx x),(10,Vt x),(17,Zy x),(23,Zz x)]) Tryz.func119 ⟨JK,b4O,d1Z,trivial⟩ (fun(x:Pc)=>U3∧cA BZ [.q x.ind,.q 0,.q 60] fun x_1 y=>Ae (!inn x_1.1 x_1.2.1 x_1.2.2) (rA Eu x [.bool false,.top]) (Ae (decide ((nL x.rules)>(8:Int))) (rA Eu x [.bool false,.top]) (cA BZ [.q (nL x.chunks),.q 1,.q 80] fun x_2 y=>Ae (!inn x_2.1 x_2.2.1 x_2.2.2) (rA Eu x [.bool false,.top]) (Ae (decide ((nL x.spans)>(40:Int))) (rA Eu x [.bool false,.top]) (Ae (decide ((nL x.ties)>(20:Int))) (rA Eu x [.bool false,.top]) (eA (Zx x) [.box 0 (pcA false x),.q (nL x.chunks),.q 0]∧∀(i:Int),qoA x∧DQ JW x.rules i→Ae (decide (i<(nL x.rules))) ((0≤i∧i<(nL x.rules))∧∀(e:Ru),x.rules[Int.toNat i]? =some e→cA BZ [.q e.vals,.q 2,.q 3] fun x_3 y=>Ae (!inn x_3.1 x_3.2.1 x_3.2.2) (rA Eu x [.bool false,.top]) ((0≤i∧i<(nL x.rules))∧∀(e:Ru),x.rules[Int.toNat i]? =some e→cA BZ [.q e.cost,.q 0,.q 9] fun x_4 y=>Ae (!inn x_4.1 x_4.2.1 x_4.2.2) (rA Eu x [.bool false,.top]) (inR .i64 (i+1)∧eN (Zx x) i [.box 0 (pcA false x),.q (nL x.chunks),.q (i+1)]))) (eA (Vt x) [.box 0 (pcA false x),.q (nL x.chunks),.q 0]∧∀(i:Int),(qoA x∧List.all x.rules JW=true)∧chI x i→Ae (decide (i<(nL x.chunks))) (true=true∧true=true∧(0≤i∧i<(nL x.chunks))∧∀(e:Ch),x.chunks[Int.toNat i]? =some e→∃(x_3:Aa×Unit),x_3.1.length≤(4611686018427387904:Nat)∧e.text=x_3.1∧∃(y0:Unit),(∀(y:Unit),True→AV.bool (BI x_3.1)=AV.bool (BI x_3.1))∧true=true∧Ae (!BI x_3.1) (rA Eu x [.bool false,.top]) (inR .i64 (i+1)∧Ae (decide (i+1<(nL x.chunks))) ((0≤i∧i<(nL x.chunks))∧∀(e:Ch),x.chunks[Int.toNat i]? =some e→∃(x_4:Pc×Int×Int×Bool×Int),pcS x_4.1∧x.ind=x_4.1.ind∧bRu x.rules=bRu x_4.1.rules∧bCh x.chunks=bCh x_4.1.chunks∧bSn x.spans=bSn x_4.1.spans∧bTi x.ties=bTi x_4.1.ties∧e.rule=x_4.2.1∧e.fr=x_4.2.2.1∧e.space=x_4.2.2.2.1∧e.nest=(Z4 x_4)∧∃(y0:Unit),(∀(y:Unit),True→AV.bool (HN x_4.1 {text:=[],rule:=x_4.2.1,fr:=x_4.2.2.1,space:=x_4.2.2.2.1,nest:=(Z4 x_4)})=AV.bool (HN x_4.1 {text:=[],rule:=x_4.2.1,fr:=x_4.2.2.1,space:=x_4.2.2.2.1,nest:=(Z4 x_4)}))∧true=true∧Ae (!HN x_4.1 {text:=[],rule:=x_4.2.1,fr:=x_4.2.2.1,space:=x_4.2.2.2.1,nest:=(Z4 x_4)}) (rA Eu x [.bool false,.top]) (inR .i64 (i+1)∧(eN (Vt x) i [.box 0 (pcA false x),.q (nL x.chunks),.q (i+1)]))) (inR .i64 (i+1)∧(eN (Vt x) i [.box 0 (pcA false x),.q (nL x.chunks),.q (i+1)])))) (inR .i64 ((nL x.chunks)-(1:Int))∧(0≤(nL x.chunks)-(1:Int)∧(nL x.chunks)-1<(nL x.chunks))∧∀(e:Ch),x.chunks[Int.toNat ((nL x.chunks)-(1:Int))]? =some e→Ae (!(true&&e.rule==0&&e.fr==0&&e.space==false&&e.nest==0)) (rA Eu x [.bool false,.top]) (eA (Zy x) [.box 0 (pcA false x),.q (nL x.chunks),.q 0]∧∀(i:Int),poA x∧DQ (Hn x) x.spans i→Ae (decide (i<(nL x.spans))) ((0≤i∧i<(nL x.spans))∧∀(e:Sn),x.spans[Int.toNat i]? =some e→inR .i64 ((nL x.chunks)-(2:Int))∧cA BZ [.q e.tuu,.q 0,.q ((nL x.chunks)-(2:Int))] fun x_3 y=>Ae (!inn x_3.1 x_3.2.1 x_3.2.2) (rA Eu x [.bool false,.top]) (cA BZ [.q e.fr,.q 0,.q e.tuu] fun x_4 y=>Ae (!inn x_4.1 x_4.2.1 x_4.2.2) (rA Eu x [.bool false,.top]) (cA BZ [.q e.cost,.q 0,.q 9] fun x_5 y=>Ae (!inn x_5.1 x_5.2.1 x_5.2.2) (rA Eu x [.bool false,.top]) (inR .i64 (i+1)∧eN (Zy x) i [.box 0 (pcA false x),.q (nL x.chunks),.q (i+1)])))) (eA (Zz x) [.box 0 (pcA false x),.q 0]∧∀(i:Int),(poA x∧List.all x.spans (Hn x)=true)∧DQ (MJ x) x.ties i→Ae (decide (i<(nL x.ties))) ((0≤i∧i<(nL x.ties))∧∀(e:Ti),x.ties[Int.toNat i]? =some e→inR .i64 ((nL x.rules)-(1:Int))∧cA BZ [.q e.kid,.q 0,.q ((nL x.rules)-(1:Int))] fun x_3 y=>Ae (!inn x_3.1 x_3.2.1 x_3.2.2) (rA Eu x [.bool false,.top]) (inR .i64 ((nL x.rules)-(1:Int))∧cA BZ [.q e.up,.q 0,.q ((nL x.rules)-(1:Int))] fun x_4 y=>Ae (!inn x_4.1 x_4.2.1 x_4.2.2) (rA Eu x [.bool false,.top]) (Ae (e.kid==e.up) (rA Eu x [.bool false,.top]) (inR .i64 (i+1)∧eN (Zz x) i [.box 0 (pcA false x),.q (i+1)])))) (rA Eu x [.bool true,.top]))))))))))) (by kernel_rfl) fun(x:Pc) (hx:pcS x)=>(by
 dsimp only[nL,U3,Z4,bCh,bRu,bSn,bTi,cA,EP,eA,eN,Vt,Zy,Zz,Zx,pcA,rA,EO,BZ,Eu,EQ,ER,AB,AF,mvL,lnL,mvE,lnE,mvG,mvH,lnG,lnH,Bn,AV.q]
 have hz:=hx.1;have hz2:=hx.2.1.1;have ht:=hx.2.1.2
 (repeat' first|refine a4l x ?_|refine MK x ?_|(with_reducible first|rfl|exact⟨⟩|apply AG|apply AM)|apply AL|(apply AK<;>try dsimp only)|apply AJ|((try refine AH.2 ?_);intro _;try dsimp only))
 all_goals(try(repeat(rename x.rules[_]? =some _=>hq;revert hq;rename x.rules[_]? =some _=>hr;intro hq;rw[hr] at hq;cases hq)))
 all_goals(try(repeat(rename x.chunks[_]? =some _=>hq;revert hq;rename x.chunks[_]? =some _=>hr;intro hq;rw[hr] at hq;cases hq)))
 all_goals first
  |with_reducible rfl
  |with_reducible assumption
  |exact hx
  |exact a4m
  |exact c6f
  |exact Vs (.inl (.inl (.inl (.inl ‹_›))))
  |exact Vs (.inl (.inl (.inl (.inr ‹_›))))
  |exact Vs (.inl (.inl (.inr ‹_›)))
  |exact Vs (.inl (.inr ‹_›))
  |exact Vs (.inr ‹_›)
  |exact⟨⟨by assumption,by omega⟩,by assumption,by omega,by omega⟩
  |exact ‹qoA _∧_›.1
  |exact ‹(qoA _∧_)∧_›.1.1
  |exact ‹(qoA _∧_)∧_›.1.2
  |exact Sp ‹qoA _∧DQ _ _ _›.2 ‹_›
  |exact d2b (PH ‹_› (by simp [JW, *]))
  |exact Oa ‹qoA _∧DQ _ _ _›.2 ‹_› ‹_› (by simp [JW, *])
  |(have hq:= ‹qoA _∧DQ _ _ _›.2.1;(try simp only[Aw]);omega)
  |(have hq:= ‹(qoA _∧_)∧chI _ _›.2.1;(try simp only[Aw]);omega)
  |(have hq:= ‹(qoA _∧_)∧chI _ _›.2.1;have hq2:=Cm.1 ‹(qoA _∧_)∧chI _ _›.1.1.2.1;(try simp only[Aw]);omega)
  |(have hq:=a4n (Bq ‹x.chunks[_]? =some _›);omega)
  |exact a5T (b2b ‹(qoA _∧_)∧chI _ _›.2 ‹_› (.inl ‹_›))
  |exact a5T (b2b ‹(qoA _∧_)∧chI _ _›.2 ‹_› (.inr ⟨by omega,by assumption⟩))
  |exact b2a ‹(qoA _∧_)∧chI _ _›.2 ‹_› ‹_› ‹_› (fun _=>by assumption)
  |exact b2a ‹(qoA _∧_)∧chI _ _›.2 ‹_› ‹_› ‹_› (fun _=>by omega)
  |exact a5T (by rw[b2c ‹(qoA _∧_)∧chI _ _›.2 ‹_› ‹_› ‹(qoA _∧_)∧chI _ _›.1.1.2.1];first|assumption|(rw[←b2d];assumption))
  |exact d2c ‹(qoA _∧_)∧chI _ _›.1.1 ‹(qoA _∧_)∧chI _ _›.1.2 (by rw[b2c ‹(qoA _∧_)∧chI _ _›.2 ‹_› ‹_› ‹(qoA _∧_)∧chI _ _›.1.1.2.1];first|assumption|(rw[←b2d];assumption))
  |exact ‹poA _∧_›.1
  |(have hq:= ‹poA _∧DQ _ _ _›.2.1;(try simp only[Aw]);omega)
  |(have hq:= ‹(poA _∧_)∧DQ _ _ _›.2.1;(try simp only[Aw]);omega)
  |exact Yv (.inl (PH ‹_› (a5U (.inl (.inl ‹_›)))))
  |exact Yv (.inl (PH ‹_› (a5U (.inl (.inr ‹_›)))))
  |exact Yv (.inl (PH ‹_› (a5U (.inr ‹_›))))
  |exact Oa ‹poA _∧DQ _ _ _›.2 ‹_› ‹_› (d2d ‹_› ‹_› ‹_›)
  |exact Sp ‹poA _∧DQ _ _ _›.2 ‹_›
  |exact⟨‹poA _∧DQ _ _ _›.1,Sp ‹poA _∧DQ _ _ _›.2 ‹_›⟩
  |exact Yv (.inr (PH ‹_› (by simp [MJ, *])))
  |exact Oa ‹(poA _∧_)∧DQ _ _ _›.2 ‹_› ‹_› (by simp [MJ, *])
  |exact c6h ‹(poA _∧_)∧DQ _ _ _›.1.1 ‹(poA _∧_)∧DQ _ _ _›.1.2 (Sp ‹(poA _∧_)∧DQ _ _ _›.2 ‹_›)
  |((try simp only[Aw]);omega)
  |skip)
def SO:Sig:=⟨Pc,fun x=>[.agg (pcA false x)],fun x=>pcS x∧x.rules.length≤100,Unit,fun x y=>True,fun x y=>An (Ip x),fun x y=>[.top],false,[],[]⟩
def ZA(x:Pc):LS:=⟨Int,fun i=>0≤i∧i≤x.rules.length,fun i=>[(1,.box 0 (pcA false x)),(3,An ((x.rules.take i.toNat).map fun r=>r.vals-1)),(4,.q i)],[],fun i=>x.rules.length-i.toNat,fun _=>[],[]⟩
theorem d2e:CtG G 120 SO:=
 vFq [] [(27,⟨Int,BE⟩)] (fun x=>[(3,ZA x)]) Tryz.func120 trivial (fun(x:Pc)=>(∀(y:Unit),True→(∀(x:Int),True∧True)∧True∧True)∧eA (ZA x) [.box 0 (pcA false x),An [],.q 0]∧∀(i:Int),0≤i∧i≤(nL x.rules)→Ae (decide (i<(nL x.rules))) ((0≤i∧i<(nL x.rules))∧∀(e:Ru),x.rules[Int.toNat i]? =some e→inR .i64 (e.vals-1)∧∃(x_1:Int),e.vals-1=x_1∧∃(zs:Ad),An [x_1]=An zs∧Ca BE∧Bb ((List.map (fun(r:Ru)=>r.vals-1) (List.take (Int.toNat i) x.rules)).length+zs.length) (8:Nat)∧inR .i64 (i+1)∧eN (ZA x) i [.box 0 (pcA false x),An (List.map (fun(r:Ru)=>r.vals-1) (List.take (Int.toNat i) x.rules)++zs),.q (i+1)]) (rA SO x [An (List.map (fun(r:Ru)=>r.vals-1) (List.take (Int.toNat i) x.rules)),.top])) (by kernel_rfl) fun(x:Pc) (hx:pcS x∧x.rules.length≤100)=>(by
 dsimp only[nL,EP,eA,eN,ZA,An,pcA,rA,EO,SO,EQ,ER,AB,AF,Bn,AV.q]
 obtain⟨h1,h2⟩:=hx
 have hv:=h1.2.2
 (repeat' first|(with_reducible first|rfl|exact⟨⟩|apply AG|apply AM)|apply AL|(apply AK<;>try dsimp only)|apply AJ|((try refine AH.2 ?_);intro _;try dsimp only))
 all_goals first
  |rfl
  |omega
  |exact()
  |(have hm:=hv _ (Bq ‹_›);omega)
  |(rw[CW (by omega),FS ‹_›,FJ];rfl)
  |(rw[Ip,EH (by omega)];done)
  |(simp [Bb];omega)
  |((try simp only[Bb,Aw,Ba,Fv,DU,AE,AX]);omega)
  |skip)
def Kc:Sig:=⟨Pc×Ad×Int,fun x=>[.agg (pcA false x.1),Al x.2.1,.q x.2.2],fun x=>(0≤x.2.2∧x.2.2<x.1.chunks.length)∧(0≤(Fb x.1 x.2.2).rule∧(Fb x.1 x.2.2).rule<x.2.1.length),Unit,fun x y=>True,fun x y=> .bool (CZ x.2.1 (Fb x.1 x.2.2)),fun x y=>[.top,.top,.top],false,[],[]⟩
theorem a5V:CtG G 128 Kc:=
 vFq [] [] (fun x=>[]) Tryz.func128 trivial (fun x=>U5∧(0≤x.2.2∧x.2.2<(nL x.1.chunks))∧∀(e:Ch),x.1.chunks[Int.toNat x.2.2]? =some e→true=true∧true=true∧(0≤e.rule∧e.rule<(nL x.2.1))∧∀(e_1:Int),x.2.1[Int.toNat e.rule]? =some e_1→rA Kc x [.bool (decide (e_1≥e.fr)),.top,.top,.top]) (by kernel_rfl) fun(x:Pc×Ad×Int) (hx:(0≤x.2.2∧x.2.2<x.1.chunks.length)∧(0≤(Fb x.1 x.2.2).rule∧(Fb x.1 x.2.2).rule<x.2.1.length))=>(by
 dsimp only[nL,U5,EP,Al,pcA,rA,EO,Kc,EQ,ER,AB,AF,AV.q]
 obtain⟨p,v,i⟩:=x;dsimp only at hx ⊢
 obtain⟨⟨h1,h2⟩,h3,h4⟩:=hx
 (repeat' first|(with_reducible first|rfl|exact⟨⟩|apply AG|apply AM)|apply AL|(apply AK<;>try dsimp only)|apply AJ|((try refine AH.2 ?_);intro _;try dsimp only))
 all_goals first
  |rfl
  |omega
  |(rename p.chunks[_]? =some _=>hq;have e:=Sq hq;rw[e] at h3 h4;first|omega|(rename v[_]? =some _=>hr;have e2:=a4o hr;rw[e,CZ,e2];done)|(rename v[_]? =some _=>hr;have e2:=a4o hr;rw[e,CZ,e2];exact OD.2 (by omega)))
  |skip)
theorem b4Q(h:0≤i):blk i++[32]=blk (i+1):=by
 rw[blk,blk,CW h,List.replicate_succ']
theorem ZB(h:0≤i):((blk i).length:Int)=i:=by simp [blk];omega
def KV:Sig:=⟨Int×Unit,fun x=>[.q x.1],fun x=>0≤x.1∧x.1≤100000,Unit,fun x y=>True,fun x y=> .str (blk x.1),fun x y=>[.top],false,[],[]⟩
def ZC(x:Int×Unit):LS:=⟨Int,fun i=>0≤i∧i≤x.1,fun i=>[(0,.q x.1),(3,.str (blk i)),(4,.q i)],[],fun i=>(x.1-i).toNat,fun _=>[],[]⟩
theorem b4R:CtG G 97 KV:=
 vFq [] [] (fun x=>[(3,ZC x)]) Tryz.func97 trivial (fun x=>U3∧eA (ZC x) [.q x.1,.str #[].toList,.q 0]∧∀(i:Int),0≤i∧i≤x.1→Ae (decide (i<x.1)) ((↑((blk i).length+(1:Nat)):Int)≤Aq∧inR .i64 (i+1)∧eN (ZC x) i [.q x.1,.str (blk i++ #[(32:UInt8)].toList),.q (i+1)]) (rA KV x [.str (blk i),.top])) (by kernel_rfl) fun(x:Int×Unit) (hx:0≤x.1∧x.1≤100000)=>(by
 dsimp only[U3,eA,eN,ZC,rA,KV,AB,AF,Bn,Aq,AV.q]
 obtain⟨x,_⟩:=x;dsimp only at hx ⊢
 obtain⟨h1,h2⟩:=hx
 (repeat' first|(with_reducible first|rfl|exact⟨⟩|apply AG|apply AM)|apply AL|(apply AK<;>try dsimp only)|apply AJ|((try refine AH.2 ?_);intro _;try dsimp only))
 all_goals first
  |with_reducible rfl
  |omega
  |exact b4Q (by omega)
  |exact(b4Q (by omega))
  |(rename¬_<x=>hq;congr 1;omega)
  |((try simp only[Aw]);omega)
  |(have hb:=ZB (show(0:Int)≤_ by omega);(try simp only[Aw]);omega)
  |(rename 0≤_∧_≤x=>hq;have hb:=ZB hq.1;(try simp only[Aw]);omega)
  |rfl
  |skip)
theorem a5W{v:Ad}{ls:List Aa}{s:Aa}(h:rnI p v i ls s):0≤i∧i<p.chunks.length:=h.1
attribute [local irreducible] rnI EC rnL CZ blk
def PZ:Sig:=⟨Pc×Ad,fun x=>[.agg (pcA false x.1),Al x.2],fun x=>renP x.1 x.2,Unit,fun x y=>True,fun x y=>Cl (EC x.1 x.2),fun x y=>[.top,.top],false,[],[]⟩
def SP(x:Pc×Ad):LS:=⟨Int×List Aa×Aa,fun i=>rnI x.1 x.2 i.1 i.2.1 i.2.2,fun i=>[(1,Al x.2),(2,.box 0 (pcA false x.1)),(5,Cl i.2.1),(6,.str i.2.2),(7,.q i.1)],[],fun i=>x.1.chunks.length-i.1.toNat,fun _=>[],[]⟩
theorem d2f:CtG G 101 PZ:=
 vFq [(97,0,KV),(128,0,Kc)] [(44,⟨Aa,Bo⟩)] (fun x=>[(4,SP x)]) Tryz.func101 ⟨b4R,a5V,trivial⟩ (fun x=>(∀(y:Unit),True→(∀(x:Aa),True∧True)∧True∧True∧True)∧cA KV [.q x.1.ind] fun x_1 y=>eA (SP x) [Al x.2,.box 0 (pcA false x.1),Cl [],.str (blk x_1.1),.q 0]∧∀(i:Int×List Aa×Aa),rnI x.1 x.2 i.1 i.2.1 i.2.2→Ae (decide (i.1<(nL x.1.chunks))) ((0≤i.1∧i.1<(nL x.1.chunks))∧∀(e:Ch),x.1.chunks[Int.toNat i.1]? =some e→(i.2.2.length+e.text.length:Int)≤Aq∧inR .i64 (i.1+(1:Int))∧Ae (i.1+1==(nL x.1.chunks)) (∃(x_2:Aa),i.2.2++e.text=x_2∧(∃(zs:List Aa),Cl [x_2]=Cl zs∧(Ca Bo∧(Bb (i.2.1.length+zs.length) (16:Nat)∧rA PZ x [Cl (i.2.1++zs),.top,.top])))) (cA Kc [.agg (pcA false x.1),Al x.2,.q i.1] fun x_2 y=>Ae (CZ x_2.2.1 (Fb x_2.1 x_2.2.2)) (∃(x_3:Aa),i.2.2++e.text=x_3∧∃(zs:List Aa),Cl [x_3]=Cl zs∧Ca Bo∧Bb (i.2.1.length+zs.length) (16:Nat)∧true=true∧true=true∧(0≤i.1∧i.1<(nL x.1.chunks))∧∀(e:Ch),x.1.chunks[Int.toNat i.1]? =some e→inR .i64 (x.1.ind+e.nest)∧∃(x_4:Int×Unit),(0≤x_4.1∧x_4.1≤(100000:Int))∧x.1.ind+e.nest=x_4.1∧∃(y0:Unit),(∀(y:Unit),True→AV.str (blk x_4.1)=AV.str (blk x_4.1))∧true=true∧inR .i64 (i.1+(1:Int))∧eN (SP x) i [Al x.2,.box 0 (pcA false x.1),Cl (i.2.1++zs),.str (blk x_4.1),.q (i.1+(1:Int))]) ((0≤i.1∧i.1<(nL x.1.chunks))∧∀(e_1:Ch),x.1.chunks[Int.toNat i.1]? =some e_1→Ae e_1.space ((↑((i.2.2++e.text).length+(1:Nat)):Int)≤Aq∧inR .i64 (i.1+(1:Int))∧eN (SP x) i [Al x.2,.box 0 (pcA false x.1),Cl i.2.1,.str (i.2.2++e.text++ #[(32:UInt8)].toList),.q (i.1+(1:Int))]) (inR .i64 (i.1+(1:Int))∧eN (SP x) i [Al x.2,.box 0 (pcA false x.1),Cl i.2.1,.str (i.2.2++e.text),.q (i.1+(1:Int))])))) (∃(x_2:Aa),i.2.2=x_2∧(∃(zs:List Aa),Cl [x_2]=Cl zs∧(Ca Bo∧(Bb (i.2.1.length+zs.length) (16:Nat)∧rA PZ x [Cl (i.2.1++zs),.top,.top]))))) (by kernel_rfl) fun(x:Pc×Ad) (hx:renP x.1 x.2)=>(by
 dsimp only[nL,cA,EP,eA,eN,SP,Al,Cl,pcA,rA,EO,Kc,KV,PZ,EQ,ER,AB,AF,mvL,lnL,mvE,lnE,mvG,mvH,lnG,lnH,Bn,Aq,AV.q]
 obtain⟨p,v⟩:=x;dsimp only at hx ⊢
 have hx:renP p v:=hx
 have h1:=hx.ok.ind;have h2:=hx.ok.cl;have h3:=hx.ct
 (repeat' first|refine MK p ?_|(with_reducible first|rfl|exact⟨⟩|apply AG|apply AM)|apply AL|(apply AK<;>try dsimp only)|apply AJ|((try refine AH.2 ?_);intro _;try dsimp only))
 all_goals(try(repeat(rename p.chunks[_]? =some _=>hq;revert hq;rename p.chunks[_]? =some _=>hr;intro hq;rw[hr] at hq;cases hq)))
 all_goals first
  |rfl
  |(simp only[Aw];omega)
  |omega
  |exact c6j hx.ok
  |(exfalso;have hq:=a5W ‹rnI _ _ _ _ _›;omega)
  |exact c6m ‹_› ‹_› (by omega) (PM ‹_› ‹_›)
  |exact c6n ‹_› ‹_› (by omega) (PM ‹_› ‹_›) ‹_›
  |exact c6o ‹_› ‹_› (by omega) (PM ‹_› ‹_›) ‹_›
  |(have hq:=a5W ‹rnI _ _ _ _ _›;(try simp only[Aw]);omega)
  |(have hi:= ‹rnI _ _ _ _ _›;have hq:=a5W hi;have hc:=c6p hx hq ‹_› (by omega);(try rw[Sq ‹_›]);(try simp only[Aw]);omega)
  |(have hi:= ‹rnI _ _ _ _ _›;have hq:=c6k hx.ok hi;have hm:=a4n (Bq ‹p.chunks[_]? =some _›);(try simp only[Aw,Bb,Ba,AE,AX]);omega)
  |exact c6l ‹_› ‹_› (by omega)
  |exact()
  |skip)
end Go.My
end
section
namespace Go.My
open Go.Eng Go.Proofs
variable {G:GInv}
variable {c:Ch}{i n o w:Int}{p:Pc}{v:Ad}
def KW:Sig:=⟨Int×Unit,fun x=>[.q x.1],fun x=>True,Unit,fun x y=>True,fun x y=> .q (wdF x.1),fun x y=>[.top],false,[],[]⟩
theorem d2g:CtG G 146 KW:=
 vFq [] [] (fun x=>[]) Tryz.func146 trivial (fun x=>U3∧Ae (decide (x.1<(0:Int))) (rA KW x [.q 0,.top]) (Ae (decide (x.1>(100000:Int))) (rA KW x [.q 100000,.top]) (rA KW x [.q x.1,.top]))) (by kernel_rfl) fun(x:Int×Unit) (hx:True)=>(by
 dsimp only[U3,rA,KW,AB,AF,AV.q]
 obtain⟨x,_⟩:=x;dsimp only at hx ⊢
 (repeat' first|(with_reducible first|rfl|exact⟨⟩|apply AG|apply AM)|apply AL|(apply AK<;>try dsimp only)|apply AJ|((try refine AH.2 ?_);intro _;try dsimp only))
 all_goals first
  |rfl
  |(unfold wdF;omega)
  |skip)
def ovN(ind w:Int)(v:Ad):List Ch→Int→Int
 |[],n=>max (n-w) 0
 |[c],n=>max (n+c.text.length-w) 0
 |c::d::l,n=>if CZ v c then max (n+c.text.length-w) 0+ovN ind w v (d::l) (ind+c.nest) else ovN ind w v (d::l) (n+c.text.length+(if c.space then 1 else 0))
theorem a5X{ind w:Int}{v:Ad}(h0:0≤ind):∀ {l:List Ch} {s:Aa},(∀(i:Nat) c,l[i]? =some c→i+1<l.length→0≤c.nest)→ovN ind w v l s.length=ovL w (rnL ind v l s)
 |[],s,_=>by simp [ovN,rnL,ovL]
 |[c],s,_=>by simp [ovN,rnL,ovL]
 |c::d::l,s,h=>by
  have hn:=h 0 c rfl (by simp)
  have h':∀(i:Nat) e,(d::l)[i]? =some e→i+1<(d::l).length→0≤e.nest:=fun i e hi hl=>h (i+1) e (by simpa using hi) (by simpa using hl)
  rw[ovN,rnL]
  split
  ·have h1:=a5X (w:=w) (v:=v) h0 (s:=blk (ind+c.nest)) h'
   rw[ZB (by omega)] at h1
   rw[h1];simp [ovL]
  ·have h1:=a5X (w:=w) (v:=v) h0 (s:=s++c.text++(if c.space then [32] else [])) h'
   rw[←h1]
   congr 1
   simp only[Ba]
   cases c.space<;>simp
theorem a5Y{ind w:Int}{v:Ad}:∀ {l:List Ch} {n:Int},0≤ovN ind w v l n
 |[],n=>by rw[ovN];omega
 |[c],n=>by rw[ovN];omega
 |c::d::l,n=>by
  rw[ovN]
  have h1:= @a5Y ind w v (d::l) (ind+c.nest)
  have h2:= @a5Y ind w v (d::l) (n+c.text.length+(if c.space then 1 else 0))
  split<;>omega
structure ovP (p:Pc) (v:Ad) (w:Int):Prop where
 re:renP p v
 ok:CY p=true
 w0:0≤w∧w≤100000
def ovJ(p:Pc)(v:Ad)(w:Int)(i o n:Int):Prop:=
 (0≤i∧i≤p.chunks.length)∧(0≤o∧(0≤n∧n+CB (p.chunks.drop i.toNat)≤CB p.chunks+101*(i+1)))∧
   (i<p.chunks.length→o+ovN p.ind w v (p.chunks.drop i.toNat) n=ovL w (EC p v))∧(i=p.chunks.length→o=ovL w (EC p v))
theorem d2h(h:ovP p v w):0≤ovL w (EC p v)∧ovL w (EC p v)≤2^61+8200:=by
 have h1:=b1P (w:=w) h.w0.1 (l:=EC p v)
 have h2:=(Yp (v:=v) h.re.ok).1
 have h3:=h.re.ct
 omega
theorem d2i(h:ovP p v w):ovJ p v w 0 0 p.ind:=by
 have hi:=h.re.ok.ind;have hc:=h.re.ok.cl
 refine⟨by omega,⟨by omega,by omega,by simp;omega⟩,fun _=> ?_,by omega⟩
 have:=a5X (w:=w) (v:=v) hi.1 (l:=p.chunks) (s:=blk p.ind) fun i c hi hl=>(h.re.ok.sp i c hi hl).2.2.1
 rw[ZB hi.1] at this
 rw[EC,←this];simp
theorem d2j(h:ovP p v w)(hj:ovJ p v w i o n):(0≤i∧i≤p.chunks.length)∧(0≤o∧o≤2^61+8200)∧(0≤n∧n≤2^61+8200)∧p.chunks.length≤80:=by
 have h1:=d2h h;have h2:=hj.1;have h3:=hj.2.1;have h4:=h.re.ct;have h5:=h.re.ok.cl
 refine⟨h2,⟨h3.1,?_⟩,⟨h3.2.1,by omega⟩,by omega⟩
 by_cases e:i<p.chunks.length
 ·have:=hj.2.2.1 e
  have h6:= @a5Y p.ind w v (p.chunks.drop i.toNat) n
  omega
 ·have:=hj.2.2.2 (by omega);omega
theorem d2k(h:ovP p v w)(hj:ovJ p v w i o n)(hc:p.chunks[i.toNat]? =some c):n+c.text.length≤2^61+8200:=by
 have h3:=hj.2.1.2.2;have h4:=h.re.ct;have h5:=h.re.ok.cl;have h1:=hj.1
 rw[GI hc,show CB (c::p.chunks.drop (i.toNat+1))=c.text.length+CB (p.chunks.drop (i.toNat+1)) by simp [CB]] at h3
 omega
theorem b4S(h:CY p=true)(h0:0≤i)(hc:p.chunks[i.toNat]? =some c)(hi:i+1=p.chunks.length):c.nest=0:=by
 simp only[CY,Jb,AY] at h
 have h1:=h.2.2.1.2.2
 have h2:p.chunks.getLast? =some c:=by
  rw[VO,show p.chunks.length-1=i.toNat by omega];exact hc
 rw[h2] at h1
 simp only[LT,UT,AY,Bf] at h1
 exact h1.2.2.2
theorem b4T(h:ovP p v w)(hj:ovJ p v w i o n)(hc:p.chunks[i.toNat]? =some c)(hi:i+1=p.chunks.length):ovJ p v w (i+1) (o+max (n+c.text.length-w) 0) (p.ind+c.nest):=by
 have h2:=hj.2.2.1 (by omega)
 rw[GI hc,EG (by have:=hj.1;omega),ovN] at h2
 have h3:=h.re.ok.ind;have h4:=b4S h.ok hj.1.1 hc hi
 refine⟨by have:=hj.1;omega,⟨by have:=hj.2.1;omega,by omega,?_⟩,by omega,fun _=>h2⟩
 rw[EG (by have:=hj.1;omega),h4]
 have:=hj.1
 simp [CB];omega
theorem b4U(hj:ovJ p v w i o n)(hc:p.chunks[i.toNat]? =some c)(hi:i+1≠p.chunks.length):
 ovN p.ind w v (p.chunks.drop i.toNat) n=(if CZ v c then max (n+c.text.length-w) 0+ovN p.ind w v (p.chunks.drop (i+1).toNat) (p.ind+c.nest) else ovN p.ind w v (p.chunks.drop (i+1).toNat) (n+c.text.length+(if c.space then 1 else 0)))∧i+1<p.chunks.length:=by
 have h1:=(Ec hc).1
 have h2:=hj.1
 refine⟨?_,by omega⟩
 rw[GI hc,CW h2.1,Gh (show i.toNat+1<p.chunks.length by omega),ovN]
theorem b4V{l:List Ch}{i:Nat}(h:l[i]? =some c):CB (l.drop i)=c.text.length+CB (l.drop (i+1)):=by rw[GI h];simp [CB]
theorem b4W(h:ovP p v w)(hj:ovJ p v w i o n)(hc:p.chunks[i.toNat]? =some c)(hi:i+1≠p.chunks.length)(hs:CZ v c=true):ovJ p v w (i+1) (o+max (n+c.text.length-w) 0) (p.ind+c.nest):=by
 have h1:=b4U hj hc hi
 have h2:=hj.2.2.1 (by omega)
 rw[h1.1,if_pos hs] at h2
 have h3:=h.re.ok.ind;have h4:=(h.re.ok.sp i.toNat c hc (by have:=hj.1;omega)).2.2
 have h5:=hj.2.1;have h6:=hj.1
 have h7:=b4V hc
 rw[h7] at h5
 refine⟨by omega,⟨by omega,by omega,?_⟩,fun _=>by omega,by omega⟩
 rw[CW h6.1];omega
theorem b4X{m:Int}(h:ovP p v w)(hj:ovJ p v w i o n)(hc:p.chunks[i.toNat]? =some c)(hi:i+1≠p.chunks.length)(hs:CZ v c=false)(hm:m=n+c.text.length+(if c.space then 1 else 0)):ovJ p v w (i+1) o m:=by
 have h1:=b4U hj hc hi
 have h2:=hj.2.2.1 (by omega)
 rw[h1.1,if_neg (by rw[hs];simp),←hm] at h2
 have h5:=hj.2.1;have h6:=hj.1
 have h7:=b4V hc
 rw[h7] at h5
 refine⟨by omega,⟨by omega,by split at hm<;>omega,?_⟩,fun _=>h2,by omega⟩
 rw[CW h6.1];split at hm<;>omega
theorem d2l(hj:ovJ p v w i o n)(h:ovP p v w)(hc:p.chunks[i.toNat]? =some c)(hi:i+1=p.chunks.length)(hg:n+(c.text.length:Int)>w):ovJ p v w (i+1) (o+(n+(c.text.length:Int))-w) (p.ind+c.nest):=by
 have:=b4T h hj hc hi
 rwa [show o+max (n+c.text.length-w) 0=o+(n+(c.text.length:Int))-w by omega] at this
theorem d2m(hj:ovJ p v w i o n)(h:ovP p v w)(hc:p.chunks[i.toNat]? =some c)(hi:i+1=p.chunks.length)(hg:¬n+(c.text.length:Int)>w):ovJ p v w (i+1) o (p.ind+c.nest):=by
 have:=b4T h hj hc hi
 rwa [show o+max (n+c.text.length-w) 0=o by omega] at this
theorem d2n(hj:ovJ p v w i o n)(h:ovP p v w)(hc:p.chunks[i.toNat]? =some c)(hi:i+1≠p.chunks.length)(hs:CZ v (Fb p i)=true)(hg:n+(c.text.length:Int)>w):ovJ p v w (i+1) (o+(n+(c.text.length:Int))-w) (p.ind+c.nest):=by
 have:=b4W h hj hc hi (PM hc hs)
 rwa [show o+max (n+c.text.length-w) 0=o+(n+(c.text.length:Int))-w by omega] at this
theorem d2o(hj:ovJ p v w i o n)(h:ovP p v w)(hc:p.chunks[i.toNat]? =some c)(hi:i+1≠p.chunks.length)(hs:CZ v (Fb p i)=true)(hg:¬n+(c.text.length:Int)>w):ovJ p v w (i+1) o (p.ind+c.nest):=by
 have:=b4W h hj hc hi (PM hc hs)
 rwa [show o+max (n+c.text.length-w) 0=o by omega] at this
theorem d2p(hj:ovJ p v w i o n)(h:ovP p v w)(hc:p.chunks[i.toNat]? =some c)(hi:i+1≠p.chunks.length)(hs:CZ v (Fb p i)=false)(hb:c.space=true):ovJ p v w (i+1) o (n+(c.text.length:Int)+1):=
 b4X h hj hc hi (PM hc hs) (by rw[hb];rfl)
theorem d2q(hj:ovJ p v w i o n)(h:ovP p v w)(hc:p.chunks[i.toNat]? =some c)(hi:i+1≠p.chunks.length)(hs:CZ v (Fb p i)=false)(hb:c.space=false):ovJ p v w (i+1) o (n+(c.text.length:Int)):=
 b4X h hj hc hi (PM hc hs) (by rw[hb];simp)
theorem d2r(h:ovP p v w)(hj:ovJ p v w i o n)(hc:p.chunks[i.toNat]? =some c):(0≤c.nest∧c.nest≤40)∧(0≤p.ind∧p.ind≤60):=by
 have hl:=(Ec hc).1
 refine⟨?_,h.re.ok.ind⟩
 by_cases e:i+1=p.chunks.length
 ·have:=b4S h.ok hj.1.1 hc e;omega
 ·exact(h.re.ok.sp i.toNat c hc (by have:=hj.1;omega)).2.2
theorem d2s(h:ovP p v w)(hj:ovJ p v w i o n)(hc:p.chunks[i.toNat]? =some c)(hi:i+1≠p.chunks.length):(0≤i∧i<p.chunks.length)∧(0≤(Fb p i).rule∧(Fb p i).rule<v.length):=by
 have hl:=(Ec hc).1
 have h1:=h.re.ok.sp i.toNat c hc (by have:=hj.1;omega)
 rw[Sq hc,h.re.vl]
 exact⟨by have:=hj.1;omega,h1.1⟩
attribute [local irreducible] ovJ CZ
def Qa:Sig:=⟨Pc×Ad×Int,fun x=>[.agg (pcA false x.1),Al x.2.1,.q x.2.2],fun x=>ovP x.1 x.2.1 x.2.2,Unit,fun x y=>True,fun x y=> .q (ovL x.2.2 (EC x.1 x.2.1)),fun x y=>[.top,.top,.top],false,[],[]⟩
def Qb(x:Pc×Ad×Int):LS:=⟨Int×Int×Int,fun i=>ovJ x.1 x.2.1 x.2.2 i.1 i.2.1 i.2.2,fun i=>[(1,Al x.2.1),(2,.q x.2.2),(3,.box 0 (pcA false x.1)),(7,.q i.2.1),(8,.q i.2.2),(9,.q i.1)],[],fun i=>x.1.chunks.length-i.1.toNat,fun _=>[],[]⟩
def a5Z(x:Pc×Ad×Int)(e:Ch)(i:Int×Int×Int):Prop:=Ae (decide (i.2.2+(nL e.text)>x.2.2)) (inR .i64 (i.2.1+(i.2.2+(nL e.text)))∧inR .i64 (i.2.1+(i.2.2+(nL e.text))-x.2.2)∧(true=true∧(true=true∧((0≤i.1∧i.1<(nL x.1.chunks))∧(∀(e_1:Ch),x.1.chunks[Int.toNat i.1]? =some e_1→inR .i64 (x.1.ind+e_1.nest)∧inR .i64 (i.1+(1:Int))∧(eN (Qb x) i [Al x.2.1,.q x.2.2,.box 0 (pcA false x.1),.q (i.2.1+(i.2.2+(nL e.text))-x.2.2),.q (x.1.ind+e_1.nest),.q (i.1+(1:Int))])))))) (true=true∧(true=true∧((0≤i.1∧i.1<(nL x.1.chunks))∧(∀(e:Ch),x.1.chunks[Int.toNat i.1]? =some e→inR .i64 (x.1.ind+e.nest)∧inR .i64 (i.1+(1:Int))∧(eN (Qb x) i [Al x.2.1,.q x.2.2,.box 0 (pcA false x.1),.q i.2.1,.q (x.1.ind+e.nest),.q (i.1+(1:Int))])))))
theorem d2t:CtG G 145 Qa:=
 vFq [(128,0,Kc)] [] (fun x=>[(4,Qb x)]) Tryz.func145 ⟨a5V,trivial⟩ (fun x=>U5∧eA (Qb x) [Al x.2.1,.q x.2.2,.box 0 (pcA false x.1),.q 0,.q x.1.ind,.q 0]∧∀(i:Int×Int×Int),ovJ x.1 x.2.1 x.2.2 i.1 i.2.1 i.2.2→Ae (decide (i.1<(nL x.1.chunks))) ((0≤i.1∧i.1<(nL x.1.chunks))∧∀(e:Ch),x.1.chunks[Int.toNat i.1]? =some e→inR .i64 (i.2.2+(nL e.text))∧inR .i64 (i.1+(1:Int))∧Ae (i.1+1==(nL x.1.chunks)) (a5Z x e i) (cA Kc [.agg (pcA false x.1),Al x.2.1,.q i.1] fun x_1 y=>Ae (CZ x_1.2.1 (Fb x_1.1 x_1.2.2)) (a5Z x e i) ((0≤i.1∧i.1<(nL x.1.chunks))∧∀(e_1:Ch),x.1.chunks[Int.toNat i.1]? =some e_1→Ae e_1.space (inR .i64 (i.2.2+(nL e.text)+(1:Int))∧inR .i64 (i.1+(1:Int))∧eN (Qb x) i [Al x.2.1,.q x.2.2,.box 0 (pcA false x.1),.q i.2.1,.q (i.2.2+(nL e.text)+(1:Int)),.q (i.1+(1:Int))]) (inR .i64 (i.1+(1:Int))∧eN (Qb x) i [Al x.2.1,.q x.2.2,.box 0 (pcA false x.1),.q i.2.1,.q (i.2.2+(nL e.text)),.q (i.1+(1:Int))])))) (rA Qa x [.q i.2.1,.top,.top,.top])) (by kernel_rfl) fun(x:Pc×Ad×Int) (hx:ovP x.1 x.2.1 x.2.2)=>(by
 dsimp only[nL,U5,a5Z,cA,EP,eA,eN,Qb,Al,pcA,rA,EO,Kc,Qa,EQ,ER,AB,AF,mvL,lnL,mvE,lnE,mvG,mvH,lnG,lnH,Bn,AV.q]
 obtain⟨p,v,w⟩:=x;dsimp only at hx ⊢
 have hx:ovP p v w:=hx
 have h1:=hx.re.ok.ind;have h2:=hx.re.ok.cl;have h3:=hx.w0
 have hJ:∀ {i o n:Int},ovJ p v w i o n→¬i<p.chunks.length→o=ovL w (EC p v):=fun h hi=>by unfold ovJ at h;exact h.2.2.2 (by omega)
 (repeat' first|refine MK p ?_|(with_reducible first|rfl|exact⟨⟩|apply AG|apply AM)|apply AL|(apply AK<;>try dsimp only)|apply AJ|((try refine AH.2 ?_);intro _;try dsimp only))
 all_goals(try(repeat(rename p.chunks[_]? =some _=>hq;revert hq;rename p.chunks[_]? =some _=>hr;intro hq;rw[hr] at hq;cases hq)))
 all_goals first
  |with_reducible rfl
  |with_reducible assumption
  |exact d2i hx
  |exact d2l ‹_› hx ‹_› ‹_› ‹_›
  |exact d2m ‹_› hx ‹_› ‹_› ‹_›
  |exact d2n ‹_› hx ‹_› ‹_› ‹_› ‹_›
  |exact d2o ‹_› hx ‹_› ‹_› ‹_› ‹_›
  |exact d2p ‹_› hx ‹_› ‹_› ‹_› ‹_›
  |exact d2q ‹_› hx ‹_› ‹_› ‹_› ‹_›
  |exact hJ ‹_› ‹_›
  |exact(hJ ‹_› ‹_›).symm
  |(have hq:=d2j hx ‹ovJ _ _ _ _ _ _›;(try have hl:=d2k hx ‹ovJ _ _ _ _ _ _› ‹_›);(try have hn:=d2r hx ‹ovJ _ _ _ _ _ _› ‹_›);(try simp only[Aw]);omega)
  |(have hq:=d2s hx ‹ovJ _ _ _ _ _ _› ‹_› ‹_›;omega)
  |skip)
end Go.My
end
section
namespace Go.My
open Go.Eng Go.Proofs
variable {G:GInv}
variable {a i k n:Int}{b:Bool}{c:Ch}{p:Pc}{s:Sn}{v:Ad}
def sn0:Sn:=⟨0,0,0⟩
def Oq(p:Pc)(i:Int):Sn:=p.spans.getD i.toNat sn0
theorem Vu(h:p.spans[i.toNat]? =some s):Oq p i=s:=by simp [Oq,List.getD,h]
def snV(p:Pc)(v:Ad)(i k:Int)(b:Bool):Prop:=((Oq p i).fr≤k∧k≤(Oq p i).tuu+1)∧b=((p.chunks.take k.toNat).drop (Oq p i).fr.toNat).any (Lw p v)
theorem b4Y(hp:pcOk p)(hs:p.spans[i.toNat]? =some s):snV p v i s.fr false:=by
 have h:=(hp.sn s (Bq hs)).1
 unfold snV
 rw[Vu hs]
 exact⟨by omega,by rw[EG (by rw[DU];omega)];rfl⟩
theorem ZD{d:Bool}(h:snV p v i k b)(hp:pcOk p)(hs:p.spans[i.toNat]? =some s)(hk:k≤s.tuu)(hc:p.chunks[k.toNat]? =some c)(hd:d=(b||Lw p v c)):snV p v i (k+1) d:=by
 have h1:=(hp.sn s (Bq hs)).1
 have hl:=(Ec hc).1
 unfold snV at h ⊢
 rw[Vu hs] at h ⊢
 refine⟨by omega,?_⟩
 rw[CW (by omega),FS hc,Lc (by rw[DU];omega),List.any_append,←h.2,hd]
 simp
theorem b4Z(h:snV p v i k b)(hs:p.spans[i.toNat]? =some s)(hk:¬k≤s.tuu):snS p v s=b:=by
 unfold snV at h
 rw[Vu hs] at h
 rw[snS,show s.tuu+1=k by omega];exact h.2.symm
theorem ZE(h:snV p v i k b)(hp:pcOk p)(hs:p.spans[i.toNat]? =some s):((0≤s.fr∧s.fr≤k)∧k≤s.tuu+1)∧s.tuu<(p.chunks.length:Int)-1∧(0≤s.cost∧s.cost≤9):=by
 have h1:=hp.sn s (Bq hs)
 unfold snV at h
 rw[Vu hs] at h
 omega
theorem b5a(h:snV p v i k b)(hp:pcOk p)(hs:p.spans[i.toNat]? =some s)(hk:k≤s.tuu)(hc:p.chunks[k.toNat]? =some c):0≤c.rule∧c.rule<p.rules.length:=by
 have h1:=ZE h hp hs
 exact(hp.sp k.toNat c hc (by omega)).1
theorem b5b(h:snV p v i k b)(hs:p.spans[i.toNat]? =some s)(hk:k≤s.tuu):((Oq p i).tuu+1-(k+1)).toNat<((Oq p i).tuu+1-k).toNat:=by rw[Vu hs];omega
theorem b5c{r:Ru}(hi:bdI p v i n)(hlt:i<v.length)(ha:v[i.toNat]? =some a)(hr:p.rules[i.toNat]? =some r):bdI p v (i+1) (n+r.cost*a):=by
 rw[Int.mul_comm];exact c7s hi hlt ha hr
theorem b5d{r:Ru}(h:bndP p v)(hi:bdI p v i n)(ha:v[i.toNat]? =some a)(hr:p.rules[i.toNat]? =some r):0≤r.cost*a∧r.cost*a≤27:=by
 rw[Int.mul_comm];exact c7t h hi ha hr
theorem b5e(hi:bdJ p v i n)(hlt:i<p.spans.length)(hs:p.spans[i.toNat]? =some s)(hv:snV p v i k b)(hk:¬k≤s.tuu)(hb:b=true):bdJ p v (i+1) (n+s.cost):=c7u hi hlt hs (by rw[b4Z hv hs hk];exact hb)
theorem b5f(hi:bdJ p v i n)(hlt:i<p.spans.length)(hs:p.spans[i.toNat]? =some s)(hv:snV p v i k b)(hk:¬k≤s.tuu)(hb:b=false):bdJ p v (i+1) n:=c7v hi hlt hs (by rw[b4Z hv hs hk];exact hb)
theorem d2u(h:c.rule<v.length)(ha:v[c.rule.toNat]? =some a):decide (a≥c.fr)=(false||Lw p v c):=by
 rw[b2f h,CZ,a4o ha];rfl
theorem d2v(h:¬c.rule<v.length):false=(false||Lw p v c):=by rw[c6q h];rfl
theorem d2w(hp:renP p v)(h:0≤c.rule∧c.rule<p.rules.length)(hc:p.chunks[k.toNat]? =some c):CZ v (Fb p k)=(false||Lw p v c):=by
 rw[Sq hc,b2f (by rw[hp.vl];exact h.2)];rfl
theorem SQ(h:snV p v i k b)(hp:pcOk p)(hs:p.spans[i.toNat]? =some s)(hk:k≤s.tuu):p.chunks[k.toNat]? =some (Fb p k)∧(0≤(Fb p k).rule∧(Fb p k).rule<p.rules.length):=by
 have h1:=ZE h hp hs
 have h2:=c6i (p:=p) (i:=k) (by omega) (by omega)
 exact⟨h2,b5a h hp hs hk h2⟩
theorem b5g(h:snV p v i k b)(hp:pcOk p)(hs:p.spans[i.toNat]? =some s)(hk:k≤s.tuu)(hb:b=true):snV p v i (k+1) true:=ZD h hp hs hk (SQ h hp hs hk).1 (by rw[hb];rfl)
theorem d2x(h:snV p v i k b)(hp:pcOk p)(hs:p.spans[i.toNat]? =some s)(hk:k≤s.tuu)(hb:b=false)(hc:p.chunks[k.toNat]? =some c)(hl:c.rule<v.length)(ha:v[c.rule.toNat]? =some a):snV p v i (k+1) (decide (a≥c.fr)):=ZD h hp hs hk hc (by rw[hb];exact d2u hl ha)
theorem d2y(h:snV p v i k b)(hp:pcOk p)(hs:p.spans[i.toNat]? =some s)(hk:k≤s.tuu)(hb:b=false)(hc:p.chunks[k.toNat]? =some c)(hl:¬c.rule<v.length):snV p v i (k+1) false:=ZD h hp hs hk hc (by rw[hb];exact d2v hl)
theorem d2z(h:snV p v i k b)(hp:renP p v)(hs:p.spans[i.toNat]? =some s)(hk:k≤s.tuu)(hb:b=false):snV p v i (k+1) (CZ v (Fb p k)):=
 ZD h hp.ok hs hk (SQ h hp.ok hs hk).1 (by rw[hb];exact d2w hp (SQ h hp.ok hs hk).2 (SQ h hp.ok hs hk).1)
attribute [local irreducible] bdI bdJ El snS snV CZ
def LF(x:Pc×Ad)(i:Int×Int):LS:=⟨Bool×Int,fun j=>snV x.1 x.2 i.1 j.2 j.1,fun j=>[(1,Al x.2),(2,.box 0 (pcA false x.1)),(5,.int .i64 i.2),(7,.int .i64 i.1),(8,.bool j.1),(9,.int .i64 j.2)],[],fun j=>((Oq x.1 i.1).tuu+1-j.2).toNat,fun _=>[],[]⟩
def LG(x:Pc×Ad):LS:=⟨Int×Int,fun i=>bdJ x.1 x.2 i.1 i.2,fun i=>[(1,Al x.2),(2,.box 0 (pcA false x.1)),(5,.int .i64 i.2),(7,.int .i64 i.1)],[],fun i=>x.1.spans.length-i.1.toNat,fun i=>[(11,LF x i)],[]⟩
def Ot(x:Pc×Ad):LS:=⟨Int×Int,fun i=>bdI x.1 x.2 i.1 i.2,fun i=>[(1,Al x.2),(2,.box 0 (pcA false x.1)),(5,.int .i64 i.2),(6,.int .i64 i.1)],[],fun i=>x.2.length-i.1.toNat,fun _=>[],[]⟩
def Qc:Sig:=⟨Pc×Ad,fun x=>[.agg (pcA false x.1),Al x.2],fun x=>bndP x.1 x.2,Unit,fun x y=>True,fun x y=> .q (El x.1 x.2),fun x y=>[.top,.top],false,[],[]⟩
theorem d2A:CtG G 125 Qc:=
 vFq [] [] (fun x=>[(3,Ot x),(7,LG x)]) Tryz.func125 trivial (fun x=>U4∧eA (Ot x) [Al x.2,.box 0 (pcA false x.1),.q 0,.q 0]∧∀(i:Int×Int),bdI x.1 x.2 i.1 i.2→Ae (decide (i.1<(nL x.2))) (true=true∧true=true∧(0≤i.1∧i.1<(nL x.1.rules))∧∀(e:Ru),x.1.rules[Int.toNat i.1]? =some e→(0≤i.1∧i.1<(nL x.2))∧∀(e_1:Int),x.2[Int.toNat i.1]? =some e_1→inR .i64 (e.cost*e_1)∧inR .i64 (i.2+e.cost*e_1)∧inR .i64 (i.1+(1:Int))∧eN (Ot x) i [Al x.2,.box 0 (pcA false x.1),.q (i.2+e.cost*e_1),.q (i.1+(1:Int))]) (eA (LG x) [Al x.2,.box 0 (pcA false x.1),.q i.2,.q 0]∧∀(i:Int×Int),bdJ x.1 x.2 i.1 i.2→Ae (decide (i.1<(nL x.1.spans))) ((0≤i.1∧i.1<(nL x.1.spans))∧∀(e:Sn),x.1.spans[Int.toNat i.1]? =some e→eA (LF x i) [Al x.2,.box 0 (pcA false x.1),.q i.2,.q i.1,.bool false,.q e.fr]∧∀(i_1:Bool×Int),snV x.1 x.2 i.1 i_1.2 i_1.1→(0≤i.1∧i.1<(nL x.1.spans))∧∀(e:Sn),x.1.spans[Int.toNat i.1]? =some e→Ae (decide (i_1.2≤e.tuu)) ((0≤i_1.2∧i_1.2<(nL x.1.chunks))∧∀(e:Ch),x.1.chunks[Int.toNat i_1.2]? =some e→true=true∧true=true∧Ae i_1.1 (inR .i64 (i_1.2+(1:Int))∧eN (LF x i) i_1 [Al x.2,.box 0 (pcA false x.1),.q i.2,.q i.1,.bool true,.q (i_1.2+(1:Int))]) (Ae (decide (e.rule<(nL x.2))) ((0≤e.rule∧e.rule<(nL x.2))∧∀(e_1:Int),x.2[Int.toNat e.rule]? =some e_1→inR .i64 (i_1.2+(1:Int))∧eN (LF x i) i_1 [Al x.2,.box 0 (pcA false x.1),.q i.2,.q i.1,.bool (decide (e_1≥e.fr)),.q (i_1.2+(1:Int))]) (inR .i64 (i_1.2+(1:Int))∧eN (LF x i) i_1 [Al x.2,.box 0 (pcA false x.1),.q i.2,.q i.1,.bool false,.q (i_1.2+(1:Int))]))) (Ae i_1.1 ((0≤i.1∧i.1<(nL x.1.spans))∧∀(e:Sn),x.1.spans[Int.toNat i.1]? =some e→inR .i64 (i.2+e.cost)∧inR .i64 (i.1+(1:Int))∧eN (LG x) i [Al x.2,.box 0 (pcA false x.1),.q (i.2+e.cost),.q (i.1+(1:Int))]) (inR .i64 (i.1+(1:Int))∧eN (LG x) i [Al x.2,.box 0 (pcA false x.1),.q i.2,.q (i.1+(1:Int))]))) (rA Qc x [.q i.2,.top,.top]))) (by kernel_rfl) fun(x:Pc×Ad) (hx:bndP x.1 x.2)=>(by
 dsimp only[nL,U4,EP,eA,eN,Al,pcA,rA,EO,Qc,EQ,Ot,LG,LF,ER,AB,AF,Bn,AV.q]
 obtain⟨p,v⟩:=x;dsimp only at hx ⊢
 have hx:bndP p v:=hx
 have h1:=hx.ok.rl;have h2:=hx.vo.1;have h3:=hx.ok.snl;have h4:=hx.ok.cl
 (repeat' first|refine MK p ?_|(with_reducible first|rfl|exact⟨⟩|apply AG|apply AM)|apply AL|(apply AK<;>try dsimp only)|apply AJ|((try refine AH.2 ?_);intro _;try dsimp only))
 all_goals(try(repeat(rename p.spans[_]? =some _=>hq;revert hq;rename p.spans[_]? =some _=>hr;intro hq;rw[hr] at hq;cases hq)))
 all_goals first
  |with_reducible rfl
  |with_reducible assumption
  |omega
  |exact b3b
  |exact b5c ‹_› ‹_› ‹_› ‹_›
  |exact b3a ‹_› ‹_›
  |exact b4Y hx.ok ‹_›
  |exact b5b ‹_› ‹_› ‹_›
  |exact b5e ‹_› ‹_› ‹_› ‹_› ‹_› ‹_›
  |exact b5f ‹_› ‹_› ‹_› ‹_› ‹_› ‹_›
  |exact a4C ‹_› ‹_›
  |exact(a4C ‹_› ‹_›)
  |(have hq:=b2Y hx ‹bdI _ _ _ _›;(try have hm:=b5d hx ‹bdI _ _ _ _› ‹_› ‹_›);(try simp only[Aw]);omega)
  |(have hq:=b2Z hx ‹bdJ _ _ _ _›;(try have hr:=ZE ‹snV _ _ _ _ _› hx.ok ‹_›);(try have hc:=b5a ‹snV _ _ _ _ _› hx.ok ‹_› ‹_› ‹_›);(try simp only[Aw]);omega)
  |exact b5g ‹_› hx.ok ‹_› ‹_› ‹_›
  |exact d2x ‹_› hx.ok ‹_› ‹_› ‹_› ‹_› ‹_› ‹_›
  |exact d2y ‹_› hx.ok ‹_› ‹_› ‹_› ‹_› ‹_›
  |skip)
def Qd:Sig:=⟨Pc×Ad,fun x=>[.agg (pcA false x.1),Al x.2],fun x=>coP x.1 x.2,Unit,fun x y=>True,fun x y=> .q (El x.1 x.2),fun x y=>[.top,.top],false,[],[]⟩
theorem d2B:CtG G 147 Qd:=
 vFq [(128,0,Kc)] [] (fun x=>[(3,Ot x),(7,LG x)]) Tryz.func147 ⟨a5V,trivial⟩ (fun x=>U4∧eA (Ot x) [Al x.2,.box 0 (pcA false x.1),.q 0,.q 0]∧∀(i:Int×Int),bdI x.1 x.2 i.1 i.2→Ae (decide (i.1<(nL x.2))) (true=true∧true=true∧(0≤i.1∧i.1<(nL x.1.rules))∧∀(e:Ru),x.1.rules[Int.toNat i.1]? =some e→(0≤i.1∧i.1<(nL x.2))∧∀(e_1:Int),x.2[Int.toNat i.1]? =some e_1→inR .i64 (e.cost*e_1)∧inR .i64 (i.2+e.cost*e_1)∧inR .i64 (i.1+(1:Int))∧eN (Ot x) i [Al x.2,.box 0 (pcA false x.1),.q (i.2+e.cost*e_1),.q (i.1+(1:Int))]) (eA (LG x) [Al x.2,.box 0 (pcA false x.1),.q i.2,.q 0]∧∀(i:Int×Int),bdJ x.1 x.2 i.1 i.2→Ae (decide (i.1<(nL x.1.spans))) ((0≤i.1∧i.1<(nL x.1.spans))∧∀(e:Sn),x.1.spans[Int.toNat i.1]? =some e→eA (LF x i) [Al x.2,.box 0 (pcA false x.1),.q i.2,.q i.1,.bool false,.q e.fr]∧∀(i_1:Bool×Int),snV x.1 x.2 i.1 i_1.2 i_1.1→(0≤i.1∧i.1<(nL x.1.spans))∧∀(e:Sn),x.1.spans[Int.toNat i.1]? =some e→Ae (decide (i_1.2≤e.tuu)) (Ae i_1.1 (inR .i64 (i_1.2+(1:Int))∧eN (LF x i) i_1 [Al x.2,.box 0 (pcA false x.1),.q i.2,.q i.1,.bool true,.q (i_1.2+(1:Int))]) (cA Kc [.agg (pcA false x.1),Al x.2,.q i_1.2] fun x_1 y=>inR .i64 (i_1.2+(1:Int))∧eN (LF x i) i_1 [Al x.2,.box 0 (pcA false x.1),.q i.2,.q i.1,.bool (CZ x_1.2.1 (Fb x_1.1 x_1.2.2)),.q (i_1.2+(1:Int))])) (Ae i_1.1 ((0≤i.1∧i.1<(nL x.1.spans))∧∀(e:Sn),x.1.spans[Int.toNat i.1]? =some e→inR .i64 (i.2+e.cost)∧inR .i64 (i.1+(1:Int))∧eN (LG x) i [Al x.2,.box 0 (pcA false x.1),.q (i.2+e.cost),.q (i.1+(1:Int))]) (inR .i64 (i.1+(1:Int))∧eN (LG x) i [Al x.2,.box 0 (pcA false x.1),.q i.2,.q (i.1+(1:Int))]))) (rA Qd x [.q i.2,.top,.top]))) (by kernel_rfl) fun(x:Pc×Ad) (hx:coP x.1 x.2)=>(by
 dsimp only[nL,U4,cA,EP,eA,eN,Al,pcA,rA,EO,Kc,Qd,EQ,Ot,LG,LF,ER,AB,AF,mvL,lnL,mvE,lnE,mvG,mvH,lnG,lnH,Bn,AV.q]
 obtain⟨p,v⟩:=x;dsimp only at hx ⊢
 have hy:coP p v:=hx
 have hx:bndP p v:=c7V hy
 have h1:=hx.ok.rl;have h2:=hx.vo.1;have h3:=hx.ok.snl;have h4:=hx.ok.cl
 (repeat' first|refine MK p ?_|(with_reducible first|rfl|exact⟨⟩|apply AG|apply AM)|apply AL|(apply AK<;>try dsimp only)|apply AJ|((try refine AH.2 ?_);intro _;try dsimp only))
 all_goals(try(repeat(rename p.spans[_]? =some _=>hq;revert hq;rename p.spans[_]? =some _=>hr;intro hq;rw[hr] at hq;cases hq)))
 all_goals first
  |with_reducible rfl
  |with_reducible assumption
  |omega
  |exact b3b
  |exact b5c ‹_› ‹_› ‹_› ‹_›
  |exact b3a ‹_› ‹_›
  |exact b4Y hx.ok ‹_›
  |exact b5b ‹_› ‹_› ‹_›
  |exact b5e ‹_› ‹_› ‹_› ‹_› ‹_› ‹_›
  |exact b5f ‹_› ‹_› ‹_› ‹_› ‹_› ‹_›
  |exact a4C ‹_› ‹_›
  |(have hq:=b2Y hx ‹bdI _ _ _ _›;(try have hm:=b5d hx ‹bdI _ _ _ _› ‹_› ‹_›);(try simp only[Aw]);omega)
  |(have hq:=b2Z hx ‹bdJ _ _ _ _›;(try have hr:=ZE ‹snV _ _ _ _ _› hx.ok ‹_›);(try simp only[Aw]);omega)
  |exact b5g ‹_› hx.ok ‹_› ‹_› ‹_›
  |exact d2z ‹_› hy.re ‹_› ‹_› ‹_›
  |(have hq:=SQ ‹snV _ _ _ _ _› hx.ok ‹_› ‹_›;rw[hy.re.vl];omega)
  |(have hq:=SQ ‹snV _ _ _ _ _› hx.ok ‹_› ‹_›;omega)
  |skip)
structure qcP (p:Pc) (v:Ad):Prop where
 co:coP p v
 ok:CY p=true
theorem d2C{w:Int}:0≤wdF w∧wdF w≤100000:=by unfold wdF;omega
def Vv:Sig:=⟨Pc×Ad×Int,fun x=>[.agg (pcA false x.1),Al x.2.1,.q x.2.2],fun x=>qcP x.1 x.2.1,Unit,fun x y=>True,fun x y=> .agg [.q (DP x.1 x.2.1 x.2.2).over,.q (DP x.1 x.2.1 x.2.2).sum],fun x y=>[.top,.top,.top],false,[],[]⟩
def ZF(x:Pc×Ad×Int):LS:=⟨Unit,fun _=>True,fun _=>[(6,.box 0 [.q (DP x.1 x.2.1 x.2.2).over,.q (DP x.1 x.2.1 x.2.2).sum])],[],fun _=>0,fun _=>[],[]⟩
def SR(x:Pc×Ad×Int)(x_1:KW.X):Prop:=cA Qa [.agg (pcA false x.1),Al x.2.1,.q (wdF x_1.1)] fun x_2 y=>cA Qd [.agg (pcA false x.1),Al x.2.1] fun x_3 y=>true=true∧(eA (ZF x) [.box 0 [.q (ovL x_2.2.2 (EC x_2.1 x_2.2.1)),.q (El x_3.1 x_3.2)]])
def ZG(x:Pc×Ad×Int):Prop:=cA KW [.q x.2.2] fun x_1 y=>cA Qa [.agg (pcA false x.1),Al x.2.1,.q (wdF x_1.1)] fun x_2 y=>cA Qd [.agg (pcA false x.1),Al x.2.1] fun x_3 y=>true=true∧(eA (ZF x) [.box 0 [.q (ovL x_2.2.2 (EC x_2.1 x_2.2.1)),.q (El x_3.1 x_3.2)]])
theorem d2D:CtG G 121 Vv:=
 vFq [(146,0,KW),(145,0,Qa),(147,0,Qd)] [] (fun x=>[(100001,ZF x)]) Tryz.func121 ⟨d2g,d2t,d2B,trivial⟩ (fun x=>(∀(y:Unit),True→(True∧True∧True)∧True∧True∧True∧True)∧true=true∧(((cA KW [.q x.2.2] fun x_1 y=>(SR x x_1)∧(SR x x_1))∧(ZG x))∧(cA KW [.q x.2.2] fun x_1 y=>((SR x x_1)∧(SR x x_1))∧(SR x x_1))∧(ZG x)∧(ZG x))∧∀(i:Unit),True→∃(y:Unit),True∧(DP x.1 x.2.1 x.2.2).over=(DP x.1 x.2.1 x.2.2).over∧(DP x.1 x.2.1 x.2.2).sum=(DP x.1 x.2.1 x.2.2).sum∧True) (by kernel_rfl) fun(x:Pc×Ad×Int) (hx:qcP x.1 x.2.1)=>(by
 dsimp only[ZG,SR,cA,EP,eA,ZF,Al,pcA,EO,Qa,Qd,KW,EQ,ER,AB,AF,mvL,lnL,mvE,lnE,mvG,mvH,lnG,lnH,Bn,AV.q]
 obtain⟨p,v,w⟩:=x;dsimp only at hx ⊢
 have hx:qcP p v:=hx
 (repeat' first|refine MK p ?_|(with_reducible first|rfl|exact⟨⟩|apply AG|apply AM)|apply AL|(apply AK<;>try dsimp only)|apply AJ|((try refine AH.2 ?_);intro _;try dsimp only))
 all_goals first
  |with_reducible rfl
  |exact⟨hx.co.re,hx.ok,d2C⟩
  |exact hx.co
  |rfl
  |exact()
  |skip)
end Go.My
end
