/- joined -/
import Derived.Test.YtblmpjljedglaaaGreatDoorQJ
set_option linter.unusedSimpArgs false
set_option linter.unusedVariables false
section
namespace Go.My
open Go.Eng Go.Proofs
variable {G:GInv}
variable {t v:Nat}
def ssB(t v:Nat)(i:Int)(l:Nat):Prop:=(i=0∧l≤t)∨(i=1∧l≤t+v)∨(i=2∧l≤t+2*v)∨(i=3∧l≤t+3*v)
theorem a6G{l:List UInt8}(h:l.length≤t):ssB t v 0 l.length:= .inl ⟨rfl,h⟩
theorem a6H{i:Int}{l:Nat}(h:ssB t v i l):(0≤i∧i≤3)∧l≤t+3*v:=by unfold ssB at h;omega
theorem Uf{i:Int}{l m:Nat}(h:ssB t v i l)(hi:i<3)(hm:m≤l+v):ssB t v (i+1) m:=by unfold ssB at h ⊢;omega
attribute [local irreducible] ssB
def stC(x:Md×Int)(i:Int)(T:Nat):LS:= {
 ι:=Int×Int×List UInt8,inv:=fun j=>j.2.2.length≤T∧Af x.1.b j.1,regs:=fun j=>[(0,Es x.1 j.1 j.2.1 j.2.2),(1,.int .i64 x.2),(4,.int .i64 i)],als:=[],meas:=fun _=>0}
def stL(v:Nat)(x:Md×Int):LS:= {
 ι:=Int×Int×Int×List UInt8,inv:=fun i=>ssB x.1.t.length v i.1 i.2.2.2.length∧Af x.1.b i.2.1,regs:=fun i=>[(0,Es x.1 i.2.1 i.2.2.1 i.2.2.2),(1,.int .i64 x.2),(4,.int .i64 i.1)],als:=[],meas:=fun i=>4-i.1.toNat,
 sub:=fun i=>[(200005,stC x i.1 (i.2.2.2.length+2)),(200012,stC x i.1 (i.2.2.2.length+2)),(200017,stC x i.1 (i.2.2.2.length+2)),(100012,stC x i.1 (i.2.2.2.length+12900)),(100014,stC x i.1 (i.2.2.2.length+12900)),(100017,stC x i.1 (i.2.2.2.length+12900)),(100019,stC x i.1 (i.2.2.2.length+12900)),(100021,stC x i.1 (i.2.2.2.length+12900)),(100024,stC x i.1 (i.2.2.2.length+12900)),(100007,stC x i.1 (i.2.2.2.length+12900))]}
def Jr(n:Nat):Sig:= {X:=Md×Int,args:=fun x=>[mad x.1,.int .i64 x.2],pre:=fun x=>(mdP x.1∧n≤2)∧(x.2≤n∧ -5≤x.2)∧x.1.t.length+n*2^25≤2^27,Y:=Int×Int×List UInt8,post:=fun x y=>y.2.2.length≤x.1.t.length+sB n∧Af x.1.b y.1,res:=fun x y=> .tup [],outs:=fun x y=>[Es x.1 y.1 y.2.1 y.2.2,.top],keep:=true}
def ZF:Sig:= {X:=Md×Int,args:=fun x=>[mad x.1,.q x.2],pre:=fun x=>(mdP x.1∧0≤2)∧(x.2≤(0:Nat)∧ -5≤x.2)∧x.1.t.length+0*2^25≤2^27,Y:=Int×Int×List UInt8,post:=fun x y=>y.2.2.length≤x.1.t.length+sB 0∧Af x.1.b y.1,res:=fun x y=> .tup [],outs:=fun x y=>[Es x.1 y.1 y.2.1 y.2.2,.top],keep:=true}
def OI(x:Md×Int)(i:Int×Int×Int×List UInt8):Prop:=∀(i_2:Int×Int×List UInt8),i_2.2.2.length≤i.2.2.2.length+(12900:Nat)∧Af x.1.b i_2.1→inR .i64 (i.1+(1:Int))∧(eN (stL (13000:Nat) x) i [.box 0 [AV.bv x.1.cv (cur x.1.b i_2.1 i_2.2.1),.str i_2.2.2],.q x.2,.q (i.1+(1:Int))])
def ZG(x:Md×Int)(i:Int×Int×Int×List UInt8)(i_1:Int×Int×List UInt8)(x_2:List UInt8×Int×Int×Int)(y:Int×Int×Int):Prop:=true=true∧((((↑(i_1.2.2.length+(4:Nat)):Int)≤Ag∧(cA Bt [.box 0 [AV.bv x.1.cv (cur x_2.1 y.2.1 y.2.2),.str i_1.2.2]] fun x_3 y=>(↑((i_1.2.2++ #[(118:UInt8),97,114,32].toList).length+y.1.length):Int)≤Ag∧((↑((i_1.2.2++ #[(118:UInt8),97,114,32].toList++y.1).length+(3:Nat)):Int)≤Ag∧(cA (BP (3:Nat)) [.box 0 [AV.bv x_3.cv (cur x_3.b y.2.1 y.2.2),.str x_3.t],.q 2] fun x_4 y_1=>(↑((i_1.2.2++ #[(118:UInt8),97,114,32].toList++y.1++ #[(32:UInt8),61,32].toList).length+y_1.1.length):Int)≤Ag∧((↑((i_1.2.2++ #[(118:UInt8),97,114,32].toList++y.1++ #[(32:UInt8),61,32].toList++y_1.1).length+(2:Nat)):Int)≤Ag∧(true=true∧(eA (stC x i.1 (i.2.2.2.length+(12900:Nat))) [.box 0 [AV.bv x_4.1.cv (cur x_4.1.b y_1.2.1 y_1.2.2),.str (i_1.2.2++ #[(118:UInt8),97,114,32].toList++y.1++ #[(32:UInt8),61,32].toList++y_1.1++ #[(59:UInt8),32].toList)],.q x.2,.q i.1])))))))∧(cA Bt [.box 0 [AV.bv x.1.cv (cur x_2.1 y.2.1 y.2.2),.str i_1.2.2]] fun x_3 y=>((↑(x_3.t.length+(4:Nat)):Int)≤Ag∧((↑((x_3.t++ #[(118:UInt8),97,114,32].toList).length+y.1.length):Int)≤Ag∧((↑((x_3.t++ #[(118:UInt8),97,114,32].toList++y.1).length+(3:Nat)):Int)≤Ag∧(cA (BP (3:Nat)) [.box 0 [AV.bv x_3.cv (cur x_3.b y.2.1 y.2.2),.str x_3.t],.q 2] fun x_4 y_1=>(↑((x_3.t++ #[(118:UInt8),97,114,32].toList++y.1++ #[(32:UInt8),61,32].toList).length+y_1.1.length):Int)≤Ag∧((↑((x_3.t++ #[(118:UInt8),97,114,32].toList++y.1++ #[(32:UInt8),61,32].toList++y_1.1).length+(2:Nat)):Int)≤Ag∧(true=true∧(eA (stC x i.1 (i.2.2.2.length+(12900:Nat))) [.box 0 [AV.bv x_4.1.cv (cur x_4.1.b y_1.2.1 y_1.2.2),.str (x_3.t++ #[(118:UInt8),97,114,32].toList++y.1++ #[(32:UInt8),61,32].toList++y_1.1++ #[(59:UInt8),32].toList)],.q x.2,.q i.1])))))))∧(cA (BP (3:Nat)) [.box 0 [AV.bv x_3.cv (cur x_3.b y.2.1 y.2.2),.str x_3.t],.q 2] fun x_4 y_1=>(↑(x_4.1.t.length+(4:Nat)):Int)≤Ag∧((↑((x_4.1.t++ #[(118:UInt8),97,114,32].toList).length+y.1.length):Int)≤Ag∧((↑((x_4.1.t++ #[(118:UInt8),97,114,32].toList++y.1).length+(3:Nat)):Int)≤Ag∧((↑((x_4.1.t++ #[(118:UInt8),97,114,32].toList++y.1++ #[(32:UInt8),61,32].toList).length+y_1.1.length):Int)≤Ag∧((↑((x_4.1.t++ #[(118:UInt8),97,114,32].toList++y.1++ #[(32:UInt8),61,32].toList++y_1.1).length+(2:Nat)):Int)≤Ag∧(true=true∧(eA (stC x i.1 (i.2.2.2.length+(12900:Nat))) [.box 0 [AV.bv x_4.1.cv (cur x_4.1.b y_1.2.1 y_1.2.2),.str (x_4.1.t++ #[(118:UInt8),97,114,32].toList++y.1++ #[(32:UInt8),61,32].toList++y_1.1++ #[(59:UInt8),32].toList)],.q x.2,.q i.1])))))))))∧(OI x i))
def ZH(x:Md×Int)(i:Int×Int×Int×List UInt8)(i_1:Int×Int×List UInt8)(x_2:List UInt8×Int×Int×Int)(y:Int×Int×Int):Prop:=true=true∧(((cA (BP (3:Nat)) [.box 0 [AV.bv x.1.cv (cur x_2.1 y.2.1 y.2.2),.str i_1.2.2],.q 3] fun x_3 y=>(i_1.2.2.length+y.1.length:Int)≤Ag∧((↑((i_1.2.2++y.1).length+(2:Nat)):Int)≤Ag∧(true=true∧(eA (stC x i.1 (i.2.2.2.length+(12900:Nat))) [.box 0 [AV.bv x_3.1.cv (cur x_3.1.b y.2.1 y.2.2),.str (i_1.2.2++y.1++ #[(59:UInt8),32].toList)],.q x.2,.q i.1]))))∧(cA (BP (3:Nat)) [.box 0 [AV.bv x.1.cv (cur x_2.1 y.2.1 y.2.2),.str i_1.2.2],.q 3] fun x_3 y=>(x_3.1.t.length+y.1.length:Int)≤Ag∧((↑((x_3.1.t++y.1).length+(2:Nat)):Int)≤Ag∧(true=true∧(eA (stC x i.1 (i.2.2.2.length+(12900:Nat))) [.box 0 [AV.bv x_3.1.cv (cur x_3.1.b y.2.1 y.2.2),.str (x_3.1.t++y.1++ #[(59:UInt8),32].toList)],.q x.2,.q i.1])))))∧(OI x i))
def ZI(x:Md×Int)(i:Int×Int×Int×List UInt8)(i_1:Int×Int×List UInt8)(x_6:List UInt8×Int×Int×List (List UInt8))(y:List UInt8×Int×Int):Prop:=(↑((i_1.2.2++ #[(47:UInt8),47,32].toList).length+y.1.length):Int)≤Ag∧((↑((i_1.2.2++ #[(47:UInt8),47,32].toList++y.1).length+(1:Nat)):Int)≤Ag∧(true=true∧(eA (stC x i.1 (i.2.2.2.length+(12900:Nat))) [.box 0 [AV.bv x.1.cv (cur x_6.1 y.2.1 y.2.2),.str (i_1.2.2++ #[(47:UInt8),47,32].toList++y.1++ #[(10:UInt8)].toList)],.q x.2,.q i.1])))
def Ug(x:Md×Int)(i:Int×Int×Int×List UInt8)(i_1:Int×Int×List UInt8)(x_2:List UInt8×Int×Int×Int)(x_3:List UInt8)(x_4:List UInt8)(x_5:List UInt8)(y:Int×Int×Int):Prop:=∃(x_6:List UInt8×Int×Int×List (List UInt8)),(Af x_6.1 x_6.2.1∧x_6.2.2.2≠[]∧x_6.2.2.2.length<(1073741824:Nat))∧x.1.cv=x.1.cv∧byL x_2.1=byL x_6.1∧y.2.1=x_6.2.1∧y.2.2=x_6.2.2.1∧AV.sl false 0 1 (List UInt8) (fun(x:List UInt8)=>fzL (Be x)) [x_3,x_4,x_5]=AV.sl false 0 1 (List UInt8) Be x_6.2.2.2∧(∀(y:List UInt8×Int×Int),y.1∈x_6.2.2.2∧Af x_6.1 y.2.1→x.1.cv=x.1.cv∧(ZI x i i_1 x_6 y))
def ZJ(x:Md×Int)(i:Int×Int×Int×List UInt8)(i_1:Int×Int×List UInt8)(x_2:List UInt8×Int×Int×Int)(x_3:List UInt8)(x_4:List UInt8)(x_5:List UInt8)(y:Int×Int×Int):Prop:=((↑(i_1.2.2.length+(3:Nat)):Int)≤Ag∧(Ug x i i_1 x_2 x_3 x_4 x_5 y))∧(∃(x_6:List UInt8×Int×Int×List (List UInt8)),(Af x_6.1 x_6.2.1∧x_6.2.2.2≠[]∧x_6.2.2.2.length<(1073741824:Nat))∧x.1.cv=x.1.cv∧byL x_2.1=byL x_6.1∧y.2.1=x_6.2.1∧y.2.2=x_6.2.2.1∧AV.sl false 0 1 (List UInt8) (fun(x:List UInt8)=>fzL (Be x)) [x_3,x_4,x_5]=AV.sl false 0 1 (List UInt8) Be x_6.2.2.2∧(∀(y:List UInt8×Int×Int),y.1∈x_6.2.2.2∧Af x_6.1 y.2.1→x.1.cv=x.1.cv∧((↑(i_1.2.2.length+(3:Nat)):Int)≤Ag∧(ZI x i i_1 x_6 y))))
def Uh(x:Md×Int)(i:Int×Int×Int×List UInt8)(i_1:Int×Int×List UInt8)(x_2:List UInt8×Int×Int×Int)(y:Int×Int×Int):Prop:=∃(x_3:List UInt8),#[(115:UInt8),97,105,100].toList=x_3∧(∃(x_4:List UInt8),#[].toList=x_4∧(∃(x_5:List UInt8),#[(97:UInt8),110,100,32,32,109,111,114,101,32,32].toList=x_5∧(Ug x i i_1 x_2 x_3 x_4 x_5 y)))
set_option maxRecDepth 100000 in set_option maxHeartbeats 8000000 in
theorem c0y:Ai G Tryz.prog 139 ZF:=
 vcFun_okP [(75,0,Ec),(74,0,KM),(138,0,Bt),(40,0,Jh),(179,0,(BP 3))] [(42,⟨List UInt8,Be⟩)] false (fun x=>[(1,stL 13000 x)]) Tryz.func139 rfl (by decide) ⟨HK,Qj,Qk,LY,(Ya 3),trivial⟩ (fun(x:Md×Int)=>True∧eA (stL (13000:Nat) x) [.box 0 [AV.bv x.1.cv (cur x.1.b x.1.i x.1.h),.str x.1.t],.q x.2,.q 0]∧∀(i:Int×Int×Int×List UInt8),ssB (x.1.t.length) (13000:Nat) i.1 (i.2.2.2.length)∧Af x.1.b i.2.1→∃(x_1:List UInt8×Int×Int×Int),Af x_1.1 x_1.2.1∧x.1.cv=x.1.cv∧byL x.1.b=byL x_1.1∧i.2.1=x_1.2.1∧i.2.2.1=x_1.2.2.1∧4=x_1.2.2.2∧∀(y:Int×Int×Int),((0<x_1.2.2.2→0≤y.1∧y.1<x_1.2.2.2)∧(x_1.2.2.2≤(0:Int)→y.1=(0:Int)))∧Af x_1.1 y.2.1→x.1.cv=x.1.cv∧Aa (decide (i.1<y.1)) ((∃(x_2:List UInt8×Int×Int×Int),Af x_2.1 x_2.2.1∧x.1.cv=x.1.cv∧byL x_1.1=byL x_2.1∧y.2.1=x_2.2.1∧y.2.2=x_2.2.2.1∧5=x_2.2.2.2∧∀(y:Bool×Int×Int),Af x_2.1 y.2.1→x.1.cv=x.1.cv∧Aa y.1 ((↑(i.2.2.2.length+(2:Nat)):Int)≤Ag∧eA (stC x i.1 (i.2.2.2.length+(2:Nat))) [.box 0 [AV.bv x.1.cv (cur x_2.1 y.2.1 y.2.2),.str (i.2.2.2++ #[(10:UInt8),10].toList)],.q x.2,.q i.1]) (eA (stC x i.1 (i.2.2.2.length+(2:Nat))) [.box 0 [AV.bv x.1.cv (cur x_2.1 y.2.1 y.2.2),.str i.2.2.2],.q x.2,.q i.1]))∧∀(i_1:Int×Int×List UInt8),i_1.2.2.length≤i.2.2.2.length+(2:Nat)∧Af x.1.b i_1.1→∃(x_2:List UInt8×Int×Int×Int),Af x_2.1 x_2.2.1∧x.1.cv=x.1.cv∧byL x.1.b=byL x_2.1∧i_1.1=x_2.2.1∧i_1.2.1=x_2.2.2.1∧9=x_2.2.2.2∧∀(y:Int×Int×Int),((0<x_2.2.2.2→0≤y.1∧y.1<x_2.2.2.2)∧(x_2.2.2.2≤(0:Int)→y.1=(0:Int)))∧Af x_2.1 y.2.1→x.1.cv=x.1.cv∧Aa (y.1==(0:Int)) (ZG x i i_1 x_2 y) (Aa (y.1==(1:Int)) (ZG x i i_1 x_2 y) (Aa (y.1==(2:Int)) (true=true∧((cA Bt [.box 0 [AV.bv x.1.cv (cur x_2.1 y.2.1 y.2.2),.str i_1.2.2]] fun x_3 y=>(i_1.2.2.length+y.1.length:Int)≤Ag∧(↑((i_1.2.2++y.1).length+(3:Nat)):Int)≤Ag∧cA (BP (3:Nat)) [.box 0 [AV.bv x_3.cv (cur x_3.b y.2.1 y.2.2),.str x_3.t],.q 3] fun x_4 y_1=>(↑((i_1.2.2++y.1++ #[(32:UInt8),61,32].toList).length+y_1.1.length):Int)≤Ag∧(↑((i_1.2.2++y.1++ #[(32:UInt8),61,32].toList++y_1.1).length+(2:Nat)):Int)≤Ag∧true=true∧eA (stC x i.1 (i.2.2.2.length+(12900:Nat))) [.box 0 [AV.bv x_4.1.cv (cur x_4.1.b y_1.2.1 y_1.2.2),.str (i_1.2.2++y.1++ #[(32:UInt8),61,32].toList++y_1.1++ #[(59:UInt8),32].toList)],.q x.2,.q i.1])∧cA Bt [.box 0 [AV.bv x.1.cv (cur x_2.1 y.2.1 y.2.2),.str i_1.2.2]] fun x_3 y=>((x_3.t.length+y.1.length:Int)≤Ag∧(↑((x_3.t++y.1).length+(3:Nat)):Int)≤Ag∧cA (BP (3:Nat)) [.box 0 [AV.bv x_3.cv (cur x_3.b y.2.1 y.2.2),.str x_3.t],.q 3] fun x_4 y_1=>(↑((x_3.t++y.1++ #[(32:UInt8),61,32].toList).length+y_1.1.length):Int)≤Ag∧(↑((x_3.t++y.1++ #[(32:UInt8),61,32].toList++y_1.1).length+(2:Nat)):Int)≤Ag∧true=true∧eA (stC x i.1 (i.2.2.2.length+(12900:Nat))) [.box 0 [AV.bv x_4.1.cv (cur x_4.1.b y_1.2.1 y_1.2.2),.str (x_3.t++y.1++ #[(32:UInt8),61,32].toList++y_1.1++ #[(59:UInt8),32].toList)],.q x.2,.q i.1])∧cA (BP (3:Nat)) [.box 0 [AV.bv x_3.cv (cur x_3.b y.2.1 y.2.2),.str x_3.t],.q 3] fun x_4 y_1=>(x_4.1.t.length+y.1.length:Int)≤Ag∧(↑((x_4.1.t++y.1).length+(3:Nat)):Int)≤Ag∧(↑((x_4.1.t++y.1++ #[(32:UInt8),61,32].toList).length+y_1.1.length):Int)≤Ag∧(↑((x_4.1.t++y.1++ #[(32:UInt8),61,32].toList++y_1.1).length+(2:Nat)):Int)≤Ag∧true=true∧eA (stC x i.1 (i.2.2.2.length+(12900:Nat))) [.box 0 [AV.bv x_4.1.cv (cur x_4.1.b y_1.2.1 y_1.2.2),.str (x_4.1.t++y.1++ #[(32:UInt8),61,32].toList++y_1.1++ #[(59:UInt8),32].toList)],.q x.2,.q i.1])∧(OI x i)) (Aa (y.1==(3:Int)) (ZH x i i_1 x_2 y) (Aa (y.1==(4:Int)) (ZH x i i_1 x_2 y) (Aa (y.1==(5:Int)) (true=true∧(((↑(i_1.2.2.length+(7:Nat)):Int)≤Ag∧cA (BP (3:Nat)) [.box 0 [AV.bv x.1.cv (cur x_2.1 y.2.1 y.2.2),.str i_1.2.2],.q 2] fun x_3 y=>(↑((i_1.2.2++ #[(114:UInt8),101,116,117,114,110,32].toList).length+y.1.length):Int)≤Ag∧(↑((i_1.2.2++ #[(114:UInt8),101,116,117,114,110,32].toList++y.1).length+(2:Nat)):Int)≤Ag∧true=true∧eA (stC x i.1 (i.2.2.2.length+(12900:Nat))) [.box 0 [AV.bv x_3.1.cv (cur x_3.1.b y.2.1 y.2.2),.str (i_1.2.2++ #[(114:UInt8),101,116,117,114,110,32].toList++y.1++ #[(59:UInt8),32].toList)],.q x.2,.q i.1])∧cA (BP (3:Nat)) [.box 0 [AV.bv x.1.cv (cur x_2.1 y.2.1 y.2.2),.str i_1.2.2],.q 2] fun x_3 y=>(↑(x_3.1.t.length+(7:Nat)):Int)≤Ag∧(↑((x_3.1.t++ #[(114:UInt8),101,116,117,114,110,32].toList).length+y.1.length):Int)≤Ag∧(↑((x_3.1.t++ #[(114:UInt8),101,116,117,114,110,32].toList++y.1).length+(2:Nat)):Int)≤Ag∧true=true∧eA (stC x i.1 (i.2.2.2.length+(12900:Nat))) [.box 0 [AV.bv x_3.1.cv (cur x_3.1.b y.2.1 y.2.2),.str (x_3.1.t++ #[(114:UInt8),101,116,117,114,110,32].toList++y.1++ #[(59:UInt8),32].toList)],.q x.2,.q i.1])∧(OI x i)) (Aa (y.1==(6:Int)) (true=true∧(((↑(i_1.2.2.length+(3:Nat)):Int)≤Ag∧(Uh x i i_1 x_2 y)∧(Uh x i i_1 x_2 y))∧(((↑(i_1.2.2.length+(3:Nat)):Int)≤Ag∧(Uh x i i_1 x_2 y))∧∃(x_3:List UInt8),#[(115:UInt8),97,105,100].toList=x_3∧∃(x_4:List UInt8),#[].toList=x_4∧∃(x_5:List UInt8),#[(97:UInt8),110,100,32,32,109,111,114,101,32,32].toList=x_5∧(ZJ x i i_1 x_2 x_3 x_4 x_5 y))∧∃(x_3:List UInt8),#[(115:UInt8),97,105,100].toList=x_3∧∃(x_4:List UInt8),#[].toList=x_4∧∃(x_5:List UInt8),#[(97:UInt8),110,100,32,32,109,111,114,101,32,32].toList=x_5∧((↑(i_1.2.2.length+(3:Nat)):Int)≤Ag∧(Ug x i i_1 x_2 x_3 x_4 x_5 y))∧(ZJ x i i_1 x_2 x_3 x_4 x_5 y))∧(OI x i)) (Aa (y.1==(7:Int)) (Aa (decide (x.2>(0:Int))) (true=true∧(((↑(i_1.2.2.length+(4:Nat)):Int)≤Ag∧cA (BP (3:Nat)) [.box 0 [AV.bv x.1.cv (cur x_2.1 y.2.1 y.2.2),.str i_1.2.2],.q 2] fun x_3 y=>(↑((i_1.2.2++ #[(105:UInt8),102,32,40].toList).length+y.1.length):Int)≤Ag∧(↑((i_1.2.2++ #[(105:UInt8),102,32,40].toList++y.1).length+(3:Nat)):Int)≤Ag∧true=true∧eA (stC x i.1 (i.2.2.2.length+(12900:Nat))) [.box 0 [AV.bv x_3.1.cv (cur x_3.1.b y.2.1 y.2.2),.str (i_1.2.2++ #[(105:UInt8),102,32,40].toList++y.1++ #[(41:UInt8),32,123].toList)],.q x.2,.q i.1])∧cA (BP (3:Nat)) [.box 0 [AV.bv x.1.cv (cur x_2.1 y.2.1 y.2.2),.str i_1.2.2],.q 2] fun x_3 y=>(↑(x_3.1.t.length+(4:Nat)):Int)≤Ag∧(↑((x_3.1.t++ #[(105:UInt8),102,32,40].toList).length+y.1.length):Int)≤Ag∧(↑((x_3.1.t++ #[(105:UInt8),102,32,40].toList++y.1).length+(3:Nat)):Int)≤Ag∧true=true∧eA (stC x i.1 (i.2.2.2.length+(12900:Nat))) [.box 0 [AV.bv x_3.1.cv (cur x_3.1.b y.2.1 y.2.2),.str (x_3.1.t++ #[(105:UInt8),102,32,40].toList++y.1++ #[(41:UInt8),32,123].toList)],.q x.2,.q i.1])∧(∀(i_2:Int×Int×List UInt8),i_2.2.2.length≤i.2.2.2.length+(12900:Nat)∧Af x.1.b i_2.1→inR .i64 (x.2-(1:Int))∧False)) (inR .i64 (i.1+(1:Int))∧(eN (stL (13000:Nat) x) i [.box 0 [AV.bv x.1.cv (cur x_2.1 y.2.1 y.2.2),.str i_1.2.2],.q x.2,.q (i.1+(1:Int))]))) (Aa (decide (x.2>(0:Int))) (true=true∧(((↑(i_1.2.2.length+(7:Nat)):Int)≤Ag∧cA (BP (3:Nat)) [.box 0 [AV.bv x.1.cv (cur x_2.1 y.2.1 y.2.2),.str i_1.2.2],.q 1] fun x_3 y=>(↑((i_1.2.2++ #[(119:UInt8),104,105,108,101,32,40].toList).length+y.1.length):Int)≤Ag∧(↑((i_1.2.2++ #[(119:UInt8),104,105,108,101,32,40].toList++y.1).length+(3:Nat)):Int)≤Ag∧true=true∧eA (stC x i.1 (i.2.2.2.length+(12900:Nat))) [.box 0 [AV.bv x_3.1.cv (cur x_3.1.b y.2.1 y.2.2),.str (i_1.2.2++ #[(119:UInt8),104,105,108,101,32,40].toList++y.1++ #[(41:UInt8),32,123].toList)],.q x.2,.q i.1])∧cA (BP (3:Nat)) [.box 0 [AV.bv x.1.cv (cur x_2.1 y.2.1 y.2.2),.str i_1.2.2],.q 1] fun x_3 y=>(↑(x_3.1.t.length+(7:Nat)):Int)≤Ag∧(↑((x_3.1.t++ #[(119:UInt8),104,105,108,101,32,40].toList).length+y.1.length):Int)≤Ag∧(↑((x_3.1.t++ #[(119:UInt8),104,105,108,101,32,40].toList++y.1).length+(3:Nat)):Int)≤Ag∧true=true∧eA (stC x i.1 (i.2.2.2.length+(12900:Nat))) [.box 0 [AV.bv x_3.1.cv (cur x_3.1.b y.2.1 y.2.2),.str (x_3.1.t++ #[(119:UInt8),104,105,108,101,32,40].toList++y.1++ #[(41:UInt8),32,123].toList)],.q x.2,.q i.1])∧(∀(i_2:Int×Int×List UInt8),i_2.2.2.length≤i.2.2.2.length+(12900:Nat)∧Af x.1.b i_2.1→inR .i64 (x.2-(1:Int))∧False)) (inR .i64 (i.1+(1:Int))∧(eN (stL (13000:Nat) x) i [.box 0 [AV.bv x.1.cv (cur x_2.1 y.2.1 y.2.2),.str i_1.2.2],.q x.2,.q (i.1+(1:Int))]))))))))))) (rA ZF x [.tup [],.box 0 [AV.bv x.1.cv (cur x_1.1 y.2.1 y.2.2),.str i.2.2.2],.top])) (fun x=>by kernel_rfl) fun(x:Md×Int) (hx:(mdP x.1∧0≤2)∧(x.2≤(0:Nat)∧ -5≤x.2)∧x.1.t.length+0*2^25≤2^27)=>(by
 dsimp only[Uh,ZJ,Ug,ZI,ZH,ZG,OI,DM,byL,cA,cur,eA,eN,mad,Es,rA,Bt,ZF,BP,stC,stL,As,Az,mvL,lnL,mvE,lnE,Bl,Ag,AV.q]
 obtain⟨⟨cv,b,i,h,t⟩,d⟩:=x;dsimp only at hx ⊢
 obtain⟨⟨hx,_⟩,⟨hd,hd2⟩,ht⟩:=hx
 have hx:Af b i:=hx
 have hv3:vB 3=12800:=rfl
 have hs0:sB 0=39000:=rfl
 (repeat' first|(apply NX<;>try dsimp only)|(apply NW<;>try dsimp only)|(with_reducible first|rfl|exact True.intro|apply AK|apply And.intro|((first|apply AA|apply AI|apply AB|apply AJ)<;>intro _))|(apply Av<;>intro _)|apply AH|refine Ae () ?_ ?_|((first|apply AO|apply AN|apply AM|apply AL|apply AG|apply AF|apply AE|apply AD|apply AC)<;>try dsimp only)|apply Ae|(refine Prod.forall.2 ?_;intro _;try dsimp only)|(intro _;try dsimp only))
 all_goals(repeat(rename _∈_∧Af _ _=>hq;obtain⟨hq1,_⟩:=hq;have hq2:=JK (n:=20) hq1 (by decide);clear hq1))
 all_goals(try(have hb:=a6H (And.left ‹ssB _ _ _ _∧_›)))
 all_goals first
  |rfl
  |exact hx
  |(show Af _ _;exact hx)
  |omega
  |exact a6G (Nat.le_refl _)
  |exact And.right ‹_∧Af _ _›
  |(show Af _ _;exact And.right ‹_∧Af _ _›)
  |(rename _=[]=>hq;cases hq;done)
  |skip
 all_goals(repeat(rename _∧Af _ _=>hq;obtain⟨_,_⟩:=hq))
 all_goals first
  |(with_reducible assumption)
  |(show Af _ _;with_reducible assumption)
  |((try simp only[An,List.length_append,List.length_cons,List.length_nil]);omega)
  |(refine Uf ‹_› (by omega) ?_;(try simp only[List.length_append,List.length_cons,List.length_nil]);omega)
  |((try simp only[An,List.length_append,List.length_cons,List.length_nil] at*);omega)
  |(refine Uf ‹_› (by omega) ?_;(try simp only[List.length_append,List.length_cons,List.length_nil] at*);omega)
  |skip)
def ZK(n:Nat):Sig:= {X:=Md×Int,args:=fun x=>[mad x.1,.q x.2],pre:=fun x=>(mdP x.1∧n+1≤2)∧(x.2≤(n+1:Nat)∧ -5≤x.2)∧x.1.t.length+(n+1)*2^25≤2^27,Y:=Int×Int×List UInt8,post:=fun x y=>y.2.2.length≤x.1.t.length+sB (n+1)∧Af x.1.b y.1,res:=fun x y=> .tup [],outs:=fun x y=>[Es x.1 y.1 y.2.1 y.2.2,.top],keep:=true}
def OJ(n:Nat)(x:Md×Int)(i:Int×Int×Int×List UInt8):Prop:=∀(i_2:Int×Int×List UInt8),i_2.2.2.length≤i.2.2.2.length+(12900:Nat)∧Af x.1.b i_2.1→inR .i64 (i.1+(1:Int))∧(eN (stL ((2:Nat)*sB n+(13000:Nat)) x) i [.box 0 [AV.bv x.1.cv (cur x.1.b i_2.1 i_2.2.1),.str i_2.2.2],.q x.2,.q (i.1+(1:Int))])
def ZL(n:Nat)(x:Md×Int)(i:Int×Int×Int×List UInt8)(i_1:Int×Int×List UInt8)(x_2:List UInt8×Int×Int×Int)(y:Int×Int×Int):Prop:=true=true∧((((↑(i_1.2.2.length+(4:Nat)):Int)≤Ag∧(cA Bt [.box 0 [AV.bv x.1.cv (cur x_2.1 y.2.1 y.2.2),.str i_1.2.2]] fun x_3 y=>(↑((i_1.2.2++ #[(118:UInt8),97,114,32].toList).length+y.1.length):Int)≤Ag∧((↑((i_1.2.2++ #[(118:UInt8),97,114,32].toList++y.1).length+(3:Nat)):Int)≤Ag∧(cA (BP (3:Nat)) [.box 0 [AV.bv x_3.cv (cur x_3.b y.2.1 y.2.2),.str x_3.t],.q 2] fun x_4 y_1=>(↑((i_1.2.2++ #[(118:UInt8),97,114,32].toList++y.1++ #[(32:UInt8),61,32].toList).length+y_1.1.length):Int)≤Ag∧((↑((i_1.2.2++ #[(118:UInt8),97,114,32].toList++y.1++ #[(32:UInt8),61,32].toList++y_1.1).length+(2:Nat)):Int)≤Ag∧(true=true∧(eA (stC x i.1 (i.2.2.2.length+(12900:Nat))) [.box 0 [AV.bv x_4.1.cv (cur x_4.1.b y_1.2.1 y_1.2.2),.str (i_1.2.2++ #[(118:UInt8),97,114,32].toList++y.1++ #[(32:UInt8),61,32].toList++y_1.1++ #[(59:UInt8),32].toList)],.q x.2,.q i.1])))))))∧(cA Bt [.box 0 [AV.bv x.1.cv (cur x_2.1 y.2.1 y.2.2),.str i_1.2.2]] fun x_3 y=>((↑(x_3.t.length+(4:Nat)):Int)≤Ag∧((↑((x_3.t++ #[(118:UInt8),97,114,32].toList).length+y.1.length):Int)≤Ag∧((↑((x_3.t++ #[(118:UInt8),97,114,32].toList++y.1).length+(3:Nat)):Int)≤Ag∧(cA (BP (3:Nat)) [.box 0 [AV.bv x_3.cv (cur x_3.b y.2.1 y.2.2),.str x_3.t],.q 2] fun x_4 y_1=>(↑((x_3.t++ #[(118:UInt8),97,114,32].toList++y.1++ #[(32:UInt8),61,32].toList).length+y_1.1.length):Int)≤Ag∧((↑((x_3.t++ #[(118:UInt8),97,114,32].toList++y.1++ #[(32:UInt8),61,32].toList++y_1.1).length+(2:Nat)):Int)≤Ag∧(true=true∧(eA (stC x i.1 (i.2.2.2.length+(12900:Nat))) [.box 0 [AV.bv x_4.1.cv (cur x_4.1.b y_1.2.1 y_1.2.2),.str (x_3.t++ #[(118:UInt8),97,114,32].toList++y.1++ #[(32:UInt8),61,32].toList++y_1.1++ #[(59:UInt8),32].toList)],.q x.2,.q i.1])))))))∧(cA (BP (3:Nat)) [.box 0 [AV.bv x_3.cv (cur x_3.b y.2.1 y.2.2),.str x_3.t],.q 2] fun x_4 y_1=>(↑(x_4.1.t.length+(4:Nat)):Int)≤Ag∧((↑((x_4.1.t++ #[(118:UInt8),97,114,32].toList).length+y.1.length):Int)≤Ag∧((↑((x_4.1.t++ #[(118:UInt8),97,114,32].toList++y.1).length+(3:Nat)):Int)≤Ag∧((↑((x_4.1.t++ #[(118:UInt8),97,114,32].toList++y.1++ #[(32:UInt8),61,32].toList).length+y_1.1.length):Int)≤Ag∧((↑((x_4.1.t++ #[(118:UInt8),97,114,32].toList++y.1++ #[(32:UInt8),61,32].toList++y_1.1).length+(2:Nat)):Int)≤Ag∧(true=true∧(eA (stC x i.1 (i.2.2.2.length+(12900:Nat))) [.box 0 [AV.bv x_4.1.cv (cur x_4.1.b y_1.2.1 y_1.2.2),.str (x_4.1.t++ #[(118:UInt8),97,114,32].toList++y.1++ #[(32:UInt8),61,32].toList++y_1.1++ #[(59:UInt8),32].toList)],.q x.2,.q i.1])))))))))∧(OJ n x i))
def ZM(n:Nat)(x:Md×Int)(i:Int×Int×Int×List UInt8)(i_1:Int×Int×List UInt8)(x_2:List UInt8×Int×Int×Int)(y:Int×Int×Int):Prop:=true=true∧(((cA (BP (3:Nat)) [.box 0 [AV.bv x.1.cv (cur x_2.1 y.2.1 y.2.2),.str i_1.2.2],.q 3] fun x_3 y=>(i_1.2.2.length+y.1.length:Int)≤Ag∧((↑((i_1.2.2++y.1).length+(2:Nat)):Int)≤Ag∧(true=true∧(eA (stC x i.1 (i.2.2.2.length+(12900:Nat))) [.box 0 [AV.bv x_3.1.cv (cur x_3.1.b y.2.1 y.2.2),.str (i_1.2.2++y.1++ #[(59:UInt8),32].toList)],.q x.2,.q i.1]))))∧(cA (BP (3:Nat)) [.box 0 [AV.bv x.1.cv (cur x_2.1 y.2.1 y.2.2),.str i_1.2.2],.q 3] fun x_3 y=>(x_3.1.t.length+y.1.length:Int)≤Ag∧((↑((x_3.1.t++y.1).length+(2:Nat)):Int)≤Ag∧(true=true∧(eA (stC x i.1 (i.2.2.2.length+(12900:Nat))) [.box 0 [AV.bv x_3.1.cv (cur x_3.1.b y.2.1 y.2.2),.str (x_3.1.t++y.1++ #[(59:UInt8),32].toList)],.q x.2,.q i.1])))))∧(OJ n x i))
def ZN(x:Md×Int)(i:Int×Int×Int×List UInt8)(i_1:Int×Int×List UInt8)(x_6:List UInt8×Int×Int×List (List UInt8))(y:List UInt8×Int×Int):Prop:=(↑((i_1.2.2++ #[(47:UInt8),47,32].toList).length+y.1.length):Int)≤Ag∧((↑((i_1.2.2++ #[(47:UInt8),47,32].toList++y.1).length+(1:Nat)):Int)≤Ag∧(true=true∧(eA (stC x i.1 (i.2.2.2.length+(12900:Nat))) [.box 0 [AV.bv x.1.cv (cur x_6.1 y.2.1 y.2.2),.str (i_1.2.2++ #[(47:UInt8),47,32].toList++y.1++ #[(10:UInt8)].toList)],.q x.2,.q i.1])))
def Ui(x:Md×Int)(i:Int×Int×Int×List UInt8)(i_1:Int×Int×List UInt8)(x_2:List UInt8×Int×Int×Int)(x_3:List UInt8)(x_4:List UInt8)(x_5:List UInt8)(y:Int×Int×Int):Prop:=∃(x_6:List UInt8×Int×Int×List (List UInt8)),(Af x_6.1 x_6.2.1∧x_6.2.2.2≠[]∧x_6.2.2.2.length<(1073741824:Nat))∧x.1.cv=x.1.cv∧byL x_2.1=byL x_6.1∧y.2.1=x_6.2.1∧y.2.2=x_6.2.2.1∧AV.sl false 0 1 (List UInt8) (fun(x:List UInt8)=>fzL (Be x)) [x_3,x_4,x_5]=AV.sl false 0 1 (List UInt8) Be x_6.2.2.2∧(∀(y:List UInt8×Int×Int),y.1∈x_6.2.2.2∧Af x_6.1 y.2.1→x.1.cv=x.1.cv∧(ZN x i i_1 x_6 y))
def ZO(x:Md×Int)(i:Int×Int×Int×List UInt8)(i_1:Int×Int×List UInt8)(x_2:List UInt8×Int×Int×Int)(x_3:List UInt8)(x_4:List UInt8)(x_5:List UInt8)(y:Int×Int×Int):Prop:=((↑(i_1.2.2.length+(3:Nat)):Int)≤Ag∧(Ui x i i_1 x_2 x_3 x_4 x_5 y))∧(∃(x_6:List UInt8×Int×Int×List (List UInt8)),(Af x_6.1 x_6.2.1∧x_6.2.2.2≠[]∧x_6.2.2.2.length<(1073741824:Nat))∧x.1.cv=x.1.cv∧byL x_2.1=byL x_6.1∧y.2.1=x_6.2.1∧y.2.2=x_6.2.2.1∧AV.sl false 0 1 (List UInt8) (fun(x:List UInt8)=>fzL (Be x)) [x_3,x_4,x_5]=AV.sl false 0 1 (List UInt8) Be x_6.2.2.2∧(∀(y:List UInt8×Int×Int),y.1∈x_6.2.2.2∧Af x_6.1 y.2.1→x.1.cv=x.1.cv∧((↑(i_1.2.2.length+(3:Nat)):Int)≤Ag∧(ZN x i i_1 x_6 y))))
def Uj(x:Md×Int)(i:Int×Int×Int×List UInt8)(i_1:Int×Int×List UInt8)(x_2:List UInt8×Int×Int×Int)(y:Int×Int×Int):Prop:=∃(x_3:List UInt8),#[(115:UInt8),97,105,100].toList=x_3∧(∃(x_4:List UInt8),#[].toList=x_4∧(∃(x_5:List UInt8),#[(97:UInt8),110,100,32,32,109,111,114,101,32,32].toList=x_5∧(Ui x i i_1 x_2 x_3 x_4 x_5 y)))
set_option maxRecDepth 100000 in set_option maxHeartbeats 8000000 in
theorem c0z(n:Nat)(hc:Ai G Go.Proofs.Tryz.prog 139 (Jr n)):Ai G Tryz.prog 139 (ZK n):=
 vcFun_okP [(75,0,Ec),(74,0,KM),(138,0,Bt),(40,0,Jh),(179,0,(BP 3)),(139,0,(Jr n))] [(42,⟨List UInt8,Be⟩)] false (fun x=>[(1,stL (2*sB n+13000) x)]) Tryz.func139 rfl (by decide) ⟨HK,Qj,Qk,LY,(Ya 3),hc,trivial⟩ (fun(x:Md×Int)=>True∧eA (stL ((2:Nat)*sB n+(13000:Nat)) x) [.box 0 [AV.bv x.1.cv (cur x.1.b x.1.i x.1.h),.str x.1.t],.q x.2,.q 0]∧∀(i:Int×Int×Int×List UInt8),ssB (x.1.t.length) ((2:Nat)*sB n+(13000:Nat)) i.1 (i.2.2.2.length)∧Af x.1.b i.2.1→∃(x_1:List UInt8×Int×Int×Int),Af x_1.1 x_1.2.1∧x.1.cv=x.1.cv∧byL x.1.b=byL x_1.1∧i.2.1=x_1.2.1∧i.2.2.1=x_1.2.2.1∧4=x_1.2.2.2∧∀(y:Int×Int×Int),((0<x_1.2.2.2→0≤y.1∧y.1<x_1.2.2.2)∧(x_1.2.2.2≤(0:Int)→y.1=(0:Int)))∧Af x_1.1 y.2.1→x.1.cv=x.1.cv∧Aa (decide (i.1<y.1)) ((∃(x_2:List UInt8×Int×Int×Int),Af x_2.1 x_2.2.1∧x.1.cv=x.1.cv∧byL x_1.1=byL x_2.1∧y.2.1=x_2.2.1∧y.2.2=x_2.2.2.1∧5=x_2.2.2.2∧∀(y:Bool×Int×Int),Af x_2.1 y.2.1→x.1.cv=x.1.cv∧Aa y.1 ((↑(i.2.2.2.length+(2:Nat)):Int)≤Ag∧eA (stC x i.1 (i.2.2.2.length+(2:Nat))) [.box 0 [AV.bv x.1.cv (cur x_2.1 y.2.1 y.2.2),.str (i.2.2.2++ #[(10:UInt8),10].toList)],.q x.2,.q i.1]) (eA (stC x i.1 (i.2.2.2.length+(2:Nat))) [.box 0 [AV.bv x.1.cv (cur x_2.1 y.2.1 y.2.2),.str i.2.2.2],.q x.2,.q i.1]))∧∀(i_1:Int×Int×List UInt8),i_1.2.2.length≤i.2.2.2.length+(2:Nat)∧Af x.1.b i_1.1→∃(x_2:List UInt8×Int×Int×Int),Af x_2.1 x_2.2.1∧x.1.cv=x.1.cv∧byL x.1.b=byL x_2.1∧i_1.1=x_2.2.1∧i_1.2.1=x_2.2.2.1∧9=x_2.2.2.2∧∀(y:Int×Int×Int),((0<x_2.2.2.2→0≤y.1∧y.1<x_2.2.2.2)∧(x_2.2.2.2≤(0:Int)→y.1=(0:Int)))∧Af x_2.1 y.2.1→x.1.cv=x.1.cv∧Aa (y.1==(0:Int)) (ZL n x i i_1 x_2 y) (Aa (y.1==(1:Int)) (ZL n x i i_1 x_2 y) (Aa (y.1==(2:Int)) (true=true∧((cA Bt [.box 0 [AV.bv x.1.cv (cur x_2.1 y.2.1 y.2.2),.str i_1.2.2]] fun x_3 y=>(i_1.2.2.length+y.1.length:Int)≤Ag∧(↑((i_1.2.2++y.1).length+(3:Nat)):Int)≤Ag∧cA (BP (3:Nat)) [.box 0 [AV.bv x_3.cv (cur x_3.b y.2.1 y.2.2),.str x_3.t],.q 3] fun x_4 y_1=>(↑((i_1.2.2++y.1++ #[(32:UInt8),61,32].toList).length+y_1.1.length):Int)≤Ag∧(↑((i_1.2.2++y.1++ #[(32:UInt8),61,32].toList++y_1.1).length+(2:Nat)):Int)≤Ag∧true=true∧eA (stC x i.1 (i.2.2.2.length+(12900:Nat))) [.box 0 [AV.bv x_4.1.cv (cur x_4.1.b y_1.2.1 y_1.2.2),.str (i_1.2.2++y.1++ #[(32:UInt8),61,32].toList++y_1.1++ #[(59:UInt8),32].toList)],.q x.2,.q i.1])∧cA Bt [.box 0 [AV.bv x.1.cv (cur x_2.1 y.2.1 y.2.2),.str i_1.2.2]] fun x_3 y=>((x_3.t.length+y.1.length:Int)≤Ag∧(↑((x_3.t++y.1).length+(3:Nat)):Int)≤Ag∧cA (BP (3:Nat)) [.box 0 [AV.bv x_3.cv (cur x_3.b y.2.1 y.2.2),.str x_3.t],.q 3] fun x_4 y_1=>(↑((x_3.t++y.1++ #[(32:UInt8),61,32].toList).length+y_1.1.length):Int)≤Ag∧(↑((x_3.t++y.1++ #[(32:UInt8),61,32].toList++y_1.1).length+(2:Nat)):Int)≤Ag∧true=true∧eA (stC x i.1 (i.2.2.2.length+(12900:Nat))) [.box 0 [AV.bv x_4.1.cv (cur x_4.1.b y_1.2.1 y_1.2.2),.str (x_3.t++y.1++ #[(32:UInt8),61,32].toList++y_1.1++ #[(59:UInt8),32].toList)],.q x.2,.q i.1])∧cA (BP (3:Nat)) [.box 0 [AV.bv x_3.cv (cur x_3.b y.2.1 y.2.2),.str x_3.t],.q 3] fun x_4 y_1=>(x_4.1.t.length+y.1.length:Int)≤Ag∧(↑((x_4.1.t++y.1).length+(3:Nat)):Int)≤Ag∧(↑((x_4.1.t++y.1++ #[(32:UInt8),61,32].toList).length+y_1.1.length):Int)≤Ag∧(↑((x_4.1.t++y.1++ #[(32:UInt8),61,32].toList++y_1.1).length+(2:Nat)):Int)≤Ag∧true=true∧eA (stC x i.1 (i.2.2.2.length+(12900:Nat))) [.box 0 [AV.bv x_4.1.cv (cur x_4.1.b y_1.2.1 y_1.2.2),.str (x_4.1.t++y.1++ #[(32:UInt8),61,32].toList++y_1.1++ #[(59:UInt8),32].toList)],.q x.2,.q i.1])∧(OJ n x i)) (Aa (y.1==(3:Int)) (ZM n x i i_1 x_2 y) (Aa (y.1==(4:Int)) (ZM n x i i_1 x_2 y) (Aa (y.1==(5:Int)) (true=true∧(((↑(i_1.2.2.length+(7:Nat)):Int)≤Ag∧cA (BP (3:Nat)) [.box 0 [AV.bv x.1.cv (cur x_2.1 y.2.1 y.2.2),.str i_1.2.2],.q 2] fun x_3 y=>(↑((i_1.2.2++ #[(114:UInt8),101,116,117,114,110,32].toList).length+y.1.length):Int)≤Ag∧(↑((i_1.2.2++ #[(114:UInt8),101,116,117,114,110,32].toList++y.1).length+(2:Nat)):Int)≤Ag∧true=true∧eA (stC x i.1 (i.2.2.2.length+(12900:Nat))) [.box 0 [AV.bv x_3.1.cv (cur x_3.1.b y.2.1 y.2.2),.str (i_1.2.2++ #[(114:UInt8),101,116,117,114,110,32].toList++y.1++ #[(59:UInt8),32].toList)],.q x.2,.q i.1])∧cA (BP (3:Nat)) [.box 0 [AV.bv x.1.cv (cur x_2.1 y.2.1 y.2.2),.str i_1.2.2],.q 2] fun x_3 y=>(↑(x_3.1.t.length+(7:Nat)):Int)≤Ag∧(↑((x_3.1.t++ #[(114:UInt8),101,116,117,114,110,32].toList).length+y.1.length):Int)≤Ag∧(↑((x_3.1.t++ #[(114:UInt8),101,116,117,114,110,32].toList++y.1).length+(2:Nat)):Int)≤Ag∧true=true∧eA (stC x i.1 (i.2.2.2.length+(12900:Nat))) [.box 0 [AV.bv x_3.1.cv (cur x_3.1.b y.2.1 y.2.2),.str (x_3.1.t++ #[(114:UInt8),101,116,117,114,110,32].toList++y.1++ #[(59:UInt8),32].toList)],.q x.2,.q i.1])∧(OJ n x i)) (Aa (y.1==(6:Int)) (true=true∧(((↑(i_1.2.2.length+(3:Nat)):Int)≤Ag∧(Uj x i i_1 x_2 y)∧(Uj x i i_1 x_2 y))∧(((↑(i_1.2.2.length+(3:Nat)):Int)≤Ag∧(Uj x i i_1 x_2 y))∧∃(x_3:List UInt8),#[(115:UInt8),97,105,100].toList=x_3∧∃(x_4:List UInt8),#[].toList=x_4∧∃(x_5:List UInt8),#[(97:UInt8),110,100,32,32,109,111,114,101,32,32].toList=x_5∧(ZO x i i_1 x_2 x_3 x_4 x_5 y))∧∃(x_3:List UInt8),#[(115:UInt8),97,105,100].toList=x_3∧∃(x_4:List UInt8),#[].toList=x_4∧∃(x_5:List UInt8),#[(97:UInt8),110,100,32,32,109,111,114,101,32,32].toList=x_5∧((↑(i_1.2.2.length+(3:Nat)):Int)≤Ag∧(Ui x i i_1 x_2 x_3 x_4 x_5 y))∧(ZO x i i_1 x_2 x_3 x_4 x_5 y))∧(OJ n x i)) (Aa (y.1==(7:Int)) (Aa (decide (x.2>(0:Int))) (true=true∧(((↑(i_1.2.2.length+(4:Nat)):Int)≤Ag∧cA (BP (3:Nat)) [.box 0 [AV.bv x.1.cv (cur x_2.1 y.2.1 y.2.2),.str i_1.2.2],.q 2] fun x_3 y=>(↑((i_1.2.2++ #[(105:UInt8),102,32,40].toList).length+y.1.length):Int)≤Ag∧(↑((i_1.2.2++ #[(105:UInt8),102,32,40].toList++y.1).length+(3:Nat)):Int)≤Ag∧true=true∧eA (stC x i.1 (i.2.2.2.length+(12900:Nat))) [.box 0 [AV.bv x_3.1.cv (cur x_3.1.b y.2.1 y.2.2),.str (i_1.2.2++ #[(105:UInt8),102,32,40].toList++y.1++ #[(41:UInt8),32,123].toList)],.q x.2,.q i.1])∧cA (BP (3:Nat)) [.box 0 [AV.bv x.1.cv (cur x_2.1 y.2.1 y.2.2),.str i_1.2.2],.q 2] fun x_3 y=>(↑(x_3.1.t.length+(4:Nat)):Int)≤Ag∧(↑((x_3.1.t++ #[(105:UInt8),102,32,40].toList).length+y.1.length):Int)≤Ag∧(↑((x_3.1.t++ #[(105:UInt8),102,32,40].toList++y.1).length+(3:Nat)):Int)≤Ag∧true=true∧eA (stC x i.1 (i.2.2.2.length+(12900:Nat))) [.box 0 [AV.bv x_3.1.cv (cur x_3.1.b y.2.1 y.2.2),.str (x_3.1.t++ #[(105:UInt8),102,32,40].toList++y.1++ #[(41:UInt8),32,123].toList)],.q x.2,.q i.1])∧∀(i_2:Int×Int×List UInt8),i_2.2.2.length≤i.2.2.2.length+(12900:Nat)∧Af x.1.b i_2.1→inR .i64 (x.2-(1:Int))∧cA (Jr n) [.box 0 [AV.bv x.1.cv (cur x.1.b i_2.1 i_2.2.1),.str i_2.2.2],.q (x.2-(1:Int))] fun x_3 y=>(↑(y.2.2.length+(2:Nat)):Int)≤Ag∧∃(x_4:List UInt8×Int×Int×Int),Af x_4.1 x_4.2.1∧x_3.1.cv=x_3.1.cv∧byL x_3.1.b=byL x_4.1∧y.1=x_4.2.1∧y.2.1=x_4.2.2.1∧2=x_4.2.2.2∧∀(y_1:Bool×Int×Int),Af x_4.1 y_1.2.1→x_3.1.cv=x_3.1.cv∧Aa y_1.1 ((↑((y.2.2++ #[(125:UInt8),32].toList).length+(6:Nat)):Int)≤Ag∧inR .i64 (x.2-(1:Int))∧cA (Jr n) [.box 0 [AV.bv x_3.1.cv (cur x_4.1 y_1.2.1 y_1.2.2),.str (y.2.2++ #[(125:UInt8),32].toList++ #[(101:UInt8),108,115,101,32,123].toList)],.q (x.2-(1:Int))] fun x_5 y=>(↑(y.2.2.length+(2:Nat)):Int)≤Ag∧inR .i64 (i.1+(1:Int))∧eN (stL ((2:Nat)*sB n+(13000:Nat)) x) i [.box 0 [AV.bv x_5.1.cv (cur x_5.1.b y.1 y.2.1),.str (y.2.2++ #[(125:UInt8),32].toList)],.q x.2,.q (i.1+(1:Int))]) (inR .i64 (i.1+(1:Int))∧eN (stL ((2:Nat)*sB n+(13000:Nat)) x) i [.box 0 [AV.bv x_3.1.cv (cur x_4.1 y_1.2.1 y_1.2.2),.str (y.2.2++ #[(125:UInt8),32].toList)],.q x.2,.q (i.1+(1:Int))])) (inR .i64 (i.1+(1:Int))∧(eN (stL ((2:Nat)*sB n+(13000:Nat)) x) i [.box 0 [AV.bv x.1.cv (cur x_2.1 y.2.1 y.2.2),.str i_1.2.2],.q x.2,.q (i.1+(1:Int))]))) (Aa (decide (x.2>(0:Int))) (true=true∧(((↑(i_1.2.2.length+(7:Nat)):Int)≤Ag∧cA (BP (3:Nat)) [.box 0 [AV.bv x.1.cv (cur x_2.1 y.2.1 y.2.2),.str i_1.2.2],.q 1] fun x_3 y=>(↑((i_1.2.2++ #[(119:UInt8),104,105,108,101,32,40].toList).length+y.1.length):Int)≤Ag∧(↑((i_1.2.2++ #[(119:UInt8),104,105,108,101,32,40].toList++y.1).length+(3:Nat)):Int)≤Ag∧true=true∧eA (stC x i.1 (i.2.2.2.length+(12900:Nat))) [.box 0 [AV.bv x_3.1.cv (cur x_3.1.b y.2.1 y.2.2),.str (i_1.2.2++ #[(119:UInt8),104,105,108,101,32,40].toList++y.1++ #[(41:UInt8),32,123].toList)],.q x.2,.q i.1])∧cA (BP (3:Nat)) [.box 0 [AV.bv x.1.cv (cur x_2.1 y.2.1 y.2.2),.str i_1.2.2],.q 1] fun x_3 y=>(↑(x_3.1.t.length+(7:Nat)):Int)≤Ag∧(↑((x_3.1.t++ #[(119:UInt8),104,105,108,101,32,40].toList).length+y.1.length):Int)≤Ag∧(↑((x_3.1.t++ #[(119:UInt8),104,105,108,101,32,40].toList++y.1).length+(3:Nat)):Int)≤Ag∧true=true∧eA (stC x i.1 (i.2.2.2.length+(12900:Nat))) [.box 0 [AV.bv x_3.1.cv (cur x_3.1.b y.2.1 y.2.2),.str (x_3.1.t++ #[(119:UInt8),104,105,108,101,32,40].toList++y.1++ #[(41:UInt8),32,123].toList)],.q x.2,.q i.1])∧∀(i_2:Int×Int×List UInt8),i_2.2.2.length≤i.2.2.2.length+(12900:Nat)∧Af x.1.b i_2.1→inR .i64 (x.2-(1:Int))∧cA (Jr n) [.box 0 [AV.bv x.1.cv (cur x.1.b i_2.1 i_2.2.1),.str i_2.2.2],.q (x.2-(1:Int))] fun x_3 y=>(↑(y.2.2.length+(2:Nat)):Int)≤Ag∧inR .i64 (i.1+(1:Int))∧eN (stL ((2:Nat)*sB n+(13000:Nat)) x) i [.box 0 [AV.bv x_3.1.cv (cur x_3.1.b y.1 y.2.1),.str (y.2.2++ #[(125:UInt8),32].toList)],.q x.2,.q (i.1+(1:Int))]) (inR .i64 (i.1+(1:Int))∧(eN (stL ((2:Nat)*sB n+(13000:Nat)) x) i [.box 0 [AV.bv x.1.cv (cur x_2.1 y.2.1 y.2.2),.str i_1.2.2],.q x.2,.q (i.1+(1:Int))]))))))))))) (rA (ZK n) x [.tup [],.box 0 [AV.bv x.1.cv (cur x_1.1 y.2.1 y.2.2),.str i.2.2.2],.top])) (fun x=>by kernel_rfl) fun(x:Md×Int) (hx:(mdP x.1∧n+1≤2)∧(x.2≤(n+1:Nat)∧ -5≤x.2)∧x.1.t.length+(n+1)*2^25≤2^27)=>(by
 dsimp only[Uj,ZO,Ui,ZN,ZM,ZL,OJ,DM,byL,cA,cur,eA,eN,mad,Es,rA,Bt,Jr,ZK,BP,stC,stL,As,Az,mvL,lnL,mvE,lnE,Bl,Ag,AV.q]
 obtain⟨⟨cv,b,i,h,t⟩,d⟩:=x;dsimp only at hx ⊢
 obtain⟨⟨hx,hn⟩,⟨hd,hd2⟩,ht⟩:=hx
 have hx:Af b i:=hx
 have hv3:vB 3=12800:=rfl
 have hs0:=b2b n;have hs1:=b2a n (by omega)
 (repeat' first|(apply NX<;>try dsimp only)|(apply NW<;>try dsimp only)|(with_reducible first|rfl|exact True.intro|apply AK|apply And.intro|((first|apply AA|apply AI|apply AB|apply AJ)<;>intro _))|(apply Av<;>intro _)|apply AH|refine Ae () ?_ ?_|((first|apply AO|apply AN|apply AM|apply AL|apply AG|apply AF|apply AE|apply AD|apply AC)<;>try dsimp only)|apply Ae|(refine Prod.forall.2 ?_;intro _;try dsimp only)|(intro _;try dsimp only))
 all_goals(repeat(rename _∈_∧Af _ _=>hq;obtain⟨hq1,_⟩:=hq;have hq2:=JK (n:=20) hq1 (by decide);clear hq1))
 all_goals(try(have hb:=a6H (And.left ‹ssB _ _ _ _∧_›)))
 all_goals first
  |rfl
  |exact hx
  |(show Af _ _;exact hx)
  |omega
  |exact a6G (Nat.le_refl _)
  |exact And.right ‹_∧Af _ _›
  |(show Af _ _;exact And.right ‹_∧Af _ _›)
  |(rename _=[]=>hq;cases hq;done)
  |skip
 all_goals(repeat(rename _∧Af _ _=>hq;obtain⟨_,_⟩:=hq))
 all_goals first
  |(with_reducible assumption)
  |(show Af _ _;with_reducible assumption)
  |((try simp only[An,List.length_append,List.length_cons,List.length_nil]);omega)
  |(refine Uf ‹_› (by omega) ?_;(try simp only[List.length_append,List.length_cons,List.length_nil]);omega)
  |((try simp only[An,List.length_append,List.length_cons,List.length_nil] at*);omega)
  |(refine Uf ‹_› (by omega) ?_;(try simp only[List.length_append,List.length_cons,List.length_nil] at*);omega)
  |skip)
theorem a6I:∀n,Ai G Go.Proofs.Tryz.prog 139 (Jr n)
 |0=>c0y
 |n+1=>c0z n (a6I n)
end Go.My
end
section
namespace Go.My
open Go.Eng Go.Proofs
variable {G:GInv}
variable {l t:Nat}
def meC(x:Md)(T:Nat):LS:= {
 ι:=Int×Int×List UInt8,inv:=fun j=>j.2.2.length≤T∧Af x.b j.1,regs:=fun j=>[(0,Es x j.1 j.2.1 j.2.2)],als:=[],meas:=fun _=>0}
def HY:Sig:= {X:=Md,args:=fun x=>[mad x],pre:=fun x=>mdP x∧x.t.length≤2^24,Y:=Int×Int×List UInt8,post:=fun x y=>y.2.2.length≤x.t.length+1911100∧Af x.b y.1,res:=fun x y=> .tup [],outs:=fun x y=>[Es x y.1 y.2.1 y.2.2],keep:=true}
def QV(x:Md)(x_5:Bt.X)(x_6:List UInt8×Int×Int×List (List UInt8))(y:Bt.Y)(y_1:List UInt8×Int×Int):Prop:=(↑((x_5.t++y.1++ #[(40:UInt8)].toList).length+y_1.1.length):Int)≤Ag∧((↑((x_5.t++y.1++ #[(40:UInt8)].toList++y_1.1).length+(4:Nat)):Int)≤Ag∧(true=true∧(eA (meC x (x.t.length+(60:Nat))) [.box 0 [AV.bv x_5.cv (cur x_6.1 y_1.2.1 y_1.2.2),.str (x_5.t++y.1++ #[(40:UInt8)].toList++y_1.1++ #[(41:UInt8),32,123,32].toList)]])))
def QW(x:Md)(x_2:Bt.X)(x_6:List UInt8×Int×Int×List (List UInt8))(y:Bt.Y)(y_1:List UInt8×Int×Int):Prop:=(↑((x_2.t++y.1++ #[(40:UInt8)].toList).length+y_1.1.length):Int)≤Ag∧((↑((x_2.t++y.1++ #[(40:UInt8)].toList++y_1.1).length+(4:Nat)):Int)≤Ag∧(true=true∧(eA (meC x (x.t.length+(60:Nat))) [.box 0 [AV.bv x_2.cv (cur x_6.1 y_1.2.1 y_1.2.2),.str (x_2.t++y.1++ #[(40:UInt8)].toList++y_1.1++ #[(41:UInt8),32,123,32].toList)]])))
def Uk(x:Md)(x_2:Bt.X)(x_3:List UInt8)(x_4:List UInt8)(x_5:List UInt8)(y:Bt.Y):Prop:=∃(x_6:List UInt8×Int×Int×List (List UInt8)),(Af x_6.1 x_6.2.1∧x_6.2.2.2≠[]∧x_6.2.2.2.length<(1073741824:Nat))∧x_2.cv=x_2.cv∧byL x_2.b=byL x_6.1∧y.2.1=x_6.2.1∧y.2.2=x_6.2.2.1∧AV.sl false 0 1 (List UInt8) (fun(x:List UInt8)=>fzL (Be x)) [x_3,x_4,x_5]=AV.sl false 0 1 (List UInt8) Be x_6.2.2.2∧(∀(y_1:List UInt8×Int×Int),y_1.1∈x_6.2.2.2∧Af x_6.1 y_1.2.1→x_2.cv=x_2.cv∧(QW x x_2 x_6 y y_1))
def ZP(x:Md)(x_2:Bt.X)(x_3:List UInt8)(x_4:List UInt8)(x_5:List UInt8)(y:Bt.Y):Prop:=((x_2.t.length+y.1.length:Int)≤Ag∧((↑((x_2.t++y.1).length+(1:Nat)):Int)≤Ag∧(Uk x x_2 x_3 x_4 x_5 y)))∧(∃(x_6:List UInt8×Int×Int×List (List UInt8)),(Af x_6.1 x_6.2.1∧x_6.2.2.2≠[]∧x_6.2.2.2.length<(1073741824:Nat))∧x_2.cv=x_2.cv∧byL x_2.b=byL x_6.1∧y.2.1=x_6.2.1∧y.2.2=x_6.2.2.1∧AV.sl false 0 1 (List UInt8) (fun(x:List UInt8)=>fzL (Be x)) [x_3,x_4,x_5]=AV.sl false 0 1 (List UInt8) Be x_6.2.2.2∧(∀(y_1:List UInt8×Int×Int),y_1.1∈x_6.2.2.2∧Af x_6.1 y_1.2.1→x_2.cv=x_2.cv∧((x_2.t.length+y.1.length:Int)≤Ag∧((↑((x_2.t++y.1).length+(1:Nat)):Int)≤Ag∧(QW x x_2 x_6 y y_1)))))
def ZQ(x:Md)(x_2:List UInt8)(x_3:List UInt8)(x_4:List UInt8)(x_5:Bt.X)(y:Bt.Y):Prop:=(x_5.t.length+y.1.length:Int)≤Ag∧((↑((x_5.t++y.1).length+(1:Nat)):Int)≤Ag∧(∃(x_6:List UInt8×Int×Int×List (List UInt8)),(Af x_6.1 x_6.2.1∧x_6.2.2.2≠[]∧x_6.2.2.2.length<(1073741824:Nat))∧x_5.cv=x_5.cv∧byL x_5.b=byL x_6.1∧y.2.1=x_6.2.1∧y.2.2=x_6.2.2.1∧AV.sl false 0 1 (List UInt8) (fun(x:List UInt8)=>fzL (Be x)) [x_2,x_3,x_4]=AV.sl false 0 1 (List UInt8) Be x_6.2.2.2∧(∀(y_1:List UInt8×Int×Int),y_1.1∈x_6.2.2.2∧Af x_6.1 y_1.2.1→x_5.cv=x_5.cv∧(QV x x_5 x_6 y y_1))))
def ZR(x:Md)(x_2:Bt.X)(x_3:List UInt8)(x_4:List UInt8)(x_5:List UInt8)(y:Bt.Y):Prop:=∃(x_6:List UInt8×Int×Int×List (List UInt8)),(Af x_6.1 x_6.2.1∧x_6.2.2.2≠[]∧x_6.2.2.2.length<(1073741824:Nat))∧x_2.cv=x.cv∧byL x_2.b=byL x_6.1∧y.2.1=x_6.2.1∧y.2.2=x_6.2.2.1∧AV.sl false 0 1 (List UInt8) (fun(x:List UInt8)=>fzL (Be x)) [x_3,x_4,x_5]=AV.sl false 0 1 (List UInt8) Be x_6.2.2.2∧(∀(y_1:List UInt8×Int×Int),y_1.1∈x_6.2.2.2∧Af x_6.1 y_1.2.1→x_2.cv=x.cv∧(QW x x_2 x_6 y y_1))
def ZS(x:Md)(x_5:Bt.X)(x_6:List UInt8×Int×Int×List (List UInt8))(y:Bt.Y)(y_1:List UInt8×Int×Int):Prop:=(↑((x.t++y.1++ #[(40:UInt8)].toList).length+y_1.1.length):Int)≤Ag∧((↑((x.t++y.1++ #[(40:UInt8)].toList++y_1.1).length+(4:Nat)):Int)≤Ag∧(true=true∧(eA (meC x (x.t.length+(60:Nat))) [.box 0 [AV.bv x_5.cv (cur x_6.1 y_1.2.1 y_1.2.2),.str (x.t++y.1++ #[(40:UInt8)].toList++y_1.1++ #[(41:UInt8),32,123,32].toList)]])))
def Ul(x:Md)(x_1:List UInt8×Int×Int×Int)(x_2:List UInt8)(x_3:List UInt8)(x_4:List UInt8)(y:Int×Int×Int):Prop:=cA Bt [.box 0 [AV.bv x.cv (cur x_1.1 y.2.1 y.2.2),.str x.t]] fun x_5 y=>(x.t.length+y.1.length:Int)≤Ag∧((↑((x.t++y.1).length+(1:Nat)):Int)≤Ag∧(∃(x_6:List UInt8×Int×Int×List (List UInt8)),(Af x_6.1 x_6.2.1∧x_6.2.2.2≠[]∧x_6.2.2.2.length<(1073741824:Nat))∧x_5.cv=x.cv∧byL x_5.b=byL x_6.1∧y.2.1=x_6.2.1∧y.2.2=x_6.2.2.1∧AV.sl false 0 1 (List UInt8) (fun(x:List UInt8)=>fzL (Be x)) [x_2,x_3,x_4]=AV.sl false 0 1 (List UInt8) Be x_6.2.2.2∧(∀(y_1:List UInt8×Int×Int),y_1.1∈x_6.2.2.2∧Af x_6.1 y_1.2.1→x_5.cv=x.cv∧(ZS x x_5 x_6 y y_1))))
def ZT(x:Md)(x_1:List UInt8×Int×Int×Int)(x_2:List UInt8)(x_3:List UInt8)(x_4:List UInt8)(y:Int×Int×Int):Prop:=(Ul x x_1 x_2 x_3 x_4 y)∧(cA Bt [.box 0 [AV.bv x.cv (cur x_1.1 y.2.1 y.2.2),.str x.t]] fun x_5 y=>((x_5.t.length+y.1.length:Int)≤Ag∧((↑((x_5.t++y.1).length+(1:Nat)):Int)≤Ag∧(∃(x_6:List UInt8×Int×Int×List (List UInt8)),(Af x_6.1 x_6.2.1∧x_6.2.2.2≠[]∧x_6.2.2.2.length<(1073741824:Nat))∧x_5.cv=x.cv∧byL x_5.b=byL x_6.1∧y.2.1=x_6.2.1∧y.2.2=x_6.2.2.1∧AV.sl false 0 1 (List UInt8) (fun(x:List UInt8)=>fzL (Be x)) [x_2,x_3,x_4]=AV.sl false 0 1 (List UInt8) Be x_6.2.2.2∧(∀(y_1:List UInt8×Int×Int),y_1.1∈x_6.2.2.2∧Af x_6.1 y_1.2.1→x_5.cv=x.cv∧(QV x x_5 x_6 y y_1)))))∧(∃(x_6:List UInt8×Int×Int×List (List UInt8)),(Af x_6.1 x_6.2.1∧x_6.2.2.2≠[]∧x_6.2.2.2.length<(1073741824:Nat))∧x_5.cv=x.cv∧byL x_5.b=byL x_6.1∧y.2.1=x_6.2.1∧y.2.2=x_6.2.2.1∧AV.sl false 0 1 (List UInt8) (fun(x:List UInt8)=>fzL (Be x)) [x_2,x_3,x_4]=AV.sl false 0 1 (List UInt8) Be x_6.2.2.2∧(∀(y_1:List UInt8×Int×Int),y_1.1∈x_6.2.2.2∧Af x_6.1 y_1.2.1→x_5.cv=x.cv∧((x_5.t.length+y.1.length:Int)≤Ag∧((↑((x_5.t++y.1).length+(1:Nat)):Int)≤Ag∧(QV x x_5 x_6 y y_1))))))
def ZU(x:Md)(x_1:List UInt8×Int×Int×Int)(x_2:List UInt8)(x_3:List UInt8)(x_4:List UInt8)(y:Int×Int×Int):Prop:=(cA Bt [.box 0 [AV.bv x.cv (cur x_1.1 y.2.1 y.2.2),.str x.t]] fun x_5 y=>(x.t.length+y.1.length:Int)≤Ag∧((↑((x.t++y.1).length+(1:Nat)):Int)≤Ag∧(∃(x_6:List UInt8×Int×Int×List (List UInt8)),(Af x_6.1 x_6.2.1∧x_6.2.2.2≠[]∧x_6.2.2.2.length<(1073741824:Nat))∧x_5.cv=x_5.cv∧byL x_5.b=byL x_6.1∧y.2.1=x_6.2.1∧y.2.2=x_6.2.2.1∧AV.sl false 0 1 (List UInt8) (fun(x:List UInt8)=>fzL (Be x)) [x_2,x_3,x_4]=AV.sl false 0 1 (List UInt8) Be x_6.2.2.2∧(∀(y_1:List UInt8×Int×Int),y_1.1∈x_6.2.2.2∧Af x_6.1 y_1.2.1→x_5.cv=x_5.cv∧(ZS x x_5 x_6 y y_1)))))∧(Ul x x_1 x_2 x_3 x_4 y)
def ZV(x:Md)(x_2:Bt.X)(x_6:List UInt8×Int×Int×List (List UInt8))(y:Bt.Y)(y_1:List UInt8×Int×Int):Prop:=(↑((x.t++y.1++ #[(40:UInt8)].toList).length+y_1.1.length):Int)≤Ag∧((↑((x.t++y.1++ #[(40:UInt8)].toList++y_1.1).length+(4:Nat)):Int)≤Ag∧(true=true∧(eA (meC x (x.t.length+(60:Nat))) [.box 0 [AV.bv x_2.cv (cur x_6.1 y_1.2.1 y_1.2.2),.str (x.t++y.1++ #[(40:UInt8)].toList++y_1.1++ #[(41:UInt8),32,123,32].toList)]])))
def ZW(x:Md)(x_1:List UInt8×Int×Int×Int)(y:Int×Int×Int):Prop:=(cA Bt [.box 0 [AV.bv x.cv (cur x_1.1 y.2.1 y.2.2),.str x.t]] fun x_2 y=>(x.t.length+y.1.length:Int)≤Ag∧((↑((x.t++y.1).length+(1:Nat)):Int)≤Ag∧(∃(x_3:List UInt8),#[].toList=x_3∧(∃(x_4:List UInt8),#[(97:UInt8)].toList=x_4∧(∃(x_5:List UInt8),#[(97:UInt8),44,32,98,44].toList=x_5∧(∃(x_6:List UInt8×Int×Int×List (List UInt8)),(Af x_6.1 x_6.2.1∧x_6.2.2.2≠[]∧x_6.2.2.2.length<(1073741824:Nat))∧x_2.cv=x.cv∧byL x_2.b=byL x_6.1∧y.2.1=x_6.2.1∧y.2.2=x_6.2.2.1∧AV.sl false 0 1 (List UInt8) (fun(x:List UInt8)=>fzL (Be x)) [x_3,x_4,x_5]=AV.sl false 0 1 (List UInt8) Be x_6.2.2.2∧(∀(y_1:List UInt8×Int×Int),y_1.1∈x_6.2.2.2∧Af x_6.1 y_1.2.1→x_2.cv=x.cv∧(ZV x x_2 x_6 y y_1))))))))∧(∃(x_2:List UInt8),#[].toList=x_2∧(∃(x_3:List UInt8),#[(97:UInt8)].toList=x_3∧(∃(x_4:List UInt8),#[(97:UInt8),44,32,98,44].toList=x_4∧(Ul x x_1 x_2 x_3 x_4 y))))
def ZX(x:Md)(x_2:Bt.X)(y:Bt.Y):Prop:=∃(x_3:List UInt8),#[].toList=x_3∧(∃(x_4:List UInt8),#[(97:UInt8)].toList=x_4∧(∃(x_5:List UInt8),#[(97:UInt8),44,32,98,44].toList=x_5∧(∃(x_6:List UInt8×Int×Int×List (List UInt8)),(Af x_6.1 x_6.2.1∧x_6.2.2.2≠[]∧x_6.2.2.2.length<(1073741824:Nat))∧x_2.cv=x_2.cv∧byL x_2.b=byL x_6.1∧y.2.1=x_6.2.1∧y.2.2=x_6.2.2.1∧AV.sl false 0 1 (List UInt8) (fun(x:List UInt8)=>fzL (Be x)) [x_3,x_4,x_5]=AV.sl false 0 1 (List UInt8) Be x_6.2.2.2∧(∀(y_1:List UInt8×Int×Int),y_1.1∈x_6.2.2.2∧Af x_6.1 y_1.2.1→x_2.cv=x_2.cv∧(ZV x x_2 x_6 y y_1)))))
def Um(x:Md)(x_2:Bt.X)(y:Bt.Y):Prop:=∃(x_3:List UInt8),#[].toList=x_3∧(∃(x_4:List UInt8),#[(97:UInt8)].toList=x_4∧(∃(x_5:List UInt8),#[(97:UInt8),44,32,98,44].toList=x_5∧(Uk x x_2 x_3 x_4 x_5 y)))
theorem c0A:Ai G Tryz.prog 109 HY:=
 vcFun_okP [(75,0,Ec),(138,0,Bt),(40,0,Jh),(139,0,(Jr 2))] [(42,⟨List UInt8,Be⟩)] false (fun x=>[(100005,meC x (x.t.length+60)),(100001,meC x (x.t.length+60))]) Tryz.func109 rfl (by decide) ⟨HK,Qk,LY,(a6I 2),trivial⟩ (fun(x:Md)=>True∧∃(x_1:List UInt8×Int×Int×Int),Af x_1.1 x_1.2.1∧x.cv=x.cv∧byL x.b=byL x_1.1∧x.i=x_1.2.1∧x.h=x_1.2.2.1∧5=x_1.2.2.2∧∀(y:Int×Int×Int),((0<x_1.2.2.2→0≤y.1∧y.1<x_1.2.2.2)∧(x_1.2.2.2≤(0:Int)→y.1=(0:Int)))∧Af x_1.1 y.2.1→x.cv=x.cv∧Aa (y.1==(0:Int)) (true=true∧(((↑(x.t.length+(4:Nat)):Int)≤Ag∧cA Bt [.box 0 [AV.bv x.cv (cur x_1.1 y.2.1 y.2.2),.str x.t]] fun x_2 y=>(↑((x.t++ #[(118:UInt8),97,114,32].toList).length+y.1.length):Int)≤Ag∧(↑((x.t++ #[(118:UInt8),97,114,32].toList++y.1).length+(2:Nat)):Int)≤Ag∧true=true∧eA (meC x (x.t.length+(60:Nat))) [.box 0 [AV.bv x_2.cv (cur x_2.b y.2.1 y.2.2),.str (x.t++ #[(118:UInt8),97,114,32].toList++y.1++ #[(59:UInt8),32].toList)]])∧cA Bt [.box 0 [AV.bv x.cv (cur x_1.1 y.2.1 y.2.2),.str x.t]] fun x_2 y=>(↑(x_2.t.length+(4:Nat)):Int)≤Ag∧(↑((x_2.t++ #[(118:UInt8),97,114,32].toList).length+y.1.length):Int)≤Ag∧(↑((x_2.t++ #[(118:UInt8),97,114,32].toList++y.1).length+(2:Nat)):Int)≤Ag∧true=true∧eA (meC x (x.t.length+(60:Nat))) [.box 0 [AV.bv x_2.cv (cur x_2.b y.2.1 y.2.2),.str (x_2.t++ #[(118:UInt8),97,114,32].toList++y.1++ #[(59:UInt8),32].toList)]])∧∀(i:Int×Int×List UInt8),i.2.2.length≤x.t.length+(60:Nat)∧Af x.b i.1→rA HY x [.tup [],.box 0 [AV.bv x.cv (cur x.b i.1 i.2.1),.str i.2.2]]) (Aa (y.1==(1:Int)) ((↑(x.t.length+(10:Nat)):Int)≤Ag∧rA HY x [.tup [],.box 0 [AV.bv x.cv (cur x_1.1 y.2.1 y.2.2),.str (x.t++ #[(47:UInt8),47,32,97,32,110,111,116,101,10].toList)]]) (true=true∧(((cA Bt [.box 0 [AV.bv x.cv (cur x_1.1 y.2.1 y.2.2),.str x.t]] fun x_2 y=>(x.t.length+y.1.length:Int)≤Ag∧(↑((x.t++y.1).length+(1:Nat)):Int)≤Ag∧(ZX x x_2 y)∧(ZX x x_2 y))∧(ZW x x_1 y)∧∃(x_2:List UInt8),#[].toList=x_2∧∃(x_3:List UInt8),#[(97:UInt8)].toList=x_3∧∃(x_4:List UInt8),#[(97:UInt8),44,32,98,44].toList=x_4∧(ZU x x_1 x_2 x_3 x_4 y))∧(cA Bt [.box 0 [AV.bv x.cv (cur x_1.1 y.2.1 y.2.2),.str x.t]] fun x_2 y=>((x_2.t.length+y.1.length:Int)≤Ag∧(↑((x_2.t++y.1).length+(1:Nat)):Int)≤Ag∧(Um x x_2 y)∧(Um x x_2 y))∧(((x_2.t.length+y.1.length:Int)≤Ag∧(↑((x_2.t++y.1).length+(1:Nat)):Int)≤Ag∧(Um x x_2 y))∧∃(x_3:List UInt8),#[].toList=x_3∧∃(x_4:List UInt8),#[(97:UInt8)].toList=x_4∧∃(x_5:List UInt8),#[(97:UInt8),44,32,98,44].toList=x_5∧(ZP x x_2 x_3 x_4 x_5 y))∧∃(x_3:List UInt8),#[].toList=x_3∧∃(x_4:List UInt8),#[(97:UInt8)].toList=x_4∧∃(x_5:List UInt8),#[(97:UInt8),44,32,98,44].toList=x_5∧((x_2.t.length+y.1.length:Int)≤Ag∧((↑((x_2.t++y.1).length+(1:Nat)):Int)≤Ag∧(Uk x x_2 x_3 x_4 x_5 y)))∧(ZP x x_2 x_3 x_4 x_5 y))∧((ZW x x_1 y)∧(cA Bt [.box 0 [AV.bv x.cv (cur x_1.1 y.2.1 y.2.2),.str x.t]] fun x_2 y=>((x_2.t.length+y.1.length:Int)≤Ag∧(↑((x_2.t++y.1).length+(1:Nat)):Int)≤Ag∧∃(x_3:List UInt8),#[].toList=x_3∧∃(x_4:List UInt8),#[(97:UInt8)].toList=x_4∧∃(x_5:List UInt8),#[(97:UInt8),44,32,98,44].toList=x_5∧(ZR x x_2 x_3 x_4 x_5 y))∧∃(x_3:List UInt8),#[].toList=x_3∧∃(x_4:List UInt8),#[(97:UInt8)].toList=x_4∧∃(x_5:List UInt8),#[(97:UInt8),44,32,98,44].toList=x_5∧((x_2.t.length+y.1.length:Int)≤Ag∧(↑((x_2.t++y.1).length+(1:Nat)):Int)≤Ag∧(ZR x x_2 x_3 x_4 x_5 y))∧∃(x_6:List UInt8×Int×Int×List (List UInt8)),(Af x_6.1 x_6.2.1∧x_6.2.2.2≠[]∧x_6.2.2.2.length<(1073741824:Nat))∧x_2.cv=x.cv∧byL x_2.b=byL x_6.1∧y.2.1=x_6.2.1∧y.2.2=x_6.2.2.1∧AV.sl false 0 1 (List UInt8) (fun(x:List UInt8)=>fzL (Be x)) [x_3,x_4,x_5]=AV.sl false 0 1 (List UInt8) Be x_6.2.2.2∧∀(y_1:List UInt8×Int×Int),y_1.1∈x_6.2.2.2∧Af x_6.1 y_1.2.1→x_2.cv=x.cv∧((x_2.t.length+y.1.length:Int)≤Ag∧((↑((x_2.t++y.1).length+(1:Nat)):Int)≤Ag∧(QW x x_2 x_6 y y_1))))∧∃(x_2:List UInt8),#[].toList=x_2∧∃(x_3:List UInt8),#[(97:UInt8)].toList=x_3∧∃(x_4:List UInt8),#[(97:UInt8),44,32,98,44].toList=x_4∧(ZT x x_1 x_2 x_3 x_4 y))∧∃(x_2:List UInt8),#[].toList=x_2∧∃(x_3:List UInt8),#[(97:UInt8)].toList=x_3∧∃(x_4:List UInt8),#[(97:UInt8),44,32,98,44].toList=x_4∧(ZU x x_1 x_2 x_3 x_4 y)∧(cA Bt [.box 0 [AV.bv x.cv (cur x_1.1 y.2.1 y.2.2),.str x.t]] fun x_5 y=>(ZQ x x_2 x_3 x_4 x_5 y)∧(ZQ x x_2 x_3 x_4 x_5 y)∧∃(x_6:List UInt8×Int×Int×List (List UInt8)),(Af x_6.1 x_6.2.1∧x_6.2.2.2≠[]∧x_6.2.2.2.length<(1073741824:Nat))∧x_5.cv=x_5.cv∧byL x_5.b=byL x_6.1∧y.2.1=x_6.2.1∧y.2.2=x_6.2.2.1∧AV.sl false 0 1 (List UInt8) (fun(x:List UInt8)=>fzL (Be x)) [x_2,x_3,x_4]=AV.sl false 0 1 (List UInt8) Be x_6.2.2.2∧∀(y_1:List UInt8×Int×Int),y_1.1∈x_6.2.2.2∧Af x_6.1 y_1.2.1→x_5.cv=x_5.cv∧((x_5.t.length+y.1.length:Int)≤Ag∧((↑((x_5.t++y.1).length+(1:Nat)):Int)≤Ag∧(QV x x_5 x_6 y y_1))))∧(ZT x x_1 x_2 x_3 x_4 y))∧∀(i:Int×Int×List UInt8),i.2.2.length≤x.t.length+(60:Nat)∧Af x.b i.1→cA (Jr (2:Nat)) [.box 0 [AV.bv x.cv (cur x.b i.1 i.2.1),.str i.2.2],.q 2] fun x_2 y=>(↑(y.2.2.length+(2:Nat)):Int)≤Ag∧rA HY x [.tup [],.box 0 [AV.bv x_2.1.cv (cur x_2.1.b y.1 y.2.1),.str (y.2.2++ #[(125:UInt8),10].toList)]]))) (fun x=>by kernel_rfl) fun(x:Md) (hx:mdP x∧x.t.length≤2^24)=>(by
 dsimp only[Um,ZX,ZW,ZV,ZU,ZT,Ul,ZS,ZR,ZQ,ZP,Uk,QW,QV,DM,byL,cA,cur,eA,mad,Es,meC,rA,HY,Bt,Jr,As,Az,mvL,lnL,mvE,lnE,Bl,Ag,AV.q]
 obtain⟨cv,b,i,h,t⟩:=x;dsimp only at hx ⊢
 obtain⟨hx,ht⟩:=hx
 have hx:Af b i:=hx
 have hs2:sB 2=1911000:=rfl
 (repeat' first|(apply NX<;>try dsimp only)|(apply NW<;>try dsimp only)|(with_reducible first|rfl|exact True.intro|apply AK|apply And.intro|((first|apply AA|apply AI|apply AB|apply AJ)<;>intro _))|(apply Av<;>intro _)|apply AH|refine Ae () ?_ ?_|((first|apply AO|apply AN|apply AM|apply AL|apply AG|apply AF|apply AE|apply AD|apply AC)<;>try dsimp only)|apply Ae|(refine Prod.forall.2 ?_;intro _;try dsimp only)|(intro _;try dsimp only))
 all_goals(repeat(rename _∈_∧Af _ _=>hq;obtain⟨hq1,_⟩:=hq;have hq2:=JK (n:=20) hq1 (by decide);clear hq1))
 all_goals first
  |rfl
  |exact hx
  |(show Af _ _;exact hx)
  |omega
  |exact And.right ‹_∧Af _ _›
  |(show Af _ _;exact And.right ‹_∧Af _ _›)
  |(rename _=[]=>hq;cases hq;done)
  |skip
 all_goals(repeat(rename _∧Af _ _=>hq;obtain⟨_,_⟩:=hq))
 all_goals first
  |(with_reducible assumption)
  |(show Af _ _;with_reducible assumption)
  |((try simp only[An,List.length_append,List.length_cons,List.length_nil]);omega)
  |skip)
def txB(t:Nat)(i:Int)(l:Nat):Prop:=(i=0∧l≤t)∨(i=1∧l≤t+1912000)∨(i=2∧l≤t+3824000)
theorem a6J(h:l≤t):txB t 0 l:= .inl ⟨rfl,h⟩
theorem c0B{i:Int}(h:txB t i l):(0≤i∧i≤2)∧l≤t+3824000:=by unfold txB at h;omega
theorem a6K{i:Int}{m:Nat}(h:txB t i l)(hi:i<2)(hm:m≤l+1912000):txB t (i+1) m:=by unfold txB at h ⊢;omega
attribute [local irreducible] txB
def txL(k:Nat)(t:Nat)(x:Value×List UInt8×Int×Int):LS:= {
 ι:=Int×Int×Int×List UInt8,inv:=fun i=>txB t i.1 i.2.2.2.length∧Af x.2.1 i.2.1,regs:=fun i=>[(0,.val x.1),(3,.box 0 [.bv x.1 (cur x.2.1 i.2.1 i.2.2.1),.str i.2.2.2]),(k,.int .i64 i.1)],als:=[],meas:=fun i=>3-i.1.toNat}
def a6L:Sig:= {X:=Value×List UInt8×Int×Int,args:=fun x=>[.bv x.1 (cur x.2.1 x.2.2.1 x.2.2.2)],pre:=fun x=>Af x.2.1 x.2.2.1,Y:=List UInt8×Int×Int,post:=fun x y=>y.1.length≤2^24∧Af x.2.1 y.2.1,res:=fun x y=> .str y.1,outs:=fun x y=>[.bv x.1 (cur x.2.1 y.2.1 y.2.2)],keep:=true}
theorem c0C:Ai G Tryz.prog 73 a6L:=
 vcFun_okP [(74,0,KM),(75,0,Ec),(109,0,HY)] [] false (fun x=>[(5,txL 4 20 x),(10,txL 5 4000000 x)]) Tryz.func73 rfl (by decide) ⟨Qj,HK,c0A,trivial⟩ (fun(x:Value×List UInt8×Int×Int)=>True∧∃(x_1:List UInt8×Int×Int×Int),Af x_1.1 x_1.2.1∧x.1=x.1∧byL x.2.1=byL x_1.1∧x.2.2.1=x_1.2.1∧x.2.2.2=x_1.2.2.1∧2=x_1.2.2.2∧∀(y:Bool×Int×Int),Af x_1.1 y.2.1→x.1=x.1∧Aa y.1 ((∃(i:Int×Int×Int×List UInt8),(txB (20:Nat) i.1 (i.2.2.2.length)∧Af x.2.1 i.2.1)∧(x.1=x.1∧(x.1=x.1∧x.1=x.1)∧byL x_1.1=byL x.2.1∧y.2.1=i.2.1∧y.2.2=i.2.2.1∧ #[(99:UInt8),108,97,115,115,32,66,105,103,32,123].toList=i.2.2.2∧0=i.1∧True)∧True)∧∀(i:Int×Int×Int×List UInt8),txB (20:Nat) i.1 (i.2.2.2.length)∧Af x.2.1 i.2.1→∃(x_2:List UInt8×Int×Int×Int),Af x_2.1 x_2.2.1∧x.1=x.1∧byL x.2.1=byL x_2.1∧i.2.1=x_2.2.1∧i.2.2.1=x_2.2.2.1∧2=x_2.2.2.2∧∀(y:Int×Int×Int),((0<x_2.2.2.2→0≤y.1∧y.1<x_2.2.2.2)∧(x_2.2.2.2≤(0:Int)→y.1=(0:Int)))∧Af x_2.1 y.2.1→x.1=x.1∧inR .i64 ((1:Int)+y.1)∧Aa (decide (i.1<(1:Int)+y.1)) (cA HY [.box 0 [AV.bv x.1 (cur x_2.1 y.2.1 y.2.2),.str i.2.2.2]] fun x_3 y=>inR .i64 (i.1+(1:Int))∧eN (txL (4:Nat) (20:Nat) x) i [.val x.1,.box 0 [AV.bv x_3.cv (cur x_3.b y.1 y.2.1),.str y.2.2],.q (i.1+(1:Int))]) ((↑(i.2.2.2.length+(1:Nat)):Int)≤Ag∧eA (txL (5:Nat) (4000000:Nat) x) [.val x.1,.box 0 [AV.bv x.1 (cur x_2.1 y.2.1 y.2.2),.str (i.2.2.2++ #[(125:UInt8)].toList)],.q 0]∧∀(i:Int×Int×Int×List UInt8),txB (4000000:Nat) i.1 (i.2.2.2.length)∧Af x.2.1 i.2.1→∃(x_3:List UInt8×Int×Int×Int),Af x_3.1 x_3.2.1∧x.1=x.1∧byL x.2.1=byL x_3.1∧i.2.1=x_3.2.1∧i.2.2.1=x_3.2.2.1∧2=x_3.2.2.2∧∀(y:Int×Int×Int),((0<x_3.2.2.2→0≤y.1∧y.1<x_3.2.2.2)∧(x_3.2.2.2≤(0:Int)→y.1=(0:Int)))∧Af x_3.1 y.2.1→x.1=x.1∧inR .i64 ((1:Int)+y.1)∧Aa (decide (i.1<(1:Int)+y.1)) (∃(x_4:List UInt8×Int×Int×Int),Af x_4.1 x_4.2.1∧x.1=x.1∧byL x_3.1=byL x_4.1∧y.2.1=x_4.2.1∧y.2.2=x_4.2.2.1∧3=x_4.2.2.2∧∀(y:Bool×Int×Int),Af x_4.1 y.2.1→x.1=x.1∧Aa y.1 ((↑(i.2.2.2.length+(4:Nat)):Int)≤Ag∧cA HY [.box 0 [AV.bv x.1 (cur x_4.1 y.2.1 y.2.2),.str (i.2.2.2++ #[(10:UInt8),32,10,10].toList)]] fun x_5 y=>inR .i64 (i.1+(1:Int))∧(eN (txL (5:Nat) (4000000:Nat) x) i [.val x.1,.box 0 [AV.bv x_5.cv (cur x_5.b y.1 y.2.1),.str y.2.2],.q (i.1+(1:Int))])) (cA HY [.box 0 [AV.bv x.1 (cur x_4.1 y.2.1 y.2.2),.str i.2.2.2]] fun x_5 y=>inR .i64 (i.1+(1:Int))∧(eN (txL (5:Nat) (4000000:Nat) x) i [.val x.1,.box 0 [AV.bv x_5.cv (cur x_5.b y.1 y.2.1),.str y.2.2],.q (i.1+(1:Int))]))) (∃(y_1:List UInt8×Int×Int),(y_1.1.length≤(16777216:Nat)∧Af x.2.1 y_1.2.1)∧i.2.2.2=y_1.1∧(x.1=x.1∧x.1=x.1)∧byL x_3.1=byL x.2.1∧y.2.1=y_1.2.1∧y.2.2=y_1.2.2∧True))) ((∃(i:Int×Int×Int×List UInt8),(txB (4000000:Nat) i.1 (i.2.2.2.length)∧Af x.2.1 i.2.1)∧(x.1=x.1∧(x.1=x.1∧x.1=x.1)∧byL x_1.1=byL x.2.1∧y.2.1=i.2.1∧y.2.2=i.2.2.1∧ #[].toList=i.2.2.2∧0=i.1∧True)∧True)∧∀(i:Int×Int×Int×List UInt8),txB (4000000:Nat) i.1 (i.2.2.2.length)∧Af x.2.1 i.2.1→∃(x_2:List UInt8×Int×Int×Int),Af x_2.1 x_2.2.1∧x.1=x.1∧byL x.2.1=byL x_2.1∧i.2.1=x_2.2.1∧i.2.2.1=x_2.2.2.1∧2=x_2.2.2.2∧∀(y:Int×Int×Int),((0<x_2.2.2.2→0≤y.1∧y.1<x_2.2.2.2)∧(x_2.2.2.2≤(0:Int)→y.1=(0:Int)))∧Af x_2.1 y.2.1→x.1=x.1∧inR .i64 ((1:Int)+y.1)∧Aa (decide (i.1<(1:Int)+y.1)) (∃(x_3:List UInt8×Int×Int×Int),Af x_3.1 x_3.2.1∧x.1=x.1∧byL x_2.1=byL x_3.1∧y.2.1=x_3.2.1∧y.2.2=x_3.2.2.1∧3=x_3.2.2.2∧∀(y:Bool×Int×Int),Af x_3.1 y.2.1→x.1=x.1∧Aa y.1 ((↑(i.2.2.2.length+(4:Nat)):Int)≤Ag∧cA HY [.box 0 [AV.bv x.1 (cur x_3.1 y.2.1 y.2.2),.str (i.2.2.2++ #[(10:UInt8),32,10,10].toList)]] fun x_4 y=>inR .i64 (i.1+(1:Int))∧(eN (txL (5:Nat) (4000000:Nat) x) i [.val x.1,.box 0 [AV.bv x_4.cv (cur x_4.b y.1 y.2.1),.str y.2.2],.q (i.1+(1:Int))])) (cA HY [.box 0 [AV.bv x.1 (cur x_3.1 y.2.1 y.2.2),.str i.2.2.2]] fun x_4 y=>inR .i64 (i.1+(1:Int))∧(eN (txL (5:Nat) (4000000:Nat) x) i [.val x.1,.box 0 [AV.bv x_4.cv (cur x_4.b y.1 y.2.1),.str y.2.2],.q (i.1+(1:Int))]))) (∃(y_1:List UInt8×Int×Int),(y_1.1.length≤(16777216:Nat)∧Af x.2.1 y_1.2.1)∧i.2.2.2=y_1.1∧(x.1=x.1∧x.1=x.1)∧byL x_2.1=byL x.2.1∧y.2.1=y_1.2.1∧y.2.2=y_1.2.2∧True))) (fun x=>by kernel_rfl) fun(x:Value×List UInt8×Int×Int) (hx:Af x.2.1 x.2.2.1)=>(by
 dsimp only[DM,byL,cA,cur,eA,eN,mad,Es,HY,txL,As,Az,mvL,lnL,mvE,lnE,Bl,Ag,AV.q]
 obtain⟨cv,b,i,h⟩:=x;dsimp only at hx ⊢
 have hx:Af b i:=hx
 (repeat' first|(apply NW<;>try dsimp only)|(with_reducible first|rfl|exact True.intro|apply AK|apply And.intro|((first|apply AA|apply AI|apply AB|apply AJ)<;>intro _))|(apply Av<;>intro _)|apply AH|refine Ae () ?_ ?_|((first|apply AO|apply AN|apply AM|apply AL|apply AG|apply AF|apply AE|apply AD|apply AC)<;>try dsimp only)|apply Ae|(refine Prod.forall.2 ?_;intro _;try dsimp only)|(intro _;try dsimp only))
 all_goals(try(have hb:=c0B (And.left ‹txB _ _ _∧_›)))
 all_goals first
  |rfl
  |exact hx
  |omega
  |exact a6J (Nat.le_of_ble_eq_true rfl)
  |exact And.right ‹_∧Af _ _›
  |(show Af _ _;exact And.right ‹_∧Af _ _›)
  |(with_reducible assumption)
  |(show Af _ _;with_reducible assumption)
  |skip
 all_goals(repeat(rename _∧Af _ _=>hq;obtain⟨_,_⟩:=hq))
 all_goals first
  |(with_reducible assumption)
  |(show Af _ _;with_reducible assumption)
  |((try simp only[An,List.length_append,List.length_cons,List.length_nil]);omega)
  |(refine a6K ‹_› (by omega) ?_;(try simp only[List.length_append,List.length_cons,List.length_nil]);omega)
  |(refine a6K ‹_› (by omega) ?_;(try simp only[List.length_append,List.length_cons,List.length_nil] at*);omega)
  |(refine a6J ?_;(try simp only[List.length_append,List.length_cons,List.length_nil]);omega)
  |skip)
theorem a6M{a:Int}{b:List UInt8}{d:Bool}{q:Nd→Prop}(h:q ⟨a,b,[],d⟩):∃x:Nd,a=x.kind∧b=x.text∧x.kids=[]∧d=x.blank∧q x:=⟨⟨a,b,[],d⟩,rfl,rfl,rfl,rfl,h⟩
theorem c0D{t:List UInt8}{L:List Nd}(h:DH t=some L):Dl L=true:=by
 unfold DH at h
 obtain⟨sg,h1,h2⟩:=Option.bind_eq_some_iff.1 h
 rw[Option.map_eq_some_iff] at h2
 obtain⟨⟨ms,L'⟩,h3,h4⟩:=h2
 simp only at h4;subst h4
 unfold JP at h3
 obtain⟨p,h5,h6⟩:=Option.bind_eq_some_iff.1 h3
 obtain⟨q,h7,h8⟩:=Option.bind_eq_some_iff.1 h6
 split at h8
 ·simp only[Option.some.injEq,Prod.mk.injEq] at h8
  rw[←h8.2];assumption
 ·cases h8
theorem c0E{t:List UInt8}{L:List Nd}(h:L=(DH t).getD []∧BH L)(hn:(L.length:Int)≠0):Dl L=true∧BH L:=by
 refine⟨?_,h.2⟩
 cases hr:DH t with
 |none=>rw[hr] at h;exact(hn (by rw[h.1];rfl)).elim
 |some M=>rw[hr] at h;rw[h.1];exact c0D hr
theorem c0F:Dl [⟨22,[],[],false⟩]=true∧BH [⟨22,[],[],false⟩]:=⟨by decide,by simp [BH,Oc]⟩
attribute [local irreducible] DH Dl
end Go.My
end
section
namespace Go.My
open Go.Eng Go.Proofs
variable {G:GInv}
def Un:Sig:= {X:=List UInt8,args:=fun x=>[.sl false 0 1 UInt8 byA x],pre:=fun x=>x.length≤2^21,Y:=Int,post:=fun x y=>True,res:=fun x y=> .box 0 (cur x 0 y),outs:=fun x y=>[.top],keep:=true}
def Uo(x:List UInt8):LS:= {ι:=Int×Int,inv:=fun i=>(0≤i.1∧i.1≤x.length)∧0≤i.2∧i.2≤2^31,regs:=fun i=>[(0,.sl false 0 1 UInt8 byA x),(3,.q i.2),(4,.q i.1)],als:=[],meas:=fun i=>x.length-i.1.toNat}
theorem c0G:Ai G Tryz.prog 31 Un:=
 vcFun_okP [] [] false (fun x=>[(3,Uo x)]) Tryz.func31 rfl (by decide) trivial (fun(x:List UInt8)=>True∧inR .i64 ((78601:Int)+(x.length:Int))∧eA (Uo x) (cur x ((78601:Int)+(x.length:Int)) (0:Int))∧∀(i:Int×Int),(0≤i.1∧i.1≤(x.length:Int))∧0≤i.2∧i.2≤(2:Int)^(31:Nat)→Aa (decide (i.1<(x.length:Int))) (Aa (decide (i.1<(4000:Int))) (inR .i64 (i.2*(131:Int))∧(0≤i.1∧i.1<(x.length:Int))∧∀(e:UInt8),x[Int.toNat i.1]? =some e→inR .i64 (↑(UInt8.toNat e):Int)∧inR .i64 (i.2*(131:Int)+(↑(UInt8.toNat e):Int))∧inR .i64 (i.2*(131:Int)+(↑(UInt8.toNat e):Int)+(7:Int))∧inR .i64 (i.1+(1:Int))∧eN (Uo x) i [byL x,.q (En BinOp.and IntKind.i64 (i.2*(131:Int)+(↑(UInt8.toNat e):Int)+(7:Int)) (1073741823:Int)),.q (i.1+(1:Int))]) (rA Un x [.box 0 (cur x (0:Int) i.2),.top])) (rA Un x [.box 0 (cur x (0:Int) i.2),.top])) (fun x=>by kernel_rfl) fun(x:List UInt8) (hx:x.length≤2^21)=>(by
 dsimp only[DM,byL,cur,eA,eN,Uo,rA,Un,As,Az,Bl,AV.q]
 have hx:x.length≤2^21:=hx
 (repeat' first|(with_reducible first|rfl|exact True.intro|apply AK|apply And.intro|((first|apply AA|apply AI|apply AB|apply AJ)<;>intro _))|(apply Av<;>intro _)|apply AH|refine Ae () ?_ ?_|((first|apply AO|apply AN|apply AM|apply AL|apply AG|apply AF|apply AE|apply AD|apply AC)<;>try dsimp only)|apply Ae|(refine Prod.forall.2 ?_;intro _;try dsimp only)|(intro _;try dsimp only))
 all_goals first
  |rfl
  |omega
  |(have hq:=UInt8.toNat_lt ‹_›;omega)
  |(have hq:=XP (_:Int);exact hq.1)
  |exact(XP _).1
  |exact Int.le_trans (XP _).2 (by decide)
  |skip)
theorem c0H{G:GInv}{P:Program}{f:FuncId}{S:Sig}{c:S.X→S.Y→List AV}(h:Ai G P f S)(hr:S.res=fun x y=> .box 0 (c x y))(hk:S.keep=true):
 Ai G P f {X:=S.X,args:=S.args,pre:=S.pre,Y:=S.Y×Value,post:=fun x y=>S.post x y.1,res:=fun x y=> .bv y.2 (c x y.1),outs:=fun x y=>S.outs x y.1,keep:=true,fixed:=S.fixed,caps:=S.caps}:=by
 obtain⟨⟨h1,_⟩,h2⟩:=h
 refine⟨⟨h1,fun x y _ _=>trivial⟩,fun x hx Z w vals A hG ha hA hc=>(h2 x hx Z w vals A hG ha hA hc).mono ?_⟩
 rintro e w' ⟨y,v,Z',A',hp,he,hrel,haf⟩
 refine⟨(y,v),v,Z',A',hp,he,?_,haf⟩
 rw[hr] at hrel
 simp only[AZ,Aj] at hrel ⊢
 obtain⟨v',cs',A1,B1,e1,hj,⟨b,arr,ty,S1,e2,hb,hc1,hj1⟩,hrest⟩:=hrel
 simp only[List.cons.injEq] at e1
 obtain⟨rfl,rfl⟩:=e1
 exact⟨_,_,A1,B1,rfl,hj,⟨rfl,b,arr,ty,S1,e2,hb,hc1,hj1⟩,hrest⟩
def Js:Sig:= {X:=List UInt8,args:=fun x=>[.sl false 0 1 UInt8 byA x],pre:=fun x=>x.length≤2^21,Y:=Int×Value,post:=fun x y=>True,res:=fun x y=> .bv y.2 (cur x 0 y.1),outs:=fun x y=>[.top],keep:=true}
theorem ZY:Ai G Go.Proofs.Tryz.prog 31 Js:=c0H (c:=fun x y=>cur x 0 y) c0G rfl rfl
theorem ZZ{b:List UInt8}(h:b.length≤2^21):Af b 0:=⟨by omega,h⟩
def MO:Sig:= {X:=List Nd×Unit,args:=fun x=>[nds x.1],pre:=fun x=>(BH x.1∧x.1.length≤2^30)∧∀e∈x.1,e.kids.length≤2^20,Y:=Unit,post:=fun x y=>True,res:=fun x y=>Bj x.1,outs:=fun x y=>[.top],keep:=false}
def Up(x:List Nd×Unit):LS:= {ι:=Int,inv:=fun i=>0≤i∧i≤x.1.length,regs:=fun i=>[(0,nds x.1),(3,Bj (x.1.take i.toNat)),(4,.q i)],als:=[],meas:=fun i=>x.1.length-i.toNat}
theorem c0I:Ai G Tryz.prog 83 MO:=
 vcFun_okP [] [(24,⟨Nd,ndA true⟩),(38,⟨Int,Bx⟩)] false (fun x=>[(3,Up x)]) Tryz.func83 rfl (by decide) trivial (fun(x:List Nd×Unit)=>(∀(y:Unit),True→(∀(x:Nd),True∧True∧(∀(x:Int),True∧True)∧True∧True)∧True∧True)∧eA (Up x) [nds x.1,Bj [],.q 0]∧∀(i:Int),0≤i∧i≤(x.1.length:Int)→Aa (decide (i<(x.1.length:Int))) ((0≤i∧i<(x.1.length:Int))∧∀(e:Nd),x.1[Int.toNat i]? =some e→∃(zs:List Int),AQ e.kids=AQ zs∧BI Bx∧Bb ((0:Nat)+zs.length) (8:Nat)∧∃(x_1:Nd),e.kind=x_1.kind∧e.text=x_1.text∧Al ([]++zs)=Al x_1.kids∧e.blank=x_1.blank∧∃(zs:List Nd),Bj [x_1]=Bj zs∧BI (ndA true)∧Bb ((List.take (Int.toNat i) x.1).length+zs.length) (56:Nat)∧inR .i64 (i+1)∧eN (Up x) i [nds x.1,Bj (List.take (Int.toNat i) x.1++zs),.q (i+1)]) (rA MO x [Bj (List.take (Int.toNat i) x.1),.top])) (fun x=>by kernel_rfl) fun(x:List Nd×Unit) (hx:(BH x.1∧x.1.length≤2^30)∧∀e∈x.1,e.kids.length≤2^20)=>(by
 dsimp only[eA,eN,Up,AQ,Br,nds,Al,Bj,rA,MO,As,Az,Bl,AV.q]
 obtain⟨x,_⟩:=x;dsimp only at hx ⊢
 obtain⟨⟨h1,h2⟩,h3⟩:=hx
 (repeat' first|(with_reducible first|rfl|exact True.intro|apply AK|apply And.intro|((first|apply AA|apply AI|apply AB|apply AJ)<;>intro _))|(apply Av<;>intro _)|apply AH|refine Ae () ?_ ?_|((first|apply AO|apply AN|apply AM|apply AL|apply AG|apply AF|apply AE|apply AD|apply AC)<;>try dsimp only)|apply Ae|(refine Prod.forall.2 ?_;intro _;try dsimp only)|(intro _;try dsimp only))
 all_goals first
  |rfl
  |omega
  |(have hq:=h1.1;(try simp only[An,Bb,List.length_append,List.length_take,List.length_cons,List.length_nil]);omega)
  |(have hq:=h3 _ (Bm ‹_›);(try simp only[Bb]);omega)
  |(rw[Dd (And.left ‹_›),ED ‹_›];done)
  |exact List.take_of_length_le (by omega)
  |skip)
def spB(l:List Nd):Prop:=(1≤l.length∧l.length≤300)∧BH l∧∀e∈l,e.kids.length≤13
theorem c0J{l:List Nd}(h:Dl l=true∧BH l):spB l∧∀e∈l,e.kids.length≤12:=by
 obtain⟨t1,t2,t3,t4⟩:=Qy h.1
 have hk:∀e∈l,e.kids.length≤12:=fun e he=>by
  obtain⟨i,hi,e2⟩:=List.mem_iff_getElem.1 he
  have hn:=(EF (t1.1 i hi)).2.1
  have:Ab l (i:Int)=e:=BA (by rw[←e2];simp)
  rw[this] at hn;exact hn
 exact⟨⟨⟨t2,t3⟩,h.2,fun e he=>by have:=hk e he;omega⟩,hk⟩
theorem c0K{l:List Nd}{n:Nat}{z:Nd}(h:spB l)(hz:z.kids.length≤13)(ht:z.text.length<2^62):spB (l.set n z):=by
 refine⟨by rw[List.length_set];exact h.1,⟨by rw[List.length_set];exact h.2.1.1,fun x hx=> ?_⟩,fun x hx=> ?_⟩
 ·rcases List.mem_or_eq_of_mem_set hx with hx|hx
  ·exact h.2.1.2 x hx
  ·subst hx;exact⟨ht,by omega⟩
 ·rcases List.mem_or_eq_of_mem_set hx with hx|hx
  ·exact h.2.2 x hx
  ·subst hx;exact hz
theorem c0L{p q:Nd→Prop}(a:Int)(b:List UInt8)(c:List Int)(d:Bool)(h2:q ⟨a,b,c,d⟩)(h1:p ⟨a,b,c,d⟩):∃x,p x∧q x:=⟨_,h1,h2⟩
theorem c0M{z:Nd}{l:List Int}{q:Nd→Prop}(h:q ⟨z.kind,z.text,l,z.blank⟩):∃x:Nd,[AV.int IntKind.i64 x.kind,AV.str x.text,AV.sl true 0 1 Int Bx x.kids,AV.bool x.blank]=[AV.int IntKind.i64 z.kind,AV.str z.text,AV.sl true 0 1 Int Bx l,AV.bool z.blank]∧q x:=⟨⟨z.kind,z.text,l,z.blank⟩,rfl,h⟩
theorem c0N{a:Int}{n:Nat}(h0:0≤a)(hn:1≤n):(a.tmod n).toNat<n:=by have:= @LX a n h0 (by omega);omega
theorem c0O{a:Int}(h0:0≤a):(a.tmod 7).toNat<7:=by have:= @LX a 7 h0 (by decide);omega
def a0a:LS:= {ι:=Unit,inv:=fun _=>True,regs:=fun _=>[],als:=[],meas:=fun _=>0}
def eqF{α:Type}(p:α→α→Bool):List α→List α→Bool
 |[],[]=>true
 |x::a,y::b=>p x y&&eqF p a b
 |_,_=>false
def eqW{α:Type}(p:α→α→Bool)(a b:List α)(i:Int):Prop:=((0≤i∧i≤a.length)∧a.length=b.length)∧eqF p a b=eqF p (a.drop i.toNat) (b.drop i.toNat)
attribute [local irreducible] eqW
end Go.My
end
section
namespace Go.My
open Go.Eng Go.Proofs
variable {G:GInv}
def OK:Sig:= {X:=List UInt8,args:=fun x=>[.sl false 0 1 UInt8 byA x],pre:=fun x=>True,Y:=Unit,post:=fun x y=>True,res:=fun x y=> .bool (decide ((x.length:Int)>1048576)),outs:=fun x y=>[.top],keep:=false}
theorem c0P:Ai G Tryz.prog 6 OK:=
 vcFun_okP [] [] false (fun x=>[]) Tryz.func6 rfl (by decide) trivial (fun(x:List UInt8)=>(∀(y:Unit),True→True∧True∧True)∧rA OK x [.bool (decide ((x.length:Int)>(1048576:Int))),.top]) (fun x=>by kernel_rfl) fun(x:List UInt8) (hx:True)=>(by
 dsimp only[DM,rA,OK,As,Az]
 (repeat' first|(with_reducible first|rfl|exact True.intro|apply AK|apply And.intro|((first|apply AA|apply AI|apply AB|apply AJ)<;>intro _))|(apply Av<;>intro _)|apply AH|refine Ae () ?_ ?_|((first|apply AO|apply AN|apply AM|apply AL|apply AG|apply AF|apply AE|apply AD|apply AC)<;>try dsimp only)|apply Ae|(refine Prod.forall.2 ?_;intro _;try dsimp only)|(intro _;try dsimp only))<;>(try dsimp only at*)<;>(try simp only[An,List.length_cons,List.length_nil])<;>(try omega))
end Go.My
end
section
namespace Go.My
open Go.Eng
variable {k:Int}{s s1 s2:Ps}{sg:List Sg}{t:List UInt8}
def Tb(s s2:Ps):Prop:=((∀x∈s.nodes,x.text.length≤3000)→∀x∈s2.nodes,x.text.length≤3000)∧∃e,s2.nodes=s.nodes++e
theorem CA{s3:Ps}(h:Tb s1 s2)(g:Tb s2 s3):Tb s1 s3:=⟨fun hf=>g.1 (h.1 hf),by obtain⟨e,h2⟩:=h.2;obtain⟨e',g2⟩:=g.2;exact⟨e++e',by rw[g2,h2,List.append_assoc]⟩⟩
theorem OL(h:s2.nodes=s1.nodes):Tb s1 s2:=⟨fun hf=>by rw[h];exact hf,[],by simp [h]⟩
theorem CM{s3 s4:Ps}(h:Tb s1 s2)(h1:s3.nodes=s1.nodes)(h2:s4.nodes=s2.nodes):Tb s3 s4:=⟨fun hf=>by rw[h2];rw[h1] at hf;exact h.1 hf,by rw[h1,h2];exact h.2⟩
def Pb(r:PR)(s:Ps):Prop:=∀ {k:Int} {s2:Ps},r=some (k,s2)→Tb s s2
def Sb(sg:List Sg):Prop:=∀i,(sgO sg i).text.length≤3000
theorem HZ{x:Nd}(hx:x.text.length≤3000)(h:Bd x s=some (k,s2)):Tb s s2:=by
 unfold Bd at h;split at h
 ·cases h
 ·cases h
  refine⟨fun hf y hy=> ?_,[x],rfl⟩
  rcases List.mem_append.1 hy with hy|hy
  ·exact hf y hy
  ·simp at hy;subst hy;exact hx
theorem a0b{r:PR}(h:Gq r=some (k,s2)):∃s3,r=some (k,s3)∧s2.nodes=s3.nodes:=by
 obtain⟨p,h1,h2⟩:=Option.map_eq_some_iff.1 h
 cases h2;exact⟨p.2,h1,rfl⟩
theorem IR{m:List UInt8}{x:Nd}(hx:x.text.length≤3000)(h:Bq sg m x s=some (k,s2)):Tb s s2:=by
 unfold Bq at h;split at h
 ·obtain⟨s3,h1,h2⟩:=a0b h
  exact CM (HZ hx h1) rfl h2
 ·cases h
theorem Jt(h:BE sg t s=some s2):s2.nodes=s.nodes:=by
 unfold BE at h;split at h
 ·cases h;rfl
 ·cases h
theorem a0c(h:FE sg s=some (t,s2)):s2.nodes=s.nodes:=by
 unfold FE at h;split at h
 ·cases h;rfl
 ·cases h
theorem QX{sg:List Sg}{one:Ps→PR}{m:List UInt8}(ho:∀s,Pb (one s) s):∀ {n:Nat} {ks ks2:List Int} {s s2:Ps},Bw sg one m n ks s=some (ks2,s2)→Tb s s2
 |0,_,_,_,_,h=>by cases h
 |n+1,ks,ks2,s,s2,h=>by
  rw[Bw] at h;split at h
  ·cases h;exact OL rfl
  ·obtain⟨p,h1,h2⟩:=Option.bind_eq_some_iff.1 h
   have t1:Tb s p.2:=(ho s (k:=p.1) (s2:=p.2) h1)
   split at h2
   ·exact CA t1 (CM (QX ho h2) rfl rfl)
   ·cases h2;exact t1
theorem c0Q{l:Nat}:(IB sg l s).length≤2:=by
 unfold IB
 cases h:(BN l).find? fun m=>isM sg s m with
 |none=>simp
 |some m=>
  have hm:=List.mem_of_find?_eq_some h
  have key:∀m∈BN l,m.length≤2:=by
   intro m hm
   unfold BN at hm
   split at hm<;>(simp at hm;(try rcases hm with rfl|rfl)<;>simp_all)
  exact key m hm
theorem a0d{sg:List Sg}{l:Nat}{one:Ps→PR}(ho:∀s,Pb (one s) s):∀ {n:Nat} {t:List UInt8} {ks:List Int} {k:Int} {s s2:Ps},((t=[]→∃j,ks=[j])∧t.length≤2)→Gr sg l one n t ks s=some (k,s2)→Tb s s2
 |0,_,_,_,_,_,_,h=>by cases h
 |n+1,t,ks,k,s,s2,ht,h=>by
  rw[Gr] at h;split at h
  ·obtain⟨p,h1,h2⟩:=Option.bind_eq_some_iff.1 h
   exact CA (HZ (by have:=ht.2;simp only;omega) (k:=p.1) (s2:=p.2) h1) (a0d ho ⟨fun _=>⟨_,rfl⟩,by simp⟩ h2)
  ·rename_i hc
   split at h
   ·rename_i he
    have e:t=[]:=by
     rcases Classical.em (t=[]) with e|e
     ·exact e
     ·exact absurd ⟨e,by rw[he];exact fun x=>e x.symm⟩ hc
    obtain⟨j,rfl⟩:=ht.1 e
    cases h;exact OL rfl
   ·rename_i he
    obtain⟨p,h1,h2⟩:=Option.bind_eq_some_iff.1 h
    have t1:Tb s p.2:=(CM (ho (adv s) (k:=p.1) (s2:=p.2) h1) (s3:=s) (s4:=p.2) rfl rfl)
    exact CA t1 (a0d ho ⟨fun e=>absurd e he,c0Q⟩ h2)
theorem a6N{val:Ps→PR}(ho:∀s,Pb (val s) s){k2:Int}{s:Ps}(h:Dq sg val k s=some (k2,s2)):Tb s s2:=by
 obtain⟨s1,h1,h2⟩:=Option.bind_eq_some_iff.1 h
 obtain⟨p,h3,h4⟩:=Option.bind_eq_some_iff.1 h2
 exact CA (CM (QX ho (ks2:=p.1) (s2:=p.2) h3) (Jt h1).symm rfl) (IR (by simp) h4)
theorem a0e(hS:Sb sg)(h:FE sg s=some (t,s2)):t.length≤3000:=by
 unfold FE at h;split at h
 ·cases h;exact hS _
 ·cases h
section
variable {sg:List Sg} (hS:Sb sg)
include hS
theorem OM{k:Int}{b:Bool}{s:Ps}:Pb (FT sg k b s) s:=fun h=>by
 obtain⟨s3,h1,h2⟩:=a0b h
 exact CM (HZ (by first|(simp;done)|exact hS _|(simp only;exact hS _)|assumption) h1) rfl h2
theorem Uq{s:Ps}:Pb (BQ sg s) s:=fun h=>by
 unfold BQ at h;split at h
 ·exact(OM hS) h
 ·cases h
theorem a0f{val:Ps→PR}(ho:∀s,Pb (val s) s):∀ {n:Nat} {k k2:Int} {s s2:Ps},FU sg val n k s=some (k2,s2)→Tb s s2
 |0,_,_,_,_,h=>by cases h
 |n+1,k,k2,s,s2,h=>by
  rw[FU] at h;split at h
  ·obtain⟨p,h1,h2⟩:=Option.bind_eq_some_iff.1 h
   exact CA (a6N ho (k2:=p.1) (s2:=p.2) h1) (a0f ho h2)
  ·split at h
   ·split at h
    ·obtain⟨p,h1,h2⟩:=Option.bind_eq_some_iff.1 h
     obtain⟨s3,h3,h4⟩:=a0b (k:=p.1) (s2:=p.2) h1
     exact CA (CM (HZ (by first|(simp;done)|exact hS _|(simp only;exact hS _)|assumption) h3) rfl h4) (a0f ho h2)
    ·cases h
   ·cases h;exact OL rfl
theorem a6O{val:Ps→PR}(ho:∀s,Pb (val s) s):∀ {n:Nat} {ks ks2:List Int} {s s2:Ps},FF sg val n ks s=some (ks2,s2)→Tb s s2
 |0,_,_,_,_,h=>by cases h
 |n+1,ks,ks2,s,s2,h=>by
  rw[FF] at h;split at h
  ·obtain⟨p,h1,h2⟩:=Option.bind_eq_some_iff.1 h
   obtain⟨q,h3,h4⟩:=Option.bind_eq_some_iff.1 h2
   have t1:Tb s q.2:=CA (CM (Uq hS (k:=p.1) (s2:=p.2) h1) rfl rfl) (a6N ho (k2:=q.1) (s2:=q.2) h3)
   have t2:=t1
   exact CA t2 (a6O ho h4)
  ·cases h;exact OL rfl
theorem GM:∀(n:Nat) (t:NT) (s:Ps),Pb (pE sg n t s) s
 |0,_,_,k,s2,h=>by cases h
 |n+1,.value,s,k,s2,h=>by
  rw[pE] at h
  obtain⟨p,h1,h2⟩:=Option.bind_eq_some_iff.1 h
  have t1:=GM n .pick s (k:=p.1) (s2:=p.2) h1
  split at h2
  ·obtain⟨q,h3,h4⟩:=Option.bind_eq_some_iff.1 h2
   exact CA t1 (CA ((a6O hS) (GM n .value) (ks2:=q.1) (s2:=q.2) h3) (HZ (by first|(simp;done)|exact hS _|(simp only;exact hS _)|assumption) h4))
  ·cases h2;exact t1
 |n+1,.pick,s,k,s2,h=>by
  rw[pE] at h
  split at h
  ·cases h
  ·obtain⟨p,h1,h2⟩:=Option.bind_eq_some_iff.1 h
   have t1:Tb s p.2:=CM (GM n (.chain 0) _ (k:=p.1) (s2:=p.2) h1) rfl rfl
   split at h2
   ·obtain⟨a,h3,h4⟩:=Option.bind_eq_some_iff.1 h2
    obtain⟨s1,h5,h6⟩:=Option.bind_eq_some_iff.1 h4
    obtain⟨b,h7,h8⟩:=Option.bind_eq_some_iff.1 h6
    obtain⟨q,h9,h10⟩:=Option.map_eq_some_iff.1 h8
    have t2:Tb p.2 a.2:=CM ((GM n .pick _ (k:=a.1) (s2:=a.2) h3)) rfl rfl
    have t3:Tb a.2 b.2:=CM ((GM n .pick _ (k:=b.1) (s2:=b.2) h7)) (Jt h5).symm rfl
    cases h10
    exact CA t1 (CA t2 (CA t3 (CM (HZ (by first|(simp;done)|exact hS _|(simp only;exact hS _)|assumption) (k:=q.1) (s2:=q.2) h9) rfl rfl)))
   ·cases h2;exact CM t1 rfl rfl
 |n+1,.chain l,s,k,s2,h=>by
  rw[pE] at h
  split at h
  ·exact GM n .fin s h
  ·obtain⟨p,h1,h2⟩:=Option.bind_eq_some_iff.1 h
   exact CA (GM n _ s (k:=p.1) (s2:=p.2) h1) (a0d (GM n _) ⟨fun _=>⟨_,rfl⟩,by simp⟩ h2)
 |n+1,.fin,s,k,s2,h=>by
  rw[pE] at h
  obtain⟨p,h1,h2⟩:=Option.bind_eq_some_iff.1 h
  exact CA (GM n .base s (k:=p.1) (s2:=p.2) h1) ((a0f hS) (GM n .value) h2)
 |n+1,.base,s,k,s2,h=>by
  rw[pE] at h
  split at h
  ·exact(Uq hS) h
  split at h
  ·exact(OM hS) h
  split at h
  ·exact(OM hS) h
  split at h
  ·obtain⟨p,h1,h2⟩:=Option.bind_eq_some_iff.1 h
   exact CA (CM (QX (GM n .value) (ks2:=p.1) (s2:=p.2) h1) rfl rfl) (IR (by first|(simp;done)|exact hS _|(simp only;exact hS _)|assumption) h2)
  split at h
  ·obtain⟨p,h1,h2⟩:=Option.bind_eq_some_iff.1 h
   obtain⟨s3,h3,h4⟩:=Option.bind_eq_some_iff.1 h2
   obtain⟨s4,h5,h6⟩:=Option.bind_eq_some_iff.1 h4
   obtain⟨q,h7,h8⟩:=Option.bind_eq_some_iff.1 h6
   have t1:Tb s p.2:=CM (QX (fun s=>(Uq hS)) (ks2:=p.1) (s2:=p.2) h1) rfl rfl
   have t2:Tb p.2 q.2:=CM ((GM n .pick _ (k:=q.1) (s2:=q.2) h7)) (s3:=p.2) (s4:=q.2) (by rw[Jt h5,Jt h3]) rfl
   exact CA t1 (CA t2 (HZ (by first|(simp;done)|exact hS _|(simp only;exact hS _)|assumption) h8))
  split at h
  ·obtain⟨p,h1,h2⟩:=Option.bind_eq_some_iff.1 h
   exact CA (CM (GM n .value _ (k:=p.1) (s2:=p.2) h1) rfl rfl) (IR (by first|(simp;done)|exact hS _|(simp only;exact hS _)|assumption) h2)
  ·cases h
theorem QY(s:Ps):Pb (Cl sg s) s:=(GM hS) _ _ _
theorem a0g{b:Bool}(s:Ps):Pb (DN sg b s) s:=fun h=>by
 obtain⟨p,h1,h2⟩:=Option.bind_eq_some_iff.1 h
 have e:=a0c (t:=p.1) (s2:=p.2) h1
 have ht:=a0e hS (t:=p.1) (s2:=p.2) h1
 split at h2
 ·obtain⟨q,h3,h4⟩:=Option.bind_eq_some_iff.1 h2
  exact CA (CM ((QY hS) _ (k:=q.1) (s2:=q.2) h3) e.symm rfl) (IR (by first|(simp;done)|exact hS _|(simp only;exact hS _)|assumption) h4)
 ·exact CM (IR (by first|(simp;done)|exact hS _|(simp only;exact hS _)|assumption) h2) e.symm rfl
theorem a6P(s:Ps):Pb (DZ sg s) s:=fun h=>by
 obtain⟨s1,h1,h2⟩:=Option.bind_eq_some_iff.1 h
 obtain⟨p,h3,h4⟩:=Option.bind_eq_some_iff.1 h2
 obtain⟨s3,h5,h6⟩:=Option.map_eq_some_iff.1 h4
 cases h6
 exact CM ((QY hS) _ (k:=p.1) (s2:=p.2) h3) (Jt h1).symm (Jt h5)
omit hS in
theorem a0h{one:Bool→Ps→PR}{m:List UInt8}(ho:∀b s,Pb (one b s) s):∀ {n:Nat} {ks ks2:List Int} {s s2:Ps},CY sg one m n ks s=some (ks2,s2)→Tb s s2
 |0,_,_,_,_,h=>by cases h
 |n+1,ks,ks2,s,s2,h=>by
  rw[CY] at h;split at h
  ·cases h;exact OL rfl
  ·obtain⟨p,h1,h2⟩:=Option.bind_eq_some_iff.1 h
   have t1:Tb s p.2:=(ho _ s (k:=p.1) (s2:=p.2) h1)
   exact CA t1 (a0h ho h2)
omit hS in
theorem Ur{one:Bool→Ps→PR}(ho:∀b s,Pb (one b s) s)(s:Ps):Pb (BO sg one s) s:=fun h=>by
 unfold BO at h
 split at h
 ·cases h
 ·obtain⟨s1,h1,h2⟩:=Option.bind_eq_some_iff.1 h
  obtain⟨p,h3,h4⟩:=Option.bind_eq_some_iff.1 h2
  obtain⟨q,h5,h6⟩:=Option.map_eq_some_iff.1 h4
  cases h6
  exact CA (CM ((a0h) ho (ks2:=p.1) (s2:=p.2) h3) (Jt h1).symm rfl) (CM (IR (by first|(simp;done)|exact hS _|(simp only;exact hS _)|assumption) (k:=q.1) (s2:=q.2) h5) rfl rfl)
theorem Us:∀(n:Nat) (b:Bool) (s:Ps),Pb (stR sg n b s) s
 |0,_,_,k,s2,h=>by cases h
 |n+1,b,s,k,s2,h=>by
  rw[stR] at h
  split at h
  ·exact(OM hS) h
  split at h
  ·exact CM ((a0g hS) _ h) rfl rfl
  split at h
  ·split at h
   ·exact CM (IR (by first|(simp;done)|exact hS _|(simp only;exact hS _)|assumption) h) rfl rfl
   ·obtain⟨p,h1,h2⟩:=Option.bind_eq_some_iff.1 h
    exact CA (CM ((QY hS) _ (k:=p.1) (s2:=p.2) h1) rfl rfl) (IR (by first|(simp;done)|exact hS _|(simp only;exact hS _)|assumption) h2)
  split at h
  ·obtain⟨p,h1,h2⟩:=Option.bind_eq_some_iff.1 h
   obtain⟨q,h3,h4⟩:=Option.bind_eq_some_iff.1 h2
   have t1:Tb s p.2:=CM ((a6P hS) _ (k:=p.1) (s2:=p.2) h1) rfl rfl
   have t2:Tb p.2 q.2:=((Ur) (Us n) _ (k:=q.1) (s2:=q.2) h3)
   split at h4
   ·obtain⟨r,h5,h6⟩:=Option.bind_eq_some_iff.1 h4
    have t3:Tb q.2 r.2:=CM (((Ur) (Us n) _ (k:=r.1) (s2:=r.2) h5)) rfl rfl
    exact CA t1 (CA t2 (CA t3 (HZ (by first|(simp;done)|exact hS _|(simp only;exact hS _)|assumption) h6)))
   ·exact CA t1 (CA t2 (HZ (by first|(simp;done)|exact hS _|(simp only;exact hS _)|assumption) h4))
  split at h
  ·obtain⟨p,h1,h2⟩:=Option.bind_eq_some_iff.1 h
   obtain⟨q,h3,h4⟩:=Option.bind_eq_some_iff.1 h2
   have t1:Tb s p.2:=CM ((a6P hS) _ (k:=p.1) (s2:=p.2) h1) rfl rfl
   have t2:Tb p.2 q.2:=((Ur) (Us n) _ (k:=q.1) (s2:=q.2) h3)
   exact CA t1 (CA t2 (HZ (by first|(simp;done)|exact hS _|(simp only;exact hS _)|assumption) h4))
  split at h
  ·obtain⟨p,h1,h2⟩:=Option.bind_eq_some_iff.1 h
   exact CA (CM ((QY hS) _ (k:=p.1) (s2:=p.2) h1) rfl rfl) (IR (by first|(simp;done)|exact hS _|(simp only;exact hS _)|assumption) h2)
  ·obtain⟨p,h1,h2⟩:=Option.bind_eq_some_iff.1 h
   exact CA ((QY hS) _ (k:=p.1) (s2:=p.2) h1) (IR (by first|(simp;done)|exact hS _|(simp only;exact hS _)|assumption) h2)
theorem a6Q{b:Bool}(s:Ps):Pb (GE sg b s) s:=fun h=>by
 obtain⟨p,h1,h2⟩:=Option.bind_eq_some_iff.1 h
 obtain⟨s1,h3,h4⟩:=Option.bind_eq_some_iff.1 h2
 obtain⟨q,h5,h6⟩:=Option.bind_eq_some_iff.1 h4
 obtain⟨s3,h7,h8⟩:=Option.bind_eq_some_iff.1 h6
 obtain⟨r,h9,h10⟩:=Option.bind_eq_some_iff.1 h8
 have e:=a0c (t:=p.1) (s2:=p.2) h1
 have ht:=a0e hS (t:=p.1) (s2:=p.2) h1
 have t1:Tb s q.2:=CM (QX (fun s=>(Uq hS)) (ks2:=q.1) (s2:=q.2) h5) (by rw[Jt h3,e]) rfl
 have t2:Tb q.2 r.2:=CM (((Ur) ((Us hS) stN) _ (k:=r.1) (s2:=r.2) h9)) (s3:=q.2) (s4:=r.2) (Jt h7).symm rfl
 exact CA t1 (CA t2 (HZ (by first|(simp;done)|exact hS _|(simp only;exact hS _)|assumption) h10))
theorem c0R(b:Bool)(s:Ps):Pb (Dv sg b s) s:=fun h=>by
 unfold Dv at h
 split at h
 ·exact(OM hS) h
 split at h
 ·exact CM ((a0g hS) _ h) rfl rfl
 ·exact(a6Q hS) _ h
theorem c0S{b:Bool}(s:Ps):Pb (Hc sg b s) s:=fun h=>by
 obtain⟨p,h1,h2⟩:=Option.bind_eq_some_iff.1 h
 obtain⟨s1,h3,h4⟩:=Option.bind_eq_some_iff.1 h2
 obtain⟨q,h5,h6⟩:=Option.bind_eq_some_iff.1 h4
 have ht:=a0e hS (t:=p.1) (s2:=p.2) h1
 exact CA (CM (a0h (c0R hS) (ks2:=q.1) (s2:=q.2) h5) (by rw[Jt h3,a0c (t:=p.1) (s2:=p.2) h1]) rfl) (IR (by first|(simp;done)|exact hS _|(simp only;exact hS _)|assumption) h6)
theorem c0T(b:Bool)(s:Ps):Pb (DG sg b s) s:=fun h=>by
 unfold DG at h
 split at h
 ·exact(OM hS) h
 split at h
 ·exact CM ((a0g hS) _ h) rfl rfl
 split at h
 ·exact CM ((c0S hS) _ h) rfl rfl
 ·exact(a6Q hS) _ h
theorem a6R:∀ {n:Nat} {ks ks2:List Int} {ms ms2:List (Int×Int)} {s s2:Ps},JO sg n ks ms s=some ((ks2,ms2),s2)→Tb s s2
 |0,_,_,_,_,_,_,h=>by cases h
 |n+1,ks,ks2,ms,ms2,s,s2,h=>by
  rw[JO] at h;split at h
  ·obtain⟨p,h1,h2⟩:=Option.bind_eq_some_iff.1 h
   have t1:Tb s p.2:=((c0T hS) _ s (k:=p.1) (s2:=p.2) h1)
   exact CA t1 (a6R h2)
  ·cases h;exact OL rfl
end
theorem Ut{t:List UInt8}:∀(n:Nat) (i br:Int) (l:List Sg),Fl t n i br=some l→∀e∈l,e.text.length≤t.length
 |0,_,_,_,h=>by cases h
 |n+1,i,br,l,h=>by
  rw[Fl] at h
  split at h
  ·cases h;intro e he;cases he
  ·split at h
   ·exact Ut n _ _ l h
   ·split at h
    ·exact Ut n _ _ l h
    ·split at h
     ·rename_i hok
      obtain⟨l2,h1,h2⟩:=Option.map_eq_some_iff.1 h
      subst h2
      intro e he
      rcases List.mem_cons.1 he with he|he
      ·subst he
       have:=(YG hok).2.2
       simp only[List.length_drop] at this ⊢;omega
      ·exact Ut n _ _ l2 h1 e he
     ·cases h
theorem c0U(h:CT t=some sg):Sb sg:=by
 unfold CT at h
 split at h
 ·cases h
 ·rename_i hl
  intro i
  unfold sgO
  rw[List.getD_eq_getElem?_getD]
  cases hh:sg[i.toNat]? with
  |none=>simp [EQ]
  |some e=>have:=Ut _ _ _ _ h e (List.mem_of_getElem? hh);simp only[Option.getD_some];omega
theorem c0V{L:List Nd}(h:DH t=some L):∀x∈L,x.text.length≤3000:=by
 unfold DH at h
 obtain⟨sg,h1,h2⟩:=Option.bind_eq_some_iff.1 h
 rw[Option.map_eq_some_iff] at h2
 obtain⟨⟨ms,L'⟩,h3,h4⟩:=h2
 simp only at h4;subst h4
 have hS:=c0U h1
 unfold JP at h3
 obtain⟨⟨⟨ks,ms2⟩,s⟩,h5,h6⟩:=Option.bind_eq_some_iff.1 h3
 obtain⟨⟨k,s2⟩,h7,h8⟩:=Option.bind_eq_some_iff.1 h6
 simp only at h7 h8
 split at h8
 ·simp only[Option.some.injEq,Prod.mk.injEq] at h8
  rw[←h8.2]
  exact(HZ (by simp) h7).1 ((a6R hS h5).1 (by simp [ps0]))
 ·cases h8
end Go.My
end
section
namespace Go.My
open Go.Eng
variable {c k r:Int}{l:List Int}{n:Nat}{ns:List Nd}{rd:Bool}{w:Int→Nat}{x:Nd}
structure Ru where
 vals:Int
 cost:Int
structure Ch where
 text:List UInt8
 rule:Int
 fr:Int
 space:Bool
 nest:Int
structure Sn where
 fr:Int
 tuu:Int
 cost:Int
structure Ti where
 kid:Int
 up:Int
structure Pc where
 ind:Int
 rules:List Ru
 chunks:List Ch
 spans:List Sn
 ties:List Ti
def ruA:Ru→List AV:=fun r=>[.int .i64 r.vals,.int .i64 r.cost]
def chA:Ch→List AV:=fun c=>[.str c.text,.int .i64 c.rule,.int .i64 c.fr,.bool c.space,.int .i64 c.nest]
def snA:Sn→List AV:=fun s=>[.int .i64 s.fr,.int .i64 s.tuu,.int .i64 s.cost]
def tiA:Ti→List AV:=fun t=>[.int .i64 t.kid,.int .i64 t.up]
theorem CB(r:Ru):ruA r=[.int .i64 r.vals,.int .i64 r.cost]:=rfl
theorem CC(c:Ch):chA c=[.str c.text,.int .i64 c.rule,.int .i64 c.fr,.bool c.space,.int .i64 c.nest]:=rfl
theorem CD(s:Sn):snA s=[.int .i64 s.fr,.int .i64 s.tuu,.int .i64 s.cost]:=rfl
theorem CE(t:Ti):tiA t=[.int .i64 t.kid,.int .i64 t.up]:=rfl
abbrev oRu (l:List Ru):AV:= .sl true 0 2 Ru ruA l
abbrev bRu (l:List Ru):AV:= .sl false 0 2 Ru ruA l
abbrev oCh (l:List Ch):AV:= .sl true 0 5 Ch chA l
abbrev bCh (l:List Ch):AV:= .sl false 0 5 Ch chA l
abbrev oSn (l:List Sn):AV:= .sl true 0 3 Sn snA l
abbrev bSn (l:List Sn):AV:= .sl false 0 3 Sn snA l
abbrev oTi (l:List Ti):AV:= .sl true 0 2 Ti tiA l
abbrev bTi (l:List Ti):AV:= .sl false 0 2 Ti tiA l
def pcA(o:Bool)(p:Pc):List AV:=[.int .i64 p.ind,.sl o 0 2 Ru ruA p.rules,.sl o 0 5 Ch chA p.chunks,.sl o 0 3 Sn snA p.spans,.sl o 0 2 Ti tiA p.ties]
structure Bs where
 rules:List Ru
 chunks:List Ch
 spans:List Sn
 ties:List Ti
 text:List UInt8
variable {f:Int→Int→Bs→Bs}{s t:Bs}
def GN(rd:Bool)(s:Bs):Bool:=rd&&decide (s.rules.length<8)
def Bo(rd:Bool)(v c:Int)(s:Bs):Bs:=if GN rd s then⟨s.rules++[⟨v,c⟩],s.chunks,s.spans,s.ties,s.text⟩ else s
def Au(rd:Bool)(s:Bs):Int:=if GN rd s then s.rules.length else-1
def Aq(t:List UInt8)(s:Bs):Bs:=⟨s.rules,s.chunks,s.spans,s.ties,s.text++t⟩
def Ba(r fr:Int)(sp:Bool)(nest:Int)(s:Bs):Bs:=
 if 0≤r∧s.chunks.length<79 then⟨s.rules,s.chunks++[⟨s.text,r,fr,sp,min nest 40⟩],s.spans,s.ties,[]⟩
 else if sp then Aq [32] s else s
def CF(kid up:Int)(s:Bs):Bs:=if(0≤kid∧0≤up)∧s.ties.length<20 then⟨s.rules,s.chunks,s.spans,s.ties++[⟨kid,up⟩],s.text⟩ else s
def EY(fr:Int)(s:Bs):Bs:=if fr≤(s.chunks.length:Int)-1∧s.spans.length<40 then⟨s.rules,s.chunks,s.spans++[⟨fr,(s.chunks.length:Int)-1,1⟩],s.ties,s.text⟩ else s
def DI(n:Nat)(s:Bs):Int:=if n<s.rules.length then n else-1
def up4(a:Int):Int:=min (a+4) 40
def itL(f:Int→Int→Bs→Bs)(r g inner:Int):List Int→Bool→Bs→Bs
 |[],_,s=>s
 |c::l,first,s=>itL f r g inner l false (f c inner (if first then s else Ba r g true inner (Aq [44] s)))
def Eg(rd:Bool)(f:Int→Int→Bs→Bs)(op:List UInt8)(ks:List Int)(en:List UInt8)(a:Int)(s:Bs):Bs:=
 if ks=[] then Aq en (Aq op s)
 else Aq en (Ba (Au rd (Aq op s)) 1 false a
  (itL f (Au rd (Aq op s)) (min ks.length 2) (up4 a) ks true (Ba (Au rd (Aq op s)) 1 false (up4 a) (Bo rd (min ks.length 2+1) 1 (Aq op s)))))
def Hk(ns:List Nd)(f:Int→Int→Bs→Bs)(r inner:Int)(c:Int)(s:Bs):Bs:=
 (fun s2=>if Bc ns c=1∨Bc ns c=2∨Bc ns c=3 then s2 else EY s.chunks.length s2)
   (if Bc ns c=7 then CF (DI s.rules.length (f c inner s)) r (f c inner s) else f c inner s)
def chL(ns:List Nd)(f:Int→Int→Bs→Bs)(r inner:Int)(t:List UInt8):List Int→Bool→Bs→Bs
 |[],_,s=>s
 |c::l,first,s=>chL ns f r inner t l false (Hk ns f r inner c (if first then s else Ba r 1 true inner (Aq (32::t) s)))
def Kf(ns:List Nd)(rd:Bool)(f:Int→Int→Bs→Bs)(x:Nd)(inner:Int)(s:Bs):Bs:=chL ns f (Au rd s) inner x.text x.kids true (Bo rd 2 1 s)
def pkT(i:Int):List UInt8:=if i=0 then [] else if i=1 then [63,32] else [58,32]
def Hl(ns:List Nd)(f:Int→Int→Bs→Bs)(r inner:Int)(c:Int)(s:Bs):Bs:=
 if Bc ns c=8 then CF (DI s.rules.length (f c inner s)) r (f c inner s) else f c inner s
def pkL(ns:List Nd)(f:Int→Int→Bs→Bs)(r inner:Int):List Int→Int→Bs→Bs
 |[],_,s=>s
 |c::l,i,s=>pkL ns f r inner l (i+1) (Hl ns f r inner c (if i=0 then s else Aq (pkT i) (Ba r 1 true inner s)))
def Lj(ns:List Nd)(rd:Bool)(f:Int→Int→Bs→Bs)(x:Nd)(inner:Int)(s:Bs):Bs:=pkL ns f (Au rd s) inner x.kids 0 (Bo rd 2 1 s)
def Fr(ns:List Nd):List Int→Bool→List UInt8
 |[],_=>[]
 |c::l,first=>(if first then [] else [44,32])++(Ab ns c).text++Fr ns l false
def DJ(ns:List Nd)(x:Nd):List UInt8:=40::(Fr ns (x.kids.take (x.kids.length-1)) true++[41])
def bFn(ns:List Nd)(rd:Bool)(f:Int→Int→Bs→Bs)(x:Nd)(inner:Int)(s:Bs):Bs:=
 f (kd x (x.kids.length-1)) inner (Ba (Au rd (Aq (DJ ns x++[32,61,62]) s)) 1 true inner (Bo rd 2 2 (Aq (DJ ns x++[32,61,62]) s)))
def caL(f:Int→Int→Bs→Bs)(r inner:Int):List Int→Bs→Bs
 |[],s=>s
 |c::l,s=>caL f r inner l (f c inner (Aq [46,46] (Ba r 1 false inner s)))
def a0i(rd:Bool)(f:Int→Int→Bs→Bs)(x:Nd)(a:Int)(s:Bs):Bs:=caL f (Au rd s) (up4 a) (x.kids.drop 1) (f (kd x 0) a (Bo rd 2 1 s))
def bV1(ns:List Nd)(rd:Bool)(f:Int→Int→Bs→Bs)(x:Nd)(a:Int)(s:Bs):Bs:=
 if x.kind=1∨x.kind=2∨x.kind=3 then Aq x.text s
 else if x.kind=11 then Aq [41] (f (kd x 0) a (Aq [40] s))
 else if x.kind=6 then Aq (46::x.text) (f (kd x 0) a s)
 else if x.kind=4 then Eg rd f [91] x.kids [93] a s
 else if x.kind=5 then Eg rd f [40] (x.kids.drop 1) [41] a (f (kd x 0) a s)
 else if x.kind=7 then Kf ns rd f x (up4 a) s
 else if x.kind=8 then Lj ns rd f x (up4 a) s
 else if x.kind=9 then bFn ns rd f x (up4 a) s
 else a0i rd f x a s
def bV(ns:List Nd)(rd:Bool):Nat→Int→Int→Bs→Bs
 |0,_,_,s=>s
 |n+1,k,a,s=>bV1 ns rd (bV ns rd n) (Ab ns k) a s
def Ia(rd:Bool)(x:Nd)(s:Bs):Int:=if x.kind=7∨x.kind=8 then Au rd s else-1
def Cz(l:List Ch):Nat:=(l.map fun c=>c.text.length).sum
def tot(s:Bs):Nat:=Cz s.chunks+s.text.length
structure bLe (rd:Bool) (m:Nat) (s t:Bs):Prop where
 ru:s.rules.length≤t.rules.length
 ch:s.chunks.length≤t.chunks.length
 sp:s.spans.length≤t.spans.length
 ti:s.ties.length≤t.ties.length
 tt:tot t≤tot s+m
 fu:GN rd s=false→t.rules=s.rules
theorem GP:bLe rd 0 s s:=⟨Nat.le_refl _,Nat.le_refl _,Nat.le_refl _,Nat.le_refl _,by omega,fun _=>rfl⟩
theorem c0W(h:t.rules=s.rules):GN rd t=GN rd s:=by simp [GN,h]
theorem Cm{m:Nat}{u:Bs}(h:bLe rd m s t)(g:bLe rd n t u):bLe rd (m+n) s u:=
 ⟨by have:=h.ru;have:=g.ru;omega,by have:=h.ch;have:=g.ch;omega,by have:=h.sp;have:=g.sp;omega,by have:=h.ti;have:=g.ti;omega,by have:=h.tt;have:=g.tt;omega,
   fun hr=>by have h1:=h.fu hr;rw[g.fu (by rw[c0W h1];exact hr),h1]⟩
theorem Db{m:Nat}(h:bLe rd m s t)(hm:m≤n):bLe rd n s t:=⟨h.ru,h.ch,h.sp,h.ti,by have:=h.tt;omega,h.fu⟩
theorem a0j{l m:List Ch}:Cz (l++m)=Cz l+Cz m:=by simp [Cz]
theorem EZ{t:List UInt8}:bLe rd t.length s (Aq t s):=
 ⟨Nat.le_refl _,Nat.le_refl _,Nat.le_refl _,Nat.le_refl _,by simp [tot,Aq];omega,fun _=>rfl⟩
theorem MP{v:Int}:bLe rd 0 s (Bo rd v c s):=by
 unfold Bo
 split
 ·rename_i h
  exact⟨by simp,Nat.le_refl _,Nat.le_refl _,Nat.le_refl _,by simp [tot],fun hf=>by rw[h] at hf;cases hf⟩
 ·exact GP
theorem Hm{fr nest:Int}{sp:Bool}:bLe rd 1 s (Ba r fr sp nest s):=by
 unfold Ba
 split
 ·exact⟨Nat.le_refl _,by simp,Nat.le_refl _,Nat.le_refl _,by simp [tot,a0j,Cz],fun _=>rfl⟩
 ·split
  ·exact EZ (t:=[32])
  ·exact Db GP (by omega)
theorem a0k{u:Int}:bLe rd 0 s (CF k u s):=by
 unfold CF
 split
 ·exact⟨Nat.le_refl _,Nat.le_refl _,Nat.le_refl _,by simp,by simp [tot],fun _=>rfl⟩
 ·exact GP
theorem c0X{f:Int}:bLe rd 0 s (EY f s):=by
 unfold EY
 split
 ·exact⟨Nat.le_refl _,Nat.le_refl _,by simp,Nat.le_refl _,by simp [tot],fun _=>rfl⟩
 ·exact GP
structure bOk (s:Bs):Prop where
 ru:s.rules.length≤8
 ch:s.chunks.length≤79
 sp:s.spans.length≤40
 ti:s.ties.length≤20
theorem Fa{t:List UInt8}(h:bOk s):bOk (Aq t s):=⟨h.ru,h.ch,h.sp,h.ti⟩
theorem ON{v:Int}(h:bOk s):bOk (Bo rd v c s):=by
 unfold Bo;split
 ·rename_i hr
  simp [GN] at hr
  exact⟨by simp;omega,h.ch,h.sp,h.ti⟩
 ·exact h
theorem Ib{fr nest:Int}{sp:Bool}(h:bOk s):bOk (Ba r fr sp nest s):=by
 unfold Ba;split
 ·exact⟨h.ru,by simp;omega,h.sp,h.ti⟩
 ·split
  ·exact Fa h
  ·exact h
theorem a0l{u:Int}(h:bOk s):bOk (CF k u s):=by
 unfold CF;split
 ·exact⟨h.ru,h.ch,h.sp,by simp;omega⟩
 ·exact h
theorem c0Y{f:Int}(h:bOk s):bOk (EY f s):=by
 unfold EY;split
 ·exact⟨h.ru,h.ch,by simp;omega,h.ti⟩
 ·exact h
def stp(rd:Bool)(w:Int→Nat)(f:Int→Int→Bs→Bs)(l:List Int):Prop:=∀c∈l,∀a s,bLe rd (w c) s (f c a s)∧(bOk s→bOk (f c a s))
def wL(w:Int→Nat)(l:List Int):Nat:=(l.map w).sum
theorem FI{c:Int}:wL w (c::l)=w c+wL w l:=by simp [wL]
theorem c0Z{m:List Int}:wL w (l++m)=wL w l+wL w m:=by simp [wL]
theorem Uu(h:stp rd w f (c::l)):stp rd w f l:=fun d hd=>h d (by simp [hd])
theorem a6S{rd:Bool}{w:Int→Nat}{f:Int→Int→Bs→Bs}{r g inner:Int}:∀ {l:List Int} {first:Bool} {s:Bs},stp rd w f l→
 bLe rd (2*l.length+wL w l) s (itL f r g inner l first s)∧(bOk s→bOk (itL f r g inner l first s))
 |[],first,s,h=>⟨Db GP (by simp),id⟩
 |c::l,first,s,h=>by
  have h1:bLe rd 2 s (if first then s else Ba r g true inner (Aq [44] s))∧(bOk s→bOk (if first then s else Ba r g true inner (Aq [44] s))):=by
   split
   ·exact⟨Db GP (by omega),id⟩
   ·exact⟨Cm (m:=1) (n:=1) (EZ (t:=[44])) Hm,fun ho=>Ib (Fa ho)⟩
  have h2:=h c (by simp) inner (if first then s else Ba r g true inner (Aq [44] s))
  have h3:=a6S (r:=r) (g:=g) (inner:=inner) (first:=false) (s:=f c inner (if first then s else Ba r g true inner (Aq [44] s))) (Uu h)
  rw[itL]
  exact⟨Db (Cm (Cm h1.1 h2.1) h3.1) (by rw[FI,List.length_cons];omega),fun ho=>h3.2 (h2.2 (h1.2 ho))⟩
theorem a6T{op en:List UInt8}{ks:List Int}{a:Int}(h:stp rd w f ks)(ho:op.length≤1)(he:en.length≤1)(hk:ks.length≤12):
 bLe rd (28+wL w ks) s (Eg rd f op ks en a s)∧(bOk s→bOk (Eg rd f op ks en a s)):=by
 unfold Eg
 split
 ·exact⟨Db (Cm EZ EZ) (by omega),fun h=>Fa (Fa h)⟩
 ·have h3:=a6S (r:=Au rd (Aq op s)) (g:=min ks.length 2) (inner:=up4 a) (first:=true) (s:=Ba (Au rd (Aq op s)) 1 false (up4 a) (Bo rd (min ks.length 2+1) 1 (Aq op s))) h
  refine⟨Db (Cm (Cm (Cm (Cm (Cm EZ MP) Hm) h3.1) Hm) EZ) (by omega),fun hh=>Fa (Ib (h3.2 (Ib (ON (Fa hh)))))⟩
theorem a6U{inner:Int}{s:Bs}(h:∀a s,bLe rd (w c) s (f c a s)∧(bOk s→bOk (f c a s))):
 bLe rd (w c) s (Hk ns f r inner c s)∧(bOk s→bOk (Hk ns f r inner c s)):=by
 have h1:=h inner s
 have h2:bLe rd (w c) s (if Bc ns c=7 then CF (DI s.rules.length (f c inner s)) r (f c inner s) else f c inner s)∧(bOk s→bOk (if Bc ns c=7 then CF (DI s.rules.length (f c inner s)) r (f c inner s) else f c inner s)):=by
  split
  ·exact⟨Cm (n:=0) h1.1 a0k,fun ho=>a0l (h1.2 ho)⟩
  ·exact h1
 unfold Hk
 simp only
 split
 ·exact h2
 ·exact⟨Cm (n:=0) h2.1 c0X,fun ho=>c0Y (h2.2 ho)⟩
theorem a0m{rd:Bool}{w:Int→Nat}{ns:List Nd}{f:Int→Int→Bs→Bs}{r inner:Int}{t:List UInt8}(ht:t.length≤2):∀ {l:List Int} {first:Bool} {s:Bs},stp rd w f l→
 bLe rd (4*l.length+wL w l) s (chL ns f r inner t l first s)∧(bOk s→bOk (chL ns f r inner t l first s))
 |[],first,s,h=>⟨Db GP (by simp),id⟩
 |c::l,first,s,h=>by
  have h1:bLe rd 4 s (if first then s else Ba r 1 true inner (Aq (32::t) s))∧(bOk s→bOk (if first then s else Ba r 1 true inner (Aq (32::t) s))):=by
   split
   ·exact⟨Db GP (by omega),id⟩
   ·exact⟨Db (Cm (n:=1) EZ Hm) (by simp;omega),fun ho=>Ib (Fa ho)⟩
  have h2:=a6U (ns:=ns) (r:=r) (inner:=inner) (s:=if first then s else Ba r 1 true inner (Aq (32::t) s)) (h c (by simp))
  have h3:=a0m (ns:=ns) (r:=r) (inner:=inner) ht (first:=false) (s:=Hk ns f r inner c (if first then s else Ba r 1 true inner (Aq (32::t) s))) (Uu h)
  rw[chL]
  exact⟨Db (Cm (Cm h1.1 h2.1) h3.1) (by rw[FI,List.length_cons];omega),fun ho=>h3.2 (h2.2 (h1.2 ho))⟩
theorem a6V{inner:Int}{s:Bs}(h:∀a s,bLe rd (w c) s (f c a s)∧(bOk s→bOk (f c a s))):
 bLe rd (w c) s (Hl ns f r inner c s)∧(bOk s→bOk (Hl ns f r inner c s)):=by
 have h1:=h inner s
 unfold Hl
 split
 ·exact⟨Cm (n:=0) h1.1 a0k,fun ho=>a0l (h1.2 ho)⟩
 ·exact h1
theorem a0n{i:Int}:(pkT i).length≤2:=by
 unfold pkT;split
 ·simp
 ·split<;>simp
theorem a0o{rd:Bool}{w:Int→Nat}{ns:List Nd}{f:Int→Int→Bs→Bs}{r inner:Int}:∀ {l:List Int} {i:Int} {s:Bs},stp rd w f l→
 bLe rd (3*l.length+wL w l) s (pkL ns f r inner l i s)∧(bOk s→bOk (pkL ns f r inner l i s))
 |[],i,s,h=>⟨Db GP (by simp),id⟩
 |c::l,i,s,h=>by
  have h1:bLe rd 3 s (if i=0 then s else Aq (pkT i) (Ba r 1 true inner s))∧(bOk s→bOk (if i=0 then s else Aq (pkT i) (Ba r 1 true inner s))):=by
   split
   ·exact⟨Db GP (by omega),id⟩
   ·exact⟨Db (Cm (m:=1) Hm EZ) (by have:= @a0n i;omega),fun ho=>Fa (Ib ho)⟩
  have h2:=a6V (ns:=ns) (r:=r) (inner:=inner) (s:=if i=0 then s else Aq (pkT i) (Ba r 1 true inner s)) (h c (by simp))
  have h3:=a0o (ns:=ns) (r:=r) (inner:=inner) (i:=i+1) (s:=Hl ns f r inner c (if i=0 then s else Aq (pkT i) (Ba r 1 true inner s))) (Uu h)
  rw[pkL]
  exact⟨Db (Cm (Cm h1.1 h2.1) h3.1) (by rw[FI,List.length_cons];omega),fun ho=>h3.2 (h2.2 (h1.2 ho))⟩
theorem a6W{rd:Bool}{w:Int→Nat}{f:Int→Int→Bs→Bs}{r inner:Int}:∀ {l:List Int} {s:Bs},stp rd w f l→
 bLe rd (3*l.length+wL w l) s (caL f r inner l s)∧(bOk s→bOk (caL f r inner l s))
 |[],s,h=>⟨Db GP (by simp),id⟩
 |c::l,s,h=>by
  have h1:bLe rd 3 s (Aq [46,46] (Ba r 1 false inner s))∧(bOk s→bOk (Aq [46,46] (Ba r 1 false inner s))):=
   ⟨Db (Cm (m:=1) Hm EZ) (by simp),fun ho=>Fa (Ib ho)⟩
  have h2:=h c (by simp) inner (Aq [46,46] (Ba r 1 false inner s))
  have h3:=a6W (r:=r) (inner:=inner) (s:=f c inner (Aq [46,46] (Ba r 1 false inner s))) (Uu h)
  rw[caL]
  exact⟨Db (Cm (Cm h1.1 h2.1) h3.1) (by rw[FI,List.length_cons];omega),fun ho=>h3.2 (h2.2 (h1.2 ho))⟩
def tW(ns:List Nd):Nat→Int→Nat
 |0,_=>0
 |n+1,k=>(Ab ns k).text.length+80+wL (tW ns n) (Ab ns k).kids
theorem a6X:(Ab ns k).text.length≤tW ns (n+1) k:=by rw[tW];omega
theorem QZ{ns:List Nd}{w:Int→Nat}:∀ {l:List Int} {first:Bool},(∀c∈l,(Ab ns c).text.length≤w c)→(Fr ns l first).length≤2*l.length+wL w l
 |[],_,_=>by simp [Fr]
 |c::l,first,h=>by
  have h1:=QZ (l:=l) (first:=false) fun d hd=>h d (by simp [hd])
  have h2:=h c (by simp)
  rw[Fr,FI,List.length_cons,List.length_append,List.length_append]
  split<;>simp<;>omega
theorem Ju{i:Nat}(h:i<x.kids.length):kd x i∈x.kids:=by
 have e:x.kids[i]? =some x.kids[i]:=List.getElem?_eq_getElem h
 rw[KU e];exact List.getElem_mem h
theorem Uv{w:Int→Nat}{c:Int}:∀ {l:List Int},c∈l→w c≤wL w l
 |[],h=>by cases h
 |d::l,h=>by
  rw[FI]
  rcases List.mem_cons.1 h with rfl|h
  ·omega
  ·have:=Uv (w:=w) h;omega
theorem a6Y(h:0<x.kids.length):w (kd x 0)+wL w (x.kids.drop 1)=wL w x.kids:=by
 obtain⟨k,t,ks,b⟩:=x
 match ks,h with
 |c::l,_=>simp [kd,wL]
theorem a6Z(h:0<x.kids.length):wL w (x.kids.take (x.kids.length-1))+w (kd x (x.kids.length-1))=wL w x.kids:=by
 have e:x.kids.drop (x.kids.length-1)=[kd x (x.kids.length-1)]:=by
  have hi:x.kids.length-1<x.kids.length:=by omega
  rw[List.drop_eq_getElem_cons hi,List.drop_of_length_le (by omega),KU (List.getElem?_eq_getElem hi)]
 have:=c0Z (w:=w) (l:=x.kids.take (x.kids.length-1)) (m:=x.kids.drop (x.kids.length-1))
 rw[List.take_append_drop,e] at this
 rw[this];simp [wL]
theorem c1a{a:Int}(h:stp rd w f x.kids)(hk:x.kids.length≤12)(hlo:(Ee x.kind).1≤x.kids.length)(hv:Bf x.kind=true)
 (hn:∀c∈x.kids,(Ab ns c).text.length≤w c) (h7:x.kind=7→x.text.length≤2):
 bLe rd (x.text.length+80+wL w x.kids) s (bV1 ns rd f x a s)∧(bOk s→bOk (bV1 ns rd f x a s)):=by
 have hv:=BW.1 hv
 have hpos:x.kind≠1→x.kind≠2→x.kind≠3→x.kind≠4→0<x.kids.length:=by
  intro h1 h2 h3 h4
  unfold Ee at hlo
  split at hlo
  ·omega
  ·split at hlo
   ·simp only at hlo;omega
   ·split at hlo
    ·simp only at hlo;omega
    ·split at hlo
     ·simp only at hlo;omega
     ·split at hlo
      ·simp only at hlo;omega
      ·omega
 unfold bV1
 split
 ·exact⟨Db EZ (by omega),Fa⟩
 rename_i n1
 split
 ·rename_i hk
  have hm:=Ju (hpos (by omega) (by omega) (by omega) (by omega))
  have h1:=h _ hm a (Aq [40] s)
  have:=Uv (w:=w) hm
  exact⟨Db (Cm (Cm EZ h1.1) EZ) (by simp;omega),fun ho=>Fa (h1.2 (Fa ho))⟩
 split
 ·have hm:=Ju (hpos (by omega) (by omega) (by omega) (by omega))
  have h1:=h _ hm a s
  have:=Uv (w:=w) hm
  exact⟨Db (Cm h1.1 EZ) (by simp;omega),fun ho=>Fa (h1.2 ho)⟩
 split
 ·have h1:=a6T (op:=[91]) (en:=[93]) (a:=a) (s:=s) h (by simp) (by simp) hk
  exact⟨Db h1.1 (by omega),h1.2⟩
 split
 ·have hp:=hpos (by omega) (by omega) (by omega) (by omega)
  have h1:=h _ (Ju hp) a s
  have h2:=a6T (rd:=rd) (w:=w) (f:=f) (ks:=x.kids.drop 1) (op:=[40]) (en:=[41]) (a:=a) (s:=f (kd x 0) a s) (fun c hc=>h c (List.mem_of_mem_drop hc)) (by simp) (by simp) (by rw[List.length_drop];omega)
  have:=a6Y (w:=w) hp
  exact⟨Db (Cm h1.1 h2.1) (by omega),fun ho=>h2.2 (h1.2 ho)⟩
 split
 ·have h1:=a0m (ns:=ns) (r:=Au rd s) (inner:=up4 a) (t:=x.text) (h7 ‹_›) (first:=true) (s:=Bo rd 2 1 s) h
  exact⟨Db (Cm (m:=0) MP h1.1) (by omega),fun ho=>h1.2 (ON ho)⟩
 split
 ·have h1:=a0o (ns:=ns) (r:=Au rd s) (inner:=up4 a) (i:=0) (s:=Bo rd 2 1 s) h
  exact⟨Db (Cm (m:=0) MP h1.1) (by omega),fun ho=>h1.2 (ON ho)⟩
 split
 ·have hp:=hpos (by omega) (by omega) (by omega) (by omega)
  have h1:=h _ (Ju (x:=x) (i:=x.kids.length-1) (by omega)) (up4 a) (Ba (Au rd (Aq (DJ ns x++[32,61,62]) s)) 1 true (up4 a) (Bo rd 2 2 (Aq (DJ ns x++[32,61,62]) s)))
  have h2:=QZ (ns:=ns) (w:=w) (l:=x.kids.take (x.kids.length-1)) (first:=true) fun c hc=>hn c (List.mem_of_mem_take hc)
  have h3:=a6Z (w:=w) hp
  have h4:(x.kids.take (x.kids.length-1)).length≤12:=by rw[List.length_take];omega
  refine⟨Db (Cm (Cm (Cm (n:=0) EZ MP) Hm) h1.1) ?_,fun ho=>h1.2 (Ib (ON (Fa ho)))⟩
  simp only[DJ,List.length_append,List.length_cons,List.length_nil];omega
 ·have hp:=hpos (by omega) (by omega) (by omega) (by omega)
  have h1:=h _ (Ju hp) a (Bo rd 2 1 s)
  have h2:=a6W (rd:=rd) (w:=w) (f:=f) (r:=Au rd s) (inner:=up4 a) (l:=x.kids.drop 1) (s:=f (kd x 0) a (Bo rd 2 1 s)) fun c hc=>h c (List.mem_of_mem_drop hc)
  have:=a6Y (w:=w) hp
  have h4:(x.kids.drop 1).length≤12:=by rw[List.length_drop];omega
  exact⟨Db (Cm (Cm (m:=0) MP h1.1) h2.1) (by omega),fun ho=>h2.2 (h1.2 (ON ho))⟩
theorem a7a(h:(l.map (Bc ns)).all Bf=true):∀c∈l,Bf (Bc ns c)=true:=by
 intro c hc
 rw[List.all_eq_true] at h
 exact h _ (List.mem_map.2 ⟨c,hc,rfl⟩)
theorem c1b(h:Ep k=true):Bf k=true:=by
 simp [Ep] at h;subst h;rfl
theorem c1c(h:Fx k=true):Bf k=true:=by
 simp [Fx] at h;subst h;rfl
theorem c1d(h:DV x.kind (x.kids.map (Bc ns))=true)(hv:Bf x.kind=true):∀c∈x.kids,Bf (Bc ns c)=true:=by
 have hv:=BW.1 hv
 have hc:x.kind=1∨x.kind=2∨x.kind=3∨x.kind=4∨x.kind=5∨x.kind=6∨x.kind=7∨x.kind=8∨x.kind=9∨x.kind=10∨x.kind=11:=by omega
 have h0:∀l:List Int,l.length=0→∀c∈l,Bf (Bc ns c)=true:=fun l hl c hc=>by
  have:=List.eq_nil_of_length_eq_zero hl;subst this;cases hc
 have ha:∀(p:Bool),(p&&(x.kids.map (Bc ns)).all Bf)=true→∀c∈x.kids,Bf (Bc ns c)=true:=fun p hp=>by
  rw[Bool.and_eq_true] at hp;exact a7a hp.2
 have e1:∀k:Int,x.kind=k→DV k (x.kids.map (Bc ns))=true:=fun k e=>by rw[←e];exact h
 rcases hc with e|e|e|e|e|e|e|e|e|e|e
 ·have h:=e1 _ e
  simp only[DV,true_or,or_true,if_true,decide_eq_true_eq,List.length_map] at h
  exact h0 _ h
 ·have h:=e1 _ e
  simp only[DV,true_or,or_true,if_true,decide_eq_true_eq,List.length_map] at h
  exact h0 _ h
 ·have h:=e1 _ e
  simp only[DV,true_or,or_true,if_true,decide_eq_true_eq,List.length_map] at h
  exact h0 _ h
 ·exact a7a (e1 _ e)
 ·exact ha _ (e1 _ e)
 ·exact ha _ (e1 _ e)
 ·exact ha _ (e1 _ e)
 ·exact ha _ (e1 _ e)
 ·have h:Gj Bf (x.kids.map (Bc ns))=true:=e1 _ e
  unfold Gj at h
  split at h
  ·rename_i k hk
   rw[Bool.and_eq_true,List.all_eq_true] at h
   intro c hc
   have hm:Bc ns c∈x.kids.map (Bc ns):=List.mem_map.2 ⟨c,hc,rfl⟩
   rw[a3V hk] at hm
   rcases List.mem_append.1 hm with hm|hm
   ·exact c1b (h.2 _ hm)
   ·simp at hm;rw[hm];exact h.1
  ·cases h
 ·have h:(decide (2≤(x.kids.map (Bc ns)).length)&&(Bf ((x.kids.map (Bc ns)).headD 0)&&((x.kids.map (Bc ns)).drop 1).all Fx))=true:=e1 _ e
  simp only[Bool.and_eq_true,List.all_eq_true] at h
  intro c hc
  match hx:x.kids with
  |[]=>rw[hx] at hc;cases hc
  |d::l=>
   rw[hx] at h hc
   simp only[List.map_cons,List.headD_cons,List.drop_succ_cons,List.drop_zero] at h
   rcases List.mem_cons.1 hc with rfl|hc
   ·exact h.2.1
   ·exact c1c (h.2.2 _ (List.mem_map.2 ⟨c,hc,rfl⟩))
 ·exact ha _ (e1 _ e)
theorem Ra(h:CS ns k)(hv:Bf (Bc ns k)=true)(hc:c∈(Ab ns k).kids):Bf (Bc ns c)=true:=
 c1d (EF (Jm h)).2.2.2.2.2.1 hv c hc
theorem c1e{s:List UInt8}(h:JG s=true):s.length≤2:=by
 simp only[JG,Bool.or_eq_true,beq_iff_eq] at h
 rcases h with rfl|rfl|rfl|rfl|rfl|rfl|rfl<;>simp
theorem a0p(h:CS ns k)(hk:(Ab ns k).kind=7):(Ab ns k).text.length≤2:=by
 have:=(EF (Jm h)).2.2.1
 rw[hk] at this
 exact c1e (by simpa [EO] using this)
theorem Lk{ns:List Nd}{rd:Bool}:∀ {n:Nat} {k a:Int} {s:Bs},CS ns k→k<n→Bf (Bc ns k)=true→bLe rd (tW ns n k) s (bV ns rd n k a s)∧(bOk s→bOk (bV ns rd n k a s))
 |0,k,a,s,h,hk,_=>by have:=BB.1 h.1;omega
 |n+1,k,a,s,h,hk,hv=>by
  rw[bV,tW]
  refine c1a (fun c hc a s=> ?_) (EF (Jm h)).2.1 (Th h).2.1 hv (fun c hc=> ?_) (a0p h)
  ·have hm:=FC h hc
   exact Lk hm.1 (by omega) (Ra h hv hc)
  ·have hm:=FC h hc
   have hr:=BB.1 h.1
   have:n=(n-1)+1:=by omega
   rw[this];exact a6X
theorem c1f(h:CS ns k)(hk:k<(n+1:Nat))(hv:Bf (Bc ns k)=true)(hl:∀c∈l,c∈(Ab ns k).kids):stp rd (tW ns n) (bV ns rd n) l:=by
 intro c hc a s
 have hm:=FC h (hl c hc)
 exact Lk hm.1 (by omega) (Ra h hv (hl c hc))
theorem a7b{ds:List Int}:∀ {l:List Int} {d c:Int},c∈l→ds.getD c.toNat 0≤mx ds l d
 |[],_,_,h=>by cases h
 |e::l,d,c,h=>by
  rw[mx]
  rcases List.mem_cons.1 h with rfl|h
  ·have:=SA ds l (max d (ds.getD c.toNat 0));omega
  ·exact a7b h
theorem a0q{m:List Int}{i:Nat}(h:i<l.length):(l++m).getD i 0=l.getD i 0:=by
 simp [List.getD,List.getElem?_append_left h]
theorem Rb{ns:List Nd}:∀ {n:Nat} {ds:List Int},CW ns n=some ds→∀i:Nat,i<n→(1≤ds.getD i 0∧ds.getD i 0≤14)∧∀c∈(Ab ns i).kids,ds.getD c.toNat 0+1≤ds.getD i 0
 |0,_,_,i,hi=>by omega
 |n+1,ds,h,i,hi=>by
  have hall:=NO h
  have hlen:=KL h
  have h0:1≤ds.getD i 0∧ds.getD i 0≤14:=by
   have:ds[i]? =some ds[i]:=by simp
   simp only[List.getD,this,Option.getD_some]
   exact hall _ (by simp)
  refine⟨h0,?_⟩
  unfold CW at h
  split at h
  ·cases h
  ·rename_i ds' hd
   have hl:=KL hd
   split at h
   ·rename_i hok
    split at h
    ·cases h
    ·simp at h
     have hp:=(EF hok).2.2.2.1
     by_cases e:i=n
     ·subst e
      intro c hc
      have hcr:=hp c hc
      rw[←h,a0q (by omega)]
      have:(ds'++[mx ds' (Ab ns i).kids 0+1]).getD i 0=mx ds' (Ab ns i).kids 0+1:=by
       simp [List.getD,List.getElem?_append_right,hl]
      rw[this]
      have:= @a7b ds' (Ab ns i).kids 0 c hc
      omega
     ·intro c hc
      have hi2:i<n:=by omega
      have hcr:=(EF (XH hd i hi2)).2.2.2.1 c hc
      rw[←h,a0q (by omega),a0q (by omega)]
      exact(Rb hd i hi2).2 c hc
   ·cases h
def txS(ns:List Nd):Nat:=((List.range ns.length).map fun i:Nat=>(Ab ns i).text.length).sum
theorem c1g{s:List UInt8}(h:DL s=true):s.length≤30:=by
 simp only[DL,Bool.and_eq_true] at h
 have:=h.1
 rw[Yc] at this
 cases s with
 |nil=>simp
 |cons c t=>
  simp only[Bool.and_eq_true,decide_eq_true_eq] at this
  omega
theorem a0r{w:Int→Nat}{b:Nat}:∀ {l:List Int},(∀c∈l,w c≤b)→wL w l≤l.length*b
 |[],_=>by simp [wL]
 |c::l,h=>by
  have h1:=h c (by simp)
  have h2:=a0r (w:=w) (l:=l) fun d hd=>h d (by simp [hd])
  rw[FI,List.length_cons,Nat.succ_mul];omega
end Go.My
end
