/- A part of the proof: the engine and the contracts, joined. -/
import Derived.Test.YtplklcfglbkfhaaGreatDoorQK
section
set_option linter.unusedVariables false
set_option linter.unusedSimpArgs false
namespace Go.My
open Go.Eng Go.Proofs
variable {G:GInv}
def meC(x:Md)(T:Nat):LS:= {
 ι:=Int×Int×List UInt8,inv:=fun j=>j.2.2.length≤T∧Ad x.b j.1,regs:=fun j=>[(0,Dm x j.1 j.2.1 j.2.2)],als:=[],meas:=fun _=>0}
def Gq:Sig:= {X:=Md,args:=fun x=>[mad x],pre:=fun x=>mdP x∧x.t.length≤2^24,Y:=Int×Int×List UInt8,post:=fun x y=>y.2.2.length≤x.t.length+1911100∧Ad x.b y.1,res:=fun x y=> .tup [],outs:=fun x y=>[Dm x y.1 y.2.1 y.2.2],keep:=true}
theorem a8H:Am G Tryz.prog 130 Gq:=
 vcFun_okP [(51,0,Da),(157,0,Ba),(123,0,Hw),(158,0,(Hm 2))] [(38,⟨List UInt8,As⟩)] false (fun x=>[(100005,meC x (x.t.length+60)),(100001,meC x (x.t.length+60))]) Tryz.func130 rfl (by decide) ⟨Gb,Mp,KN,(Yk 2),trivial⟩ (fun(x:Md)=>True∧∃(x_1:List UInt8×Int×Int×Int),Ad x_1.1 x_1.2.1∧x.cv=x.cv∧AV.sl false (0:Nat) (1:Nat) UInt8 byA x.b=AV.sl false (0:Nat) (1:Nat) UInt8 byA x_1.1∧x.i=x_1.2.1∧x.h=x_1.2.2.1∧(5:Int)=x_1.2.2.2∧∀(y:Int×Int×Int),(((0:Int)<x_1.2.2.2→(0:Int)≤y.1∧y.1<x_1.2.2.2)∧(x_1.2.2.2≤(0:Int)→y.1=(0:Int)))∧Ad x_1.1 y.2.1→x.cv=x.cv∧Aa (y.1==(0:Int)) (true=true∧(((↑(List.length x.t+(4:Nat)):Int)≤IntKind.max IntKind.i64∧cA Ba [.box 0 [AV.bv x.cv [AV.sl false (0:Nat) (1:Nat) UInt8 byA x_1.1,.int .i64 y.2.1,.int .i64 y.2.2],.str x.t]] fun x_2 y=>(↑(List.length (x.t++ #[(118:UInt8),(97:UInt8),(114:UInt8),(32:UInt8)].toList)+List.length y.1):Int)≤IntKind.max IntKind.i64∧(↑(List.length (x.t++ #[(118:UInt8),(97:UInt8),(114:UInt8),(32:UInt8)].toList++y.1)+(2:Nat)):Int)≤IntKind.max IntKind.i64∧true=true∧eA (meC x (List.length x.t+(60:Nat))) [.box 0 [AV.bv x_2.cv [AV.sl false (0:Nat) (1:Nat) UInt8 byA x_2.b,.int .i64 y.2.1,.int .i64 y.2.2],.str (x.t++ #[(118:UInt8),(97:UInt8),(114:UInt8),(32:UInt8)].toList++y.1++ #[(59:UInt8),(32:UInt8)].toList)]])∧cA Ba [.box 0 [AV.bv x.cv [AV.sl false (0:Nat) (1:Nat) UInt8 byA x_1.1,.int .i64 y.2.1,.int .i64 y.2.2],.str x.t]] fun x_2 y=>(↑(List.length x_2.t+(4:Nat)):Int)≤IntKind.max IntKind.i64∧(↑(List.length (x_2.t++ #[(118:UInt8),(97:UInt8),(114:UInt8),(32:UInt8)].toList)+List.length y.1):Int)≤IntKind.max IntKind.i64∧(↑(List.length (x_2.t++ #[(118:UInt8),(97:UInt8),(114:UInt8),(32:UInt8)].toList++y.1)+(2:Nat)):Int)≤IntKind.max IntKind.i64∧true=true∧eA (meC x (List.length x.t+(60:Nat))) [.box 0 [AV.bv x_2.cv [AV.sl false (0:Nat) (1:Nat) UInt8 byA x_2.b,.int .i64 y.2.1,.int .i64 y.2.2],.str (x_2.t++ #[(118:UInt8),(97:UInt8),(114:UInt8),(32:UInt8)].toList++y.1++ #[(59:UInt8),(32:UInt8)].toList)]])∧∀(i:Int×Int×List UInt8),List.length i.2.2≤List.length x.t+(60:Nat)∧Ad x.b i.1→rA Gq x [.tup [],.box 0 [AV.bv x.cv [AV.sl false (0:Nat) (1:Nat) UInt8 byA x.b,.int .i64 i.1,.int .i64 i.2.1],.str i.2.2]]) (Aa (y.1==(1:Int)) ((↑(List.length x.t+(10:Nat)):Int)≤IntKind.max IntKind.i64∧rA Gq x [.tup [],.box 0 [AV.bv x.cv [AV.sl false (0:Nat) (1:Nat) UInt8 byA x_1.1,.int .i64 y.2.1,.int .i64 y.2.2],.str (x.t++ #[(47:UInt8),(47:UInt8),(32:UInt8),(97:UInt8),(32:UInt8),(110:UInt8),(111:UInt8),(116:UInt8),(101:UInt8),(10:UInt8)].toList)]]) (true=true∧(((cA Ba [.box 0 [AV.bv x.cv [AV.sl false (0:Nat) (1:Nat) UInt8 byA x_1.1,.int .i64 y.2.1,.int .i64 y.2.2],.str x.t]] fun x_2 y=>(↑(List.length x.t+List.length y.1):Int)≤IntKind.max IntKind.i64∧(↑(List.length (x.t++y.1)+(1:Nat)):Int)≤IntKind.max IntKind.i64∧(∃(x_3:List UInt8),#[].toList=x_3∧∃(x_4:List UInt8),#[(97:UInt8)].toList=x_4∧∃(x_5:List UInt8),#[(97:UInt8),(44:UInt8),(32:UInt8),(98:UInt8),(44:UInt8)].toList=x_5∧∃(x_6:List UInt8×Int×Int×List (List UInt8)),(Ad x_6.1 x_6.2.1∧x_6.2.2.2≠[]∧List.length x_6.2.2.2<(1073741824:Nat))∧x_2.cv=x_2.cv∧AV.sl false (0:Nat) (1:Nat) UInt8 byA x_2.b=AV.sl false (0:Nat) (1:Nat) UInt8 byA x_6.1∧y.2.1=x_6.2.1∧y.2.2=x_6.2.2.1∧AV.sl false (0:Nat) (1:Nat) (List UInt8) (fun(x:List UInt8)=>fzL (As x)) [x_3,x_4,x_5]=AV.sl false (0:Nat) (1:Nat) (List UInt8) As x_6.2.2.2∧∀(y_1:List UInt8×Int×Int),y_1.1∈x_6.2.2.2∧Ad x_6.1 y_1.2.1→x_2.cv=x_2.cv∧(↑(List.length (x.t++y.1++ #[(40:UInt8)].toList)+List.length y_1.1):Int)≤IntKind.max IntKind.i64∧(↑(List.length (x.t++y.1++ #[(40:UInt8)].toList++y_1.1)+(4:Nat)):Int)≤IntKind.max IntKind.i64∧true=true∧eA (meC x (List.length x.t+(60:Nat))) [.box 0 [AV.bv x_2.cv [AV.sl false (0:Nat) (1:Nat) UInt8 byA x_6.1,.int .i64 y_1.2.1,.int .i64 y_1.2.2],.str (x.t++y.1++ #[(40:UInt8)].toList++y_1.1++ #[(41:UInt8),(32:UInt8),(123:UInt8),(32:UInt8)].toList)]])∧∃(x_3:List UInt8),#[].toList=x_3∧∃(x_4:List UInt8),#[(97:UInt8)].toList=x_4∧∃(x_5:List UInt8),#[(97:UInt8),(44:UInt8),(32:UInt8),(98:UInt8),(44:UInt8)].toList=x_5∧∃(x_6:List UInt8×Int×Int×List (List UInt8)),(Ad x_6.1 x_6.2.1∧x_6.2.2.2≠[]∧List.length x_6.2.2.2<(1073741824:Nat))∧x_2.cv=x_2.cv∧AV.sl false (0:Nat) (1:Nat) UInt8 byA x_2.b=AV.sl false (0:Nat) (1:Nat) UInt8 byA x_6.1∧y.2.1=x_6.2.1∧y.2.2=x_6.2.2.1∧AV.sl false (0:Nat) (1:Nat) (List UInt8) (fun(x:List UInt8)=>fzL (As x)) [x_3,x_4,x_5]=AV.sl false (0:Nat) (1:Nat) (List UInt8) As x_6.2.2.2∧∀(y_1:List UInt8×Int×Int),y_1.1∈x_6.2.2.2∧Ad x_6.1 y_1.2.1→x_2.cv=x_2.cv∧(↑(List.length (x.t++y.1++ #[(40:UInt8)].toList)+List.length y_1.1):Int)≤IntKind.max IntKind.i64∧(↑(List.length (x.t++y.1++ #[(40:UInt8)].toList++y_1.1)+(4:Nat)):Int)≤IntKind.max IntKind.i64∧true=true∧eA (meC x (List.length x.t+(60:Nat))) [.box 0 [AV.bv x_2.cv [AV.sl false (0:Nat) (1:Nat) UInt8 byA x_6.1,.int .i64 y_1.2.1,.int .i64 y_1.2.2],.str (x.t++y.1++ #[(40:UInt8)].toList++y_1.1++ #[(41:UInt8),(32:UInt8),(123:UInt8),(32:UInt8)].toList)]])∧((cA Ba [.box 0 [AV.bv x.cv [AV.sl false (0:Nat) (1:Nat) UInt8 byA x_1.1,.int .i64 y.2.1,.int .i64 y.2.2],.str x.t]] fun x_2 y=>(↑(List.length x.t+List.length y.1):Int)≤IntKind.max IntKind.i64∧(↑(List.length (x.t++y.1)+(1:Nat)):Int)≤IntKind.max IntKind.i64∧∃(x_3:List UInt8),#[].toList=x_3∧∃(x_4:List UInt8),#[(97:UInt8)].toList=x_4∧∃(x_5:List UInt8),#[(97:UInt8),(44:UInt8),(32:UInt8),(98:UInt8),(44:UInt8)].toList=x_5∧∃(x_6:List UInt8×Int×Int×List (List UInt8)),(Ad x_6.1 x_6.2.1∧x_6.2.2.2≠[]∧List.length x_6.2.2.2<(1073741824:Nat))∧x_2.cv=x.cv∧AV.sl false (0:Nat) (1:Nat) UInt8 byA x_2.b=AV.sl false (0:Nat) (1:Nat) UInt8 byA x_6.1∧y.2.1=x_6.2.1∧y.2.2=x_6.2.2.1∧AV.sl false (0:Nat) (1:Nat) (List UInt8) (fun(x:List UInt8)=>fzL (As x)) [x_3,x_4,x_5]=AV.sl false (0:Nat) (1:Nat) (List UInt8) As x_6.2.2.2∧∀(y_1:List UInt8×Int×Int),y_1.1∈x_6.2.2.2∧Ad x_6.1 y_1.2.1→x_2.cv=x.cv∧(↑(List.length (x.t++y.1++ #[(40:UInt8)].toList)+List.length y_1.1):Int)≤IntKind.max IntKind.i64∧(↑(List.length (x.t++y.1++ #[(40:UInt8)].toList++y_1.1)+(4:Nat)):Int)≤IntKind.max IntKind.i64∧true=true∧eA (meC x (List.length x.t+(60:Nat))) [.box 0 [AV.bv x_2.cv [AV.sl false (0:Nat) (1:Nat) UInt8 byA x_6.1,.int .i64 y_1.2.1,.int .i64 y_1.2.2],.str (x.t++y.1++ #[(40:UInt8)].toList++y_1.1++ #[(41:UInt8),(32:UInt8),(123:UInt8),(32:UInt8)].toList)]])∧∃(x_2:List UInt8),#[].toList=x_2∧∃(x_3:List UInt8),#[(97:UInt8)].toList=x_3∧∃(x_4:List UInt8),#[(97:UInt8),(44:UInt8),(32:UInt8),(98:UInt8),(44:UInt8)].toList=x_4∧cA Ba [.box 0 [AV.bv x.cv [AV.sl false (0:Nat) (1:Nat) UInt8 byA x_1.1,.int .i64 y.2.1,.int .i64 y.2.2],.str x.t]] fun x_5 y=>(↑(List.length x.t+List.length y.1):Int)≤IntKind.max IntKind.i64∧(↑(List.length (x.t++y.1)+(1:Nat)):Int)≤IntKind.max IntKind.i64∧∃(x_6:List UInt8×Int×Int×List (List UInt8)),(Ad x_6.1 x_6.2.1∧x_6.2.2.2≠[]∧List.length x_6.2.2.2<(1073741824:Nat))∧x_5.cv=x.cv∧AV.sl false (0:Nat) (1:Nat) UInt8 byA x_5.b=AV.sl false (0:Nat) (1:Nat) UInt8 byA x_6.1∧y.2.1=x_6.2.1∧y.2.2=x_6.2.2.1∧AV.sl false (0:Nat) (1:Nat) (List UInt8) (fun(x:List UInt8)=>fzL (As x)) [x_2,x_3,x_4]=AV.sl false (0:Nat) (1:Nat) (List UInt8) As x_6.2.2.2∧∀(y_1:List UInt8×Int×Int),y_1.1∈x_6.2.2.2∧Ad x_6.1 y_1.2.1→x_5.cv=x.cv∧(↑(List.length (x.t++y.1++ #[(40:UInt8)].toList)+List.length y_1.1):Int)≤IntKind.max IntKind.i64∧(↑(List.length (x.t++y.1++ #[(40:UInt8)].toList++y_1.1)+(4:Nat)):Int)≤IntKind.max IntKind.i64∧true=true∧eA (meC x (List.length x.t+(60:Nat))) [.box 0 [AV.bv x_5.cv [AV.sl false (0:Nat) (1:Nat) UInt8 byA x_6.1,.int .i64 y_1.2.1,.int .i64 y_1.2.2],.str (x.t++y.1++ #[(40:UInt8)].toList++y_1.1++ #[(41:UInt8),(32:UInt8),(123:UInt8),(32:UInt8)].toList)]])∧∃(x_2:List UInt8),#[].toList=x_2∧∃(x_3:List UInt8),#[(97:UInt8)].toList=x_3∧∃(x_4:List UInt8),#[(97:UInt8),(44:UInt8),(32:UInt8),(98:UInt8),(44:UInt8)].toList=x_4∧(cA Ba [.box 0 [AV.bv x.cv [AV.sl false (0:Nat) (1:Nat) UInt8 byA x_1.1,.int .i64 y.2.1,.int .i64 y.2.2],.str x.t]] fun x_5 y=>(↑(List.length x.t+List.length y.1):Int)≤IntKind.max IntKind.i64∧(↑(List.length (x.t++y.1)+(1:Nat)):Int)≤IntKind.max IntKind.i64∧∃(x_6:List UInt8×Int×Int×List (List UInt8)),(Ad x_6.1 x_6.2.1∧x_6.2.2.2≠[]∧List.length x_6.2.2.2<(1073741824:Nat))∧x_5.cv=x_5.cv∧AV.sl false (0:Nat) (1:Nat) UInt8 byA x_5.b=AV.sl false (0:Nat) (1:Nat) UInt8 byA x_6.1∧y.2.1=x_6.2.1∧y.2.2=x_6.2.2.1∧AV.sl false (0:Nat) (1:Nat) (List UInt8) (fun(x:List UInt8)=>fzL (As x)) [x_2,x_3,x_4]=AV.sl false (0:Nat) (1:Nat) (List UInt8) As x_6.2.2.2∧∀(y_1:List UInt8×Int×Int),y_1.1∈x_6.2.2.2∧Ad x_6.1 y_1.2.1→x_5.cv=x_5.cv∧(↑(List.length (x.t++y.1++ #[(40:UInt8)].toList)+List.length y_1.1):Int)≤IntKind.max IntKind.i64∧(↑(List.length (x.t++y.1++ #[(40:UInt8)].toList++y_1.1)+(4:Nat)):Int)≤IntKind.max IntKind.i64∧true=true∧eA (meC x (List.length x.t+(60:Nat))) [.box 0 [AV.bv x_5.cv [AV.sl false (0:Nat) (1:Nat) UInt8 byA x_6.1,.int .i64 y_1.2.1,.int .i64 y_1.2.2],.str (x.t++y.1++ #[(40:UInt8)].toList++y_1.1++ #[(41:UInt8),(32:UInt8),(123:UInt8),(32:UInt8)].toList)]])∧cA Ba [.box 0 [AV.bv x.cv [AV.sl false (0:Nat) (1:Nat) UInt8 byA x_1.1,.int .i64 y.2.1,.int .i64 y.2.2],.str x.t]] fun x_5 y=>(↑(List.length x.t+List.length y.1):Int)≤IntKind.max IntKind.i64∧(↑(List.length (x.t++y.1)+(1:Nat)):Int)≤IntKind.max IntKind.i64∧∃(x_6:List UInt8×Int×Int×List (List UInt8)),(Ad x_6.1 x_6.2.1∧x_6.2.2.2≠[]∧List.length x_6.2.2.2<(1073741824:Nat))∧x_5.cv=x.cv∧AV.sl false (0:Nat) (1:Nat) UInt8 byA x_5.b=AV.sl false (0:Nat) (1:Nat) UInt8 byA x_6.1∧y.2.1=x_6.2.1∧y.2.2=x_6.2.2.1∧AV.sl false (0:Nat) (1:Nat) (List UInt8) (fun(x:List UInt8)=>fzL (As x)) [x_2,x_3,x_4]=AV.sl false (0:Nat) (1:Nat) (List UInt8) As x_6.2.2.2∧∀(y_1:List UInt8×Int×Int),y_1.1∈x_6.2.2.2∧Ad x_6.1 y_1.2.1→x_5.cv=x.cv∧(↑(List.length (x.t++y.1++ #[(40:UInt8)].toList)+List.length y_1.1):Int)≤IntKind.max IntKind.i64∧(↑(List.length (x.t++y.1++ #[(40:UInt8)].toList++y_1.1)+(4:Nat)):Int)≤IntKind.max IntKind.i64∧true=true∧eA (meC x (List.length x.t+(60:Nat))) [.box 0 [AV.bv x_5.cv [AV.sl false (0:Nat) (1:Nat) UInt8 byA x_6.1,.int .i64 y_1.2.1,.int .i64 y_1.2.2],.str (x.t++y.1++ #[(40:UInt8)].toList++y_1.1++ #[(41:UInt8),(32:UInt8),(123:UInt8),(32:UInt8)].toList)]])∧(cA Ba [.box 0 [AV.bv x.cv [AV.sl false (0:Nat) (1:Nat) UInt8 byA x_1.1,.int .i64 y.2.1,.int .i64 y.2.2],.str x.t]] fun x_2 y=>((↑(List.length x_2.t+List.length y.1):Int)≤IntKind.max IntKind.i64∧(↑(List.length (x_2.t++y.1)+(1:Nat)):Int)≤IntKind.max IntKind.i64∧(∃(x_3:List UInt8),#[].toList=x_3∧∃(x_4:List UInt8),#[(97:UInt8)].toList=x_4∧∃(x_5:List UInt8),#[(97:UInt8),(44:UInt8),(32:UInt8),(98:UInt8),(44:UInt8)].toList=x_5∧∃(x_6:List UInt8×Int×Int×List (List UInt8)),(Ad x_6.1 x_6.2.1∧x_6.2.2.2≠[]∧List.length x_6.2.2.2<(1073741824:Nat))∧x_2.cv=x_2.cv∧AV.sl false (0:Nat) (1:Nat) UInt8 byA x_2.b=AV.sl false (0:Nat) (1:Nat) UInt8 byA x_6.1∧y.2.1=x_6.2.1∧y.2.2=x_6.2.2.1∧AV.sl false (0:Nat) (1:Nat) (List UInt8) (fun(x:List UInt8)=>fzL (As x)) [x_3,x_4,x_5]=AV.sl false (0:Nat) (1:Nat) (List UInt8) As x_6.2.2.2∧∀(y_1:List UInt8×Int×Int),y_1.1∈x_6.2.2.2∧Ad x_6.1 y_1.2.1→x_2.cv=x_2.cv∧(↑(List.length (x_2.t++y.1++ #[(40:UInt8)].toList)+List.length y_1.1):Int)≤IntKind.max IntKind.i64∧(↑(List.length (x_2.t++y.1++ #[(40:UInt8)].toList++y_1.1)+(4:Nat)):Int)≤IntKind.max IntKind.i64∧true=true∧eA (meC x (List.length x.t+(60:Nat))) [.box 0 [AV.bv x_2.cv [AV.sl false (0:Nat) (1:Nat) UInt8 byA x_6.1,.int .i64 y_1.2.1,.int .i64 y_1.2.2],.str (x_2.t++y.1++ #[(40:UInt8)].toList++y_1.1++ #[(41:UInt8),(32:UInt8),(123:UInt8),(32:UInt8)].toList)]])∧∃(x_3:List UInt8),#[].toList=x_3∧∃(x_4:List UInt8),#[(97:UInt8)].toList=x_4∧∃(x_5:List UInt8),#[(97:UInt8),(44:UInt8),(32:UInt8),(98:UInt8),(44:UInt8)].toList=x_5∧∃(x_6:List UInt8×Int×Int×List (List UInt8)),(Ad x_6.1 x_6.2.1∧x_6.2.2.2≠[]∧List.length x_6.2.2.2<(1073741824:Nat))∧x_2.cv=x_2.cv∧AV.sl false (0:Nat) (1:Nat) UInt8 byA x_2.b=AV.sl false (0:Nat) (1:Nat) UInt8 byA x_6.1∧y.2.1=x_6.2.1∧y.2.2=x_6.2.2.1∧AV.sl false (0:Nat) (1:Nat) (List UInt8) (fun(x:List UInt8)=>fzL (As x)) [x_3,x_4,x_5]=AV.sl false (0:Nat) (1:Nat) (List UInt8) As x_6.2.2.2∧∀(y_1:List UInt8×Int×Int),y_1.1∈x_6.2.2.2∧Ad x_6.1 y_1.2.1→x_2.cv=x_2.cv∧(↑(List.length (x_2.t++y.1++ #[(40:UInt8)].toList)+List.length y_1.1):Int)≤IntKind.max IntKind.i64∧(↑(List.length (x_2.t++y.1++ #[(40:UInt8)].toList++y_1.1)+(4:Nat)):Int)≤IntKind.max IntKind.i64∧true=true∧eA (meC x (List.length x.t+(60:Nat))) [.box 0 [AV.bv x_2.cv [AV.sl false (0:Nat) (1:Nat) UInt8 byA x_6.1,.int .i64 y_1.2.1,.int .i64 y_1.2.2],.str (x_2.t++y.1++ #[(40:UInt8)].toList++y_1.1++ #[(41:UInt8),(32:UInt8),(123:UInt8),(32:UInt8)].toList)]])∧(((↑(List.length x_2.t+List.length y.1):Int)≤IntKind.max IntKind.i64∧(↑(List.length (x_2.t++y.1)+(1:Nat)):Int)≤IntKind.max IntKind.i64∧∃(x_3:List UInt8),#[].toList=x_3∧∃(x_4:List UInt8),#[(97:UInt8)].toList=x_4∧∃(x_5:List UInt8),#[(97:UInt8),(44:UInt8),(32:UInt8),(98:UInt8),(44:UInt8)].toList=x_5∧∃(x_6:List UInt8×Int×Int×List (List UInt8)),(Ad x_6.1 x_6.2.1∧x_6.2.2.2≠[]∧List.length x_6.2.2.2<(1073741824:Nat))∧x_2.cv=x_2.cv∧AV.sl false (0:Nat) (1:Nat) UInt8 byA x_2.b=AV.sl false (0:Nat) (1:Nat) UInt8 byA x_6.1∧y.2.1=x_6.2.1∧y.2.2=x_6.2.2.1∧AV.sl false (0:Nat) (1:Nat) (List UInt8) (fun(x:List UInt8)=>fzL (As x)) [x_3,x_4,x_5]=AV.sl false (0:Nat) (1:Nat) (List UInt8) As x_6.2.2.2∧∀(y_1:List UInt8×Int×Int),y_1.1∈x_6.2.2.2∧Ad x_6.1 y_1.2.1→x_2.cv=x_2.cv∧(↑(List.length (x_2.t++y.1++ #[(40:UInt8)].toList)+List.length y_1.1):Int)≤IntKind.max IntKind.i64∧(↑(List.length (x_2.t++y.1++ #[(40:UInt8)].toList++y_1.1)+(4:Nat)):Int)≤IntKind.max IntKind.i64∧true=true∧eA (meC x (List.length x.t+(60:Nat))) [.box 0 [AV.bv x_2.cv [AV.sl false (0:Nat) (1:Nat) UInt8 byA x_6.1,.int .i64 y_1.2.1,.int .i64 y_1.2.2],.str (x_2.t++y.1++ #[(40:UInt8)].toList++y_1.1++ #[(41:UInt8),(32:UInt8),(123:UInt8),(32:UInt8)].toList)]])∧∃(x_3:List UInt8),#[].toList=x_3∧∃(x_4:List UInt8),#[(97:UInt8)].toList=x_4∧∃(x_5:List UInt8),#[(97:UInt8),(44:UInt8),(32:UInt8),(98:UInt8),(44:UInt8)].toList=x_5∧((↑(List.length x_2.t+List.length y.1):Int)≤IntKind.max IntKind.i64∧(↑(List.length (x_2.t++y.1)+(1:Nat)):Int)≤IntKind.max IntKind.i64∧∃(x_6:List UInt8×Int×Int×List (List UInt8)),(Ad x_6.1 x_6.2.1∧x_6.2.2.2≠[]∧List.length x_6.2.2.2<(1073741824:Nat))∧x_2.cv=x_2.cv∧AV.sl false (0:Nat) (1:Nat) UInt8 byA x_2.b=AV.sl false (0:Nat) (1:Nat) UInt8 byA x_6.1∧y.2.1=x_6.2.1∧y.2.2=x_6.2.2.1∧AV.sl false (0:Nat) (1:Nat) (List UInt8) (fun(x:List UInt8)=>fzL (As x)) [x_3,x_4,x_5]=AV.sl false (0:Nat) (1:Nat) (List UInt8) As x_6.2.2.2∧∀(y_1:List UInt8×Int×Int),y_1.1∈x_6.2.2.2∧Ad x_6.1 y_1.2.1→x_2.cv=x_2.cv∧(↑(List.length (x_2.t++y.1++ #[(40:UInt8)].toList)+List.length y_1.1):Int)≤IntKind.max IntKind.i64∧(↑(List.length (x_2.t++y.1++ #[(40:UInt8)].toList++y_1.1)+(4:Nat)):Int)≤IntKind.max IntKind.i64∧true=true∧eA (meC x (List.length x.t+(60:Nat))) [.box 0 [AV.bv x_2.cv [AV.sl false (0:Nat) (1:Nat) UInt8 byA x_6.1,.int .i64 y_1.2.1,.int .i64 y_1.2.2],.str (x_2.t++y.1++ #[(40:UInt8)].toList++y_1.1++ #[(41:UInt8),(32:UInt8),(123:UInt8),(32:UInt8)].toList)]])∧∃(x_6:List UInt8×Int×Int×List (List UInt8)),(Ad x_6.1 x_6.2.1∧x_6.2.2.2≠[]∧List.length x_6.2.2.2<(1073741824:Nat))∧x_2.cv=x_2.cv∧AV.sl false (0:Nat) (1:Nat) UInt8 byA x_2.b=AV.sl false (0:Nat) (1:Nat) UInt8 byA x_6.1∧y.2.1=x_6.2.1∧y.2.2=x_6.2.2.1∧AV.sl false (0:Nat) (1:Nat) (List UInt8) (fun(x:List UInt8)=>fzL (As x)) [x_3,x_4,x_5]=AV.sl false (0:Nat) (1:Nat) (List UInt8) As x_6.2.2.2∧∀(y_1:List UInt8×Int×Int),y_1.1∈x_6.2.2.2∧Ad x_6.1 y_1.2.1→x_2.cv=x_2.cv∧(↑(List.length x_2.t+List.length y.1):Int)≤IntKind.max IntKind.i64∧(↑(List.length (x_2.t++y.1)+(1:Nat)):Int)≤IntKind.max IntKind.i64∧(↑(List.length (x_2.t++y.1++ #[(40:UInt8)].toList)+List.length y_1.1):Int)≤IntKind.max IntKind.i64∧(↑(List.length (x_2.t++y.1++ #[(40:UInt8)].toList++y_1.1)+(4:Nat)):Int)≤IntKind.max IntKind.i64∧true=true∧eA (meC x (List.length x.t+(60:Nat))) [.box 0 [AV.bv x_2.cv [AV.sl false (0:Nat) (1:Nat) UInt8 byA x_6.1,.int .i64 y_1.2.1,.int .i64 y_1.2.2],.str (x_2.t++y.1++ #[(40:UInt8)].toList++y_1.1++ #[(41:UInt8),(32:UInt8),(123:UInt8),(32:UInt8)].toList)]])∧∃(x_3:List UInt8),#[].toList=x_3∧∃(x_4:List UInt8),#[(97:UInt8)].toList=x_4∧∃(x_5:List UInt8),#[(97:UInt8),(44:UInt8),(32:UInt8),(98:UInt8),(44:UInt8)].toList=x_5∧((↑(List.length x_2.t+List.length y.1):Int)≤IntKind.max IntKind.i64∧(↑(List.length (x_2.t++y.1)+(1:Nat)):Int)≤IntKind.max IntKind.i64∧∃(x_6:List UInt8×Int×Int×List (List UInt8)),(Ad x_6.1 x_6.2.1∧x_6.2.2.2≠[]∧List.length x_6.2.2.2<(1073741824:Nat))∧x_2.cv=x_2.cv∧AV.sl false (0:Nat) (1:Nat) UInt8 byA x_2.b=AV.sl false (0:Nat) (1:Nat) UInt8 byA x_6.1∧y.2.1=x_6.2.1∧y.2.2=x_6.2.2.1∧AV.sl false (0:Nat) (1:Nat) (List UInt8) (fun(x:List UInt8)=>fzL (As x)) [x_3,x_4,x_5]=AV.sl false (0:Nat) (1:Nat) (List UInt8) As x_6.2.2.2∧∀(y_1:List UInt8×Int×Int),y_1.1∈x_6.2.2.2∧Ad x_6.1 y_1.2.1→x_2.cv=x_2.cv∧(↑(List.length (x_2.t++y.1++ #[(40:UInt8)].toList)+List.length y_1.1):Int)≤IntKind.max IntKind.i64∧(↑(List.length (x_2.t++y.1++ #[(40:UInt8)].toList++y_1.1)+(4:Nat)):Int)≤IntKind.max IntKind.i64∧true=true∧eA (meC x (List.length x.t+(60:Nat))) [.box 0 [AV.bv x_2.cv [AV.sl false (0:Nat) (1:Nat) UInt8 byA x_6.1,.int .i64 y_1.2.1,.int .i64 y_1.2.2],.str (x_2.t++y.1++ #[(40:UInt8)].toList++y_1.1++ #[(41:UInt8),(32:UInt8),(123:UInt8),(32:UInt8)].toList)]])∧((↑(List.length x_2.t+List.length y.1):Int)≤IntKind.max IntKind.i64∧(↑(List.length (x_2.t++y.1)+(1:Nat)):Int)≤IntKind.max IntKind.i64∧∃(x_6:List UInt8×Int×Int×List (List UInt8)),(Ad x_6.1 x_6.2.1∧x_6.2.2.2≠[]∧List.length x_6.2.2.2<(1073741824:Nat))∧x_2.cv=x_2.cv∧AV.sl false (0:Nat) (1:Nat) UInt8 byA x_2.b=AV.sl false (0:Nat) (1:Nat) UInt8 byA x_6.1∧y.2.1=x_6.2.1∧y.2.2=x_6.2.2.1∧AV.sl false (0:Nat) (1:Nat) (List UInt8) (fun(x:List UInt8)=>fzL (As x)) [x_3,x_4,x_5]=AV.sl false (0:Nat) (1:Nat) (List UInt8) As x_6.2.2.2∧∀(y_1:List UInt8×Int×Int),y_1.1∈x_6.2.2.2∧Ad x_6.1 y_1.2.1→x_2.cv=x_2.cv∧(↑(List.length (x_2.t++y.1++ #[(40:UInt8)].toList)+List.length y_1.1):Int)≤IntKind.max IntKind.i64∧(↑(List.length (x_2.t++y.1++ #[(40:UInt8)].toList++y_1.1)+(4:Nat)):Int)≤IntKind.max IntKind.i64∧true=true∧eA (meC x (List.length x.t+(60:Nat))) [.box 0 [AV.bv x_2.cv [AV.sl false (0:Nat) (1:Nat) UInt8 byA x_6.1,.int .i64 y_1.2.1,.int .i64 y_1.2.2],.str (x_2.t++y.1++ #[(40:UInt8)].toList++y_1.1++ #[(41:UInt8),(32:UInt8),(123:UInt8),(32:UInt8)].toList)]])∧∃(x_6:List UInt8×Int×Int×List (List UInt8)),(Ad x_6.1 x_6.2.1∧x_6.2.2.2≠[]∧List.length x_6.2.2.2<(1073741824:Nat))∧x_2.cv=x_2.cv∧AV.sl false (0:Nat) (1:Nat) UInt8 byA x_2.b=AV.sl false (0:Nat) (1:Nat) UInt8 byA x_6.1∧y.2.1=x_6.2.1∧y.2.2=x_6.2.2.1∧AV.sl false (0:Nat) (1:Nat) (List UInt8) (fun(x:List UInt8)=>fzL (As x)) [x_3,x_4,x_5]=AV.sl false (0:Nat) (1:Nat) (List UInt8) As x_6.2.2.2∧∀(y_1:List UInt8×Int×Int),y_1.1∈x_6.2.2.2∧Ad x_6.1 y_1.2.1→x_2.cv=x_2.cv∧(↑(List.length x_2.t+List.length y.1):Int)≤IntKind.max IntKind.i64∧(↑(List.length (x_2.t++y.1)+(1:Nat)):Int)≤IntKind.max IntKind.i64∧(↑(List.length (x_2.t++y.1++ #[(40:UInt8)].toList)+List.length y_1.1):Int)≤IntKind.max IntKind.i64∧(↑(List.length (x_2.t++y.1++ #[(40:UInt8)].toList++y_1.1)+(4:Nat)):Int)≤IntKind.max IntKind.i64∧true=true∧eA (meC x (List.length x.t+(60:Nat))) [.box 0 [AV.bv x_2.cv [AV.sl false (0:Nat) (1:Nat) UInt8 byA x_6.1,.int .i64 y_1.2.1,.int .i64 y_1.2.2],.str (x_2.t++y.1++ #[(40:UInt8)].toList++y_1.1++ #[(41:UInt8),(32:UInt8),(123:UInt8),(32:UInt8)].toList)]])∧(((cA Ba [.box 0 [AV.bv x.cv [AV.sl false (0:Nat) (1:Nat) UInt8 byA x_1.1,.int .i64 y.2.1,.int .i64 y.2.2],.str x.t]] fun x_2 y=>(↑(List.length x.t+List.length y.1):Int)≤IntKind.max IntKind.i64∧(↑(List.length (x.t++y.1)+(1:Nat)):Int)≤IntKind.max IntKind.i64∧∃(x_3:List UInt8),#[].toList=x_3∧∃(x_4:List UInt8),#[(97:UInt8)].toList=x_4∧∃(x_5:List UInt8),#[(97:UInt8),(44:UInt8),(32:UInt8),(98:UInt8),(44:UInt8)].toList=x_5∧∃(x_6:List UInt8×Int×Int×List (List UInt8)),(Ad x_6.1 x_6.2.1∧x_6.2.2.2≠[]∧List.length x_6.2.2.2<(1073741824:Nat))∧x_2.cv=x.cv∧AV.sl false (0:Nat) (1:Nat) UInt8 byA x_2.b=AV.sl false (0:Nat) (1:Nat) UInt8 byA x_6.1∧y.2.1=x_6.2.1∧y.2.2=x_6.2.2.1∧AV.sl false (0:Nat) (1:Nat) (List UInt8) (fun(x:List UInt8)=>fzL (As x)) [x_3,x_4,x_5]=AV.sl false (0:Nat) (1:Nat) (List UInt8) As x_6.2.2.2∧∀(y_1:List UInt8×Int×Int),y_1.1∈x_6.2.2.2∧Ad x_6.1 y_1.2.1→x_2.cv=x.cv∧(↑(List.length (x.t++y.1++ #[(40:UInt8)].toList)+List.length y_1.1):Int)≤IntKind.max IntKind.i64∧(↑(List.length (x.t++y.1++ #[(40:UInt8)].toList++y_1.1)+(4:Nat)):Int)≤IntKind.max IntKind.i64∧true=true∧eA (meC x (List.length x.t+(60:Nat))) [.box 0 [AV.bv x_2.cv [AV.sl false (0:Nat) (1:Nat) UInt8 byA x_6.1,.int .i64 y_1.2.1,.int .i64 y_1.2.2],.str (x.t++y.1++ #[(40:UInt8)].toList++y_1.1++ #[(41:UInt8),(32:UInt8),(123:UInt8),(32:UInt8)].toList)]])∧∃(x_2:List UInt8),#[].toList=x_2∧∃(x_3:List UInt8),#[(97:UInt8)].toList=x_3∧∃(x_4:List UInt8),#[(97:UInt8),(44:UInt8),(32:UInt8),(98:UInt8),(44:UInt8)].toList=x_4∧cA Ba [.box 0 [AV.bv x.cv [AV.sl false (0:Nat) (1:Nat) UInt8 byA x_1.1,.int .i64 y.2.1,.int .i64 y.2.2],.str x.t]] fun x_5 y=>(↑(List.length x.t+List.length y.1):Int)≤IntKind.max IntKind.i64∧(↑(List.length (x.t++y.1)+(1:Nat)):Int)≤IntKind.max IntKind.i64∧∃(x_6:List UInt8×Int×Int×List (List UInt8)),(Ad x_6.1 x_6.2.1∧x_6.2.2.2≠[]∧List.length x_6.2.2.2<(1073741824:Nat))∧x_5.cv=x.cv∧AV.sl false (0:Nat) (1:Nat) UInt8 byA x_5.b=AV.sl false (0:Nat) (1:Nat) UInt8 byA x_6.1∧y.2.1=x_6.2.1∧y.2.2=x_6.2.2.1∧AV.sl false (0:Nat) (1:Nat) (List UInt8) (fun(x:List UInt8)=>fzL (As x)) [x_2,x_3,x_4]=AV.sl false (0:Nat) (1:Nat) (List UInt8) As x_6.2.2.2∧∀(y_1:List UInt8×Int×Int),y_1.1∈x_6.2.2.2∧Ad x_6.1 y_1.2.1→x_5.cv=x.cv∧(↑(List.length (x.t++y.1++ #[(40:UInt8)].toList)+List.length y_1.1):Int)≤IntKind.max IntKind.i64∧(↑(List.length (x.t++y.1++ #[(40:UInt8)].toList++y_1.1)+(4:Nat)):Int)≤IntKind.max IntKind.i64∧true=true∧eA (meC x (List.length x.t+(60:Nat))) [.box 0 [AV.bv x_5.cv [AV.sl false (0:Nat) (1:Nat) UInt8 byA x_6.1,.int .i64 y_1.2.1,.int .i64 y_1.2.2],.str (x.t++y.1++ #[(40:UInt8)].toList++y_1.1++ #[(41:UInt8),(32:UInt8),(123:UInt8),(32:UInt8)].toList)]])∧(cA Ba [.box 0 [AV.bv x.cv [AV.sl false (0:Nat) (1:Nat) UInt8 byA x_1.1,.int .i64 y.2.1,.int .i64 y.2.2],.str x.t]] fun x_2 y=>((↑(List.length x_2.t+List.length y.1):Int)≤IntKind.max IntKind.i64∧(↑(List.length (x_2.t++y.1)+(1:Nat)):Int)≤IntKind.max IntKind.i64∧∃(x_3:List UInt8),#[].toList=x_3∧∃(x_4:List UInt8),#[(97:UInt8)].toList=x_4∧∃(x_5:List UInt8),#[(97:UInt8),(44:UInt8),(32:UInt8),(98:UInt8),(44:UInt8)].toList=x_5∧∃(x_6:List UInt8×Int×Int×List (List UInt8)),(Ad x_6.1 x_6.2.1∧x_6.2.2.2≠[]∧List.length x_6.2.2.2<(1073741824:Nat))∧x_2.cv=x.cv∧AV.sl false (0:Nat) (1:Nat) UInt8 byA x_2.b=AV.sl false (0:Nat) (1:Nat) UInt8 byA x_6.1∧y.2.1=x_6.2.1∧y.2.2=x_6.2.2.1∧AV.sl false (0:Nat) (1:Nat) (List UInt8) (fun(x:List UInt8)=>fzL (As x)) [x_3,x_4,x_5]=AV.sl false (0:Nat) (1:Nat) (List UInt8) As x_6.2.2.2∧∀(y_1:List UInt8×Int×Int),y_1.1∈x_6.2.2.2∧Ad x_6.1 y_1.2.1→x_2.cv=x.cv∧(↑(List.length (x_2.t++y.1++ #[(40:UInt8)].toList)+List.length y_1.1):Int)≤IntKind.max IntKind.i64∧(↑(List.length (x_2.t++y.1++ #[(40:UInt8)].toList++y_1.1)+(4:Nat)):Int)≤IntKind.max IntKind.i64∧true=true∧eA (meC x (List.length x.t+(60:Nat))) [.box 0 [AV.bv x_2.cv [AV.sl false (0:Nat) (1:Nat) UInt8 byA x_6.1,.int .i64 y_1.2.1,.int .i64 y_1.2.2],.str (x_2.t++y.1++ #[(40:UInt8)].toList++y_1.1++ #[(41:UInt8),(32:UInt8),(123:UInt8),(32:UInt8)].toList)]])∧∃(x_3:List UInt8),#[].toList=x_3∧∃(x_4:List UInt8),#[(97:UInt8)].toList=x_4∧∃(x_5:List UInt8),#[(97:UInt8),(44:UInt8),(32:UInt8),(98:UInt8),(44:UInt8)].toList=x_5∧((↑(List.length x_2.t+List.length y.1):Int)≤IntKind.max IntKind.i64∧(↑(List.length (x_2.t++y.1)+(1:Nat)):Int)≤IntKind.max IntKind.i64∧∃(x_6:List UInt8×Int×Int×List (List UInt8)),(Ad x_6.1 x_6.2.1∧x_6.2.2.2≠[]∧List.length x_6.2.2.2<(1073741824:Nat))∧x_2.cv=x.cv∧AV.sl false (0:Nat) (1:Nat) UInt8 byA x_2.b=AV.sl false (0:Nat) (1:Nat) UInt8 byA x_6.1∧y.2.1=x_6.2.1∧y.2.2=x_6.2.2.1∧AV.sl false (0:Nat) (1:Nat) (List UInt8) (fun(x:List UInt8)=>fzL (As x)) [x_3,x_4,x_5]=AV.sl false (0:Nat) (1:Nat) (List UInt8) As x_6.2.2.2∧∀(y_1:List UInt8×Int×Int),y_1.1∈x_6.2.2.2∧Ad x_6.1 y_1.2.1→x_2.cv=x.cv∧(↑(List.length (x_2.t++y.1++ #[(40:UInt8)].toList)+List.length y_1.1):Int)≤IntKind.max IntKind.i64∧(↑(List.length (x_2.t++y.1++ #[(40:UInt8)].toList++y_1.1)+(4:Nat)):Int)≤IntKind.max IntKind.i64∧true=true∧eA (meC x (List.length x.t+(60:Nat))) [.box 0 [AV.bv x_2.cv [AV.sl false (0:Nat) (1:Nat) UInt8 byA x_6.1,.int .i64 y_1.2.1,.int .i64 y_1.2.2],.str (x_2.t++y.1++ #[(40:UInt8)].toList++y_1.1++ #[(41:UInt8),(32:UInt8),(123:UInt8),(32:UInt8)].toList)]])∧∃(x_6:List UInt8×Int×Int×List (List UInt8)),(Ad x_6.1 x_6.2.1∧x_6.2.2.2≠[]∧List.length x_6.2.2.2<(1073741824:Nat))∧x_2.cv=x.cv∧AV.sl false (0:Nat) (1:Nat) UInt8 byA x_2.b=AV.sl false (0:Nat) (1:Nat) UInt8 byA x_6.1∧y.2.1=x_6.2.1∧y.2.2=x_6.2.2.1∧AV.sl false (0:Nat) (1:Nat) (List UInt8) (fun(x:List UInt8)=>fzL (As x)) [x_3,x_4,x_5]=AV.sl false (0:Nat) (1:Nat) (List UInt8) As x_6.2.2.2∧∀(y_1:List UInt8×Int×Int),y_1.1∈x_6.2.2.2∧Ad x_6.1 y_1.2.1→x_2.cv=x.cv∧(↑(List.length x_2.t+List.length y.1):Int)≤IntKind.max IntKind.i64∧(↑(List.length (x_2.t++y.1)+(1:Nat)):Int)≤IntKind.max IntKind.i64∧(↑(List.length (x_2.t++y.1++ #[(40:UInt8)].toList)+List.length y_1.1):Int)≤IntKind.max IntKind.i64∧(↑(List.length (x_2.t++y.1++ #[(40:UInt8)].toList++y_1.1)+(4:Nat)):Int)≤IntKind.max IntKind.i64∧true=true∧eA (meC x (List.length x.t+(60:Nat))) [.box 0 [AV.bv x_2.cv [AV.sl false (0:Nat) (1:Nat) UInt8 byA x_6.1,.int .i64 y_1.2.1,.int .i64 y_1.2.2],.str (x_2.t++y.1++ #[(40:UInt8)].toList++y_1.1++ #[(41:UInt8),(32:UInt8),(123:UInt8),(32:UInt8)].toList)]])∧∃(x_2:List UInt8),#[].toList=x_2∧∃(x_3:List UInt8),#[(97:UInt8)].toList=x_3∧∃(x_4:List UInt8),#[(97:UInt8),(44:UInt8),(32:UInt8),(98:UInt8),(44:UInt8)].toList=x_4∧(cA Ba [.box 0 [AV.bv x.cv [AV.sl false (0:Nat) (1:Nat) UInt8 byA x_1.1,.int .i64 y.2.1,.int .i64 y.2.2],.str x.t]] fun x_5 y=>(↑(List.length x.t+List.length y.1):Int)≤IntKind.max IntKind.i64∧(↑(List.length (x.t++y.1)+(1:Nat)):Int)≤IntKind.max IntKind.i64∧∃(x_6:List UInt8×Int×Int×List (List UInt8)),(Ad x_6.1 x_6.2.1∧x_6.2.2.2≠[]∧List.length x_6.2.2.2<(1073741824:Nat))∧x_5.cv=x.cv∧AV.sl false (0:Nat) (1:Nat) UInt8 byA x_5.b=AV.sl false (0:Nat) (1:Nat) UInt8 byA x_6.1∧y.2.1=x_6.2.1∧y.2.2=x_6.2.2.1∧AV.sl false (0:Nat) (1:Nat) (List UInt8) (fun(x:List UInt8)=>fzL (As x)) [x_2,x_3,x_4]=AV.sl false (0:Nat) (1:Nat) (List UInt8) As x_6.2.2.2∧∀(y_1:List UInt8×Int×Int),y_1.1∈x_6.2.2.2∧Ad x_6.1 y_1.2.1→x_5.cv=x.cv∧(↑(List.length (x.t++y.1++ #[(40:UInt8)].toList)+List.length y_1.1):Int)≤IntKind.max IntKind.i64∧(↑(List.length (x.t++y.1++ #[(40:UInt8)].toList++y_1.1)+(4:Nat)):Int)≤IntKind.max IntKind.i64∧true=true∧eA (meC x (List.length x.t+(60:Nat))) [.box 0 [AV.bv x_5.cv [AV.sl false (0:Nat) (1:Nat) UInt8 byA x_6.1,.int .i64 y_1.2.1,.int .i64 y_1.2.2],.str (x.t++y.1++ #[(40:UInt8)].toList++y_1.1++ #[(41:UInt8),(32:UInt8),(123:UInt8),(32:UInt8)].toList)]])∧cA Ba [.box 0 [AV.bv x.cv [AV.sl false (0:Nat) (1:Nat) UInt8 byA x_1.1,.int .i64 y.2.1,.int .i64 y.2.2],.str x.t]] fun x_5 y=>((↑(List.length x_5.t+List.length y.1):Int)≤IntKind.max IntKind.i64∧(↑(List.length (x_5.t++y.1)+(1:Nat)):Int)≤IntKind.max IntKind.i64∧∃(x_6:List UInt8×Int×Int×List (List UInt8)),(Ad x_6.1 x_6.2.1∧x_6.2.2.2≠[]∧List.length x_6.2.2.2<(1073741824:Nat))∧x_5.cv=x.cv∧AV.sl false (0:Nat) (1:Nat) UInt8 byA x_5.b=AV.sl false (0:Nat) (1:Nat) UInt8 byA x_6.1∧y.2.1=x_6.2.1∧y.2.2=x_6.2.2.1∧AV.sl false (0:Nat) (1:Nat) (List UInt8) (fun(x:List UInt8)=>fzL (As x)) [x_2,x_3,x_4]=AV.sl false (0:Nat) (1:Nat) (List UInt8) As x_6.2.2.2∧∀(y_1:List UInt8×Int×Int),y_1.1∈x_6.2.2.2∧Ad x_6.1 y_1.2.1→x_5.cv=x.cv∧(↑(List.length (x_5.t++y.1++ #[(40:UInt8)].toList)+List.length y_1.1):Int)≤IntKind.max IntKind.i64∧(↑(List.length (x_5.t++y.1++ #[(40:UInt8)].toList++y_1.1)+(4:Nat)):Int)≤IntKind.max IntKind.i64∧true=true∧eA (meC x (List.length x.t+(60:Nat))) [.box 0 [AV.bv x_5.cv [AV.sl false (0:Nat) (1:Nat) UInt8 byA x_6.1,.int .i64 y_1.2.1,.int .i64 y_1.2.2],.str (x_5.t++y.1++ #[(40:UInt8)].toList++y_1.1++ #[(41:UInt8),(32:UInt8),(123:UInt8),(32:UInt8)].toList)]])∧∃(x_6:List UInt8×Int×Int×List (List UInt8)),(Ad x_6.1 x_6.2.1∧x_6.2.2.2≠[]∧List.length x_6.2.2.2<(1073741824:Nat))∧x_5.cv=x.cv∧AV.sl false (0:Nat) (1:Nat) UInt8 byA x_5.b=AV.sl false (0:Nat) (1:Nat) UInt8 byA x_6.1∧y.2.1=x_6.2.1∧y.2.2=x_6.2.2.1∧AV.sl false (0:Nat) (1:Nat) (List UInt8) (fun(x:List UInt8)=>fzL (As x)) [x_2,x_3,x_4]=AV.sl false (0:Nat) (1:Nat) (List UInt8) As x_6.2.2.2∧∀(y_1:List UInt8×Int×Int),y_1.1∈x_6.2.2.2∧Ad x_6.1 y_1.2.1→x_5.cv=x.cv∧(↑(List.length x_5.t+List.length y.1):Int)≤IntKind.max IntKind.i64∧(↑(List.length (x_5.t++y.1)+(1:Nat)):Int)≤IntKind.max IntKind.i64∧(↑(List.length (x_5.t++y.1++ #[(40:UInt8)].toList)+List.length y_1.1):Int)≤IntKind.max IntKind.i64∧(↑(List.length (x_5.t++y.1++ #[(40:UInt8)].toList++y_1.1)+(4:Nat)):Int)≤IntKind.max IntKind.i64∧true=true∧eA (meC x (List.length x.t+(60:Nat))) [.box 0 [AV.bv x_5.cv [AV.sl false (0:Nat) (1:Nat) UInt8 byA x_6.1,.int .i64 y_1.2.1,.int .i64 y_1.2.2],.str (x_5.t++y.1++ #[(40:UInt8)].toList++y_1.1++ #[(41:UInt8),(32:UInt8),(123:UInt8),(32:UInt8)].toList)]])∧∃(x_2:List UInt8),#[].toList=x_2∧∃(x_3:List UInt8),#[(97:UInt8)].toList=x_3∧∃(x_4:List UInt8),#[(97:UInt8),(44:UInt8),(32:UInt8),(98:UInt8),(44:UInt8)].toList=x_4∧((cA Ba [.box 0 [AV.bv x.cv [AV.sl false (0:Nat) (1:Nat) UInt8 byA x_1.1,.int .i64 y.2.1,.int .i64 y.2.2],.str x.t]] fun x_5 y=>(↑(List.length x.t+List.length y.1):Int)≤IntKind.max IntKind.i64∧(↑(List.length (x.t++y.1)+(1:Nat)):Int)≤IntKind.max IntKind.i64∧∃(x_6:List UInt8×Int×Int×List (List UInt8)),(Ad x_6.1 x_6.2.1∧x_6.2.2.2≠[]∧List.length x_6.2.2.2<(1073741824:Nat))∧x_5.cv=x_5.cv∧AV.sl false (0:Nat) (1:Nat) UInt8 byA x_5.b=AV.sl false (0:Nat) (1:Nat) UInt8 byA x_6.1∧y.2.1=x_6.2.1∧y.2.2=x_6.2.2.1∧AV.sl false (0:Nat) (1:Nat) (List UInt8) (fun(x:List UInt8)=>fzL (As x)) [x_2,x_3,x_4]=AV.sl false (0:Nat) (1:Nat) (List UInt8) As x_6.2.2.2∧∀(y_1:List UInt8×Int×Int),y_1.1∈x_6.2.2.2∧Ad x_6.1 y_1.2.1→x_5.cv=x_5.cv∧(↑(List.length (x.t++y.1++ #[(40:UInt8)].toList)+List.length y_1.1):Int)≤IntKind.max IntKind.i64∧(↑(List.length (x.t++y.1++ #[(40:UInt8)].toList++y_1.1)+(4:Nat)):Int)≤IntKind.max IntKind.i64∧true=true∧eA (meC x (List.length x.t+(60:Nat))) [.box 0 [AV.bv x_5.cv [AV.sl false (0:Nat) (1:Nat) UInt8 byA x_6.1,.int .i64 y_1.2.1,.int .i64 y_1.2.2],.str (x.t++y.1++ #[(40:UInt8)].toList++y_1.1++ #[(41:UInt8),(32:UInt8),(123:UInt8),(32:UInt8)].toList)]])∧cA Ba [.box 0 [AV.bv x.cv [AV.sl false (0:Nat) (1:Nat) UInt8 byA x_1.1,.int .i64 y.2.1,.int .i64 y.2.2],.str x.t]] fun x_5 y=>(↑(List.length x.t+List.length y.1):Int)≤IntKind.max IntKind.i64∧(↑(List.length (x.t++y.1)+(1:Nat)):Int)≤IntKind.max IntKind.i64∧∃(x_6:List UInt8×Int×Int×List (List UInt8)),(Ad x_6.1 x_6.2.1∧x_6.2.2.2≠[]∧List.length x_6.2.2.2<(1073741824:Nat))∧x_5.cv=x.cv∧AV.sl false (0:Nat) (1:Nat) UInt8 byA x_5.b=AV.sl false (0:Nat) (1:Nat) UInt8 byA x_6.1∧y.2.1=x_6.2.1∧y.2.2=x_6.2.2.1∧AV.sl false (0:Nat) (1:Nat) (List UInt8) (fun(x:List UInt8)=>fzL (As x)) [x_2,x_3,x_4]=AV.sl false (0:Nat) (1:Nat) (List UInt8) As x_6.2.2.2∧∀(y_1:List UInt8×Int×Int),y_1.1∈x_6.2.2.2∧Ad x_6.1 y_1.2.1→x_5.cv=x.cv∧(↑(List.length (x.t++y.1++ #[(40:UInt8)].toList)+List.length y_1.1):Int)≤IntKind.max IntKind.i64∧(↑(List.length (x.t++y.1++ #[(40:UInt8)].toList++y_1.1)+(4:Nat)):Int)≤IntKind.max IntKind.i64∧true=true∧eA (meC x (List.length x.t+(60:Nat))) [.box 0 [AV.bv x_5.cv [AV.sl false (0:Nat) (1:Nat) UInt8 byA x_6.1,.int .i64 y_1.2.1,.int .i64 y_1.2.2],.str (x.t++y.1++ #[(40:UInt8)].toList++y_1.1++ #[(41:UInt8),(32:UInt8),(123:UInt8),(32:UInt8)].toList)]])∧(cA Ba [.box 0 [AV.bv x.cv [AV.sl false (0:Nat) (1:Nat) UInt8 byA x_1.1,.int .i64 y.2.1,.int .i64 y.2.2],.str x.t]] fun x_5 y=>((↑(List.length x_5.t+List.length y.1):Int)≤IntKind.max IntKind.i64∧(↑(List.length (x_5.t++y.1)+(1:Nat)):Int)≤IntKind.max IntKind.i64∧∃(x_6:List UInt8×Int×Int×List (List UInt8)),(Ad x_6.1 x_6.2.1∧x_6.2.2.2≠[]∧List.length x_6.2.2.2<(1073741824:Nat))∧x_5.cv=x_5.cv∧AV.sl false (0:Nat) (1:Nat) UInt8 byA x_5.b=AV.sl false (0:Nat) (1:Nat) UInt8 byA x_6.1∧y.2.1=x_6.2.1∧y.2.2=x_6.2.2.1∧AV.sl false (0:Nat) (1:Nat) (List UInt8) (fun(x:List UInt8)=>fzL (As x)) [x_2,x_3,x_4]=AV.sl false (0:Nat) (1:Nat) (List UInt8) As x_6.2.2.2∧∀(y_1:List UInt8×Int×Int),y_1.1∈x_6.2.2.2∧Ad x_6.1 y_1.2.1→x_5.cv=x_5.cv∧(↑(List.length (x_5.t++y.1++ #[(40:UInt8)].toList)+List.length y_1.1):Int)≤IntKind.max IntKind.i64∧(↑(List.length (x_5.t++y.1++ #[(40:UInt8)].toList++y_1.1)+(4:Nat)):Int)≤IntKind.max IntKind.i64∧true=true∧eA (meC x (List.length x.t+(60:Nat))) [.box 0 [AV.bv x_5.cv [AV.sl false (0:Nat) (1:Nat) UInt8 byA x_6.1,.int .i64 y_1.2.1,.int .i64 y_1.2.2],.str (x_5.t++y.1++ #[(40:UInt8)].toList++y_1.1++ #[(41:UInt8),(32:UInt8),(123:UInt8),(32:UInt8)].toList)]])∧((↑(List.length x_5.t+List.length y.1):Int)≤IntKind.max IntKind.i64∧(↑(List.length (x_5.t++y.1)+(1:Nat)):Int)≤IntKind.max IntKind.i64∧∃(x_6:List UInt8×Int×Int×List (List UInt8)),(Ad x_6.1 x_6.2.1∧x_6.2.2.2≠[]∧List.length x_6.2.2.2<(1073741824:Nat))∧x_5.cv=x_5.cv∧AV.sl false (0:Nat) (1:Nat) UInt8 byA x_5.b=AV.sl false (0:Nat) (1:Nat) UInt8 byA x_6.1∧y.2.1=x_6.2.1∧y.2.2=x_6.2.2.1∧AV.sl false (0:Nat) (1:Nat) (List UInt8) (fun(x:List UInt8)=>fzL (As x)) [x_2,x_3,x_4]=AV.sl false (0:Nat) (1:Nat) (List UInt8) As x_6.2.2.2∧∀(y_1:List UInt8×Int×Int),y_1.1∈x_6.2.2.2∧Ad x_6.1 y_1.2.1→x_5.cv=x_5.cv∧(↑(List.length (x_5.t++y.1++ #[(40:UInt8)].toList)+List.length y_1.1):Int)≤IntKind.max IntKind.i64∧(↑(List.length (x_5.t++y.1++ #[(40:UInt8)].toList++y_1.1)+(4:Nat)):Int)≤IntKind.max IntKind.i64∧true=true∧eA (meC x (List.length x.t+(60:Nat))) [.box 0 [AV.bv x_5.cv [AV.sl false (0:Nat) (1:Nat) UInt8 byA x_6.1,.int .i64 y_1.2.1,.int .i64 y_1.2.2],.str (x_5.t++y.1++ #[(40:UInt8)].toList++y_1.1++ #[(41:UInt8),(32:UInt8),(123:UInt8),(32:UInt8)].toList)]])∧∃(x_6:List UInt8×Int×Int×List (List UInt8)),(Ad x_6.1 x_6.2.1∧x_6.2.2.2≠[]∧List.length x_6.2.2.2<(1073741824:Nat))∧x_5.cv=x_5.cv∧AV.sl false (0:Nat) (1:Nat) UInt8 byA x_5.b=AV.sl false (0:Nat) (1:Nat) UInt8 byA x_6.1∧y.2.1=x_6.2.1∧y.2.2=x_6.2.2.1∧AV.sl false (0:Nat) (1:Nat) (List UInt8) (fun(x:List UInt8)=>fzL (As x)) [x_2,x_3,x_4]=AV.sl false (0:Nat) (1:Nat) (List UInt8) As x_6.2.2.2∧∀(y_1:List UInt8×Int×Int),y_1.1∈x_6.2.2.2∧Ad x_6.1 y_1.2.1→x_5.cv=x_5.cv∧(↑(List.length x_5.t+List.length y.1):Int)≤IntKind.max IntKind.i64∧(↑(List.length (x_5.t++y.1)+(1:Nat)):Int)≤IntKind.max IntKind.i64∧(↑(List.length (x_5.t++y.1++ #[(40:UInt8)].toList)+List.length y_1.1):Int)≤IntKind.max IntKind.i64∧(↑(List.length (x_5.t++y.1++ #[(40:UInt8)].toList++y_1.1)+(4:Nat)):Int)≤IntKind.max IntKind.i64∧true=true∧eA (meC x (List.length x.t+(60:Nat))) [.box 0 [AV.bv x_5.cv [AV.sl false (0:Nat) (1:Nat) UInt8 byA x_6.1,.int .i64 y_1.2.1,.int .i64 y_1.2.2],.str (x_5.t++y.1++ #[(40:UInt8)].toList++y_1.1++ #[(41:UInt8),(32:UInt8),(123:UInt8),(32:UInt8)].toList)]])∧(cA Ba [.box 0 [AV.bv x.cv [AV.sl false (0:Nat) (1:Nat) UInt8 byA x_1.1,.int .i64 y.2.1,.int .i64 y.2.2],.str x.t]] fun x_5 y=>(↑(List.length x.t+List.length y.1):Int)≤IntKind.max IntKind.i64∧(↑(List.length (x.t++y.1)+(1:Nat)):Int)≤IntKind.max IntKind.i64∧∃(x_6:List UInt8×Int×Int×List (List UInt8)),(Ad x_6.1 x_6.2.1∧x_6.2.2.2≠[]∧List.length x_6.2.2.2<(1073741824:Nat))∧x_5.cv=x.cv∧AV.sl false (0:Nat) (1:Nat) UInt8 byA x_5.b=AV.sl false (0:Nat) (1:Nat) UInt8 byA x_6.1∧y.2.1=x_6.2.1∧y.2.2=x_6.2.2.1∧AV.sl false (0:Nat) (1:Nat) (List UInt8) (fun(x:List UInt8)=>fzL (As x)) [x_2,x_3,x_4]=AV.sl false (0:Nat) (1:Nat) (List UInt8) As x_6.2.2.2∧∀(y_1:List UInt8×Int×Int),y_1.1∈x_6.2.2.2∧Ad x_6.1 y_1.2.1→x_5.cv=x.cv∧(↑(List.length (x.t++y.1++ #[(40:UInt8)].toList)+List.length y_1.1):Int)≤IntKind.max IntKind.i64∧(↑(List.length (x.t++y.1++ #[(40:UInt8)].toList++y_1.1)+(4:Nat)):Int)≤IntKind.max IntKind.i64∧true=true∧eA (meC x (List.length x.t+(60:Nat))) [.box 0 [AV.bv x_5.cv [AV.sl false (0:Nat) (1:Nat) UInt8 byA x_6.1,.int .i64 y_1.2.1,.int .i64 y_1.2.2],.str (x.t++y.1++ #[(40:UInt8)].toList++y_1.1++ #[(41:UInt8),(32:UInt8),(123:UInt8),(32:UInt8)].toList)]])∧cA Ba [.box 0 [AV.bv x.cv [AV.sl false (0:Nat) (1:Nat) UInt8 byA x_1.1,.int .i64 y.2.1,.int .i64 y.2.2],.str x.t]] fun x_5 y=>((↑(List.length x_5.t+List.length y.1):Int)≤IntKind.max IntKind.i64∧(↑(List.length (x_5.t++y.1)+(1:Nat)):Int)≤IntKind.max IntKind.i64∧∃(x_6:List UInt8×Int×Int×List (List UInt8)),(Ad x_6.1 x_6.2.1∧x_6.2.2.2≠[]∧List.length x_6.2.2.2<(1073741824:Nat))∧x_5.cv=x.cv∧AV.sl false (0:Nat) (1:Nat) UInt8 byA x_5.b=AV.sl false (0:Nat) (1:Nat) UInt8 byA x_6.1∧y.2.1=x_6.2.1∧y.2.2=x_6.2.2.1∧AV.sl false (0:Nat) (1:Nat) (List UInt8) (fun(x:List UInt8)=>fzL (As x)) [x_2,x_3,x_4]=AV.sl false (0:Nat) (1:Nat) (List UInt8) As x_6.2.2.2∧∀(y_1:List UInt8×Int×Int),y_1.1∈x_6.2.2.2∧Ad x_6.1 y_1.2.1→x_5.cv=x.cv∧(↑(List.length (x_5.t++y.1++ #[(40:UInt8)].toList)+List.length y_1.1):Int)≤IntKind.max IntKind.i64∧(↑(List.length (x_5.t++y.1++ #[(40:UInt8)].toList++y_1.1)+(4:Nat)):Int)≤IntKind.max IntKind.i64∧true=true∧eA (meC x (List.length x.t+(60:Nat))) [.box 0 [AV.bv x_5.cv [AV.sl false (0:Nat) (1:Nat) UInt8 byA x_6.1,.int .i64 y_1.2.1,.int .i64 y_1.2.2],.str (x_5.t++y.1++ #[(40:UInt8)].toList++y_1.1++ #[(41:UInt8),(32:UInt8),(123:UInt8),(32:UInt8)].toList)]])∧∃(x_6:List UInt8×Int×Int×List (List UInt8)),(Ad x_6.1 x_6.2.1∧x_6.2.2.2≠[]∧List.length x_6.2.2.2<(1073741824:Nat))∧x_5.cv=x.cv∧AV.sl false (0:Nat) (1:Nat) UInt8 byA x_5.b=AV.sl false (0:Nat) (1:Nat) UInt8 byA x_6.1∧y.2.1=x_6.2.1∧y.2.2=x_6.2.2.1∧AV.sl false (0:Nat) (1:Nat) (List UInt8) (fun(x:List UInt8)=>fzL (As x)) [x_2,x_3,x_4]=AV.sl false (0:Nat) (1:Nat) (List UInt8) As x_6.2.2.2∧∀(y_1:List UInt8×Int×Int),y_1.1∈x_6.2.2.2∧Ad x_6.1 y_1.2.1→x_5.cv=x.cv∧(↑(List.length x_5.t+List.length y.1):Int)≤IntKind.max IntKind.i64∧(↑(List.length (x_5.t++y.1)+(1:Nat)):Int)≤IntKind.max IntKind.i64∧(↑(List.length (x_5.t++y.1++ #[(40:UInt8)].toList)+List.length y_1.1):Int)≤IntKind.max IntKind.i64∧(↑(List.length (x_5.t++y.1++ #[(40:UInt8)].toList++y_1.1)+(4:Nat)):Int)≤IntKind.max IntKind.i64∧true=true∧eA (meC x (List.length x.t+(60:Nat))) [.box 0 [AV.bv x_5.cv [AV.sl false (0:Nat) (1:Nat) UInt8 byA x_6.1,.int .i64 y_1.2.1,.int .i64 y_1.2.2],.str (x_5.t++y.1++ #[(40:UInt8)].toList++y_1.1++ #[(41:UInt8),(32:UInt8),(123:UInt8),(32:UInt8)].toList)]])∧∀(i:Int×Int×List UInt8),List.length i.2.2≤List.length x.t+(60:Nat)∧Ad x.b i.1→cA (Hm (2:Nat)) [.box 0 [AV.bv x.cv [AV.sl false (0:Nat) (1:Nat) UInt8 byA x.b,.int .i64 i.1,.int .i64 i.2.1],.str i.2.2],.int .i64 (2:Int)] fun x_2 y=>(↑(List.length y.2.2+(2:Nat)):Int)≤IntKind.max IntKind.i64∧rA Gq x [.tup [],.box 0 [AV.bv x_2.1.cv [AV.sl false (0:Nat) (1:Nat) UInt8 byA x_2.1.b,.int .i64 y.1,.int .i64 y.2.1],.str (y.2.2++ #[(125:UInt8),(10:UInt8)].toList)]]))) (fun x=>by kernel_rfl) fun(x:Md) (hx:mdP x∧x.t.length≤2^24)=>(by
 dsimp only[CT,cA,cur,eA,mad,Dm,meC,rA,Gq,Ba,Hm,Az,AC,mvL,lnL,mvE,lnE,Bt]
 obtain⟨cv,b,i,h,t⟩:=x;dsimp only at hx ⊢
 obtain⟨hx,ht⟩:=hx
 have hx:Ad b i:=hx
 have hs2:sB 2=1911000:=rfl
 (repeat' first|(apply KP<;>try dsimp only)|(apply KO<;>try dsimp only)|(with_reducible first|rfl|exact True.intro|apply AN|apply And.intro|((first|apply AD|apply AL|apply AE|apply AM)<;>intro _))|(apply AA<;>intro _)|apply AK|refine Ae () ?_ ?_|((first|apply AR|apply AQ|apply AP|apply AO|apply AJ|apply AI|apply AH|apply AG|apply AF)<;>try dsimp only)|apply Ae|(refine Prod.forall.2 ?_;intro _;try dsimp only)|(intro _;try dsimp only))
 all_goals(repeat(rename _∈_∧Ad _ _=>hq;obtain⟨hq1,_⟩:=hq;have hq2:=Jj (n:=20) hq1 (by decide);clear hq1))
 all_goals first
  |rfl
  |exact hx
  |(show Ad _ _;exact hx)
  |omega
  |exact And.right (show _∧Ad _ _ by assumption)
  |(show Ad _ _;exact And.right (show _∧Ad _ _ by assumption))
  |(rename _=[]=>hq;cases hq;done)
  |skip
 all_goals(repeat(rename _∧Ad _ _=>hq;obtain⟨_,_⟩:=hq))
 all_goals first
  |(with_reducible assumption)
  |(show Ad _ _;with_reducible assumption)
  |((try simp only[AU,List.length_append,List.length_cons,List.length_nil]);omega)
  |skip)
def txB(t:Nat)(i:Int)(l:Nat):Prop:=(i=0∧l≤t)∨(i=1∧l≤t+1912000)∨(i=2∧l≤t+3824000)
theorem Yl{t l:Nat}(h:l≤t):txB t 0 l:= .inl ⟨rfl,h⟩
theorem a8I{t:Nat}{i:Int}{l:Nat}(h:txB t i l):(0≤i∧i≤2)∧l≤t+3824000:=by unfold txB at h;omega
theorem Ym{t:Nat}{i:Int}{l m:Nat}(h:txB t i l)(hi:i<2)(hm:m≤l+1912000):txB t (i+1) m:=by unfold txB at h ⊢;omega
attribute [local irreducible] txB
def txL(k:Nat)(t:Nat)(x:Value×List UInt8×Int×Int):LS:= {
 ι:=Int×Int×Int×List UInt8,inv:=fun i=>txB t i.1 i.2.2.2.length∧Ad x.2.1 i.2.1,regs:=fun i=>[(0,.val x.1),(3,.box 0 [.bv x.1 (cur x.2.1 i.2.1 i.2.2.1),.str i.2.2.2]),(k,.int .i64 i.1)],als:=[],meas:=fun i=>3-i.1.toNat}
def Yn:Sig:= {X:=Value×List UInt8×Int×Int,args:=fun x=>[.bv x.1 (cur x.2.1 x.2.2.1 x.2.2.2)],pre:=fun x=>Ad x.2.1 x.2.2.1,Y:=List UInt8×Int×Int,post:=fun x y=>y.1.length≤2^24∧Ad x.2.1 y.2.1,res:=fun x y=> .str y.1,outs:=fun x y=>[.bv x.1 (cur x.2.1 y.2.1 y.2.2)],keep:=true}
theorem a8J:Am G Tryz.prog 98 Yn:=
 vcFun_okP [(55,0,Hv),(51,0,Da),(130,0,Gq)] [] false (fun x=>[(5,txL 4 20 x),(10,txL 5 4000000 x)]) Tryz.func98 rfl (by decide) ⟨KM,Gb,a8H,trivial⟩ (fun(x:Value×List UInt8×Int×Int)=>True∧∃(x_1:List UInt8×Int×Int×Int),Ad x_1.1 x_1.2.1∧x.1=x.1∧AV.sl false (0:Nat) (1:Nat) UInt8 byA x.2.1=AV.sl false (0:Nat) (1:Nat) UInt8 byA x_1.1∧x.2.2.1=x_1.2.1∧x.2.2.2=x_1.2.2.1∧(2:Int)=x_1.2.2.2∧∀(y:Bool×Int×Int),Ad x_1.1 y.2.1→x.1=x.1∧Aa y.1 ((∃(i:Int×Int×Int×List UInt8),(txB (20:Nat) i.1 (List.length i.2.2.2)∧Ad x.2.1 i.2.1)∧(x.1=x.1∧(x.1=x.1∧x.1=x.1)∧AV.sl false (0:Nat) (1:Nat) UInt8 byA x_1.1=AV.sl false (0:Nat) (1:Nat) UInt8 byA x.2.1∧y.2.1=i.2.1∧y.2.2=i.2.2.1∧ #[(99:UInt8),(108:UInt8),(97:UInt8),(115:UInt8),(115:UInt8),(32:UInt8),(66:UInt8),(105:UInt8),(103:UInt8),(32:UInt8),(123:UInt8)].toList=i.2.2.2∧(0:Int)=i.1∧True)∧True)∧∀(i:Int×Int×Int×List UInt8),txB (20:Nat) i.1 (List.length i.2.2.2)∧Ad x.2.1 i.2.1→∃(x_2:List UInt8×Int×Int×Int),Ad x_2.1 x_2.2.1∧x.1=x.1∧AV.sl false (0:Nat) (1:Nat) UInt8 byA x.2.1=AV.sl false (0:Nat) (1:Nat) UInt8 byA x_2.1∧i.2.1=x_2.2.1∧i.2.2.1=x_2.2.2.1∧(2:Int)=x_2.2.2.2∧∀(y:Int×Int×Int),(((0:Int)<x_2.2.2.2→(0:Int)≤y.1∧y.1<x_2.2.2.2)∧(x_2.2.2.2≤(0:Int)→y.1=(0:Int)))∧Ad x_2.1 y.2.1→x.1=x.1∧inR IntKind.i64 ((1:Int)+y.1)∧Aa (decide (i.1<(1:Int)+y.1)) (cA Gq [.box 0 [AV.bv x.1 [AV.sl false (0:Nat) (1:Nat) UInt8 byA x_2.1,.int .i64 y.2.1,.int .i64 y.2.2],.str i.2.2.2]] fun x_3 y=>inR IntKind.i64 (i.1+(1:Int))∧eN (txL (4:Nat) (20:Nat) x) i [.val x.1,.box 0 [AV.bv x_3.cv [AV.sl false (0:Nat) (1:Nat) UInt8 byA x_3.b,.int .i64 y.1,.int .i64 y.2.1],.str y.2.2],.int .i64 (i.1+(1:Int))]) ((↑(List.length i.2.2.2+(1:Nat)):Int)≤IntKind.max IntKind.i64∧eA (txL (5:Nat) (4000000:Nat) x) [.val x.1,.box 0 [AV.bv x.1 [AV.sl false (0:Nat) (1:Nat) UInt8 byA x_2.1,.int .i64 y.2.1,.int .i64 y.2.2],.str (i.2.2.2++ #[(125:UInt8)].toList)],.int .i64 (0:Int)]∧∀(i:Int×Int×Int×List UInt8),txB (4000000:Nat) i.1 (List.length i.2.2.2)∧Ad x.2.1 i.2.1→∃(x_3:List UInt8×Int×Int×Int),Ad x_3.1 x_3.2.1∧x.1=x.1∧AV.sl false (0:Nat) (1:Nat) UInt8 byA x.2.1=AV.sl false (0:Nat) (1:Nat) UInt8 byA x_3.1∧i.2.1=x_3.2.1∧i.2.2.1=x_3.2.2.1∧(2:Int)=x_3.2.2.2∧∀(y:Int×Int×Int),(((0:Int)<x_3.2.2.2→(0:Int)≤y.1∧y.1<x_3.2.2.2)∧(x_3.2.2.2≤(0:Int)→y.1=(0:Int)))∧Ad x_3.1 y.2.1→x.1=x.1∧inR IntKind.i64 ((1:Int)+y.1)∧Aa (decide (i.1<(1:Int)+y.1)) (∃(x_4:List UInt8×Int×Int×Int),Ad x_4.1 x_4.2.1∧x.1=x.1∧AV.sl false (0:Nat) (1:Nat) UInt8 byA x_3.1=AV.sl false (0:Nat) (1:Nat) UInt8 byA x_4.1∧y.2.1=x_4.2.1∧y.2.2=x_4.2.2.1∧(3:Int)=x_4.2.2.2∧∀(y:Bool×Int×Int),Ad x_4.1 y.2.1→x.1=x.1∧Aa y.1 ((↑(List.length i.2.2.2+(4:Nat)):Int)≤IntKind.max IntKind.i64∧cA Gq [.box 0 [AV.bv x.1 [AV.sl false (0:Nat) (1:Nat) UInt8 byA x_4.1,.int .i64 y.2.1,.int .i64 y.2.2],.str (i.2.2.2++ #[(10:UInt8),(32:UInt8),(10:UInt8),(10:UInt8)].toList)]] fun x_5 y=>inR IntKind.i64 (i.1+(1:Int))∧eN (txL (5:Nat) (4000000:Nat) x) i [.val x.1,.box 0 [AV.bv x_5.cv [AV.sl false (0:Nat) (1:Nat) UInt8 byA x_5.b,.int .i64 y.1,.int .i64 y.2.1],.str y.2.2],.int .i64 (i.1+(1:Int))]) (cA Gq [.box 0 [AV.bv x.1 [AV.sl false (0:Nat) (1:Nat) UInt8 byA x_4.1,.int .i64 y.2.1,.int .i64 y.2.2],.str i.2.2.2]] fun x_5 y=>inR IntKind.i64 (i.1+(1:Int))∧eN (txL (5:Nat) (4000000:Nat) x) i [.val x.1,.box 0 [AV.bv x_5.cv [AV.sl false (0:Nat) (1:Nat) UInt8 byA x_5.b,.int .i64 y.1,.int .i64 y.2.1],.str y.2.2],.int .i64 (i.1+(1:Int))])) (∃(y_1:List UInt8×Int×Int),(List.length y_1.1≤(16777216:Nat)∧Ad x.2.1 y_1.2.1)∧i.2.2.2=y_1.1∧(x.1=x.1∧x.1=x.1)∧AV.sl false (0:Nat) (1:Nat) UInt8 byA x_3.1=AV.sl false (0:Nat) (1:Nat) UInt8 byA x.2.1∧y.2.1=y_1.2.1∧y.2.2=y_1.2.2∧True))) ((∃(i:Int×Int×Int×List UInt8),(txB (4000000:Nat) i.1 (List.length i.2.2.2)∧Ad x.2.1 i.2.1)∧(x.1=x.1∧(x.1=x.1∧x.1=x.1)∧AV.sl false (0:Nat) (1:Nat) UInt8 byA x_1.1=AV.sl false (0:Nat) (1:Nat) UInt8 byA x.2.1∧y.2.1=i.2.1∧y.2.2=i.2.2.1∧ #[].toList=i.2.2.2∧(0:Int)=i.1∧True)∧True)∧∀(i:Int×Int×Int×List UInt8),txB (4000000:Nat) i.1 (List.length i.2.2.2)∧Ad x.2.1 i.2.1→∃(x_2:List UInt8×Int×Int×Int),Ad x_2.1 x_2.2.1∧x.1=x.1∧AV.sl false (0:Nat) (1:Nat) UInt8 byA x.2.1=AV.sl false (0:Nat) (1:Nat) UInt8 byA x_2.1∧i.2.1=x_2.2.1∧i.2.2.1=x_2.2.2.1∧(2:Int)=x_2.2.2.2∧∀(y:Int×Int×Int),(((0:Int)<x_2.2.2.2→(0:Int)≤y.1∧y.1<x_2.2.2.2)∧(x_2.2.2.2≤(0:Int)→y.1=(0:Int)))∧Ad x_2.1 y.2.1→x.1=x.1∧inR IntKind.i64 ((1:Int)+y.1)∧Aa (decide (i.1<(1:Int)+y.1)) (∃(x_3:List UInt8×Int×Int×Int),Ad x_3.1 x_3.2.1∧x.1=x.1∧AV.sl false (0:Nat) (1:Nat) UInt8 byA x_2.1=AV.sl false (0:Nat) (1:Nat) UInt8 byA x_3.1∧y.2.1=x_3.2.1∧y.2.2=x_3.2.2.1∧(3:Int)=x_3.2.2.2∧∀(y:Bool×Int×Int),Ad x_3.1 y.2.1→x.1=x.1∧Aa y.1 ((↑(List.length i.2.2.2+(4:Nat)):Int)≤IntKind.max IntKind.i64∧cA Gq [.box 0 [AV.bv x.1 [AV.sl false (0:Nat) (1:Nat) UInt8 byA x_3.1,.int .i64 y.2.1,.int .i64 y.2.2],.str (i.2.2.2++ #[(10:UInt8),(32:UInt8),(10:UInt8),(10:UInt8)].toList)]] fun x_4 y=>inR IntKind.i64 (i.1+(1:Int))∧eN (txL (5:Nat) (4000000:Nat) x) i [.val x.1,.box 0 [AV.bv x_4.cv [AV.sl false (0:Nat) (1:Nat) UInt8 byA x_4.b,.int .i64 y.1,.int .i64 y.2.1],.str y.2.2],.int .i64 (i.1+(1:Int))]) (cA Gq [.box 0 [AV.bv x.1 [AV.sl false (0:Nat) (1:Nat) UInt8 byA x_3.1,.int .i64 y.2.1,.int .i64 y.2.2],.str i.2.2.2]] fun x_4 y=>inR IntKind.i64 (i.1+(1:Int))∧eN (txL (5:Nat) (4000000:Nat) x) i [.val x.1,.box 0 [AV.bv x_4.cv [AV.sl false (0:Nat) (1:Nat) UInt8 byA x_4.b,.int .i64 y.1,.int .i64 y.2.1],.str y.2.2],.int .i64 (i.1+(1:Int))])) (∃(y_1:List UInt8×Int×Int),(List.length y_1.1≤(16777216:Nat)∧Ad x.2.1 y_1.2.1)∧i.2.2.2=y_1.1∧(x.1=x.1∧x.1=x.1)∧AV.sl false (0:Nat) (1:Nat) UInt8 byA x_2.1=AV.sl false (0:Nat) (1:Nat) UInt8 byA x.2.1∧y.2.1=y_1.2.1∧y.2.2=y_1.2.2∧True))) (fun x=>by kernel_rfl) fun(x:Value×List UInt8×Int×Int) (hx:Ad x.2.1 x.2.2.1)=>(by
 dsimp only[CT,cA,cur,eA,eN,mad,Dm,Gq,txL,Az,AC,mvL,lnL,mvE,lnE,Bt]
 obtain⟨cv,b,i,h⟩:=x;dsimp only at hx ⊢
 have hx:Ad b i:=hx
 (repeat' first|(apply KO<;>try dsimp only)|(with_reducible first|rfl|exact True.intro|apply AN|apply And.intro|((first|apply AD|apply AL|apply AE|apply AM)<;>intro _))|(apply AA<;>intro _)|apply AK|refine Ae () ?_ ?_|((first|apply AR|apply AQ|apply AP|apply AO|apply AJ|apply AI|apply AH|apply AG|apply AF)<;>try dsimp only)|apply Ae|(refine Prod.forall.2 ?_;intro _;try dsimp only)|(intro _;try dsimp only))
 all_goals(try(have hb:=a8I (And.left (show txB _ _ _∧_ by assumption))))
 all_goals first
  |rfl
  |exact hx
  |omega
  |exact Yl (Nat.le_of_ble_eq_true rfl)
  |exact And.right (show _∧Ad _ _ by assumption)
  |(show Ad _ _;exact And.right (show _∧Ad _ _ by assumption))
  |(with_reducible assumption)
  |(show Ad _ _;with_reducible assumption)
  |skip
 all_goals(repeat(rename _∧Ad _ _=>hq;obtain⟨_,_⟩:=hq))
 all_goals first
  |(with_reducible assumption)
  |(show Ad _ _;with_reducible assumption)
  |((try simp only[AU,List.length_append,List.length_cons,List.length_nil]);omega)
  |(refine Ym ‹_› (by omega) ?_;(try simp only[List.length_append,List.length_cons,List.length_nil]);omega)
  |(refine Ym ‹_› (by omega) ?_;(try simp only[List.length_append,List.length_cons,List.length_nil] at*);omega)
  |(refine Yl ?_;(try simp only[List.length_append,List.length_cons,List.length_nil]);omega)
  |skip)
theorem a8K{a:Int}{b:List UInt8}{d:Bool}{q:Nd→Prop}(h:q ⟨a,b,[],d⟩):∃x:Nd,a=x.kind∧b=x.text∧x.kids=[]∧d=x.blank∧q x:=⟨⟨a,b,[],d⟩,rfl,rfl,rfl,rfl,h⟩
theorem a8L{t:List UInt8}{L:List Nd}(h:Dp t=some L):BD L=true:=by
 unfold Dp at h
 obtain⟨sg,h1,h2⟩:=Option.bind_eq_some_iff.1 h
 rw[Option.map_eq_some_iff] at h2
 obtain⟨⟨ms,L'⟩,h3,h4⟩:=h2
 simp only at h4;subst h4
 unfold Iv at h3
 obtain⟨p,h5,h6⟩:=Option.bind_eq_some_iff.1 h3
 obtain⟨q,h7,h8⟩:=Option.bind_eq_some_iff.1 h6
 split at h8
 ·simp only[Option.some.injEq,Prod.mk.injEq] at h8
  rw[←h8.2];assumption
 ·cases h8
theorem Yo{t:List UInt8}{L:List Nd}(h:L=(Dp t).getD []∧Bh L)(hn:(L.length:Int)≠0):BD L=true∧Bh L:=by
 refine⟨?_,h.2⟩
 cases hr:Dp t with
 |none=>rw[hr] at h;exact(hn (by rw[h.1];rfl)).elim
 |some M=>rw[hr] at h;rw[h.1];exact a8L hr
theorem Yp:BD [⟨22,[],[],false⟩]=true∧Bh [⟨22,[],[],false⟩]:=⟨by decide,by simp [Bh,FB]⟩
attribute [local irreducible] Dp BD
def SS:Sig:= {X:=Value×List UInt8×Int×Int,args:=fun x=>[.bv x.1 (cur x.2.1 x.2.2.1 x.2.2.2)],pre:=fun x=>Ad x.2.1 x.2.2.1,Y:=List Nd×Int×Int,post:=fun x y=>(BD y.1=true∧Bh y.1)∧Ad x.2.1 y.2.1,res:=fun x y=>nds y.1,outs:=fun x y=>[.bv x.1 (cur x.2.1 y.2.1 y.2.2)],keep:=true}
theorem Yq:Am G Tryz.prog 48 SS:=
 vcFun_okP [(98,0,Yn),(73,0,ET)] [(24,⟨Nd,ndA true⟩)] false (fun x=>[]) Tryz.func48 rfl (by decide) ⟨a8J,a8E,trivial⟩ (fun(x:Value×List UInt8×Int×Int)=>True∧∃(x_1:Value×List UInt8×Int×Int),Ad x_1.2.1 x_1.2.2.1∧(x.1=x.1∧x.1=x_1.1)∧AV.sl false (0:Nat) (1:Nat) UInt8 byA x.2.1=AV.sl false (0:Nat) (1:Nat) UInt8 byA x_1.2.1∧x.2.2.1=x_1.2.2.1∧x.2.2.2=x_1.2.2.2∧∀(y:List UInt8×Int×Int),List.length y.1≤(16777216:Nat)∧Ad x_1.2.1 y.2.1→x.1=x.1∧cA ET [.str y.1] fun x_2 y_1=>Aa (!Option.isSome (Dp x_2)) (cA ET [.str #[(109:UInt8),(97:UInt8),(105:UInt8),(110:UInt8),(40:UInt8),(41:UInt8),(32:UInt8),(123:UInt8),(32:UInt8),(97:UInt8),(40:UInt8),(98:UInt8),(44:UInt8),(32:UInt8),(99:UInt8),(32:UInt8),(43:UInt8),(32:UInt8),(100:UInt8),(41:UInt8),(59:UInt8),(32:UInt8),(125:UInt8)].toList] fun x_3 y_2=>Aa ((↑(List.length y_2.1):Int)==(0:Int)) (∃(x_4:Nd),(22:Int)=x_4.kind∧ #[].toList=x_4.text∧x_4.kids=[]∧false=x_4.blank∧∃(y_3:List Nd×Int×Int),((BD y_3.1=true∧Bh y_3.1)∧Ad x.2.1 y_3.2.1)∧AV.sl false (0:Nat) (4:Nat) Nd (fun(x:Nd)=>fzL (ndA true x)) [x_4]=nds y_3.1∧(x.1=x.1∧x.1=x.1)∧AV.sl false (0:Nat) (1:Nat) UInt8 byA x_1.2.1=AV.sl false (0:Nat) (1:Nat) UInt8 byA x.2.1∧y.2.1=y_3.2.1∧y.2.2=y_3.2.2∧True) (∃(y_3:List Nd×Int×Int),((BD y_3.1=true∧Bh y_3.1)∧Ad x.2.1 y_3.2.1)∧nds y_2.1=nds y_3.1∧(x.1=x.1∧x.1=x.1)∧AV.sl false (0:Nat) (1:Nat) UInt8 byA x_1.2.1=AV.sl false (0:Nat) (1:Nat) UInt8 byA x.2.1∧y.2.1=y_3.2.1∧y.2.2=y_3.2.2∧True)) (Aa ((↑(List.length y_1.1):Int)==(0:Int)) (∃(x_3:Nd),(22:Int)=x_3.kind∧ #[].toList=x_3.text∧x_3.kids=[]∧false=x_3.blank∧∃(y_2:List Nd×Int×Int),((BD y_2.1=true∧Bh y_2.1)∧Ad x.2.1 y_2.2.1)∧AV.sl false (0:Nat) (4:Nat) Nd (fun(x:Nd)=>fzL (ndA true x)) [x_3]=nds y_2.1∧(x.1=x.1∧x.1=x.1)∧AV.sl false (0:Nat) (1:Nat) UInt8 byA x_1.2.1=AV.sl false (0:Nat) (1:Nat) UInt8 byA x.2.1∧y.2.1=y_2.2.1∧y.2.2=y_2.2.2∧True) (∃(y_2:List Nd×Int×Int),((BD y_2.1=true∧Bh y_2.1)∧Ad x.2.1 y_2.2.1)∧nds y_1.1=nds y_2.1∧(x.1=x.1∧x.1=x.1)∧AV.sl false (0:Nat) (1:Nat) UInt8 byA x_1.2.1=AV.sl false (0:Nat) (1:Nat) UInt8 byA x.2.1∧y.2.1=y_2.2.1∧y.2.2=y_2.2.2∧True))) (fun x=>by kernel_rfl) fun(x:Value×List UInt8×Int×Int) (hx:Ad x.2.1 x.2.2.1)=>(by
 dsimp only[CT,cA,Bx,nds,Ag,AX,ET,CE,sgs,srd,Az,AC,mvL,lnL,mvE,lnE]
 obtain⟨cv,b,i,h⟩:=x;dsimp only at hx ⊢
 have hx:Ad b i:=hx
 (repeat' first|refine a8K ?_|(with_reducible first|rfl|exact True.intro|apply AN|apply And.intro|((first|apply AD|apply AL|apply AE|apply AM)<;>intro _))|(apply AA<;>intro _)|apply AK|refine Ae () ?_ ?_|((first|apply AR|apply AQ|apply AP|apply AO|apply AJ|apply AI|apply AH|apply AG|apply AF)<;>try dsimp only)|apply Ae|(refine Prod.forall.2 ?_;intro _;try dsimp only)|(intro _;try dsimp only))
 all_goals first
  |rfl
  |exact hx
  |exact(Yo ‹_› ‹_›).1
  |exact(Yo ‹_› ‹_›).2
  |exact Yp.1
  |exact Yp.2
  |exact And.right (show _∧Ad _ _ by assumption)
  |skip
 all_goals(repeat(rename _∧Ad _ _=>hq;obtain⟨_,_⟩:=hq))
 all_goals first
  |omega
  |(simp only[List.length_cons,List.length_nil];omega)
  |(simp;done)
  |skip)
end Go.My
end
section
set_option linter.unusedVariables false
set_option linter.unusedSimpArgs false
namespace Go.My
open Go.Eng Go.Proofs
variable {G:GInv}
def JW:Sig:= {X:=List UInt8,args:=fun x=>[.sl false 0 1 UInt8 byA x],pre:=fun x=>x.length≤2^21,Y:=Int,post:=fun x y=>True,res:=fun x y=> .box 0 (cur x 0 y),outs:=fun x y=>[.top],keep:=true}
def Po(x:List UInt8):LS:= {ι:=Int×Int,inv:=fun i=>(0≤i.1∧i.1≤x.length)∧0≤i.2∧i.2≤2^31,regs:=fun i=>[(0,.sl false 0 1 UInt8 byA x),(3,.int .i64 i.2),(4,.int .i64 i.1)],als:=[],meas:=fun i=>x.length-i.1.toNat}
theorem Yr:Am G Tryz.prog 49 JW:=
 vcFun_okP [] [] false (fun x=>[(3,Po x)]) Tryz.func49 rfl (by decide) trivial (fun(x:List UInt8)=>True∧inR IntKind.i64 ((78601:Int)+(↑(List.length x):Int))∧eA (Po x) [AV.sl false (0:Nat) (1:Nat) UInt8 byA x,.int .i64 ((78601:Int)+(↑(List.length x):Int)),.int .i64 (0:Int)]∧∀(i:Int×Int),((0:Int)≤i.1∧i.1≤(↑(List.length x):Int))∧(0:Int)≤i.2∧i.2≤(2:Int)^(31:Nat)→Aa (decide (i.1<(↑(List.length x):Int))) (Aa (decide (i.1<(4000:Int))) (inR IntKind.i64 (i.2*(131:Int))∧((0:Int)≤i.1∧i.1<(↑(List.length x):Int))∧∀(e:UInt8),x[Int.toNat i.1]? =some e→inR IntKind.i64 (↑(UInt8.toNat e):Int)∧inR IntKind.i64 (i.2*(131:Int)+(↑(UInt8.toNat e):Int))∧inR IntKind.i64 (i.2*(131:Int)+(↑(UInt8.toNat e):Int)+(7:Int))∧inR IntKind.i64 (i.1+(1:Int))∧eN (Po x) i [AV.sl false (0:Nat) (1:Nat) UInt8 byA x,.int .i64 (Di BinOp.and IntKind.i64 (i.2*(131:Int)+(↑(UInt8.toNat e):Int)+(7:Int)) (1073741823:Int)),.int .i64 (i.1+(1:Int))]) (rA JW x [.box 0 [AV.sl false (0:Nat) (1:Nat) UInt8 byA x,.int .i64 (0:Int),.int .i64 i.2],.top])) (rA JW x [.box 0 [AV.sl false (0:Nat) (1:Nat) UInt8 byA x,.int .i64 (0:Int),.int .i64 i.2],.top])) (fun x=>by kernel_rfl) fun(x:List UInt8) (hx:x.length≤2^21)=>(by
 dsimp only[CT,cur,eA,eN,Po,rA,JW,Az,AC,Bt]
 have hx:x.length≤2^21:=hx
 (repeat' first|(with_reducible first|rfl|exact True.intro|apply AN|apply And.intro|((first|apply AD|apply AL|apply AE|apply AM)<;>intro _))|(apply AA<;>intro _)|apply AK|refine Ae () ?_ ?_|((first|apply AR|apply AQ|apply AP|apply AO|apply AJ|apply AI|apply AH|apply AG|apply AF)<;>try dsimp only)|apply Ae|(refine Prod.forall.2 ?_;intro _;try dsimp only)|(intro _;try dsimp only))
 all_goals first
  |rfl
  |omega
  |(have hq:=UInt8.toNat_lt ‹_›;omega)
  |(have hq:=Rs (_:Int);exact hq.1)
  |exact(Rs _).1
  |exact Int.le_trans (Rs _).2 (by decide)
  |skip)
theorem a8M{G:GInv}{P:Program}{f:FuncId}{S:Sig}{c:S.X→S.Y→List AV}(h:Am G P f S)(hr:S.res=fun x y=> .box 0 (c x y))(hk:S.keep=true):
 Am G P f {X:=S.X,args:=S.args,pre:=S.pre,Y:=S.Y×Value,post:=fun x y=>S.post x y.1,res:=fun x y=> .bv y.2 (c x y.1),outs:=fun x y=>S.outs x y.1,keep:=true,fixed:=S.fixed,caps:=S.caps}:=by
 obtain⟨⟨h1,_⟩,h2⟩:=h
 refine⟨⟨h1,fun x y _ _=>trivial⟩,fun x hx Z w vals A hG ha hA hc=>(h2 x hx Z w vals A hG ha hA hc).mono ?_⟩
 rintro e w' ⟨y,v,Z',A',hp,he,hrel,haf⟩
 refine⟨(y,v),v,Z',A',hp,he,?_,haf⟩
 rw[hr] at hrel
 simp only[AY,Ah] at hrel ⊢
 obtain⟨v',cs',A1,B1,e1,hj,⟨b,arr,ty,S1,e2,hb,hc1,hj1⟩,hrest⟩:=hrel
 simp only[List.cons.injEq] at e1
 obtain⟨rfl,rfl⟩:=e1
 exact⟨_,_,A1,B1,rfl,hj,⟨rfl,b,arr,ty,S1,e2,hb,hc1,hj1⟩,hrest⟩
def FQ:Sig:= {X:=List UInt8,args:=fun x=>[.sl false 0 1 UInt8 byA x],pre:=fun x=>x.length≤2^21,Y:=Int×Value,post:=fun x y=>True,res:=fun x y=> .bv y.2 (cur x 0 y.1),outs:=fun x y=>[.top],keep:=true}
theorem Pp:Am G Go.Proofs.Tryz.prog 49 FQ:=a8M (c:=fun x y=>cur x 0 y) Yr rfl rfl
theorem MV{b:List UInt8}(h:b.length≤2^21):Ad b 0:=⟨by omega,h⟩
def Lv:Sig:= {X:=List UInt8,args:=fun x=>[.sl false 0 1 UInt8 byA x],pre:=fun x=>x.length≤2^21,Y:=List Nd,post:=fun x y=>BD y=true∧Bh y,res:=fun x y=>nds y,outs:=fun x y=>[.top],keep:=true}
theorem a8N:Am G Tryz.prog 7 Lv:=
 vcFun_okP [(49,0,FQ),(48,0,SS)] [] false (fun x=>[]) Tryz.func7 rfl (by decide) ⟨Pp,Yq,trivial⟩ (fun(x:List UInt8)=>True∧cA FQ [AV.sl false (0:Nat) (1:Nat) UInt8 byA x] fun x_1 y=>∃(x_2:Value×List UInt8×Int×Int),Ad x_2.2.1 x_2.2.2.1∧(y.2=y.2∧y.2=x_2.1)∧AV.sl false (0:Nat) (1:Nat) UInt8 byA x_1=AV.sl false (0:Nat) (1:Nat) UInt8 byA x_2.2.1∧(0:Int)=x_2.2.2.1∧y.1=x_2.2.2.2∧∀(y_1:List Nd×Int×Int),(BD y_1.1=true∧Bh y_1.1)∧Ad x_2.2.1 y_1.2.1→y.2=y.2∧rA Lv x [nds y_1.1,.top]) (fun x=>by kernel_rfl) fun(x:List UInt8) (hx:x.length≤2^21)=>(by
 dsimp only[CT,cA,cur,Bx,nds,rA,Lv,FQ,Az,AC,mvL,lnL,mvE,lnE]
 have hx:x.length≤2^21:=hx
 (repeat' first|(with_reducible first|rfl|exact True.intro|apply AN|apply And.intro|((first|apply AD|apply AL|apply AE|apply AM)<;>intro _))|(apply AA<;>intro _)|apply AK|refine Ae () ?_ ?_|((first|apply AR|apply AQ|apply AP|apply AO|apply AJ|apply AI|apply AH|apply AG|apply AF)<;>try dsimp only)|apply Ae|(refine Prod.forall.2 ?_;intro _;try dsimp only)|(intro _;try dsimp only))
 all_goals first
  |rfl
  |exact hx
  |exact MV hx
  |exact(And.left (show(BD _=true∧Bh _)∧Ad _ _ by assumption)).1
  |exact(And.left (show(BD _=true∧Bh _)∧Ad _ _ by assumption)).2
  |skip)
def plO(o:List Int)(i:Int):Prop:=((0≤i∧i≤12)∧o.length=i)∧∀e∈o,0≤e∧e<10000
theorem a8O:plO [] 0:=⟨by simp,by simp⟩
theorem a8P{o:List Int}{i:Int}(h:plO o i):(0≤i∧i≤12)∧o.length≤12:=by have:=h.1;omega
theorem a8Q{o:List Int}{i v:Int}(h:plO o i)(hi:i<12)(hv:0≤v∧v<10000):plO (o++[v]) (i+1):=by
 refine⟨⟨by have:=h.1;omega,by rw[List.length_append];have:=h.1.2;simp;omega⟩,fun e he=> ?_⟩
 rcases List.mem_append.1 he with he|he
 ·exact h.2 e he
 ·simp at he;subst he;exact hv
def Lw:Sig:= {X:=List UInt8,args:=fun x=>[.sl false 0 1 UInt8 byA x],pre:=fun x=>x.length≤2^21,Y:=List Int×Unit,post:=fun x y=>y.1.length=12∧∀e∈y.1,0≤e∧e<10000,res:=fun x y=>Ag y.1,outs:=fun x y=>[.top],keep:=true}
def Pq(x:List UInt8):LS:= {ι:=Int×Int×Int×List Int,inv:=fun i=>plO i.2.2.2 i.1∧Ad x i.2.1,regs:=fun i=>[(3,.box 0 (cur x i.2.1 i.2.2.1)),(4,Ag i.2.2.2),(5,.int .i64 i.1)],als:=[],meas:=fun i=>12-i.1.toNat}
theorem a8R:Am G Tryz.prog 8 Lw:=
 vcFun_okP [(49,0,JW),(50,0,EZ),(51,0,Da)] [(26,⟨Int,Bi⟩)] false (fun x=>[(5,Pq x)]) Tryz.func8 rfl (by decide) ⟨Yr,UN,Gb,trivial⟩ (fun(x:List UInt8)=>True∧cA JW [AV.sl false (0:Nat) (1:Nat) UInt8 byA x] fun x_1 y=>cA EZ [.box 0 [AV.sl false (0:Nat) (1:Nat) UInt8 byA x_1,.int .i64 (0:Int),.int .i64 y]] fun x_2 y=>eA (Pq x) [.box 0 [AV.sl false (0:Nat) (1:Nat) UInt8 byA x_2.1,.int .i64 y.2.1,.int .i64 y.2.2],Ag [],.int .i64 (0:Int)]∧∀(i:Int×Int×Int×List Int),plO i.2.2.2 i.1∧Ad x i.2.1→Aa (decide (i.1<(12:Int))) (cA Da [.box 0 [AV.sl false (0:Nat) (1:Nat) UInt8 byA x,.int .i64 i.2.1,.int .i64 i.2.2.1],.int .i64 (10000:Int)] fun x_3 y=>∃(x_4:Int),y.1=x_4∧∃(zs:List Int),Ag [x_4]=Ag zs∧Cd Bi∧Bf (List.length i.2.2.2+List.length zs) (8:Nat)∧inR IntKind.i64 (i.1+(1:Int))∧eN (Pq x) i [.box 0 [AV.sl false (0:Nat) (1:Nat) UInt8 byA x_3.1,.int .i64 y.2.1,.int .i64 y.2.2],Ag (i.2.2.2++zs),.int .i64 (i.1+(1:Int))]) (rA Lw x [Ag i.2.2.2,.top])) (fun x=>by kernel_rfl) fun(x:List UInt8) (hx:x.length≤2^21)=>(by
 dsimp only[CT,cA,cur,eA,eN,Pq,Ag,rA,Da,EZ,JW,Lw,Az,AC,mvL,lnL,mvE,lnE,Bt]
 have hx:x.length≤2^21:=hx
 (repeat' first|(with_reducible first|rfl|exact True.intro|apply AN|apply And.intro|((first|apply AD|apply AL|apply AE|apply AM)<;>intro _))|(apply AA<;>intro _)|apply AK|refine Ae () ?_ ?_|((first|apply AR|apply AQ|apply AP|apply AO|apply AJ|apply AI|apply AH|apply AG|apply AF)<;>try dsimp only)|apply Ae|(refine Prod.forall.2 ?_;intro _;try dsimp only)|(intro _;try dsimp only))
 all_goals first
  |rfl
  |exact hx
  |exact MV hx
  |exact()
  |skip
 all_goals(try(have hb:=a8P (And.left (show plO _ _∧_ by assumption))))
 all_goals(repeat(rename _∧Ad _ _=>hq;obtain⟨_,_⟩:=hq))
 all_goals first
  |exact a8O
  |(with_reducible assumption)
  |exact a8Q ‹_› (by omega) (by omega)
  |((try simp only[AU,Bf,List.length_append,List.length_cons,List.length_nil]);omega)
  |exact(And.right (show plO _ _ by assumption) _ ‹_›).1
  |exact(And.right (show plO _ _ by assumption) _ ‹_›).2
  |(have hq:=(show plO _ _ by assumption).1;omega)
  |skip)
def HP:Sig:= {X:=List Nd×Unit,args:=fun x=>[nds x.1],pre:=fun x=>(Bh x.1∧x.1.length≤2^30)∧∀e∈x.1,e.kids.length≤2^20,Y:=Unit,post:=fun x y=>True,res:=fun x y=>AX x.1,outs:=fun x y=>[.top],keep:=false}
def Pr(x:List Nd×Unit):LS:= {ι:=Int,inv:=fun i=>0≤i∧i≤x.1.length,regs:=fun i=>[(0,nds x.1),(3,AX (x.1.take i.toNat)),(4,.int .i64 i)],als:=[],meas:=fun i=>x.1.length-i.toNat}
theorem Ys:Am G Tryz.prog 56 HP:=
 vcFun_okP [] [(24,⟨Nd,ndA true⟩),(26,⟨Int,Bi⟩)] false (fun x=>[(3,Pr x)]) Tryz.func56 rfl (by decide) trivial (fun(x:List Nd×Unit)=>(∀(y:Unit),True→(∀(x:Nd),True∧True∧(∀(x:Int),True∧True)∧True∧True)∧True∧True)∧eA (Pr x) [nds x.1,AX [],.int .i64 (0:Int)]∧∀(i:Int),(0:Int)≤i∧i≤(↑(List.length x.1):Int)→Aa (decide (i<(↑(List.length x.1):Int))) (((0:Int)≤i∧i<(↑(List.length x.1):Int))∧∀(e:Nd),x.1[Int.toNat i]? =some e→∃(zs:List Int),AW e.kids=AW zs∧Cd Bi∧Bf ((0:Nat)+List.length zs) (8:Nat)∧∃(x_1:Nd),e.kind=x_1.kind∧e.text=x_1.text∧Ag ([]++zs)=Ag x_1.kids∧e.blank=x_1.blank∧∃(zs:List Nd),AX [x_1]=AX zs∧Cd (ndA true)∧Bf (List.length (List.take (Int.toNat i) x.1)+List.length zs) (56:Nat)∧inR IntKind.i64 (i+(1:Int))∧eN (Pr x) i [nds x.1,AX (List.take (Int.toNat i) x.1++zs),.int .i64 (i+(1:Int))]) (rA HP x [AX (List.take (Int.toNat i) x.1),.top])) (fun x=>by kernel_rfl) fun(x:List Nd×Unit) (hx:(Bh x.1∧x.1.length≤2^30)∧∀e∈x.1,e.kids.length≤2^20)=>(by
 dsimp only[eA,eN,Pr,AW,Bx,nds,Ag,AX,rA,HP,Az,AC,Bt]
 obtain⟨x,_⟩:=x;dsimp only at hx ⊢
 obtain⟨⟨h1,h2⟩,h3⟩:=hx
 (repeat' first|(with_reducible first|rfl|exact True.intro|apply AN|apply And.intro|((first|apply AD|apply AL|apply AE|apply AM)<;>intro _))|(apply AA<;>intro _)|apply AK|refine Ae () ?_ ?_|((first|apply AR|apply AQ|apply AP|apply AO|apply AJ|apply AI|apply AH|apply AG|apply AF)<;>try dsimp only)|apply Ae|(refine Prod.forall.2 ?_;intro _;try dsimp only)|(intro _;try dsimp only))
 all_goals first
  |rfl
  |omega
  |(have hq:=h1.1;(try simp only[AU,Bf,List.length_append,List.length_take,List.length_cons,List.length_nil]);omega)
  |(have hq:=h3 _ (Cv ‹_›);(try simp only[Bf]);omega)
  |(rw[DF (And.left ‹_›),Fv ‹_›];done)
  |exact List.take_of_length_le (by omega)
  |skip)
def spB(l:List Nd):Prop:=(1≤l.length∧l.length≤300)∧Bh l∧∀e∈l,e.kids.length≤13
theorem a8S{l:List Nd}(h:BD l=true∧Bh l):spB l∧∀e∈l,e.kids.length≤12:=by
 obtain⟨t1,t2,t3,t4⟩:=Mz h.1
 have hk:∀e∈l,e.kids.length≤12:=fun e he=>by
  obtain⟨i,hi,e2⟩:=List.mem_iff_getElem.1 he
  have hn:=(Im (t1.1 i hi)).2.1
  have:Ai l (i:Int)=e:=Br (by rw[←e2];simp)
  rw[this] at hn;exact hn
 exact⟨⟨⟨t2,t3⟩,h.2,fun e he=>by have:=hk e he;omega⟩,hk⟩
theorem a8T{l:List Nd}{n:Nat}{z:Nd}(h:spB l)(hz:z.kids.length≤13)(ht:z.text.length<2^62):spB (l.set n z):=by
 refine⟨by rw[List.length_set];exact h.1,⟨by rw[List.length_set];exact h.2.1.1,fun x hx=> ?_⟩,fun x hx=> ?_⟩
 ·rcases List.mem_or_eq_of_mem_set hx with hx|hx
  ·exact h.2.1.2 x hx
  ·subst hx;exact⟨ht,by omega⟩
 ·rcases List.mem_or_eq_of_mem_set hx with hx|hx
  ·exact h.2.2 x hx
  ·subst hx;exact hz
theorem a8U{p q:Nd→Prop}(a:Int)(b:List UInt8)(c:List Int)(d:Bool)(h2:q ⟨a,b,c,d⟩)(h1:p ⟨a,b,c,d⟩):∃x,p x∧q x:=⟨_,h1,h2⟩
theorem a8V{z:Nd}{l:List Int}{q:Nd→Prop}(h:q ⟨z.kind,z.text,l,z.blank⟩):∃x:Nd,[AV.int IntKind.i64 x.kind,AV.str x.text,AV.sl true 0 1 Int Bi x.kids,AV.bool x.blank]=[AV.int IntKind.i64 z.kind,AV.str z.text,AV.sl true 0 1 Int Bi l,AV.bool z.blank]∧q x:=⟨⟨z.kind,z.text,l,z.blank⟩,rfl,h⟩
theorem a8W{a:Int}{n:Nat}(h0:0≤a)(hn:1≤n):(a.tmod n).toNat<n:=by have:= @Hc a n h0 (by omega);omega
theorem a8X{a:Int}(h0:0≤a):(a.tmod 7).toNat<7:=by have:= @Hc a 7 h0 (by decide);omega
def SU:LS:= {ι:=Unit,inv:=fun _=>True,regs:=fun _=>[],als:=[],meas:=fun _=>0}
def Pt:Sig:= {X:=Value×List UInt8×Int×Int,args:=fun x=>[.bv x.1 (cur x.2.1 x.2.2.1 x.2.2.2)],pre:=fun x=>Ad x.2.1 x.2.2.1,Y:=List Nd×Int×Int,post:=fun x y=>spB y.1∧Ad x.2.1 y.2.1,res:=fun x y=>AX y.1,outs:=fun x y=>[.bv x.1 (cur x.2.1 y.2.1 y.2.2)],keep:=true}
theorem SV:Am G Tryz.prog 54 Pt:=
 vcFun_okP [(51,0,Da),(48,0,SS),(56,0,HP)] [(24,⟨Nd,ndA true⟩),(26,⟨Int,Bi⟩),(38,⟨List UInt8,As⟩)] false (fun x=>[(400011,SU),(400015,SU),(400016,SU)]) Tryz.func54 rfl (by decide) ⟨Gb,Yq,Ys,trivial⟩ (fun(x:Value×List UInt8×Int×Int)=>True∧∃(x_1:List UInt8×Int×Int×Int),Ad x_1.1 x_1.2.1∧x.1=x.1∧AV.sl false (0:Nat) (1:Nat) UInt8 byA x.2.1=AV.sl false (0:Nat) (1:Nat) UInt8 byA x_1.1∧x.2.2.1=x_1.2.1∧x.2.2.2=x_1.2.2.1∧(12:Int)=x_1.2.2.2∧∀(y:Int×Int×Int),(((0:Int)<x_1.2.2.2→(0:Int)≤y.1∧y.1<x_1.2.2.2)∧(x_1.2.2.2≤(0:Int)→y.1=(0:Int)))∧Ad x_1.1 y.2.1→x.1=x.1∧∃(x_2:List UInt8×Int×Int×Int),Ad x_2.1 x_2.2.1∧x.1=x.1∧AV.sl false (0:Nat) (1:Nat) UInt8 byA x_1.1=AV.sl false (0:Nat) (1:Nat) UInt8 byA x_2.1∧y.2.1=x_2.2.1∧y.2.2=x_2.2.2.1∧(200:Int)=x_2.2.2.2∧∀(y_1:Int×Int×Int),(((0:Int)<x_2.2.2.2→(0:Int)≤y_1.1∧y_1.1<x_2.2.2.2)∧(x_2.2.2.2≤(0:Int)→y_1.1=(0:Int)))∧Ad x_2.1 y_1.2.1→x.1=x.1∧∃(x_3:Value×List UInt8×Int×Int),Ad x_3.2.1 x_3.2.2.1∧(x.1=x.1∧x.1=x_3.1)∧AV.sl false (0:Nat) (1:Nat) UInt8 byA x_2.1=AV.sl false (0:Nat) (1:Nat) UInt8 byA x_3.2.1∧y_1.2.1=x_3.2.2.1∧y_1.2.2=x_3.2.2.2∧∀(y_2:List Nd×Int×Int),(BD y_2.1=true∧Bh y_2.1)∧Ad x_3.2.1 y_2.2.1→x.1=x.1∧cA HP [nds y_2.1] fun x_4 y_3=>(↑(List.length x_4.1):Int)≠(0:Int)∧Aa (y.1==(0:Int)) ((24:Int)≠(0:Int)∧((0:Int)≤Int.tmod y_1.1 (↑(List.length x_4.1):Int)∧Int.tmod y_1.1 (↑(List.length x_4.1):Int)<(↑(List.length x_4.1):Int))∧Int.toNat (Int.tmod y_1.1 (↑(List.length x_4.1):Int))<List.length x_4.1∧∀(x_5:Nd),x_4.1[Int.toNat (Int.tmod y_1.1 (↑(List.length x_4.1):Int))]? =some x_5→∃(x':Nd),((@List.nil AV)=[]∧[AV.str x'.text,Ag x'.kids,.bool x'.blank]=[.str x_5.text,Ag x_5.kids,.bool x_5.blank])∧Int.tmod y_1.1 (24:Int)=x'.kind∧∃(y:List Nd×Int×Int),(spB y.1∧Ad x.2.1 y.2.1)∧AX (List.set x_4.1 (Int.toNat (Int.tmod y_1.1 (↑(List.length x_4.1):Int))) x')=AX y.1∧(x.1=x.1∧x.1=x.1)∧AV.sl false (0:Nat) (1:Nat) UInt8 byA x_3.2.1=AV.sl false (0:Nat) (1:Nat) UInt8 byA x.2.1∧y_2.2.1=y.2.1∧y_2.2.2=y.2.2∧True) (Aa (y.1==(1:Int)) (∃(x_5:List UInt8),#[].toList=x_5∧∃(x_6:List UInt8),#[(97:UInt8)].toList=x_6∧∃(x_7:List UInt8),#[(99:UInt8),(108:UInt8),(97:UInt8),(115:UInt8),(115:UInt8)].toList=x_7∧∃(x_8:List UInt8),#[(39:UInt8),(120:UInt8),(39:UInt8)].toList=x_8∧∃(x_9:List UInt8),#[(47:UInt8),(47:UInt8),(32:UInt8),(97:UInt8)].toList=x_9∧∃(x_10:List UInt8),#[(49:UInt8),(50:UInt8)].toList=x_10∧∃(x_11:List UInt8),#[(43:UInt8)].toList=x_11∧(7:Int)≠(0:Int)∧((0:Int)≤Int.tmod y_1.1 (7:Int)∧Int.tmod y_1.1 (7:Int)<(↑(List.length [x_5,x_6,x_7,x_8,x_9,x_10,x_11]):Int))∧Int.toNat (Int.tmod y_1.1 (7:Int))<List.length [x_5,x_6,x_7,x_8,x_9,x_10,x_11]∧∀(x_12:List UInt8),[x_5,x_6,x_7,x_8,x_9,x_10,x_11][Int.toNat (Int.tmod y_1.1 (7:Int))]? =some x_12→((0:Int)≤Int.tmod y_1.1 (↑(List.length x_4.1):Int)∧Int.tmod y_1.1 (↑(List.length x_4.1):Int)<(↑(List.length x_4.1):Int))∧Int.toNat (Int.tmod y_1.1 (↑(List.length x_4.1):Int))<List.length x_4.1∧∀(x_13:Nd),x_4.1[Int.toNat (Int.tmod y_1.1 (↑(List.length x_4.1):Int))]? =some x_13→∃(x':Nd),([AV.int .i64 x'.kind]=[.int .i64 x_13.kind]∧[Ag x'.kids,.bool x'.blank]=[Ag x_13.kids,.bool x_13.blank])∧x_12=x'.text∧∃(y:List Nd×Int×Int),(spB y.1∧Ad x.2.1 y.2.1)∧AX (List.set x_4.1 (Int.toNat (Int.tmod y_1.1 (↑(List.length x_4.1):Int))) x')=AX y.1∧(x.1=x.1∧x.1=x.1)∧AV.sl false (0:Nat) (1:Nat) UInt8 byA x_3.2.1=AV.sl false (0:Nat) (1:Nat) UInt8 byA x.2.1∧y_2.2.1=y.2.1∧y_2.2.2=y.2.2∧True) (Aa (y.1==(2:Int)) (true=true∧((0:Int)≤Int.tmod y_1.1 (↑(List.length x_4.1):Int)∧Int.tmod y_1.1 (↑(List.length x_4.1):Int)<(↑(List.length x_4.1):Int))∧((0:Int)≤Int.tmod y_1.1 (↑(List.length x_4.1):Int)∧Int.tmod y_1.1 (↑(List.length x_4.1):Int)<(↑(List.length x_4.1):Int))∧Int.toNat (Int.tmod y_1.1 (↑(List.length x_4.1):Int))=Int.toNat (Int.tmod y_1.1 (↑(List.length x_4.1):Int))∧Int.toNat (Int.tmod y_1.1 (↑(List.length x_4.1):Int))<List.length x_4.1∧∀(z:Nd),x_4.1[Int.toNat (Int.tmod y_1.1 (↑(List.length x_4.1):Int))]? =some z→(9:Int)≠(0:Int)∧∃(x_5:Int),Int.tmod y_1.1 (9:Int)=x_5∧∃(zs:List Int),Ag [x_5]=Ag zs∧Cd Bi∧Bf (List.length z.kids+List.length zs) (8:Nat)∧∃(z':Nd),[AV.int .i64 z'.kind,.str z'.text,Ag z'.kids,.bool z'.blank]=[.int .i64 z.kind,.str z.text,Ag (z.kids++zs),.bool z.blank]∧∃(y:List Nd×Int×Int),(spB y.1∧Ad x.2.1 y.2.1)∧AX (List.set x_4.1 (Int.toNat (Int.tmod y_1.1 (↑(List.length x_4.1):Int))) z')=AX y.1∧(x.1=x.1∧x.1=x.1)∧AV.sl false (0:Nat) (1:Nat) UInt8 byA x_3.2.1=AV.sl false (0:Nat) (1:Nat) UInt8 byA x.2.1∧y_2.2.1=y.2.1∧y_2.2.2=y.2.2∧True) (Aa (y.1==(3:Int)) (((0:Int)≤Int.tmod y_1.1 (↑(List.length x_4.1):Int)∧Int.tmod y_1.1 (↑(List.length x_4.1):Int)<(↑(List.length x_4.1):Int))∧Int.toNat (Int.tmod y_1.1 (↑(List.length x_4.1):Int))<List.length x_4.1∧∀(x_5:Nd),x_4.1[Int.toNat (Int.tmod y_1.1 (↑(List.length x_4.1):Int))]? =some x_5→((0:Int)≤Int.tmod y_1.1 (↑(List.length x_4.1):Int)∧Int.tmod y_1.1 (↑(List.length x_4.1):Int)<(↑(List.length x_4.1):Int))∧Int.toNat (Int.tmod y_1.1 (↑(List.length x_4.1):Int))<List.length x_4.1∧∀(x_6:Nd),x_4.1[Int.toNat (Int.tmod y_1.1 (↑(List.length x_4.1):Int))]? =some x_6→∃(x':Nd),([AV.int .i64 x'.kind,.str x'.text,Ag x'.kids]=[.int .i64 x_6.kind,.str x_6.text,Ag x_6.kids]∧(@List.nil AV)=[])∧(!x_5.blank)=x'.blank∧∃(y:List Nd×Int×Int),(spB y.1∧Ad x.2.1 y.2.1)∧AX (List.set x_4.1 (Int.toNat (Int.tmod y_1.1 (↑(List.length x_4.1):Int))) x')=AX y.1∧(x.1=x.1∧x.1=x.1)∧AV.sl false (0:Nat) (1:Nat) UInt8 byA x_3.2.1=AV.sl false (0:Nat) (1:Nat) UInt8 byA x.2.1∧y_2.2.1=y.2.1∧y_2.2.2=y.2.2∧True) (Aa (y.1==(4:Int)) (true=true∧((0:Int)≤Int.tmod y_1.1 (↑(List.length x_4.1):Int)∧Int.tmod y_1.1 (↑(List.length x_4.1):Int)<(↑(List.length x_4.1):Int))∧Int.toNat (Int.tmod y_1.1 (↑(List.length x_4.1):Int))<List.length x_4.1∧∀(z:Nd),x_4.1[Int.toNat (Int.tmod y_1.1 (↑(List.length x_4.1):Int))]? =some z→Aa (decide ((↑(List.length z.kids):Int)>(0:Int))) (true=true∧((0:Int)≤Int.tmod y_1.1 (↑(List.length x_4.1):Int)∧Int.tmod y_1.1 (↑(List.length x_4.1):Int)<(↑(List.length x_4.1):Int))∧((0:Int)≤Int.tmod y_1.1 (↑(List.length x_4.1):Int)∧Int.tmod y_1.1 (↑(List.length x_4.1):Int)<(↑(List.length x_4.1):Int))∧Int.toNat (Int.tmod y_1.1 (↑(List.length x_4.1):Int))=Int.toNat (Int.tmod y_1.1 (↑(List.length x_4.1):Int))∧Int.toNat (Int.tmod y_1.1 (↑(List.length x_4.1):Int))<List.length x_4.1∧∀(z:Nd),x_4.1[Int.toNat (Int.tmod y_1.1 (↑(List.length x_4.1):Int))]? =some z→((0:Int)≤(1:Int)∧(1:Int)≤(↑(List.length z.kids):Int)∧(↑(List.length z.kids):Int)≤(↑(List.length z.kids):Int))∧∃(z':Nd),[AV.int .i64 z'.kind,.str z'.text,Ag z'.kids,.bool z'.blank]=[.int .i64 z.kind,.str z.text,Ag (List.drop (1:Nat) z.kids),.bool z.blank]∧∃(y:List Nd×Int×Int),(spB y.1∧Ad x.2.1 y.2.1)∧AX (List.set x_4.1 (Int.toNat (Int.tmod y_1.1 (↑(List.length x_4.1):Int))) z')=AX y.1∧(x.1=x.1∧x.1=x.1)∧AV.sl false (0:Nat) (1:Nat) UInt8 byA x_3.2.1=AV.sl false (0:Nat) (1:Nat) UInt8 byA x.2.1∧y_2.2.1=y.2.1∧y_2.2.2=y.2.2∧True) (∃(y:List Nd×Int×Int),(spB y.1∧Ad x.2.1 y.2.1)∧AX x_4.1=AX y.1∧(x.1=x.1∧x.1=x.1)∧AV.sl false (0:Nat) (1:Nat) UInt8 byA x_3.2.1=AV.sl false (0:Nat) (1:Nat) UInt8 byA x.2.1∧y_2.2.1=y.2.1∧y_2.2.2=y.2.2∧True)) (∃(y:List Nd×Int×Int),(spB y.1∧Ad x.2.1 y.2.1)∧AX x_4.1=AX y.1∧(x.1=x.1∧x.1=x.1)∧AV.sl false (0:Nat) (1:Nat) UInt8 byA x_3.2.1=AV.sl false (0:Nat) (1:Nat) UInt8 byA x.2.1∧y_2.2.1=y.2.1∧y_2.2.2=y.2.2∧True)))))) (fun x=>by kernel_rfl) fun(x:Value×List UInt8×Int×Int) (hx:Ad x.2.1 x.2.2.1)=>(by
 dsimp only[CT,cA,Bx,nds,Ag,AX,HP,Az,AC,mvL,lnL,mvE,lnE]
 obtain⟨cv,b,i,h⟩:=x;dsimp only at hx ⊢
 have hx:Ad b i:=hx
 (repeat' first|refine a8V ?_|refine a8U _ _ _ _ ⟨rfl,?_⟩ ⟨rfl,rfl⟩|(with_reducible first|rfl|exact True.intro|apply AN|apply And.intro|((first|apply AD|apply AL|apply AE|apply AM)<;>intro _))|(apply AA<;>intro _)|apply AK|refine Ae () ?_ ?_|((first|apply AR|apply AQ|apply AP|apply AO|apply AJ|apply AI|apply AH|apply AG|apply AF)<;>try dsimp only)|apply Ae|(refine Prod.forall.2 ?_;intro _;try dsimp only)|(intro _;try dsimp only))
 all_goals(try(have hT:=a8S (And.left (show(BD _=true∧Bh _)∧Ad _ _ by assumption));have hL:=hT.1.1))
 all_goals(try(have hy:=And.left (show(((0:Int)<200→_)∧(_→_))∧Ad _ _ by assumption);have hy1:=hy.1 (by decide)))
 all_goals first
  |rfl
  |exact hx
  |omega
  |exact And.right (show _∧Ad _ _ by assumption)
  |exact(Hc (by omega) (by omega)).1
  |exact(Hc (by omega) (by omega)).2
  |exact()
  |exact hT.1
  |exact hT.1.2.1
  |(exact Nat.le_trans (hT.2 _ ‹_›) (by decide))
  |(intro e he;have hq:=hT.2 e he;omega)
  |exact a8W (by omega) (by omega)
  |exact a8X (by omega)
  |(have hq:=hT.2 _ (Cv (show(_:List Nd)[_]? =some _ by assumption));simp only[Bf,List.length_cons,List.length_nil];omega)
  |(refine a8T hT.1 ?_ ?_<;>dsimp only<;>first
    |exact hT.1.2.2 _ (Cv (show(_:List Nd)[_]? =some _ by assumption))
    |exact(hT.1.2.1.2 _ (Cv (show(_:List Nd)[_]? =some _ by assumption))).1
    |(have hq:=hT.2 _ (Cv (show(_:List Nd)[_]? =some _ by assumption));simp;omega)
    |(have hq:=hT.1.2.2 _ (Cv (show(_:List Nd)[_]? =some _ by assumption));simp;omega)
    |(have hm:=Cv (show(_:List (List UInt8))[_]? =some _ by assumption);exact Nat.lt_of_le_of_lt (Jj (n:=20) hm (by decide)) (by decide)))
  |((repeat(rename(_:List Nd)[_]? =some _=>hq;revert hq;rename(_:List Nd)[_]? =some _=>hr;intro hq;rw[hr] at hq;cases hq));omega)
  |skip)
end Go.My
end
section
set_option linter.unusedVariables false
set_option linter.unusedSimpArgs false
namespace Go.My
open Go.Eng Go.Proofs
variable {G:GInv}
def eqF{α:Type}(p:α→α→Bool):List α→List α→Bool
 |[],[]=>true
 |x::a,y::b=>p x y&&eqF p a b
 |_,_=>false
theorem SW{α:Type}{p:α→α→Bool}:∀ {a b:List α},a.length≠b.length→eqF p a b=false
 |[],[],h=>(h rfl).elim
 |[],_::_,_=>rfl
 |_::_,[],_=>rfl
 |x::a,y::b,h=>by
  rw[eqF,SW (a:=a) (b:=b) (fun e=>h (by simp [e]))];simp
def eqW{α:Type}(p:α→α→Bool)(a b:List α)(i:Int):Prop:=((0≤i∧i≤a.length)∧a.length=b.length)∧eqF p a b=eqF p (a.drop i.toNat) (b.drop i.toNat)
theorem Lx{α:Type}{p:α→α→Bool}{a b:List α}(h:(a.length:Int)=b.length):eqW p a b 0:=⟨⟨by omega,by omega⟩,rfl⟩
theorem Pu{α:Type}{p:α→α→Bool}{a b:List α}{i:Int}(h:eqW p a b i):(0≤i∧i≤a.length)∧a.length=b.length:=h.1
theorem Yt{α:Type}{p:α→α→Bool}{a b:List α}{i:Int}{x y:α}(h:eqW p a b i)(hx:a[i.toNat]? =some x)(hy:b[i.toNat]? =some y):eqF p a b=(p x y&&eqF p (a.drop (i+1).toNat) (b.drop (i+1).toNat)):=by
 have h1:=(List.getElem?_eq_some_iff.1 hx).1;have h2:=(List.getElem?_eq_some_iff.1 hy).1
 rw[h.2,List.drop_eq_getElem_cons h1,(List.getElem?_eq_some_iff.1 hx).2,List.drop_eq_getElem_cons h2,(List.getElem?_eq_some_iff.1 hy).2,eqF,show(i+1).toNat=i.toNat+1 by have:=h.1.1.1;omega]
theorem Pv{α:Type}{p:α→α→Bool}{a b:List α}{i:Int}{x y:α}(h:eqW p a b i)(hx:a[i.toNat]? =some x)(hy:b[i.toNat]? =some y)(hp:p x y=true):eqW p a b (i+1):=by
 have h1:=(List.getElem?_eq_some_iff.1 hx).1
 refine⟨⟨by have:=h.1.1;omega,h.1.2⟩,?_⟩
 rw[Yt h hx hy,hp];simp
theorem Pw{α:Type}{p:α→α→Bool}{a b:List α}{i:Int}{x y:α}(h:eqW p a b i)(hx:a[i.toNat]? =some x)(hy:b[i.toNat]? =some y)(hp:p x y=false):false=eqF p a b:=by rw[Yt h hx hy,hp];rfl
theorem Px{α:Type}{p:α→α→Bool}{a b:List α}{i:Int}(h:eqW p a b i)(hi:¬i<a.length):true=eqF p a b:=by
 have:=h.1
 rw[h.2,List.drop_eq_nil_of_le (by omega),List.drop_eq_nil_of_le (by omega)];rfl
theorem SX{α:Type}{p:α→α→Bool}{a b:List α}(h:(a.length:Int)≠b.length):false=eqF p a b:=(SW (by omega)).symm
def iEq(a b:Int):Bool:=decide (a=b)
def Cz(x y:Nd):Bool:=decide (x.kind=y.kind)&&((x.text==y.text)&&((x.blank==y.blank)&&eqF iEq x.kids y.kids))
theorem Py{a:List Nd}{i:Int}(h0:0≤i)(h:i<a.length):a[i.toNat]? =some (Ai a i):=by
 have hlt:i.toNat<a.length:=by omega
 rw[Br (List.getElem?_eq_getElem hlt)];exact List.getElem?_eq_getElem hlt
theorem a8Y{a:List Nd}{b:List Int}{i j:Int}(h1:Bh a)(h:eqW iEq (Ai a i).kids b j):((0≤j∧j≤(Ai a i).kids.length)∧(Ai a i).kids.length=b.length)∧(Ai a i).kids.length<2^62:=⟨h.1,(a1Y h1).2⟩
theorem SY{a b:List Nd}{i:Int}(h:eqW Cz a b i)(hi:i<a.length)(hp:Cz (Ai a i) (Ai b i)=false):false=eqF Cz a b:=Pw h (Py h.1.1.1 hi) (Py h.1.1.1 (by have:=h.1.2;omega)) hp
theorem a8Z{a b:List Nd}{i:Int}(h:eqW Cz a b i)(hi:i<a.length)(h1:(Ai a i).kind=(Ai b i).kind)(h2:((Ai a i).text==(Ai b i).text)=true)(h3:((Ai a i).blank==(Ai b i).blank)=true)(h4:eqF iEq (Ai a i).kids (Ai b i).kids=true):eqW Cz a b (i+1):=
 Pv h (Py h.1.1.1 hi) (Py h.1.1.1 (by have:=h.1.2;omega)) (by simp [Cz,h1,h2,h3,h4])
theorem Yu{x y:Nd}(h:(x.kids.length:Int)≠y.kids.length∨eqF iEq x.kids y.kids=false):Cz x y=false:=by
 have:eqF iEq x.kids y.kids=false:=by
  rcases h with h|h
  ·exact SW (by omega)
  ·exact h
 simp [Cz,this]
theorem Yv{a b:Int}(h:a=b):iEq a b=true:=by simp [iEq,h]
theorem Yw{a b:Int}(h:a≠b):iEq a b=false:=by simp [iEq,h]
def Pz(x:List Nd×List Nd)(i:Int):LS:= {
 ι:=Int,inv:=fun j=>eqW iEq (Ai x.1 i).kids (Ai x.2 i).kids j,regs:=fun j=>[(0,nds x.1),(1,nds x.2),(5,.int .i64 i),(6,.int .i64 j)],als:=[],meas:=fun j=>(Ai x.1 i).kids.length-j.toNat}
def PA(x:List Nd×List Nd):LS:= {
 ι:=Int,inv:=fun i=>eqW Cz x.1 x.2 i,regs:=fun i=>[(0,nds x.1),(1,nds x.2),(5,.int .i64 i)],als:=[],meas:=fun i=>x.1.length-i.toNat,
 sub:=fun i=>[(9,Pz x i)]}
attribute [local irreducible] eqW
def IM:Sig:= {X:=List Int×List Int,args:=fun x=>[.sl false 0 1 Int Bi x.1,.sl false 0 1 Int Bi x.2],pre:=fun x=>x.1.length<2^62∧x.2.length<2^62,Y:=Unit,post:=fun x y=>True,res:=fun x y=> .bool (eqF iEq x.1 x.2),outs:=fun x y=>[.top,.top],keep:=false}
def PB(x:List Int×List Int):LS:= {ι:=Int,inv:=fun i=>eqW iEq x.1 x.2 i,regs:=fun i=>[(0,.sl false 0 1 Int Bi x.1),(1,.sl false 0 1 Int Bi x.2),(11,.sl false 0 1 Int Bi x.1),(12,.int .i64 x.1.length),(13,.int .i64 i)],als:=[],meas:=fun i=>x.1.length-i.toNat}
theorem a9a:Am G Tryz.prog 72 IM:=
 vcFun_okP [] [] false (fun x=>[(4,PB x)]) Tryz.func72 rfl (by decide) trivial (fun(x:List Int×List Int)=>(∀(y:Unit),True→True∧True∧True∧True)∧Aa ((↑(List.length x.1):Int) != (↑(List.length x.2):Int)) (rA IM x [.bool false,.top,.top]) (eA (PB x) [AW x.1,AW x.2,AW x.1,.int .i64 (↑(List.length x.1):Int),.int .i64 (0:Int)]∧∀(i:Int),eqW iEq x.1 x.2 i→Aa (decide (i<(↑(List.length x.1):Int))) (true=true∧true=true∧((0:Int)≤i∧i<(↑(List.length x.1):Int))∧∀(e:Int),x.1[Int.toNat i]? =some e→((0:Int)≤i∧i<(↑(List.length x.2):Int))∧∀(e_1:Int),x.2[Int.toNat i]? =some e_1→Aa (e != e_1) (rA IM x [.bool false,.top,.top]) (inR IntKind.i64 (i+(1:Int))∧eN (PB x) i [AW x.1,AW x.2,AW x.1,.int .i64 (↑(List.length x.1):Int),.int .i64 (i+(1:Int))])) (rA IM x [.bool true,.top,.top]))) (fun x=>by kernel_rfl) fun(x:List Int×List Int) (hx:x.1.length<2^62∧x.2.length<2^62)=>(by
 dsimp only[eA,eN,PB,AW,rA,IM,Az,AC,Bt]
 obtain⟨h1,h2⟩:=hx
 (repeat' first|(with_reducible first|rfl|exact True.intro|apply AN|apply And.intro|((first|apply AD|apply AL|apply AE|apply AM)<;>intro _))|(apply AA<;>intro _)|apply AK|refine Ae () ?_ ?_|((first|apply AR|apply AQ|apply AP|apply AO|apply AJ|apply AI|apply AH|apply AG|apply AF)<;>try dsimp only)|apply Ae|(refine Prod.forall.2 ?_;intro _;try dsimp only)|(intro _;try dsimp only))
 all_goals first
  |rfl
  |exact Lx ‹_›
  |exact Lx (by omega)
  |exact Pv ‹_› ‹_› ‹_› (Yv ‹_›)
  |exact Pw ‹_› ‹_› ‹_› (Yw ‹_›)
  |exact Px ‹_› ‹_›
  |exact SX ‹_›
  |omega
  |(have hq:=Pu (show eqW _ _ _ _ by assumption);(try simp only[AU]);omega)
  |skip)
def HQ:Sig:= {X:=Nd×Nd,args:=fun x=>[.agg (ndA false x.1),.agg (ndA false x.2)],pre:=fun x=>FB x.1∧FB x.2,Y:=Unit,post:=fun x y=>True,res:=fun x y=> .bool (Cz x.1 x.2),outs:=fun x y=>[.top,.top],keep:=false}
theorem a9b:Am G Tryz.prog 71 HQ:=
 vcFun_okP [(72,0,IM)] [] false (fun x=>[]) Tryz.func71 rfl (by decide) ⟨a9a,trivial⟩ (fun(x:Nd×Nd)=>(∀(y:Unit),True→True∧True∧True∧True)∧Aa (x.1.kind==x.2.kind) (Aa (x.1.text==x.2.text) (Aa (x.1.blank==x.2.blank) (cA IM [AW x.1.kids,AW x.2.kids] fun x_1 y=>rA HQ x [.bool (eqF iEq x_1.1 x_1.2),.top,.top]) (rA HQ x [.bool false,.top,.top])) (rA HQ x [.bool false,.top,.top])) (rA HQ x [.bool false,.top,.top])) (fun x=>by kernel_rfl) fun(x:Nd×Nd) (hx:FB x.1∧FB x.2)=>(by
 dsimp only[cA,AW,Bx,rA,IM,HQ,Az,AC,mvL,lnL,mvE,lnE]
 obtain⟨h1,h2⟩:=hx
 (repeat' first|(with_reducible first|rfl|exact True.intro|apply AN|apply And.intro|((first|apply AD|apply AL|apply AE|apply AM)<;>intro _))|(apply AA<;>intro _)|apply AK|refine Ae () ?_ ?_|((first|apply AR|apply AQ|apply AP|apply AO|apply AJ|apply AI|apply AH|apply AG|apply AF)<;>try dsimp only)|apply Ae|(refine Prod.forall.2 ?_;intro _;try dsimp only)|(intro _;try dsimp only))
 all_goals first
  |rfl
  |exact h1.2
  |exact h2.2
  |(simp [Cz, *];done)
  |skip)
def IP:Sig:= {X:=List Nd×List Nd,args:=fun x=>[nds x.1,nds x.2,.clo (.func 71) []],pre:=fun x=>Bh x.1∧Bh x.2,Y:=Unit,post:=fun x y=>True,res:=fun x y=> .bool (eqF Cz x.1 x.2),outs:=fun x y=>[.top,.top,.top],keep:=false}
def PC(x:List Nd×List Nd):LS:= {ι:=Int,inv:=fun i=>eqW Cz x.1 x.2 i,regs:=fun i=>[(0,nds x.1),(1,nds x.2),(2,.clo (.func 71) []),(15,nds x.1),(16,.int .i64 x.1.length),(17,.int .i64 i)],als:=[],meas:=fun i=>x.1.length-i.toNat}
set_option maxRecDepth 100000 in
theorem a9c:Am G Tryz.prog 70 IP:=
 vcFun_okP [(71,0,HQ)] [] false (fun x=>[(4,PC x)]) Tryz.func70 rfl (by decide) ⟨a9b,trivial⟩ (fun(x:List Nd×List Nd)=>(∀(y:Unit),True→True∧True∧True∧True∧True)∧Aa ((↑(List.length x.1):Int) != (↑(List.length x.2):Int)) (rA IP x [.bool false,.top,.top,.top]) (eA (PC x) [nds x.1,nds x.2,AV.clo (.func 71) [],nds x.1,.int .i64 (↑(List.length x.1):Int),.int .i64 (0:Int)]∧∀(i:Int),eqW Cz x.1 x.2 i→Aa (decide (i<(↑(List.length x.1):Int))) (((0:Int)≤i∧i<(↑(List.length x.1):Int))∧∀(e:Nd),x.1[Int.toNat i]? =some e→((0:Int)≤i∧i<(↑(List.length x.2):Int))∧∀(e_1:Nd),x.2[Int.toNat i]? =some e_1→cA HQ [.agg [.int .i64 e.kind,.str e.text,AW e.kids,.bool e.blank],.agg [.int .i64 e_1.kind,.str e_1.text,AW e_1.kids,.bool e_1.blank]] fun x_1 y=>Aa (!Cz x_1.1 x_1.2) (rA IP x [.bool false,.top,.top,.top]) (inR IntKind.i64 (i+(1:Int))∧eN (PC x) i [nds x.1,nds x.2,AV.clo (.func 71) [],nds x.1,.int .i64 (↑(List.length x.1):Int),.int .i64 (i+(1:Int))])) (rA IP x [.bool true,.top,.top,.top]))) (fun x=>by kernel_rfl) fun(x:List Nd×List Nd) (hx:Bh x.1∧Bh x.2)=>(by
 dsimp only[cA,eA,eN,PC,AW,Bx,nds,rA,IP,HQ,Az,AC,mvL,lnL,mvE,lnE,Bt]
 obtain⟨h1,h2⟩:=hx
 have hl1:=h1.1;have hl2:=h2.1
 (repeat' first|(with_reducible first|rfl|exact True.intro|apply AN|apply And.intro|((first|apply AD|apply AL|apply AE|apply AM)<;>intro _))|(apply AA<;>intro _)|apply AK|refine Ae () ?_ ?_|((first|apply AR|apply AQ|apply AP|apply AO|apply AJ|apply AI|apply AH|apply AG|apply AF)<;>try dsimp only)|apply Ae|(refine Prod.forall.2 ?_;intro _;try dsimp only)|(intro _;try dsimp only))
 all_goals first
  |rfl
  |(show _≤_;have hq:=Pu (show eqW _ _ _ _ by assumption);(try simp only[AU]);omega)
  |(show FB _;exact NU ‹_› h1)
  |(show FB _;exact NU ‹_› h2)
  |exact Lx ‹_›
  |exact Lx (by omega)
  |exact Pv ‹_› ‹_› ‹_› ‹_›
  |exact Pw ‹_› ‹_› ‹_› ‹_›
  |exact Px ‹_› ‹_›
  |exact SX ‹_›
  |omega
  |(have hq:=Pu (show eqW _ _ _ _ by assumption);(try simp only[AU]);omega)
  |skip)
def JX:Sig:= {X:=List Nd×List Nd,args:=fun x=>[nds x.1,nds x.2],pre:=fun x=>Bh x.1∧Bh x.2,Y:=Unit,post:=fun x y=>True,res:=fun x y=> .bool (eqF Cz x.1 x.2),outs:=fun x y=>[.top,.top],keep:=false}
theorem a9d:Am G Tryz.prog 18 JX:=
 vcFun_okP [(70,71+1,IP)] [] false (fun x=>[]) Tryz.func18 rfl (by decide) ⟨a9c,trivial⟩ (fun(x:List Nd×List Nd)=>(∀(y:Unit),True→True∧True∧True∧True)∧cA IP [nds x.1,nds x.2,AV.clo (Fn.func (48:Nat)) []] fun x_1 y=>rA JX x [.bool (eqF Cz x_1.1 x_1.2),.top,.top]) (fun x=>by kernel_rfl) fun(x:List Nd×List Nd) (hx:Bh x.1∧Bh x.2)=>(by
 dsimp only[cA,Bx,nds,rA,IP,JX,Az,AC,mvL,lnL,mvE,lnE]
 obtain⟨h1,h2⟩:=hx
 (repeat' first|(with_reducible first|rfl|exact True.intro|apply AN|apply And.intro|((first|apply AD|apply AL|apply AE|apply AM)<;>intro _))|(apply AA<;>intro _)|apply AK|refine Ae () ?_ ?_|((first|apply AR|apply AQ|apply AP|apply AO|apply AJ|apply AI|apply AH|apply AG|apply AF)<;>try dsimp only)|apply Ae|(refine Prod.forall.2 ?_;intro _;try dsimp only)|(intro _;try dsimp only))
 all_goals first
  |rfl
  |exact h1
  |exact h2
  |skip)
def Gr:Sig:= {X:=List Nd×List Nd,args:=fun x=>[nds x.1,nds x.2],pre:=fun x=>Bh x.1∧Bh x.2,Y:=Unit,post:=fun x y=>True,res:=fun x y=> .bool (eqF Cz x.1 x.2),outs:=fun x y=>[.top,.top],keep:=false}
theorem a9e:Am G Tryz.prog 19 Gr:=
 vcFun_okP [] [(26,⟨Int,Bi⟩)] false (fun x=>[(4,PA x)]) Tryz.func19 rfl (by decide) trivial (fun(x:List Nd×List Nd)=>(∀(y:Unit),True→True∧True∧True∧True)∧Aa ((↑(List.length x.1):Int) != (↑(List.length x.2):Int)) (rA Gr x [.bool false,.top,.top]) (eA (PA x) [nds x.1,nds x.2,.int .i64 (0:Int)]∧∀(i:Int),eqW Cz x.1 x.2 i→Aa (decide (i<(↑(List.length x.1):Int))) (true=true∧true=true∧((0:Int)≤i∧i<(↑(List.length x.1):Int))∧∀(e:Nd),x.1[Int.toNat i]? =some e→((0:Int)≤i∧i<(↑(List.length x.2):Int))∧∀(e_1:Nd),x.2[Int.toNat i]? =some e_1→Aa (e.kind != e_1.kind) (rA Gr x [.bool false,.top,.top]) (((0:Int)≤i∧i<(↑(List.length x.1):Int))∧∀(e:Nd),x.1[Int.toNat i]? =some e→((0:Int)≤i∧i<(↑(List.length x.2):Int))∧∀(e_2:Nd),x.2[Int.toNat i]? =some e_2→Aa (!e.text==e_2.text) (rA Gr x [.bool false,.top,.top]) (((0:Int)≤i∧i<(↑(List.length x.1):Int))∧∀(e:Nd),x.1[Int.toNat i]? =some e→((0:Int)≤i∧i<(↑(List.length x.2):Int))∧∀(e_3:Nd),x.2[Int.toNat i]? =some e_3→Aa (!e.blank==e_3.blank) (rA Gr x [.bool false,.top,.top]) (((0:Int)≤i∧i<(↑(List.length x.1):Int))∧∀(e:Nd),x.1[Int.toNat i]? =some e→((0:Int)≤i∧i<(↑(List.length x.2):Int))∧∀(e_4:Nd),x.2[Int.toNat i]? =some e_4→Aa ((↑(List.length e.kids):Int) != (↑(List.length e_4.kids):Int)) (rA Gr x [.bool false,.top,.top]) (eA (Pz x i) [nds x.1,nds x.2,.int .i64 i,.int .i64 (0:Int)]∧∀(i_1:Int),eqW iEq (Ai x.1 i).kids (Ai x.2 i).kids i_1→((0:Int)≤i∧i<(↑(List.length x.1):Int))∧∀(e:Nd),x.1[Int.toNat i]? =some e→Aa (decide (i_1<(↑(List.length e.kids):Int))) (true=true∧true=true∧((0:Int)≤i∧i<(↑(List.length x.1):Int))∧∀(e:Nd),x.1[Int.toNat i]? =some e→((0:Int)≤i_1∧i_1<(↑(List.length e.kids):Int))∧∀(e_5:Int),e.kids[Int.toNat i_1]? =some e_5→((0:Int)≤i∧i<(↑(List.length x.2):Int))∧∀(e:Nd),x.2[Int.toNat i]? =some e→((0:Int)≤i_1∧i_1<(↑(List.length e.kids):Int))∧∀(e_6:Int),e.kids[Int.toNat i_1]? =some e_6→Aa (e_5 != e_6) (rA Gr x [.bool false,.top,.top]) (inR IntKind.i64 (i_1+(1:Int))∧eN (Pz x i) i_1 [nds x.1,nds x.2,.int .i64 i,.int .i64 (i_1+(1:Int))])) (inR IntKind.i64 (i+(1:Int))∧eN (PA x) i [nds x.1,nds x.2,.int .i64 (i+(1:Int))])))))) (rA Gr x [.bool true,.top,.top]))) (fun x=>by kernel_rfl) fun(x:List Nd×List Nd) (hx:Bh x.1∧Bh x.2)=>(by
 dsimp only[eA,eN,PA,Pz,Bx,nds,rA,Gr,Az,AC,Bt]
 obtain⟨h1,h2⟩:=hx
 have hl1:=h1.1;have hl2:=h2.1
 (repeat' first|(with_reducible first|rfl|exact True.intro|apply AN|apply And.intro|((first|apply AD|apply AL|apply AE|apply AM)<;>intro _))|(apply AA<;>intro _)|apply AK|refine Ae () ?_ ?_|((first|apply AR|apply AQ|apply AP|apply AO|apply AJ|apply AI|apply AH|apply AG|apply AF)<;>try dsimp only)|apply Ae|(refine Prod.forall.2 ?_;intro _;try dsimp only)|(intro _;try dsimp only))
 all_goals(repeat(rename x.1[_]? =some _=>hq;have hq2:=Br hq;clear hq;subst hq2))
 all_goals(repeat(rename x.2[_]? =some _=>hq;have hq2:=Br hq;clear hq;subst hq2))
 all_goals first
  |rfl
  |exact SX ‹_›
  |(show eqW Cz _ _ _;exact Lx ‹_›)
  |(show eqW iEq _ _ _;exact Lx (by omega))
  |(show false=_;exact SY ‹_› ‹_› (Yu (.inl ‹_›)))
  |(show false=_;exact SY ‹_› ‹_› (Yu (.inr (Pw ‹_› ‹_› ‹_› (Yw ‹_›)).symm)))
  |(show false=_;refine SY ‹_› ‹_› ?_;simp [Cz, *];done)
  |(show eqW iEq _ _ _;exact Pv ‹_› ‹_› ‹_› (Yv ‹_›))
  |(show eqW Cz _ _ _;exact a8Z ‹_› ‹_› ‹_› ‹_› ‹_› (Px ‹_› ‹_›).symm)
  |exact Px ‹_› ‹_›
  |omega
  |(have hq:=Pu (show eqW Cz _ _ _ by assumption);(try simp only[AU]);omega)
  |(have hq:=a8Y h1 (show eqW iEq _ _ _ by assumption);(try simp only[AU]);omega)
  |skip)
end Go.My
end
section
set_option linter.unusedVariables false
set_option linter.unusedSimpArgs false
namespace Go.My
open Go.Eng Go.Proofs
variable {G:GInv}
def Ly:Sig:= {X:=List UInt8,args:=fun x=>[.sl false 0 1 UInt8 byA x],pre:=fun x=>x.length≤2^21,Y:=List Nd,post:=fun x y=>spB y,res:=fun x y=>AX y,outs:=fun x y=>[.top],keep:=true}
theorem a9f:Am G Tryz.prog 11 Ly:=
 vcFun_okP [(49,0,FQ),(54,0,Pt)] [] false (fun x=>[]) Tryz.func11 rfl (by decide) ⟨Pp,SV,trivial⟩ (fun(x:List UInt8)=>True∧cA FQ [AV.sl false (0:Nat) (1:Nat) UInt8 byA x] fun x_1 y=>∃(x_2:Value×List UInt8×Int×Int),Ad x_2.2.1 x_2.2.2.1∧(y.2=y.2∧y.2=x_2.1)∧AV.sl false (0:Nat) (1:Nat) UInt8 byA x_1=AV.sl false (0:Nat) (1:Nat) UInt8 byA x_2.2.1∧(0:Int)=x_2.2.2.1∧y.1=x_2.2.2.2∧∀(y_1:List Nd×Int×Int),spB y_1.1∧Ad x_2.2.1 y_1.2.1→y.2=y.2∧rA Ly x [AX y_1.1,.top]) (fun x=>by kernel_rfl) fun(x:List UInt8) (hx:x.length≤2^21)=>(by
 dsimp only[CT,cA,cur,Bx,AX,rA,Ly,FQ,Az,AC,mvL,lnL,mvE,lnE]
 have hx:x.length≤2^21:=hx
 (repeat' first|(with_reducible first|rfl|exact True.intro|apply AN|apply And.intro|((first|apply AD|apply AL|apply AE|apply AM)<;>intro _))|(apply AA<;>intro _)|apply AK|refine Ae () ?_ ?_|((first|apply AR|apply AQ|apply AP|apply AO|apply AJ|apply AI|apply AH|apply AG|apply AF)<;>try dsimp only)|apply Ae|(refine Prod.forall.2 ?_;intro _;try dsimp only)|(intro _;try dsimp only))
 all_goals first
  |rfl
  |exact hx
  |exact MV hx
  |exact And.left (show spB _∧Ad _ _ by assumption)
  |skip)
theorem a9g{a n:Int}(h0:0≤a)(hn:0<n): -9223372036854775808≤a.tmod n-1:=by have:=Hc h0 hn;omega
theorem a9h{a n:Int}(h0:0≤a)(hn:0<n)(hl:n≤1000):a.tmod n-1≤9223372036854775807:=by have:=Hc h0 hn;omega
def JY:Sig:= {X:=List UInt8,args:=fun x=>[.sl false 0 1 UInt8 byA x],pre:=fun x=>x.length≤2^21,Y:=List Nd×Int,post:=fun x y=>spB y.1,res:=fun x y=> .tup [AX y.1,.int .i64 y.2],outs:=fun x y=>[.top],keep:=true}
theorem a9i:Am G Tryz.prog 53 JY:=
 vcFun_okP [(49,0,FQ),(51,0,Da),(54,0,Pt),(55,0,Hv)] [] false (fun x=>[]) Tryz.func53 rfl (by decide) ⟨Pp,Gb,SV,KM,trivial⟩ (fun(x:List UInt8)=>True∧cA FQ [AV.sl false (0:Nat) (1:Nat) UInt8 byA x] fun x_1 y=>∃(x_2:List UInt8×Int×Int×Int),Ad x_2.1 x_2.2.1∧y.2=y.2∧AV.sl false (0:Nat) (1:Nat) UInt8 byA x_1=AV.sl false (0:Nat) (1:Nat) UInt8 byA x_2.1∧(0:Int)=x_2.2.1∧y.1=x_2.2.2.1∧(250:Int)=x_2.2.2.2∧∀(y_1:Int×Int×Int),(((0:Int)<x_2.2.2.2→(0:Int)≤y_1.1∧y_1.1<x_2.2.2.2)∧(x_2.2.2.2≤(0:Int)→y_1.1=(0:Int)))∧Ad x_2.1 y_1.2.1→y.2=y.2∧∃(x_3:Value×List UInt8×Int×Int),Ad x_3.2.1 x_3.2.2.1∧(y.2=y.2∧y.2=x_3.1)∧AV.sl false (0:Nat) (1:Nat) UInt8 byA x_2.1=AV.sl false (0:Nat) (1:Nat) UInt8 byA x_3.2.1∧y_1.2.1=x_3.2.2.1∧y_1.2.2=x_3.2.2.2∧∀(y_2:List Nd×Int×Int),spB y_2.1∧Ad x_3.2.1 y_2.2.1→y.2=y.2∧∃(x_4:List UInt8×Int×Int×Int),Ad x_4.1 x_4.2.1∧y.2=y.2∧AV.sl false (0:Nat) (1:Nat) UInt8 byA x_3.2.1=AV.sl false (0:Nat) (1:Nat) UInt8 byA x_4.1∧y_2.2.1=x_4.2.1∧y_2.2.2=x_4.2.2.1∧(3:Int)=x_4.2.2.2∧∀(y_3:Bool×Int×Int),Ad x_4.1 y_3.2.1→y.2=y.2∧Aa y_3.1 (inR IntKind.i64 ((↑(List.length y_2.1):Int)-(1:Int))∧true=true∧true=true∧inR IntKind.i64 ((↑(List.length y_2.1):Int)+(2:Int))∧(↑(List.length y_2.1):Int)+(2:Int)≠(0:Int)∧inR IntKind.i64 (Int.tmod ((↑(List.length y_2.1):Int)-(1:Int)) ((↑(List.length y_2.1):Int)+(2:Int))-(1:Int))∧rA JY x [.tup [AX y_2.1,.int .i64 (Int.tmod ((↑(List.length y_2.1):Int)-(1:Int)) ((↑(List.length y_2.1):Int)+(2:Int))-(1:Int))],.top]) (true=true∧true=true∧inR IntKind.i64 ((↑(List.length y_2.1):Int)+(2:Int))∧(↑(List.length y_2.1):Int)+(2:Int)≠(0:Int)∧inR IntKind.i64 (Int.tmod y_1.1 ((↑(List.length y_2.1):Int)+(2:Int))-(1:Int))∧rA JY x [.tup [AX y_2.1,.int .i64 (Int.tmod y_1.1 ((↑(List.length y_2.1):Int)+(2:Int))-(1:Int))],.top])) (fun x=>by kernel_rfl) fun(x:List UInt8) (hx:x.length≤2^21)=>(by
 dsimp only[CT,cA,cur,Bx,AX,rA,JY,FQ,Az,AC,mvL,lnL,mvE,lnE]
 have hx:x.length≤2^21:=hx
 (repeat' first|(with_reducible first|rfl|exact True.intro|apply AN|apply And.intro|((first|apply AD|apply AL|apply AE|apply AM)<;>intro _))|(apply AA<;>intro _)|apply AK|refine Ae () ?_ ?_|((first|apply AR|apply AQ|apply AP|apply AO|apply AJ|apply AI|apply AH|apply AG|apply AF)<;>try dsimp only)|apply Ae|(refine Prod.forall.2 ?_;intro _;try dsimp only)|(intro _;try dsimp only))
 all_goals(try(have hS:=And.left (show spB _∧Ad _ _ by assumption);have hL:=hS.1))
 all_goals first
  |rfl
  |exact hx
  |exact MV hx
  |exact And.left (show spB _∧Ad _ _ by assumption)
  |exact And.right (show _∧Ad _ _ by assumption)
  |((try simp only[AU]);omega)
  |exact a9g (by omega) (by omega)
  |exact a9h (by omega) (by omega) (by omega)
  |skip)
def Lz:Sig:= {X:=List UInt8,args:=fun x=>[.sl false 0 1 UInt8 byA x],pre:=fun x=>x.length≤2^21,Y:=List Nd×Int,post:=fun x y=>spB y.1,res:=fun x y=> .tup [AX y.1,.int .i64 y.2],outs:=fun x y=>[.top],keep:=true}
theorem a9j:Am G Tryz.prog 10 Lz:=
 vcFun_okP [(53,0,JY)] [] false (fun x=>[]) Tryz.func10 rfl (by decide) ⟨a9i,trivial⟩ (fun(x:List UInt8)=>True∧cA JY [AV.sl false (0:Nat) (1:Nat) UInt8 byA x] fun x_1 y=>rA Lz x [.tup [AX y.1,.int .i64 y.2],.top]) (fun x=>by kernel_rfl) fun(x:List UInt8) (hx:x.length≤2^21)=>(by
 dsimp only[CT,cA,Bx,AX,rA,JY,Lz,Az,AC,mvL,lnL,mvE,lnE]
 have hx:x.length≤2^21:=hx
 (repeat' first|(with_reducible first|rfl|exact True.intro|apply AN|apply And.intro|((first|apply AD|apply AL|apply AE|apply AM)<;>intro _))|(apply AA<;>intro _)|apply AK|refine Ae () ?_ ?_|((first|apply AR|apply AQ|apply AP|apply AO|apply AJ|apply AI|apply AH|apply AG|apply AF)<;>try dsimp only)|apply Ae|(refine Prod.forall.2 ?_;intro _;try dsimp only)|(intro _;try dsimp only))
 all_goals first
  |rfl
  |exact hx
  |assumption
  |skip)
def JZ:Sig:= {X:=List UInt8,args:=fun x=>[.sl false 0 1 UInt8 byA x],pre:=fun x=>x.length≤2^21,Y:=List Nd×List Nd,post:=fun x y=>spB y.1∧spB y.2,res:=fun x y=> .tup [AX y.1,AX y.2],outs:=fun x y=>[.top],keep:=true}
theorem a9k:Am G Tryz.prog 12 JZ:=
 vcFun_okP [(49,0,FQ),(54,0,Pt),(55,0,Hv),(56,0,HP)] [] false (fun x=>[]) Tryz.func12 rfl (by decide) ⟨Pp,SV,KM,Ys,trivial⟩ (fun(x:List UInt8)=>True∧cA FQ [AV.sl false (0:Nat) (1:Nat) UInt8 byA x] fun x_1 y=>∃(x_2:Value×List UInt8×Int×Int),Ad x_2.2.1 x_2.2.2.1∧(y.2=y.2∧y.2=x_2.1)∧AV.sl false (0:Nat) (1:Nat) UInt8 byA x_1=AV.sl false (0:Nat) (1:Nat) UInt8 byA x_2.2.1∧(0:Int)=x_2.2.2.1∧y.1=x_2.2.2.2∧∀(y_1:List Nd×Int×Int),spB y_1.1∧Ad x_2.2.1 y_1.2.1→y.2=y.2∧∃(x_3:List UInt8×Int×Int×Int),Ad x_3.1 x_3.2.1∧y.2=y.2∧AV.sl false (0:Nat) (1:Nat) UInt8 byA x_2.2.1=AV.sl false (0:Nat) (1:Nat) UInt8 byA x_3.1∧y_1.2.1=x_3.2.1∧y_1.2.2=x_3.2.2.1∧(2:Int)=x_3.2.2.2∧∀(y_2:Bool×Int×Int),Ad x_3.1 y_2.2.1→y.2=y.2∧Aa y_2.1 (cA HP [AX y_1.1] fun x_4 y=>rA JZ x [.tup [AX y_1.1,AX x_4.1],.top]) (∃(x_4:Value×List UInt8×Int×Int),Ad x_4.2.1 x_4.2.2.1∧(y.2=y.2∧y.2=x_4.1)∧AV.sl false (0:Nat) (1:Nat) UInt8 byA x_3.1=AV.sl false (0:Nat) (1:Nat) UInt8 byA x_4.2.1∧y_2.2.1=x_4.2.2.1∧y_2.2.2=x_4.2.2.2∧∀(y_3:List Nd×Int×Int),spB y_3.1∧Ad x_4.2.1 y_3.2.1→y.2=y.2∧rA JZ x [.tup [AX y_1.1,AX y_3.1],.top])) (fun x=>by kernel_rfl) fun(x:List UInt8) (hx:x.length≤2^21)=>(by
 dsimp only[CT,cA,cur,Bx,nds,AX,rA,HP,FQ,JZ,Az,AC,mvL,lnL,mvE,lnE]
 have hx:x.length≤2^21:=hx
 (repeat' first|(with_reducible first|rfl|exact True.intro|apply AN|apply And.intro|((first|apply AD|apply AL|apply AE|apply AM)<;>intro _))|(apply AA<;>intro _)|apply AK|refine Ae () ?_ ?_|((first|apply AR|apply AQ|apply AP|apply AO|apply AJ|apply AI|apply AH|apply AG|apply AF)<;>try dsimp only)|apply Ae|(refine Prod.forall.2 ?_;intro _;try dsimp only)|(intro _;try dsimp only))
 all_goals(try(have hS:=And.left (show spB _∧Ad _ _ by assumption);have hL:=hS.1))
 all_goals first
  |rfl
  |exact hx
  |exact MV hx
  |exact()
  |exact And.left (show spB _∧Ad _ _ by assumption)
  |exact And.right (show _∧Ad _ _ by assumption)
  |exact hS.2.1
  |(intro e he;have hq:=hS.2.2 e he;omega)
  |(exact Nat.le_trans (hS.2.2 _ ‹_›) (by decide))
  |omega
  |skip)
def LA:Sig:= {X:=List UInt8,args:=fun x=>[.sl false 0 1 UInt8 byA x],pre:=fun x=>True,Y:=Unit,post:=fun x y=>True,res:=fun x y=> .bool (decide ((x.length:Int)>1048576)),outs:=fun x y=>[.top],keep:=false}
theorem a9l:Am G Tryz.prog 6 LA:=
 vcFun_okP [] [] false (fun x=>[]) Tryz.func6 rfl (by decide) trivial (fun(x:List UInt8)=>(∀(y:Unit),True→True∧True∧True)∧rA LA x [.bool (decide ((↑(List.length x):Int)>(1048576:Int))),.top]) (fun x=>by kernel_rfl) fun(x:List UInt8) (hx:True)=>(by
 dsimp only[CT,rA,LA,Az,AC]
 (repeat' first|(with_reducible first|rfl|exact True.intro|apply AN|apply And.intro|((first|apply AD|apply AL|apply AE|apply AM)<;>intro _))|(apply AA<;>intro _)|apply AK|refine Ae () ?_ ?_|((first|apply AR|apply AQ|apply AP|apply AO|apply AJ|apply AI|apply AH|apply AG|apply AF)<;>try dsimp only)|apply Ae|(refine Prod.forall.2 ?_;intro _;try dsimp only)|(intro _;try dsimp only))<;>(try dsimp only at*)<;>(try simp only[AU,List.length_cons,List.length_nil])<;>(try omega))
end Go.My
end
section
set_option linter.unusedVariables false
set_option linter.unusedSimpArgs false
namespace Go.My
open Go.Eng Go.Proofs
variable {G:GInv}
theorem Yx{ns:List Nd}{n:Nat}{ds:List Int}(h:Cx ns (n+1)=some ds):∃es,Cx ns n=some es∧ds=es++[mx es (Ai ns n).kids 0+1]:=by
 rw[Cx] at h
 split at h
 ·cases h
 ·rename_i es he
  split at h
  ·split at h
   ·cases h
   ·exact⟨es,he,(Option.some.inj h).symm⟩
  ·cases h
theorem SZ{ns:List Nd}:∀ {m n:Nat} {ds:List Int},n≤m→Cx ns m=some ds→∃es,Cx ns n=some es∧∀i,i<n→ds[i]? =es[i]?
 |0,n,ds,hn,h=>by obtain rfl:n=0:=by omega
                  exact⟨ds,h,fun i hi=>by omega⟩
 |m+1,n,ds,hn,h=>by
  by_cases e:n=m+1
  ·subst e;exact⟨ds,h,fun _ _=>rfl⟩
  ·obtain⟨fs,h1,rfl⟩:=Yx h
   obtain⟨es,h2,h3⟩:=SZ (n:=n) (by omega) h1
   refine⟨es,h2,fun i hi=> ?_⟩
   rw[List.getElem?_append_left (by rw[Il h1];omega)]
   exact h3 i hi
theorem Yy{ds:List Int}:∀ {l:List Int} {d c:Int},c∈l→ds.getD c.toNat 0≤mx ds l d
 |[],_,_,h=>by cases h
 |a::l,d,c,h=>by
  rw[mx]
  rcases List.mem_cons.1 h with rfl|h
  ·have:=NI ds l (max d (ds.getD c.toNat 0));omega
  ·exact Yy h
theorem a9m{ns:List Nd}{k c:Int}(h:BI ns k≠0)(hc:c∈(Ai ns k).kids):BI ns c<BI ns k:=by
 obtain⟨h1,⟨ds,h2⟩,h3⟩:=Mo h
 have hk:=Dh.1 h1
 have hok:BG ns k=true:=by have:=h3 k.toNat (by omega);rwa [show((k.toNat:Nat):Int)=k by omega] at this
 have hcb:=(Im hok).2.2.2.1 c hc
 obtain⟨es,h4,h5⟩:=Yx h2
 obtain⟨fs,h6,h7⟩:=SZ (n:=c.toNat+1) (by omega) h4
 have e1:BI ns k=mx es (Ai ns k).kids 0+1:=by
  unfold BI
  rw[if_pos h1,h2,h5]
  have hl:=Il h4
  simp only[List.getD]
  rw[List.getElem?_append_right (by omega)]
  simp [hl,show((k.toNat:Nat):Int)=k by omega]
 have e2:BI ns c=es.getD c.toNat 0:=by
  unfold BI
  rw[if_pos (Dh.2 ⟨hcb.1,by omega⟩),h6]
  simp only[List.getD]
  rw[h7 c.toNat (by omega)]
 rw[e1,e2]
 have:= @Yy es (Ai ns k).kids 0 c hc
 omega
end Go.My
end
section
set_option linter.unusedVariables false
set_option linter.unusedSimpArgs false
namespace Go.My
open Go.Eng Go.Proofs
variable {G:GInv}
def trI(L:List Nd)(k i:Int):Prop:=((BD L=true∧Bh L)∧L.length≤300)∧(0≤k∧k<L.length)∧0≤i
theorem a9n{L:List Nd}{k i:Int}(h:trI L k i):((1≤L.length∧L.length≤300)∧(0≤k∧k<L.length)∧0≤i)∧Bh L:=by
 have:=Mz h.1.1.1
 exact⟨⟨⟨this.2.1,h.1.2⟩,h.2.1,h.2.2⟩,h.1.1.2⟩
theorem Yz{L:List Nd}{k i:Int}(h:trI L k i):Om L k:=by
 obtain⟨t1,_⟩:=Mz h.1.1.1
 exact⟨Dh.2 h.2.1,fun j hj=>t1.1 j (by have:=h.2.1;omega)⟩
theorem a9o{L:List Nd}{o:List Int}{v:Int}(h:BD L=true∧Bh L)(ho:o.length=12∧∀e∈o,0≤e∧e<10000)(hv:o[0]? =some v):trI L (v.tmod L.length) 0:=by
 have t:=Mz h.1
 exact⟨⟨h,t.2.2.1⟩,Hc (ho.2 _ (List.mem_of_getElem? hv)).1 (by omega),Int.le_refl 0⟩
theorem a9p{L:List Nd}{k i:Int}(h:trI L k i):trI L k (i+1):=⟨h.1,h.2.1,by have:=h.2.2;omega⟩
theorem YA{L:List Nd}{k i:Int}{e:Nd}(h:trI L k i)(he:L[k.toNat]? =some e):Ai L k=e∧e.kids.length≤12:=by
 have e1:=Br he
 have:=(Im (Wh (Yz h))).2.1
 rw[e1] at this;exact⟨e1,this⟩
theorem YB{L:List Nd}{k i:Int}(h:trI L k i):BI L k≠0:=by
 have t:=h.1.1.1
 simp only[BD,Bool.and_eq_true,decide_eq_true_eq,Bool.not_eq_true',decide_eq_false_iff_not] at t
 obtain⟨h1,⟨ds,h2⟩,_⟩:=Mo t.2.2.1
 obtain⟨es,h3,_⟩:=SZ (n:=k.toNat+1) (by have:=h.2.1;omega) h2
 exact a0e (Dh.2 h.2.1) h3
theorem YC{L:List Nd}{k i:Int}(h:trI L k i):0<BI L k:=by have:=YB h;have:= @a0d L k;omega
theorem a9q{L:List Nd}{k i c:Int}{e:Nd}(h:trI L k i)(he:L[k.toNat]? =some e)(hc:e.kids[i.toNat]? =some c):BI L c<BI L k:=
 a9m (YB h) (by rw[(YA h he).1];exact List.mem_of_getElem? hc)
theorem a9r{L:List Nd}{k i:Int}{e:Nd}(h:trI L k i)(he:L[k.toNat]? =some e):((Ai L k).kids.length=e.kids.length∧e.kids.length≤12)∧0≤i:=by have:=YA h he;rw[this.1];exact⟨⟨rfl,this.2⟩,h.2.2⟩
theorem a9s{L:List Nd}{k i:Int}(h:trI L k i):BD L=true:=h.1.1.1
theorem a9t{L:List Nd}{k i:Int}(h:trI L k i):BG L k=true:=Wh (Yz h)
theorem PD{L:List Nd}(h:spB L):Bh L∧L.length≤2^30:=⟨h.2.1,by have:=h.1;omega⟩
theorem a9u{L:List Nd}(h:BD L=true∧Bh L):(1≤L.length∧L.length≤300)∧Bh L:=by have:=Mz h.1;exact⟨⟨this.2.1,this.2.2.1⟩,h.2⟩
theorem Ta{α:Type}{p:α→α→Bool}(hp:∀x,p x x=true):∀l:List α,eqF p l l=true
 |[]=>rfl
 |x::l=>by rw[eqF,hp x,Ta hp l];rfl
theorem a9v(x:Nd):Cz x x=true:=by simp [Cz,Ta (p:=iEq) (fun x=>by simp [iEq])]
theorem a9w(l:List Nd):eqF Cz l l=true:=Ta a9v l
attribute [local irreducible] BD BI BG eqF spB
def Gt:Sig:= {X:=List UInt8,args:=fun x=>[.sl false 0 1 UInt8 byA x],pre:=fun x=>x.length<2^63,Y:=Unit,post:=fun x y=>True,res:=fun x y=> .bool true,outs:=fun x y=>[.top],keep:=false}
def PE(x:List UInt8):LS:= {ι:=List Nd×Int×Int,inv:=fun i=>trI i.1 i.2.1 i.2.2∧x.length≤1048576,regs:=fun i=>[(0,.sl false 0 1 UInt8 byA x),(3,nds i.1),(4,.int .i64 i.2.1),(5,.int .i64 (BI i.1 i.2.1)),(6,.int .i64 i.2.2)],als:=[],meas:=fun i=>(Ai i.1 i.2.1).kids.length-i.2.2.toNat}
theorem a9x:Am G Tryz.prog 3 Gt:=
 vcFun_okP [(6,0,LA),(7,0,Lv),(8,0,Lw),(9,0,Fe),(10,0,Lz),(11,0,Ly),(12,0,JZ),(13,0,GG),(14,0,CO),(15,0,Dy),(16,0,Hh),(17,0,Ff),(18,0,JX),(19,0,Gr)] [] false (fun x=>[(7,PE x)]) Tryz.func3 rfl (by decide) ⟨a9l,a8N,a8R,VC,a9j,a9f,a9k,a2I,Vx,Wa,We,Wg,a9d,a9e,trivial⟩ (fun(x:List UInt8)=>(∀(y:Unit),True→True∧True∧True)∧cA LA [AV.sl false (0:Nat) (1:Nat) UInt8 byA x] fun x_1 y=>Aa (decide ((↑(List.length x_1):Int)>(1048576:Int))) (rA Gt x [.bool true,.top]) (cA Lv [AV.sl false (0:Nat) (1:Nat) UInt8 byA x] fun x_2 y=>cA Lw [AV.sl false (0:Nat) (1:Nat) UInt8 byA x] fun x_3 y_1=>((0:Int)≤(0:Int)∧(0:Int)<(↑(List.length y_1.1):Int))∧(0:Nat)<List.length y_1.1∧∀(x_4:Int),y_1.1[(0:Nat)]? =some x_4→(↑(List.length y):Int)≠(0:Int)∧cA Fe [nds y,.int .i64 (Int.tmod x_4 (↑(List.length y):Int))] fun x_5 y_2=>eA (PE x) [AV.sl false (0:Nat) (1:Nat) UInt8 byA x,nds y,.int .i64 (Int.tmod x_4 (↑(List.length y):Int)),.int .i64 (BI x_5.1 x_5.2),.int .i64 (0:Int)]∧∀(i:List Nd×Int×Int),trI i.1 i.2.1 i.2.2∧List.length x≤(1048576:Nat)→((0:Int)≤i.2.1∧i.2.1<(↑(List.length i.1):Int))∧∀(e:Nd),i.1[Int.toNat i.2.1]? =some e→Aa (decide (i.2.2<(↑(List.length e.kids):Int))) (((0:Int)≤i.2.1∧i.2.1<(↑(List.length i.1):Int))∧∀(e:Nd),i.1[Int.toNat i.2.1]? =some e→((0:Int)≤i.2.2∧i.2.2<(↑(List.length e.kids):Int))∧∀(e_1:Int),e.kids[Int.toNat i.2.2]? =some e_1→cA Fe [nds i.1,.int .i64 e_1] fun x_6 y=>Aa (decide (BI x_6.1 x_6.2≥BI i.1 i.2.1)) (rA Gt x [.bool false,.top]) (inR IntKind.i64 (i.2.2+(1:Int))∧eN (PE x) i [AV.sl false (0:Nat) (1:Nat) UInt8 byA x,nds i.1,.int .i64 i.2.1,.int .i64 (BI i.1 i.2.1),.int .i64 (i.2.2+(1:Int))])) (cA Lz [AV.sl false (0:Nat) (1:Nat) UInt8 byA x] fun x_6 y=>cA Ly [AV.sl false (0:Nat) (1:Nat) UInt8 byA x] fun x_7 y_3=>cA JZ [AV.sl false (0:Nat) (1:Nat) UInt8 byA x] fun x_8 y_4=>cA GG [nds i.1] fun x_9 y_5=>Aa (BD x_9) (Aa (decide (BI i.1 i.2.1>(0:Int))) (cA CO [nds i.1,.int .i64 i.2.1] fun x_10 y_6=>Aa (BG x_10.1 x_10.2) (cA CO [AX y.1,.int .i64 y.2] fun x_11 y_7=>cA Dy [AX y.1,.int .i64 y.2] fun x_12 y_8=>Aa (BG x_11.1 x_11.2==BG x_12.1 x_12.2) (cA Fe [AX y.1,.int .i64 y.2] fun x_13 y_9=>cA Hh [AX y.1,.int .i64 y.2] fun x_14 y=>Aa (BI x_13.1 x_13.2==BI x_14.1 x_14.2) (cA GG [AX y_3] fun x_15 y=>cA Ff [AX y_3] fun x_16 y=>Aa (BD x_15==BD x_16) (cA JX [AX y_4.1,AX y_4.2] fun x_17 y=>cA Gr [AX y_4.1,AX y_4.2] fun x_18 y=>Aa (eqF Cz x_17.1 x_17.2==eqF Cz x_18.1 x_18.2) (cA JX [nds i.1,nds i.1] fun x_19 y=>rA Gt x [.bool (eqF Cz x_19.1 x_19.2),.top]) (rA Gt x [.bool false,.top])) (rA Gt x [.bool false,.top])) (rA Gt x [.bool false,.top])) (rA Gt x [.bool false,.top])) (rA Gt x [.bool false,.top])) (rA Gt x [.bool false,.top])) (rA Gt x [.bool false,.top])))) (fun x=>by kernel_rfl) fun(x:List UInt8) (hx:x.length<2^63)=>(by
 dsimp only[CT,cA,cur,eA,eN,PE,Bx,nds,Ag,AX,rA,LA,Lv,Ly,Lz,Lw,JZ,Fe,CO,JX,GG,Gt,Hh,Dy,Gr,Ff,Az,AC,mvL,lnL,mvE,lnE,Bt]
 have hx:x.length<2^63:=hx
 (repeat' first|(with_reducible first|rfl|exact True.intro|apply AN|apply And.intro|((first|apply AD|apply AL|apply AE|apply AM)<;>intro _))|(apply AA<;>intro _)|apply AK|refine Ae () ?_ ?_|((first|apply AR|apply AQ|apply AP|apply AO|apply AJ|apply AI|apply AH|apply AG|apply AF)<;>try dsimp only)|apply Ae|(refine Prod.forall.2 ?_;intro _;try dsimp only)|(intro _;try dsimp only))
 all_goals(try(repeat(rename(_:List Nd)[_]? =some _=>hq;revert hq;rename(_:List Nd)[_]? =some _=>hr;intro hq;rw[hr] at hq;cases hq)))
 all_goals first
  |rfl
  |omega
  |(have hq:=a9u (show BD _=true∧Bh _ by assumption);first|exact hq.2|omega)
  |exact a9o ‹_› ‹_› ‹_›
  |(have hq:=a9r (And.left (show trI _ _ _∧_ by assumption)) ‹_›;(try simp only[AU]);omega)
  |(have hq:=a9n (And.left (show trI _ _ _∧_ by assumption));first|exact hq.2|((try simp only[AU]);omega))
  |exact a9p (And.left (show trI _ _ _∧_ by assumption))
  |(have hq:=a9q (And.left (show trI _ _ _∧_ by assumption)) ‹_› ‹_›;omega)
  |exact(PD (show spB _ by assumption)).1
  |exact(PD (show spB _ by assumption)).2
  |exact(PD (And.left (show spB _∧spB _ by assumption))).1
  |exact(PD (And.right (show spB _∧spB _ by assumption))).1
  |exact a9w _
  |(have hq:=YC (And.left (show trI _ _ _∧_ by assumption));exact absurd hq ‹_›)
  |(have hq:=a9s (And.left (show trI _ _ _∧_ by assumption));exact(show BD _=false by assumption).symm.trans hq)
  |(have hq:=a9t (And.left (show trI _ _ _∧_ by assumption));exact(show BG _ _=false by assumption).symm.trans hq)
  |skip
 all_goals first
  |(have hq:=YC (And.left (show trI _ _ _∧_ by assumption));simp_all;done)
  |skip)
end Go.My
end
