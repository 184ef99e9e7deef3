/- A part of the proof: the engine and the contracts, joined. -/
import Derived.Test.YtjmoahjpdapjkaaGreatDoorQD
section
set_option linter.unusedVariables false
set_option linter.unusedSimpArgs false
namespace Go.My
open Go.Eng Go.Proofs
variable {G:GInv}
def ET:Sig:= {X:=Int×Int×Int,args:=fun x=>[.int .i64 x.1,.int .i64 x.2.1,.int .i64 x.2.2],pre:=fun x=>True,Y:=Unit,post:=fun x y=>True,res:=fun x y=> .bool (inn x.1 x.2.1 x.2.2),outs:=fun x y=>[.top,.top,.top],keep:=false}
theorem Pc:Aq G Tryz.prog 58 ET:=
 vcFun_okP [] [] false (fun x=>[]) Tryz.func58 rfl (by decide) trivial (fun(x:Int×Int×Int)=>(∀(y:Unit),True→True∧True∧True∧True∧True)∧Aa (decide (x.1≥x.2.1)) (rA ET x [.bool (decide (x.1≤x.2.2)),.top,.top,.top]) (rA ET x [.bool false,.top,.top,.top])) (fun x=>by kernel_rfl) fun(x:Int×Int×Int) (hx:True)=>(by
 dsimp only[rA,ET,Av,Az]
 (repeat' first|(with_reducible first|rfl|exact True.intro|apply AK|apply And.intro|((first|apply AA|apply AI|apply AB|apply AJ)<;>intro _))|(apply Ax<;>intro _)|apply AH|refine Af () ?_ ?_|((first|apply AO|apply AN|apply AM|apply AL|apply AG|apply AF|apply AE|apply AD|apply AC)<;>try dsimp only)|apply Af|(refine Prod.forall.2 ?_;intro _;try dsimp only)|(intro _;try dsimp only))<;>(try dsimp only at*)<;>(try simp only[AR,List.length_cons,List.length_nil])<;>(try omega)
 all_goals simp [inn, *])
def CQ:Sig:= {X:=Int×Int×Int,args:=fun x=>[.int .i64 x.1,.int .i64 x.2.1,.int .i64 x.2.2],pre:=fun x=>True,Y:=Unit,post:=fun x y=>True,res:=fun x y=> .bool (inn x.1 x.2.1 x.2.2),outs:=fun x y=>[.top,.top,.top],keep:=false}
theorem Kl:Aq G Tryz.prog 53 CQ:=
 vcFun_okP [] [] false (fun x=>[]) Tryz.func53 rfl (by decide) trivial (fun(x:Int×Int×Int)=>(∀(y:Unit),True→True∧True∧True∧True∧True)∧Aa (decide (x.1≥x.2.1)) (rA CQ x [.bool (decide (x.1≤x.2.2)),.top,.top,.top]) (rA CQ x [.bool false,.top,.top,.top])) (fun x=>by kernel_rfl) fun(x:Int×Int×Int) (hx:True)=>(by
 dsimp only[rA,CQ,Av,Az]
 (repeat' first|(with_reducible first|rfl|exact True.intro|apply AK|apply And.intro|((first|apply AA|apply AI|apply AB|apply AJ)<;>intro _))|(apply Ax<;>intro _)|apply AH|refine Af () ?_ ?_|((first|apply AO|apply AN|apply AM|apply AL|apply AG|apply AF|apply AE|apply AD|apply AC)<;>try dsimp only)|apply Af|(refine Prod.forall.2 ?_;intro _;try dsimp only)|(intro _;try dsimp only))<;>(try dsimp only at*)<;>(try simp only[AR,List.length_cons,List.length_nil])<;>(try omega)
 all_goals simp [inn, *])
def Gb:Sig:= {X:=UInt8,args:=fun x=>[.int .u8 x.toNat],pre:=fun x=>True,Y:=Unit,post:=fun x y=>True,res:=fun x y=> .bool (Bq x),outs:=fun x y=>[.top],keep:=false}
theorem SU:Aq G Tryz.prog 85 Gb:=
 vcFun_okP [] [] false (fun x=>[]) Tryz.func85 rfl (by decide) trivial (fun(x:UInt8)=>(∀(y:Unit),True→True∧True∧True)∧Aa (decide ((↑(UInt8.toNat x):Int)≥(48:Int))) (rA Gb x [.bool (decide ((↑(UInt8.toNat x):Int)≤(57:Int))),.top]) (rA Gb x [.bool false,.top])) (fun x=>by kernel_rfl) fun(x:UInt8) (hx:True)=>(by
 dsimp only[rA,Gb,Av,Az]
 (repeat' first|(with_reducible first|rfl|exact True.intro|apply AK|apply And.intro|((first|apply AA|apply AI|apply AB|apply AJ)<;>intro _))|(apply Ax<;>intro _)|apply AH|refine Af () ?_ ?_|((first|apply AO|apply AN|apply AM|apply AL|apply AG|apply AF|apply AE|apply AD|apply AC)<;>try dsimp only)|apply Af|(refine Prod.forall.2 ?_;intro _;try dsimp only)|(intro _;try dsimp only))<;>(try dsimp only at*)<;>(try simp only[AR,List.length_cons,List.length_nil])<;>(try omega)
 all_goals(rw[Bool.eq_iff_iff];simp only[Bq,Bool.and_eq_true,Bool.or_eq_true,decide_eq_true_eq,Bool.not_eq_true',decide_eq_false_iff_not,bne_iff_ne,ne_eq,beq_iff_eq,Bool.not_not,reduceCtorEq,Bool.false_eq_true,true_iff,false_iff,iff_true,iff_false,not_true,not_false_eq_true]<;>omega))
def Fi:Sig:= {X:=UInt8,args:=fun x=>[.int .u8 x.toNat],pre:=fun x=>True,Y:=Unit,post:=fun x y=>True,res:=fun x y=> .bool (Bq x),outs:=fun x y=>[.top],keep:=false}
theorem SV:Aq G Tryz.prog 79 Fi:=
 vcFun_okP [] [] false (fun x=>[]) Tryz.func79 rfl (by decide) trivial (fun(x:UInt8)=>(∀(y:Unit),True→True∧True∧True)∧Aa (decide ((↑(UInt8.toNat x):Int)≥(48:Int))) (rA Fi x [.bool (decide ((↑(UInt8.toNat x):Int)≤(57:Int))),.top]) (rA Fi x [.bool false,.top])) (fun x=>by kernel_rfl) fun(x:UInt8) (hx:True)=>(by
 dsimp only[rA,Fi,Av,Az]
 (repeat' first|(with_reducible first|rfl|exact True.intro|apply AK|apply And.intro|((first|apply AA|apply AI|apply AB|apply AJ)<;>intro _))|(apply Ax<;>intro _)|apply AH|refine Af () ?_ ?_|((first|apply AO|apply AN|apply AM|apply AL|apply AG|apply AF|apply AE|apply AD|apply AC)<;>try dsimp only)|apply Af|(refine Prod.forall.2 ?_;intro _;try dsimp only)|(intro _;try dsimp only))<;>(try dsimp only at*)<;>(try simp only[AR,List.length_cons,List.length_nil])<;>(try omega)
 all_goals(rw[Bool.eq_iff_iff];simp only[Bq,Bool.and_eq_true,Bool.or_eq_true,decide_eq_true_eq,Bool.not_eq_true',decide_eq_false_iff_not,bne_iff_ne,ne_eq,beq_iff_eq,Bool.not_not,reduceCtorEq,Bool.false_eq_true,true_iff,false_iff,iff_true,iff_false,not_true,not_false_eq_true]<;>omega))
def Fj:Sig:= {X:=UInt8,args:=fun x=>[.int .u8 x.toNat],pre:=fun x=>True,Y:=Unit,post:=fun x y=>True,res:=fun x y=> .bool (Cp x),outs:=fun x y=>[.top],keep:=false}
theorem Xn:Aq G Tryz.prog 82 Fj:=
 vcFun_okP [] [] false (fun x=>[]) Tryz.func82 rfl (by decide) trivial (fun(x:UInt8)=>(∀(y:Unit),True→True∧True∧True)∧Aa (decide ((↑(UInt8.toNat x):Int)≥(97:Int))) (Aa (decide ((↑(UInt8.toNat x):Int)≤(122:Int))) (rA Fj x [.bool true,.top]) (Aa (decide ((↑(UInt8.toNat x):Int)≥(65:Int))) (Aa (decide ((↑(UInt8.toNat x):Int)≤(90:Int))) (rA Fj x [.bool true,.top]) (rA Fj x [.bool ((↑(UInt8.toNat x):Int)==(95:Int)),.top])) (rA Fj x [.bool ((↑(UInt8.toNat x):Int)==(95:Int)),.top]))) (Aa (decide ((↑(UInt8.toNat x):Int)≥(65:Int))) (Aa (decide ((↑(UInt8.toNat x):Int)≤(90:Int))) (rA Fj x [.bool true,.top]) (rA Fj x [.bool ((↑(UInt8.toNat x):Int)==(95:Int)),.top])) (rA Fj x [.bool ((↑(UInt8.toNat x):Int)==(95:Int)),.top]))) (fun x=>by kernel_rfl) fun(x:UInt8) (hx:True)=>(by
 dsimp only[rA,Fj,Av,Az]
 (repeat' first|(with_reducible first|rfl|exact True.intro|apply AK|apply And.intro|((first|apply AA|apply AI|apply AB|apply AJ)<;>intro _))|(apply Ax<;>intro _)|apply AH|refine Af () ?_ ?_|((first|apply AO|apply AN|apply AM|apply AL|apply AG|apply AF|apply AE|apply AD|apply AC)<;>try dsimp only)|apply Af|(refine Prod.forall.2 ?_;intro _;try dsimp only)|(intro _;try dsimp only))<;>(try dsimp only at*)<;>(try simp only[AR,List.length_cons,List.length_nil])<;>(try omega)
 all_goals(rw[Bool.eq_iff_iff];simp only[Cp,Bool.and_eq_true,Bool.or_eq_true,decide_eq_true_eq,Bool.not_eq_true',decide_eq_false_iff_not,bne_iff_ne,ne_eq,beq_iff_eq,Bool.not_not,reduceCtorEq,Bool.false_eq_true,true_iff,false_iff,iff_true,iff_false,not_true,not_false_eq_true]<;>omega))
def EH:Sig:= {X:=UInt8,args:=fun x=>[.int .u8 x.toNat],pre:=fun x=>True,Y:=Unit,post:=fun x y=>True,res:=fun x y=> .bool (Cp x),outs:=fun x y=>[.top],keep:=false}
theorem Xo:Aq G Tryz.prog 78 EH:=
 vcFun_okP [] [] false (fun x=>[]) Tryz.func78 rfl (by decide) trivial (fun(x:UInt8)=>(∀(y:Unit),True→True∧True∧True)∧Aa (decide ((↑(UInt8.toNat x):Int)≥(97:Int))) (Aa (decide ((↑(UInt8.toNat x):Int)≤(122:Int))) (rA EH x [.bool true,.top]) (Aa (decide ((↑(UInt8.toNat x):Int)≥(65:Int))) (Aa (decide ((↑(UInt8.toNat x):Int)≤(90:Int))) (rA EH x [.bool true,.top]) (rA EH x [.bool ((↑(UInt8.toNat x):Int)==(95:Int)),.top])) (rA EH x [.bool ((↑(UInt8.toNat x):Int)==(95:Int)),.top]))) (Aa (decide ((↑(UInt8.toNat x):Int)≥(65:Int))) (Aa (decide ((↑(UInt8.toNat x):Int)≤(90:Int))) (rA EH x [.bool true,.top]) (rA EH x [.bool ((↑(UInt8.toNat x):Int)==(95:Int)),.top])) (rA EH x [.bool ((↑(UInt8.toNat x):Int)==(95:Int)),.top]))) (fun x=>by kernel_rfl) fun(x:UInt8) (hx:True)=>(by
 dsimp only[rA,EH,Av,Az]
 (repeat' first|(with_reducible first|rfl|exact True.intro|apply AK|apply And.intro|((first|apply AA|apply AI|apply AB|apply AJ)<;>intro _))|(apply Ax<;>intro _)|apply AH|refine Af () ?_ ?_|((first|apply AO|apply AN|apply AM|apply AL|apply AG|apply AF|apply AE|apply AD|apply AC)<;>try dsimp only)|apply Af|(refine Prod.forall.2 ?_;intro _;try dsimp only)|(intro _;try dsimp only))<;>(try dsimp only at*)<;>(try simp only[AR,List.length_cons,List.length_nil])<;>(try omega)
 all_goals(rw[Bool.eq_iff_iff];simp only[Cp,Bool.and_eq_true,Bool.or_eq_true,decide_eq_true_eq,Bool.not_eq_true',decide_eq_false_iff_not,bne_iff_ne,ne_eq,beq_iff_eq,Bool.not_not,reduceCtorEq,Bool.false_eq_true,true_iff,false_iff,iff_true,iff_false,not_true,not_false_eq_true]<;>omega))
def Km:Sig:= {X:=UInt8,args:=fun x=>[.int .u8 x.toNat],pre:=fun x=>True,Y:=Unit,post:=fun x y=>True,res:=fun x y=> .bool (BN x),outs:=fun x y=>[.top],keep:=false}
theorem a4x:Aq G Tryz.prog 84 Km:=
 vcFun_okP [(82,0,Fj),(85,0,Gb)] [] false (fun x=>[]) Tryz.func84 rfl (by decide) ⟨Xn,SU,trivial⟩ (fun(x:UInt8)=>(∀(y:Unit),True→True∧True∧True)∧cA Fj [AV.int IntKind.u8 (↑(UInt8.toNat x):Int)] fun x_1 y=>Aa (Cp x_1) (rA Km x [.bool true,.top]) (cA Gb [AV.int IntKind.u8 (↑(UInt8.toNat x):Int)] fun x_2 y=>rA Km x [.bool (Bq x_2),.top])) (fun x=>by kernel_rfl) fun(x:UInt8) (hx:True)=>(by
 dsimp only[cA,rA,Gb,Fj,Km,Av,Az,mvL,lnL,mvE,lnE]
 (repeat' first|(with_reducible first|rfl|exact True.intro|apply AK|apply And.intro|((first|apply AA|apply AI|apply AB|apply AJ)<;>intro _))|(apply Ax<;>intro _)|apply AH|refine Af () ?_ ?_|((first|apply AO|apply AN|apply AM|apply AL|apply AG|apply AF|apply AE|apply AD|apply AC)<;>try dsimp only)|apply Af|(refine Prod.forall.2 ?_;intro _;try dsimp only)|(intro _;try dsimp only))<;>(try dsimp only at*)<;>(try simp only[AR,List.length_cons,List.length_nil])<;>(try omega)
 all_goals simp [BN, *])
def HV:Sig:= {X:=UInt8,args:=fun x=>[.int .u8 x.toNat],pre:=fun x=>True,Y:=Unit,post:=fun x y=>True,res:=fun x y=> .bool (Cg x),outs:=fun x y=>[.top],keep:=false}
theorem Xp:Aq G Tryz.prog 109 HV:=
 vcFun_okP [] [] false (fun x=>[]) Tryz.func109 rfl (by decide) trivial (fun(x:UInt8)=>(∀(y:Unit),True→True∧True∧True)∧Aa (decide ((↑(UInt8.toNat x):Int)≥(32:Int))) (rA HV x [.bool (decide ((↑(UInt8.toNat x):Int)≤(126:Int))),.top]) (rA HV x [.bool false,.top])) (fun x=>by kernel_rfl) fun(x:UInt8) (hx:True)=>(by
 dsimp only[rA,HV,Av,Az]
 (repeat' first|(with_reducible first|rfl|exact True.intro|apply AK|apply And.intro|((first|apply AA|apply AI|apply AB|apply AJ)<;>intro _))|(apply Ax<;>intro _)|apply AH|refine Af () ?_ ?_|((first|apply AO|apply AN|apply AM|apply AL|apply AG|apply AF|apply AE|apply AD|apply AC)<;>try dsimp only)|apply Af|(refine Prod.forall.2 ?_;intro _;try dsimp only)|(intro _;try dsimp only))<;>(try dsimp only at*)<;>(try simp only[AR,List.length_cons,List.length_nil])<;>(try omega)
 all_goals(rw[Bool.eq_iff_iff];simp only[Cg,Bool.and_eq_true,Bool.or_eq_true,decide_eq_true_eq,Bool.not_eq_true',decide_eq_false_iff_not,bne_iff_ne,ne_eq,beq_iff_eq,Bool.not_not,reduceCtorEq,Bool.false_eq_true,true_iff,false_iff,iff_true,iff_false,not_true,not_false_eq_true]<;>omega))
def LU:Sig:= {X:=UInt8,args:=fun x=>[.int .u8 x.toNat],pre:=fun x=>True,Y:=Unit,post:=fun x y=>True,res:=fun x y=> .bool (Cf x),outs:=fun x y=>[.top],keep:=false}
theorem a4y:Aq G Tryz.prog 88 LU:=
 vcFun_okP [] [] false (fun x=>[]) Tryz.func88 rfl (by decide) trivial (fun(x:UInt8)=>(∀(y:Unit),True→True∧True∧True)∧rA LU x [.bool ((↑(UInt8.toNat x):Int) != (10:Int)),.top]) (fun x=>by kernel_rfl) fun(x:UInt8) (hx:True)=>(by
 dsimp only[rA,LU,Av,Az]
 (repeat' first|(with_reducible first|rfl|exact True.intro|apply AK|apply And.intro|((first|apply AA|apply AI|apply AB|apply AJ)<;>intro _))|(apply Ax<;>intro _)|apply AH|refine Af () ?_ ?_|((first|apply AO|apply AN|apply AM|apply AL|apply AG|apply AF|apply AE|apply AD|apply AC)<;>try dsimp only)|apply Af|(refine Prod.forall.2 ?_;intro _;try dsimp only)|(intro _;try dsimp only))<;>(try dsimp only at*)<;>(try simp only[AR,List.length_cons,List.length_nil])<;>(try omega)
 all_goals(rw[Bool.eq_iff_iff];simp only[Cf,Bool.and_eq_true,Bool.or_eq_true,decide_eq_true_eq,Bool.not_eq_true',decide_eq_false_iff_not,bne_iff_ne,ne_eq,beq_iff_eq,Bool.not_not,reduceCtorEq,Bool.false_eq_true,true_iff,false_iff,iff_true,iff_false,not_true,not_false_eq_true]<;>omega))
def DU(p:UInt8→Bool)(x:List UInt8)(rs:Int→List (Nat×AV)):LS:= {
 ι:=Int,inv:=fun i=>0≤i∧i≤x.length∧∀e∈x.take i.toNat,p e=true,regs:=rs,als:=[],meas:=fun i=>x.length-i.toNat}
def Hh:Sig:= {X:=List UInt8,args:=fun x=>[.str x],pre:=fun x=>x.length<2^63,Y:=Unit,post:=fun x y=>True,res:=fun x y=> .bool (x.all Cg),outs:=fun x y=>[.top],keep:=false}
theorem Xq:Aq G Tryz.prog 90 Hh:=
 vcFun_okP [] [] false (fun x=>[(2,DU Cg x fun i=>[(0,.str x),(3,.int .i64 i)])]) Tryz.func90 rfl (by decide) trivial (fun(x:List UInt8)=>(∀(y:Unit),True→True∧True∧True)∧eA (DU Cg x fun(i:Int)=>[((0:Nat),.str x),((3:Nat),.int .i64 i)]) [.str x,.int .i64 (0:Int)]∧∀(i:Int),((0:Int)≤i∧i≤(↑(List.length x):Int)∧∀(e:UInt8),e∈List.take (Int.toNat i) x→Cg e=true)→Aa (decide (i<(↑(List.length x):Int))) (((0:Int)≤i∧i<(↑(List.length x):Int))∧∀(c:UInt8),x[Int.toNat i]? =some c→Aa (decide ((↑(UInt8.toNat c):Int)<(32:Int))) (rA Hh x [.bool false,.top]) (((0:Int)≤i∧i<(↑(List.length x):Int))∧∀(c:UInt8),x[Int.toNat i]? =some c→Aa (decide ((↑(UInt8.toNat c):Int)>(126:Int))) (rA Hh x [.bool false,.top]) (inR IntKind.i64 (i+(1:Int))∧eN (DU Cg x fun(i:Int)=>[((0:Nat),.str x),((3:Nat),.int .i64 i)]) i [.str x,.int .i64 (i+(1:Int))]))) (rA Hh x [.bool true,.top])) (fun x=>by kernel_rfl) fun(x:List UInt8) (hx:x.length<2^63)=>(by
 dsimp only[eA,eN,DU,rA,Hh,Av,Az,BA]
 (repeat' first|(with_reducible first|rfl|exact True.intro|apply AK|apply And.intro|((first|apply AA|apply AI|apply AB|apply AJ)<;>intro _))|(apply Ax<;>intro _)|apply AH|refine Af () ?_ ?_|((first|apply AO|apply AN|apply AM|apply AL|apply AG|apply AF|apply AE|apply AD|apply AC)<;>try dsimp only)|apply Af|(refine Prod.forall.2 ?_;intro _;try dsimp only)|(intro _;try dsimp only))<;>(try dsimp only at*)<;>(try simp only[AR,List.length_cons,List.length_nil])<;>(try omega)
 ·rename_i h;simp at h
 ·rename_i i hi hl c hc h;exact(OZ hc (by(rw[Bool.eq_iff_iff];simp only[Cg,Bool.and_eq_true,Bool.or_eq_true,decide_eq_true_eq,Bool.not_eq_true',decide_eq_false_iff_not,bne_iff_ne,ne_eq,beq_iff_eq,Bool.not_not,reduceCtorEq,Bool.false_eq_true,true_iff,false_iff,iff_true,iff_false,not_true,not_false_eq_true]<;>omega))).symm
 ·rename_i i hi hl c hc h d hd h2;exact(OZ hd (by(rw[Bool.eq_iff_iff];simp only[Cg,Bool.and_eq_true,Bool.or_eq_true,decide_eq_true_eq,Bool.not_eq_true',decide_eq_false_iff_not,bne_iff_ne,ne_eq,beq_iff_eq,Bool.not_not,reduceCtorEq,Bool.false_eq_true,true_iff,false_iff,iff_true,iff_false,not_true,not_false_eq_true]<;>omega))).symm
 ·rename_i i hi hl c hc h d hd h2 e he
  rw[hc] at hd;cases hd
  rw[Db hi.1] at he;exact Nn hi.2.2 hc (by(rw[Bool.eq_iff_iff];simp only[Cg,Bool.and_eq_true,Bool.or_eq_true,decide_eq_true_eq,Bool.not_eq_true',decide_eq_false_iff_not,bne_iff_ne,ne_eq,beq_iff_eq,Bool.not_not,reduceCtorEq,Bool.false_eq_true,true_iff,false_iff,iff_true,iff_false,not_true,not_false_eq_true]<;>omega)) e he
 ·rename_i i hi hl;exact(SN hi.2.2 (by omega)).symm)
def Kn:Sig:= {X:=List UInt8,args:=fun x=>[.str x,.clo (.func 84) []],pre:=fun x=>x.length<2^63,Y:=Unit,post:=fun x y=>True,res:=fun x y=> .str (x.takeWhile BN),outs:=fun x y=>[.top,.top],keep:=false}
theorem a4z:Aq G Tryz.prog 83 Kn:=
 vcFun_okP [(84,0,Km)] [] false (fun x=>[(2,DU BN x fun i=>[(0,.str x),(1,.clo (.func 84) []),(5,.int .i64 i)])]) Tryz.func83 rfl (by decide) ⟨a4x,trivial⟩ (fun(x:List UInt8)=>(∀(y:Unit),True→True∧True∧True∧True)∧eA (DU BN x fun(i:Int)=>[((0:Nat),.str x),((1:Nat),AV.clo (Fn.func (84:FuncId)) []),((5:Nat),.int .i64 i)]) [.str x,AV.clo (Fn.func (84:FuncId)) [],.int .i64 (0:Int)]∧∀(i:Int),((0:Int)≤i∧i≤(↑(List.length x):Int)∧∀(e:UInt8),e∈List.take (Int.toNat i) x→BN e=true)→Aa (decide (i<(↑(List.length x):Int))) (((0:Int)≤i∧i<(↑(List.length x):Int))∧∀(c:UInt8),x[Int.toNat i]? =some c→cA Km [AV.int IntKind.u8 (↑(UInt8.toNat c):Int)] fun x_1 y=>Aa (BN x_1) (inR IntKind.i64 (i+(1:Int))∧eN (DU BN x fun(i:Int)=>[((0:Nat),.str x),((1:Nat),AV.clo (Fn.func (84:FuncId)) []),((5:Nat),.int .i64 i)]) i [.str x,AV.clo (Fn.func (84:FuncId)) [],.int .i64 (i+(1:Int))]) (((0:Int)≤(0:Int)∧(0:Int)≤i∧i≤(↑(List.length x):Int))∧rA Kn x [.str (List.take (Int.toNat i) x),.top,.top])) (((0:Int)≤(0:Int)∧(0:Int)≤i∧i≤(↑(List.length x):Int))∧rA Kn x [.str (List.take (Int.toNat i) x),.top,.top])) (fun x=>by kernel_rfl) fun(x:List UInt8) (hx:x.length<2^63)=>(by
 dsimp only[cA,eA,eN,DU,rA,Km,Kn,Av,Az,mvL,lnL,mvE,lnE,BA]
 (repeat' first|(with_reducible first|rfl|exact True.intro|apply AK|apply And.intro|((first|apply AA|apply AI|apply AB|apply AJ)<;>intro _))|(apply Ax<;>intro _)|apply AH|refine Af () ?_ ?_|((first|apply AO|apply AN|apply AM|apply AL|apply AG|apply AF|apply AE|apply AD|apply AC)<;>try dsimp only)|apply Af|(refine Prod.forall.2 ?_;intro _;try dsimp only)|(intro _;try dsimp only))<;>(try dsimp only at*)<;>(try simp only[AR,List.length_cons,List.length_nil])<;>(try omega)
 ·rename_i h;simp at h
 ·rename_i i hi hl c hc y _ hp e he
  rw[Db hi.1] at he;exact Nn hi.2.2 hc hp e he
 ·rename_i i hi hl c hc y _ hp
  exact Iw hi.2.2 (.inr ⟨c,hc,hp⟩)
 ·rename_i i hi hl
  exact Iw hi.2.2 (.inl (by omega)))
def Ko:Sig:= {X:=List UInt8,args:=fun x=>[.str x,.clo (.func 85) []],pre:=fun x=>x.length<2^63,Y:=Unit,post:=fun x y=>True,res:=fun x y=> .str (x.takeWhile Bq),outs:=fun x y=>[.top,.top],keep:=false}
theorem a4A:Aq G Tryz.prog 83 Ko:=
 vcFun_okP [(85,0,Gb)] [] false (fun x=>[(2,DU Bq x fun i=>[(0,.str x),(1,.clo (.func 85) []),(5,.int .i64 i)])]) Tryz.func83 rfl (by decide) ⟨SU,trivial⟩ (fun(x:List UInt8)=>(∀(y:Unit),True→True∧True∧True∧True)∧eA (DU Bq x fun(i:Int)=>[((0:Nat),.str x),((1:Nat),AV.clo (Fn.func (85:FuncId)) []),((5:Nat),.int .i64 i)]) [.str x,AV.clo (Fn.func (85:FuncId)) [],.int .i64 (0:Int)]∧∀(i:Int),((0:Int)≤i∧i≤(↑(List.length x):Int)∧∀(e:UInt8),e∈List.take (Int.toNat i) x→Bq e=true)→Aa (decide (i<(↑(List.length x):Int))) (((0:Int)≤i∧i<(↑(List.length x):Int))∧∀(c:UInt8),x[Int.toNat i]? =some c→cA Gb [AV.int IntKind.u8 (↑(UInt8.toNat c):Int)] fun x_1 y=>Aa (Bq x_1) (inR IntKind.i64 (i+(1:Int))∧eN (DU Bq x fun(i:Int)=>[((0:Nat),.str x),((1:Nat),AV.clo (Fn.func (85:FuncId)) []),((5:Nat),.int .i64 i)]) i [.str x,AV.clo (Fn.func (85:FuncId)) [],.int .i64 (i+(1:Int))]) (((0:Int)≤(0:Int)∧(0:Int)≤i∧i≤(↑(List.length x):Int))∧rA Ko x [.str (List.take (Int.toNat i) x),.top,.top])) (((0:Int)≤(0:Int)∧(0:Int)≤i∧i≤(↑(List.length x):Int))∧rA Ko x [.str (List.take (Int.toNat i) x),.top,.top])) (fun x=>by kernel_rfl) fun(x:List UInt8) (hx:x.length<2^63)=>(by
 dsimp only[cA,eA,eN,DU,rA,Gb,Ko,Av,Az,mvL,lnL,mvE,lnE,BA]
 (repeat' first|(with_reducible first|rfl|exact True.intro|apply AK|apply And.intro|((first|apply AA|apply AI|apply AB|apply AJ)<;>intro _))|(apply Ax<;>intro _)|apply AH|refine Af () ?_ ?_|((first|apply AO|apply AN|apply AM|apply AL|apply AG|apply AF|apply AE|apply AD|apply AC)<;>try dsimp only)|apply Af|(refine Prod.forall.2 ?_;intro _;try dsimp only)|(intro _;try dsimp only))<;>(try dsimp only at*)<;>(try simp only[AR,List.length_cons,List.length_nil])<;>(try omega)
 ·rename_i h;simp at h
 ·rename_i i hi hl c hc y _ hp e he
  rw[Db hi.1] at he;exact Nn hi.2.2 hc hp e he
 ·rename_i i hi hl c hc y _ hp
  exact Iw hi.2.2 (.inr ⟨c,hc,hp⟩)
 ·rename_i i hi hl
  exact Iw hi.2.2 (.inl (by omega)))
def Kp:Sig:= {X:=List UInt8,args:=fun x=>[.str x,.clo (.func 88) []],pre:=fun x=>x.length<2^63,Y:=Unit,post:=fun x y=>True,res:=fun x y=> .str (x.takeWhile Cf),outs:=fun x y=>[.top,.top],keep:=false}
theorem a4B:Aq G Tryz.prog 83 Kp:=
 vcFun_okP [(88,0,LU)] [] false (fun x=>[(2,DU Cf x fun i=>[(0,.str x),(1,.clo (.func 88) []),(5,.int .i64 i)])]) Tryz.func83 rfl (by decide) ⟨a4y,trivial⟩ (fun(x:List UInt8)=>(∀(y:Unit),True→True∧True∧True∧True)∧eA (DU Cf x fun(i:Int)=>[((0:Nat),.str x),((1:Nat),AV.clo (Fn.func (88:FuncId)) []),((5:Nat),.int .i64 i)]) [.str x,AV.clo (Fn.func (88:FuncId)) [],.int .i64 (0:Int)]∧∀(i:Int),((0:Int)≤i∧i≤(↑(List.length x):Int)∧∀(e:UInt8),e∈List.take (Int.toNat i) x→Cf e=true)→Aa (decide (i<(↑(List.length x):Int))) (((0:Int)≤i∧i<(↑(List.length x):Int))∧∀(c:UInt8),x[Int.toNat i]? =some c→cA LU [AV.int IntKind.u8 (↑(UInt8.toNat c):Int)] fun x_1 y=>Aa (Cf x_1) (inR IntKind.i64 (i+(1:Int))∧eN (DU Cf x fun(i:Int)=>[((0:Nat),.str x),((1:Nat),AV.clo (Fn.func (88:FuncId)) []),((5:Nat),.int .i64 i)]) i [.str x,AV.clo (Fn.func (88:FuncId)) [],.int .i64 (i+(1:Int))]) (((0:Int)≤(0:Int)∧(0:Int)≤i∧i≤(↑(List.length x):Int))∧rA Kp x [.str (List.take (Int.toNat i) x),.top,.top])) (((0:Int)≤(0:Int)∧(0:Int)≤i∧i≤(↑(List.length x):Int))∧rA Kp x [.str (List.take (Int.toNat i) x),.top,.top])) (fun x=>by kernel_rfl) fun(x:List UInt8) (hx:x.length<2^63)=>(by
 dsimp only[cA,eA,eN,DU,rA,Kp,LU,Av,Az,mvL,lnL,mvE,lnE,BA]
 (repeat' first|(with_reducible first|rfl|exact True.intro|apply AK|apply And.intro|((first|apply AA|apply AI|apply AB|apply AJ)<;>intro _))|(apply Ax<;>intro _)|apply AH|refine Af () ?_ ?_|((first|apply AO|apply AN|apply AM|apply AL|apply AG|apply AF|apply AE|apply AD|apply AC)<;>try dsimp only)|apply Af|(refine Prod.forall.2 ?_;intro _;try dsimp only)|(intro _;try dsimp only))<;>(try dsimp only at*)<;>(try simp only[AR,List.length_cons,List.length_nil])<;>(try omega)
 ·rename_i h;simp at h
 ·rename_i i hi hl c hc y _ hp e he
  rw[Db hi.1] at he;exact Nn hi.2.2 hc hp e he
 ·rename_i i hi hl c hc y _ hp
  exact Iw hi.2.2 (.inr ⟨c,hc,hp⟩)
 ·rename_i i hi hl
  exact Iw hi.2.2 (.inl (by omega)))
end Go.My
end
section
set_option linter.unusedVariables false
set_option linter.unusedSimpArgs false
namespace Go.My
open Go.Eng
def LV(x:List UInt8):SgR:=if CB (x.take 2) then⟨4,x.take 2,(x.take 2).length,true⟩ else if CB (x.take 1) then⟨4,x.take 1,1,true⟩ else⟨0,[],0,false⟩
def Hi(x:List UInt8)(i:Int):Prop:=(0≤i∧i≤2∧i≤x.length)∧Bb x=LV x∧∀j:Nat,i<j→j≤2→j≤x.length→CB (x.take j)=false
theorem a4C{x:List UInt8}{i:Int}(h:Hi x i)(hx:1≤x.length)(h0:i>0)(hm:CB (x.take i.toNat)=true):Bb x=⟨4,x.take i.toNat,i,true⟩:=by
 obtain⟨⟨h1,h2,h3⟩,h4,h5⟩:=h
 rw[h4]
 have hi:i=1∨i=2:=by omega
 rcases hi with rfl|rfl
 ·by_cases hl:x.length=1
  ·have e:x.take 2=x.take 1:=by rw[List.take_of_length_le (by omega),List.take_of_length_le (by omega)]
   have hm':CB (x.take 1)=true:=hm
   simp only[LV,e,hm',if_true]
   have:(x.take 1).length=1:=by simp;omega
   rw[this];rfl
  ·have:=h5 2 (by omega) (by omega) (by omega)
   have hm':CB (x.take 1)=true:=hm
   simp only[LV,this,hm',Bool.false_eq_true,if_false,if_true];rfl
 ·have hm':CB (x.take 2)=true:=hm
  simp only[LV,hm',if_true]
  have:(x.take 2).length=2:=by simp;omega
  rw[this];rfl
theorem a4D{x:List UInt8}{i:Int}(h:Hi x i)(hx:1≤x.length)(h0:¬i>0):Bb x=⟨0,[],0,false⟩:=by
 obtain⟨⟨h1,h2,h3⟩,h4,h5⟩:=h
 rw[h4]
 have a1:=h5 1 (by omega) (by omega) hx
 have a2:CB (x.take 2)=false:=by
  by_cases hl:x.length=1
  ·have e:x.take 2=x.take 1:=by rw[List.take_of_length_le (by omega),List.take_of_length_le (by omega)]
   rw[e];exact a1
  ·exact h5 2 (by omega) (by omega) (by omega)
 simp only[LV,a1,a2,Bool.false_eq_true,if_false]
theorem a4E{x:List UInt8}{i:Int}(h:Hi x i)(h0:i>0)(hm:CB (x.take i.toNat)=false):Hi x (i-1):=by
 obtain⟨⟨h1,h2,h3⟩,h4,h5⟩:=h
 refine⟨⟨by omega,by omega,by omega⟩,h4,fun j a b c=> ?_⟩
 by_cases e:(j:Int)=i
 ·have:j=i.toNat:=by omega
  rw[this];exact hm
 ·exact h5 j (by omega) b c
theorem a4F{b:UInt8}{t:List UInt8}(h1:Cp b=false)(h2:Bq b=false)(h3:¬b.toNat=39)(h4:(b::t).take 2≠[47,47]):Hi (b::t) (min 2 ((b::t).length:Int)):=by
 refine⟨⟨by omega,by omega,by omega⟩,?_,fun j a b c=>by omega⟩
 simp only[Bb,h1,h2,h3,h4,Bool.false_eq_true,if_false,LV]
theorem a4G{b:UInt8}{t:List UInt8}(h:Cp b=true):Bb (b::t)=⟨1,(b::t).takeWhile BN,((b::t).takeWhile BN).length,decide ((((b::t).takeWhile BN).length:Int)≤30)⟩:=by
 have:decide ((((b::t).takeWhile BN).length:Int)≤30)=decide (((b::t).takeWhile BN).length≤30):=decide_eq_decide.2 (by omega)
 rw[this];simp [Bb,h]
theorem a4H{b:UInt8}{t:List UInt8}(h0:Cp b=false)(h:Bq b=true):Bb (b::t)=⟨2,(b::t).takeWhile Bq,((b::t).takeWhile Bq).length,decide ((((b::t).takeWhile Bq).length:Int)≤12)⟩:=by
 have:decide ((((b::t).takeWhile Bq).length:Int)≤12)=decide (((b::t).takeWhile Bq).length≤12):=decide_eq_decide.2 (by omega)
 rw[this];simp [Bb,h,h0]
theorem a4I{b:UInt8}{t:List UInt8}(h0:Cp b=false)(h1:Bq b=false)(h:(b.toNat:Int)=39):Bb (b::t)=⟨3,(Dm (b::t)).1,(Dm (b::t)).1.length,(Dm (b::t)).2⟩:=by
 have h:b.toNat=39:=by omega
 simp [Bb,h0,h1,h]
theorem a4J{b:UInt8}{t:List UInt8}(h0:Cp b=false)(h1:Bq b=false)(h2:(b.toNat:Int)≠39)(h:(b::t).take 2=[47,47]):
 Bb (b::t)=⟨5,CC ((b::t).takeWhile Cf),((b::t).takeWhile Cf).length,((b::t).takeWhile Cf).all Cg⟩:=by
 have h2:¬b.toNat=39:=by omega
 simp only[Bb,h0,h1,h2,h,Bool.false_eq_true,if_false,if_true]
theorem Xr(s:List UInt8)(c:UInt8):CC (s++[c])=if c.toNat=32 then CC s else s++[c]:=by
 unfold CC
 rw[List.reverse_append]
 simp only[List.reverse_cons,List.reverse_nil,List.nil_append,List.singleton_append,List.dropWhile_cons]
 by_cases h:c.toNat=32
 ·simp [h]
 ·simp [h]
theorem a4K{s:List UInt8}{c:UInt8}(h:s[s.length-1]? =some c):s=s.take (s.length-1)++[c]:=by
 have h1:=Fg h
 have:s.length-1+1=s.length:=by
  have:=(List.getElem?_eq_some_iff.1 h).1;omega
 rw[this,List.take_length] at h1
 exact h1
theorem Xs{s:List UInt8}{c:UInt8}(h:s[s.length-1]? =some c):CC s=if c.toNat=32 then CC (s.take (s.length-1)) else s:=by
 have h1:=a4K h
 rw[h1,Xr]
 split
 ·rw[List.length_append];simp
 ·rfl
theorem Xt{s:List UInt8}{n:Nat}{c:UInt8}(h:s[n]? =some c):CC (s.take (n+1))=if c.toNat=32 then CC (s.take n) else s.take (n+1):=by
 rw[Fg h,Xr]
def isQ(c:UInt8):Bool:=decide (c.toNat=39)
def Cx(s:List UInt8):Nat:=match DG isQ (s.drop 1) with
 |none=>0
 |some i=>if((s.drop 1).take i).all Cg then i+2 else 0
def Co(s:List UInt8):Nat:=if s.take 2=[47,47] then(if(s.takeWhile Cf).all Cg then(s.takeWhile Cf).length else 0) else 0
theorem Xu(s:List UInt8):Dm s=match DG isQ (s.drop 1) with
 |none=>([],false)
 |some i=>(s.take (i+2),(s.take (i+2)).all Cg):=rfl
theorem Xv{c:UInt8}(h:isQ c=true):Cg c=true:=by
 simp [isQ] at h;simp [Cg,h]
theorem SW{p:UInt8→Bool}{s:List UInt8}{i:Nat}(h:DG p s=some i):i<s.length:=by
 obtain⟨_,e,he,_⟩:=Kj.1 h
 exact(List.getElem?_eq_some_iff.1 he).1
theorem Pd{c:UInt8}{s:List UInt8}(hc:isQ c=true):(Dm (c::s)).2=true↔Cx (c::s)≠0:=by
 rw[Xu];unfold Cx
 simp only[List.drop_succ_cons,List.drop_zero]
 cases h:DG isQ s with
 |none=>simp
 |some i=>
  simp only[List.take_succ_cons,List.all_cons,Xv hc,Bool.true_and]
  obtain⟨h1,e,he,hq⟩:=Kj.1 h
  rw[Fg he,List.all_append]
  simp [Xv hq]
theorem Xw{c:UInt8}{s:List UInt8}(hc:isQ c=true)(h:Cx (c::s)≠0):(Dm (c::s)).1=(c::s).take (Cx (c::s))∧Cx (c::s)≤(c::s).length:=by
 rw[Xu];unfold Cx at h ⊢
 simp only[List.drop_succ_cons,List.drop_zero] at h ⊢
 cases hi:DG isQ s with
 |none=>rw[hi] at h;simp at h
 |some i=>
  rw[hi] at h
  simp only at h ⊢
  split at h
  ·rename_i hp
   have:=SW hi
   rw[if_pos hp]
   exact⟨rfl,by simp;omega⟩
  ·exact(h rfl).elim
theorem a4L{c:UInt8}(h:Cp c=true):Bq c=false:=by
 simp [Cp,Bq] at h ⊢;omega
theorem a4M(s:List UInt8):Cs s 1=match s with
 |[]=>false
 |c::_=>Cp c&&(s.all BN&&decide (s.length≤30)):=by
 cases s with
 |nil=>rfl
 |cons c t=>
  by_cases hc:Cp c=true
  ·simp only[Cs,Bb,hc,if_true,Bool.true_and]
   by_cases ha:(c::t).all BN=true
   ·have:=Pa.2 ha
    rw[this,ha];simp
   ·have hn:¬(c::t).takeWhile BN=c::t:=fun e=>ha (Pa.1 e)
    simp only[Bool.not_eq_true] at ha
    rw[ha]
    have:((c::t).takeWhile BN==c::t)=false:=by rw[beq_eq_false_iff_ne];exact hn
    rw[this];simp
  ·simp only[Bool.not_eq_true] at hc
   simp only[hc,Bool.false_and]
   rw[Bool.eq_false_iff]
   intro h
   simp only[Cs,Bb,hc,Bool.false_eq_true,if_false,Bool.and_eq_true,decide_eq_true_eq] at h
   have h1:=h.2.2.1
   repeat' split at h1
   all_goals simp at h1
theorem Xx(s:List UInt8):Cs s 2=(s.all Bq&&(decide (1≤s.length)&&decide (s.length≤12))):=by
 cases s with
 |nil=>rfl
 |cons c t=>
  by_cases hc:Cp c=true
  ·have hf:=a4L hc
   simp only[List.all_cons,hf,Bool.false_and]
   simp [Cs,Bb,hc]
  ·simp only[Bool.not_eq_true] at hc
   by_cases hf:Bq c=true
   ·simp only[Cs,Bb,hc,hf,Bool.false_eq_true,if_false,if_true]
    by_cases ha:(c::t).all Bq=true
    ·have:=Pa.2 ha
     rw[this,ha];simp
    ·have hn:¬(c::t).takeWhile Bq=c::t:=fun e=>ha (Pa.1 e)
     simp only[Bool.not_eq_true] at ha
     rw[ha]
     have:((c::t).takeWhile Bq==c::t)=false:=by rw[beq_eq_false_iff_ne];exact hn
     rw[this];simp
   ·simp only[Bool.not_eq_true] at hf
    simp only[List.all_cons,hf,Bool.false_and]
    rw[Bool.eq_false_iff]
    intro h
    simp only[Cs,Bb,hc,hf,Bool.false_eq_true,if_false,Bool.and_eq_true,decide_eq_true_eq] at h
    have h1:=h.2.2.1
    repeat' split at h1
    all_goals simp at h1
theorem SX(s:List UInt8):Cs s 3=match s with
 |[]=>false
 |c::_=>isQ c&&(decide (1<s.length)&&decide (Cx s=s.length)):=by
 cases s with
 |nil=>rfl
 |cons c t=>
  by_cases hq:isQ c=true
  ·have h39:c.toNat=39:=by simpa [isQ] using hq
   have hc:Cp c=false:=by simp [Cp];omega
   have hf:Bq c=false:=by simp [Bq];omega
   simp only[hq,Bool.true_and]
   simp only[Cs,Bb,hc,hf,h39,Bool.false_eq_true,if_false,if_true]
   by_cases h0:Cx (c::t)=0
   ·have h2:(Dm (c::t)).2=false:=by
     rw[Bool.eq_false_iff];intro h;exact(Pd hq).1 h h0
    rw[h2,h0];simp
   ·have h2:=(Pd hq).2 h0
    obtain⟨h3,h4⟩:=Xw hq h0
    have h5:1<Cx (c::t):=by
     unfold Cx at h0 ⊢
     split at h0
     ·exact(h0 rfl).elim
     ·split at h0
      ·rename_i hp;rw[if_pos hp];omega
      ·exact(h0 rfl).elim
    rw[h2,h3]
    rw[Bool.eq_iff_iff]
    simp only[Bool.and_eq_true,Bool.not_eq_true',decide_eq_true_eq,beq_iff_eq,List.length_take]
    constructor
    ·rintro⟨_,_,_,e,hl⟩
     have:=congrArg List.length e
     simp only[List.length_take] at this
     constructor<;>omega
    ·rintro⟨h6,h7⟩
     refine⟨by simp,trivial,trivial,?_,?_⟩
     ·rw[h7,List.take_length]
     ·omega
  ·simp only[Bool.not_eq_true] at hq
   have h39:¬c.toNat=39:=by simpa [isQ] using hq
   simp only[hq,Bool.false_and]
   rw[Bool.eq_false_iff]
   intro h
   simp only[Cs,Bb,h39,if_false,Bool.and_eq_true,decide_eq_true_eq] at h
   have h1:=h.2.2.1
   repeat' split at h1
   all_goals simp at h1
theorem SY(s:List UInt8):Cs s 5=(decide (1<s.length)&&(decide (Co s=s.length)&&(CC s==s))):=by
 cases s with
 |nil=>rfl
 |cons c t=>
  by_cases hp:(c::t).take 2=[47,47]
  ·have h47:c=47:=by
    have:=congrArg (fun l:List UInt8=>l.head?) hp
    simpa using this
   subst h47
   have hl:1<(47::t).length:=by
    have:=congrArg List.length hp
    simp only[List.length_take,List.length_cons,List.length_nil] at this ⊢;omega
   have hc:Cp 47=false:=by decide
   have hf:Bq 47=false:=by decide
   have hq:¬(47:UInt8).toNat=39:=by decide
   simp only[Cs,Bb,hc,hf,hq,hp,Bool.false_eq_true,if_false,if_true,Co]
   rw[Bool.eq_iff_iff]
   simp only[Bool.and_eq_true,Bool.not_eq_true',decide_eq_true_eq,beq_iff_eq,beq_eq_false_iff_ne]
   constructor
   ·rintro⟨_,h1,_,h2,h3⟩
    rw[if_pos h1]
    have h3:((47::t).takeWhile Cf).length=(47::t).length:=by omega
    refine⟨hl,h3,?_⟩
    have e:(47::t).takeWhile Cf=47::t:=by
     have:=List.takeWhile_prefix (p:=Cf) (l:=47::t)
     exact List.IsPrefix.eq_of_length this h3
    rw[e] at h2;exact h2
   ·rintro⟨_,h1,h2⟩
    split at h1
    ·rename_i h3
     have e:(47::t).takeWhile Cf=47::t:=by
      have:=List.takeWhile_prefix (p:=Cf) (l:=47::t)
      exact List.IsPrefix.eq_of_length this h1
     rw[e] at h3 ⊢
     exact⟨by simp,h3,trivial,h2,rfl⟩
    ·simp at h1
  ·have h0:Co (c::t)=0:=by simp only[Co,if_neg hp]
   rw[h0]
   have:decide (0=(c::t).length)=false:=by simp
   rw[this]
   simp only[Bool.false_and,Bool.and_false]
   rw[Bool.eq_false_iff]
   intro h
   simp only[Cs,Bb,hp,if_false,Bool.and_eq_true,decide_eq_true_eq] at h
   have h1:=h.2.2.1
   repeat' split at h1
   all_goals simp at h1
theorem a4N{s:List UInt8}{m:Nat}{e:UInt8}(h:∀e∈(s.drop 1).take m,isQ e=false∧Cg e=true)(he:(s.drop 1)[m]? =some e)(hq:isQ e=true):Cx s=m+2:=by
 unfold Cx
 rw[Kj.2 ⟨fun e he=>(h e he).1,e,he,hq⟩]
 simp only
 rw[if_pos (List.all_eq_true.2 fun e he=>(h e he).2)]
theorem a4O{s:List UInt8}{m:Nat}{e:UInt8}(h:∀e∈(s.drop 1).take m,isQ e=false∧Cg e=true)(he:(s.drop 1)[m]? =some e)(hq:isQ e=false)(hp:Cg e=false):Cx s=0:=by
 unfold Cx
 cases hi:DG isQ (s.drop 1) with
 |none=>rfl
 |some i=>
  simp only
  obtain⟨h1,d,hd,hdq⟩:=Kj.1 hi
  rw[if_neg]
  intro hall
  have hmi:m<i:=by
   rcases Nat.lt_trichotomy m i with h'|h'|h'
   ·exact h'
   ·subst h';rw[he] at hd;cases hd;rw[hq] at hdq;cases hdq
   ·have:d∈(s.drop 1).take m:=by
     rw[List.mem_take_iff_getElem]
     obtain⟨a,b⟩:=List.getElem?_eq_some_iff.1 hd
     exact⟨i,by omega,b⟩
    rw[(h d this).1] at hdq;cases hdq
  have:e∈(s.drop 1).take i:=by
   rw[List.mem_take_iff_getElem]
   obtain⟨a,b⟩:=List.getElem?_eq_some_iff.1 he
   exact⟨m,by omega,b⟩
  rw[List.all_eq_true.1 hall e this] at hp;cases hp
theorem a4P{s:List UInt8}{m:Nat}(h:∀e∈(s.drop 1).take m,isQ e=false∧Cg e=true)(hl:(s.drop 1).length≤m):Cx s=0:=by
 unfold Cx
 rw[List.take_of_length_le hl] at h
 rw[SO.2 fun e he=>(h e he).1]
theorem Xy{s:List UInt8}{m:Nat}(hp:s.take 2=[47,47])(h:∀e∈s.take m,Cf e=true∧Cg e=true)(he:s.length≤m∨∃e,s[m]? =some e∧Cf e=false)(hm:m≤s.length):Co s=m:=by
 have h1:=Iw (fun e he=>(h e he).1) he
 unfold Co
 rw[if_pos hp,←h1,if_pos (List.all_eq_true.2 fun e he=>(h e he).2),List.length_take];omega
theorem a4Q{s:List UInt8}{m:Nat}{e:UInt8}(hp:s.take 2=[47,47])(h:∀e∈s.take m,Cf e=true∧Cg e=true)(he:s[m]? =some e)(hn:Cf e=true)(hq:Cg e=false):Co s=0:=by
 unfold Co
 rw[if_pos hp,if_neg]
 intro hall
 have:e∈s.takeWhile Cf:=by
  have h2:s=s.take m++e::s.drop (m+1):=by rw[←Js he,List.take_append_drop]
  rw[h2,List.takeWhile_append_of_pos (fun e he=>(h e he).1),List.takeWhile_cons,if_pos hn]
  simp
 rw[List.all_eq_true.1 hall e this] at hq;cases hq
theorem Xz{s:List UInt8}(hp:s.take 2≠[47,47]):Co s=0:=by
 unfold Co;rw[if_neg hp]
theorem SZ{s:List UInt8}{a n:Int}(h0:0≤a)(h:a+1≤n):((s.drop a.toNat).drop 1)[(n-a-1).toNat]? =s[n.toNat]? :=by
 rw[List.getElem?_drop,List.getElem?_drop];congr 1;omega
theorem Np{s:List UInt8}{a n:Int}(h0:0≤a)(h:a≤n):(s.drop a.toNat)[(n-a).toNat]? =s[n.toNat]? :=by
 rw[List.getElem?_drop];congr 1;omega
theorem Pe{p:UInt8→Prop}{s:List UInt8}{m k:Nat}{e:UInt8}(h:∀e∈s.take m,p e)(he:s[m]? =some e)(hp:p e)(hk:k=m+1):∀e∈s.take k,p e:=by
 subst hk
 rw[Fg he];intro x hx
 rcases List.mem_append.1 hx with hx|hx
 ·exact h x hx
 ·simp at hx;subst hx;exact hp
def qI(x:List UInt8×Int)(i:Int):Prop:=x.2+1≤i∧(i≤x.1.length∨i=x.2+1)∧∀e∈((x.1.drop x.2.toNat).drop 1).take (i-x.2-1).toNat,isQ e=false∧Cg e=true
theorem a4R{x:List UInt8×Int}:qI x (x.2+1):=by
 refine⟨by omega,.inr rfl,fun e he=> ?_⟩
 rw[show(x.2+1-x.2-1).toNat=0 by omega] at he;simp at he
theorem a4S{x:List UInt8×Int}{i:Int}(h:qI x i):x.2+1≤i∧(i≤x.1.length∨i=x.2+1):=⟨h.1,h.2.1⟩
theorem a4T{x:List UInt8×Int}{i:Int}{c:UInt8}(h0:0≤x.2)(h:qI x i)(hq:(c.toNat:Int)=39)(hc:x.1[i.toNat]? =some c):i+1-x.2=Cx (x.1.drop x.2.toNat):=by
 have:=h.1
 rw[a4N h.2.2 (by rw[SZ h0 h.1];exact hc) (by simp [isQ];omega)];omega
theorem a4U{x:List UInt8×Int}{i:Int}{c d:UInt8}(h0:0≤x.2)(h:qI x i)(hq:(c.toNat:Int)≠39)(hc:x.1[i.toNat]? =some c)(hp:Cg d=false)(hd:x.1[i.toNat]? =some d):0=(Cx (x.1.drop x.2.toNat):Int):=by
 rw[hc] at hd;cases hd
 rw[a4O h.2.2 (by rw[SZ h0 h.1];exact hc) (by simp [isQ];omega) hp];rfl
theorem a4V{x:List UInt8×Int}{i:Int}{c d:UInt8}(h0:0≤x.2)(h:qI x i)(hl:i<x.1.length)(hq:(c.toNat:Int)≠39)(hc:x.1[i.toNat]? =some c)(hp:Cg d=true)(hd:x.1[i.toNat]? =some d):qI x (i+1):=by
 rw[hc] at hd;cases hd
 have:=h.1
 exact⟨by omega,.inl (by omega),Pe (p:=fun e=>isQ e=false∧Cg e=true) h.2.2 (by rw[SZ h0 h.1];exact hc) ⟨by simp [isQ];omega,hp⟩ (by omega)⟩
theorem a4W{x:List UInt8×Int}{i:Int}(h0:0≤x.2)(h:qI x i)(hl:¬i<x.1.length):0=(Cx (x.1.drop x.2.toNat):Int):=by
 rw[a4P h.2.2 (by simp;omega)];rfl
def nI(x:List UInt8×Int)(i:Int):Prop:=(x.2≤i∧i≤x.1.length)∧(x.1.drop x.2.toNat).take 2=[47,47]∧∀e∈(x.1.drop x.2.toNat).take (i-x.2).toNat,Cf e=true∧Cg e=true
theorem XA{x:List UInt8×Int}(h0:0≤x.2):List.drop x.2.toNat (List.take (x.2+2).toNat x.1)=(x.1.drop x.2.toNat).take 2:=by
 rw[List.drop_take];congr 1;omega
theorem a4X{x:List UInt8×Int}(h0:0≤x.2)(hl:x.2≤x.1.length)(h:(List.drop x.2.toNat (List.take (x.2+2).toNat x.1)==[47,47])=true):nI x x.2:=by
 rw[XA h0] at h
 refine⟨⟨by omega,hl⟩,by simpa using h,fun e he=> ?_⟩
 rw[show(x.2-x.2).toNat=0 by omega] at he;simp at he
theorem a4Y{x:List UInt8×Int}(h0:0≤x.2)(h:(List.drop x.2.toNat (List.take (x.2+2).toNat x.1)==[47,47])=false):0=(Co (x.1.drop x.2.toNat):Int):=by
 rw[XA h0] at h
 rw[Xz (by simpa using h)];rfl
theorem a4Z{x:List UInt8×Int}(h0:0≤x.2)(h:x.2+2>x.1.length):0=(Co (x.1.drop x.2.toNat):Int):=by
 rw[Xz]
 ·rfl
 ·intro e;have:=congrArg List.length e;simp at this;omega
theorem a5a{x:List UInt8×Int}{i:Int}{c d:UInt8}(h0:0≤x.2)(h:nI x i)(hn:(c.toNat:Int)≠10)(hc:x.1[i.toNat]? =some c)(hp:Cg d=false)(hd:x.1[i.toNat]? =some d):0=(Co (x.1.drop x.2.toNat):Int):=by
 rw[hc] at hd;cases hd
 rw[a4Q h.2.1 h.2.2 (by rw[Np h0 h.1.1];exact hc) (by simp [Cf];omega) hp];rfl
theorem a5b{x:List UInt8×Int}{i:Int}{c d:UInt8}(h0:0≤x.2)(h:nI x i)(hl:i<x.1.length)(hn:(c.toNat:Int)≠10)(hc:x.1[i.toNat]? =some c)(hp:Cg d=true)(hd:x.1[i.toNat]? =some d):nI x (i+1):=by
 rw[hc] at hd;cases hd
 have:=h.1
 exact⟨by omega,h.2.1,Pe (p:=fun e=>Cf e=true∧Cg e=true) h.2.2 (by rw[Np h0 h.1.1];exact hc) ⟨by simp [Cf];omega,hp⟩ (by omega)⟩
theorem a5c{x:List UInt8×Int}{i:Int}{c:UInt8}(h0:0≤x.2)(h:nI x i)(hn:(c.toNat:Int)=10)(hc:x.1[i.toNat]? =some c):i-x.2=(Co (x.1.drop x.2.toNat):Int):=by
 have:=h.1
 have hl:=(List.getElem?_eq_some_iff.1 hc).1
 rw[Xy h.2.1 h.2.2 (.inr ⟨c,by rw[Np h0 h.1.1];exact hc,by simp [Cf];omega⟩) (by simp;omega)];omega
theorem a5d{x:List UInt8×Int}{i:Int}(h0:0≤x.2)(h:nI x i)(hl:¬i<x.1.length):i-x.2=(Co (x.1.drop x.2.toNat):Int):=by
 have:=h.1
 rw[Xy h.2.1 h.2.2 (.inl (by simp;omega)) (by simp;omega)];omega
def nmI(x:List UInt8)(i:Int):Prop:=(0≤i∧i≤x.length)∧(inn x.length 1 30=true∧Cp (x.headD 0)=true∧kw x=false)∧∀e∈x.take i.toNat,BN e=true
theorem Ta{x:List UInt8}:DH x=true↔(inn x.length 1 30=true∧Cp (x.headD 0)=true∧kw x=false)∧x.all BN=true:=by
 unfold DH
 rw[a4M]
 cases x with
 |nil=>simp [inn]
 |cons c t=>
  simp only[inn,Bool.and_eq_true,decide_eq_true_eq,Bool.not_eq_true',List.headD_cons,List.length_cons]
  constructor
  ·rintro⟨⟨h1,h2,h3⟩,h4⟩;exact⟨⟨⟨by omega,by omega⟩,h1,h4⟩,h2⟩
  ·rintro⟨⟨⟨h1,h2⟩,h3,h4⟩,h5⟩;exact⟨⟨h3,h5,by omega⟩,h4⟩
theorem XB{x:List UInt8}{c:UInt8}(h:x[0]? =some c):x.headD 0=c:=by cases x<;>simp_all
theorem Tb{x:List UInt8}(h:¬(inn x.length 1 30=true∧Cp (x.headD 0)=true∧kw x=false)):false=DH x:=by
 symm;rw[Bool.eq_false_iff];intro hn;exact h (Ta.1 hn).1
theorem a5e{x:List UInt8}(h:inn x.length 1 30=true)(h1:Cp (x.headD 0)=true)(h2:kw x=false):nmI x 0:=⟨by omega,⟨h,h1,h2⟩,fun e he=>by simp at he⟩
theorem XC{x:List UInt8}{i:Int}{c:UInt8}(h:nmI x i)(hc:x[i.toNat]? =some c)(hl:i<x.length)(hp:BN c=true):nmI x (i+1):=by
 have:=h.1
 exact⟨by omega,h.2.1,Pe (p:=fun e=>BN e=true) h.2.2 hc hp (by omega)⟩
theorem a5f{x:List UInt8}{i:Int}{c:UInt8}(h:nmI x i)(hc:x[i.toNat]? =some c)(hp:BN c=false):false=DH x:=by
 symm;rw[Bool.eq_false_iff];intro hn
 have:=(Ta.1 hn).2
 rw[OZ hc hp] at this;cases this
theorem a5g{x:List UInt8}{i:Int}(h:nmI x i)(hl:¬i<x.length):true=DH x:=by
 symm;rw[Ta];exact⟨h.2.1,SN h.2.2 (by omega)⟩
theorem a5h{x:List UInt8}{c:UInt8}(h1:(x.length:Int)>1)(hq:(c.toNat:Int)=39)(h:x[0]? =some c):((Cx x:Int)==(x.length:Int))=Cs x 3:=by
 cases x with
 |nil=>cases h
 |cons d t=>
  have:d=c:=by simpa using h
  subst this
  have e:isQ d=true:=by simp [isQ];omega
  rw[SX,Bool.eq_iff_iff]
  simp [e] at h1 ⊢;omega
theorem a5i{x:List UInt8}{c:UInt8}(hq:(c.toNat:Int)≠39)(h:x[0]? =some c):false=Cs x 3:=by
 cases x with
 |nil=>cases h
 |cons d t=>
  have:d=c:=by simpa using h
  subst this
  have e:isQ d=false:=by simp [isQ];omega
  rw[SX];simp [e]
theorem a5j{x:List UInt8}(h1:¬(x.length:Int)>1):false=Cs x 3:=by
 rw[SX]
 cases x with
 |nil=>rfl
 |cons d t=>
  have:decide (1<(d::t).length)=false:=decide_eq_false (by omega)
  simp only[this,Bool.false_and,Bool.and_false]
theorem a5k{x:List UInt8}(h1:(x.length:Int)>1)(h2:(Co x:Int)=x.length):(CC x==x)=Cs x 5:=by
 rw[SY]
 have e1:decide (1<x.length)=true:=decide_eq_true (by omega)
 have e2:decide (Co x=x.length)=true:=decide_eq_true (by omega)
 simp [e1,e2]
theorem a5l{x:List UInt8}(h2:(Co x:Int)≠x.length):false=Cs x 5:=by
 rw[SY]
 have e2:decide (Co x=x.length)=false:=decide_eq_false (by omega)
 simp only[e2,Bool.false_and,Bool.and_false]
theorem a5m{x:List UInt8}(h1:¬(x.length:Int)>1):false=Cs x 5:=by
 rw[SY]
 have e2:decide (1<x.length)=false:=decide_eq_false (by omega)
 simp only[e2,Bool.false_and]
end Go.My
end
section
set_option linter.unusedVariables false
set_option linter.unusedSimpArgs false
namespace Go.My
open Go.Eng Go.Proofs
variable {G:GInv}
def Fk:Sig:= {X:=List UInt8,args:=fun x=>[.str x],pre:=fun x=>True,Y:=Unit,post:=fun x y=>True,res:=fun x y=> .bool (kw x),outs:=fun x y=>[.top],keep:=false}
theorem XD:Aq G Tryz.prog 160 Fk:=
 vcFun_okP [] [] false (fun x=>[]) Tryz.func160 rfl (by decide) trivial (fun(x:List UInt8)=>(∀(y:Unit),True→True∧True∧True)∧Aa (x== #[(99:UInt8),(108:UInt8),(97:UInt8),(115:UInt8),(115:UInt8)].toList) (rA Fk x [.bool true,.top]) (Aa (x== #[(118:UInt8),(97:UInt8),(114:UInt8)].toList) (rA Fk x [.bool true,.top]) (Aa (x== #[(105:UInt8),(102:UInt8)].toList) (rA Fk x [.bool true,.top]) (Aa (x== #[(101:UInt8),(108:UInt8),(115:UInt8),(101:UInt8)].toList) (rA Fk x [.bool true,.top]) (Aa (x== #[(119:UInt8),(104:UInt8),(105:UInt8),(108:UInt8),(101:UInt8)].toList) (rA Fk x [.bool true,.top]) (Aa (x== #[(114:UInt8),(101:UInt8),(116:UInt8),(117:UInt8),(114:UInt8),(110:UInt8)].toList) (rA Fk x [.bool true,.top]) (rA Fk x [.bool false,.top]))))))) (fun x=>by kernel_rfl) fun(x:List UInt8) (hx:True)=>(by
 dsimp only[rA,Fk,Av,Az]
 (repeat' first|(with_reducible first|rfl|exact True.intro|apply AK|apply And.intro|((first|apply AA|apply AI|apply AB|apply AJ)<;>intro _))|(apply Ax<;>intro _)|apply AH|refine Af () ?_ ?_|((first|apply AO|apply AN|apply AM|apply AL|apply AG|apply AF|apply AE|apply AD|apply AC)<;>try dsimp only)|apply Af|(refine Prod.forall.2 ?_;intro _;try dsimp only)|(intro _;try dsimp only))<;>(try dsimp only at*)<;>(try simp only[AR,List.length_cons,List.length_nil])<;>(try omega)
 all_goals simp [kw, *])
def FF:Sig:= {X:=List UInt8,args:=fun x=>[.str x],pre:=fun x=>True,Y:=Unit,post:=fun x y=>True,res:=fun x y=> .bool (kw x),outs:=fun x y=>[.top],keep:=false}
theorem Tc:Aq G Tryz.prog 105 FF:=
 vcFun_okP [] [] false (fun x=>[]) Tryz.func105 rfl (by decide) trivial (fun(x:List UInt8)=>(∀(y:Unit),True→True∧True∧True)∧Aa (x== #[(99:UInt8),(108:UInt8),(97:UInt8),(115:UInt8),(115:UInt8)].toList) (rA FF x [.bool true,.top]) (Aa (x== #[(118:UInt8),(97:UInt8),(114:UInt8)].toList) (rA FF x [.bool true,.top]) (Aa (x== #[(105:UInt8),(102:UInt8)].toList) (rA FF x [.bool true,.top]) (Aa (x== #[(101:UInt8),(108:UInt8),(115:UInt8),(101:UInt8)].toList) (rA FF x [.bool true,.top]) (Aa (x== #[(119:UInt8),(104:UInt8),(105:UInt8),(108:UInt8),(101:UInt8)].toList) (rA FF x [.bool true,.top]) (Aa (x== #[(114:UInt8),(101:UInt8),(116:UInt8),(117:UInt8),(114:UInt8),(110:UInt8)].toList) (rA FF x [.bool true,.top]) (rA FF x [.bool false,.top]))))))) (fun x=>by kernel_rfl) fun(x:List UInt8) (hx:True)=>(by
 dsimp only[rA,FF,Av,Az]
 (repeat' first|(with_reducible first|rfl|exact True.intro|apply AK|apply And.intro|((first|apply AA|apply AI|apply AB|apply AJ)<;>intro _))|(apply Ax<;>intro _)|apply AH|refine Af () ?_ ?_|((first|apply AO|apply AN|apply AM|apply AL|apply AG|apply AF|apply AE|apply AD|apply AC)<;>try dsimp only)|apply Af|(refine Prod.forall.2 ?_;intro _;try dsimp only)|(intro _;try dsimp only))<;>(try dsimp only at*)<;>(try simp only[AR,List.length_cons,List.length_nil])<;>(try omega)
 all_goals simp [kw, *])
theorem a5n{c:UInt8}:decide (CD mk1 c≥0)=mk1.elem c:=by
 unfold CD
 cases h:DG (fun d=>decide (d.toNat=c.toNat)) mk1 with
 |none=>
  have:=SO.1 h
  symm
  simp only[Int.reduceNeg,ge_iff_le,Int.reduceLE,decide_false]
  rw[Bool.eq_false_iff]
  intro h2
  have h3:=this c (by simpa using h2)
  simp at h3
 |some i=>
  obtain⟨_,e,he,hq⟩:=Kj.1 h
  have h3:e=c:=by simpa [UInt8.toNat_inj] using hq
  subst h3
  have:=List.mem_of_getElem? he
  simp [this]
def GG:Sig:= {X:=List UInt8,args:=fun x=>[.str x],pre:=fun x=>x.length<2^63,Y:=Unit,post:=fun x y=>True,res:=fun x y=> .bool (CB x),outs:=fun x y=>[.top],keep:=false}
theorem a5o:Aq G Tryz.prog 91 GG:=
 vcFun_okP [(114,0,LR)] [] false (fun x=>[]) Tryz.func91 rfl (by decide) ⟨a4u,trivial⟩ (fun(x:List UInt8)=>(∀(y:Unit),True→True∧True∧True)∧Aa (x== #[(38:UInt8),(38:UInt8)].toList) (rA GG x [.bool true,.top]) (Aa (x== #[(124:UInt8),(124:UInt8)].toList) (rA GG x [.bool true,.top]) (Aa (x== #[(61:UInt8),(61:UInt8)].toList) (rA GG x [.bool true,.top]) (Aa (x== #[(61:UInt8),(62:UInt8)].toList) (rA GG x [.bool true,.top]) (Aa (x== #[(46:UInt8),(46:UInt8)].toList) (rA GG x [.bool true,.top]) (Aa ((↑(List.length x):Int)==(1:Int)) (cA LR [.str #[(40:UInt8),(41:UInt8),(123:UInt8),(125:UInt8),(91:UInt8),(93:UInt8),(59:UInt8),(44:UInt8),(46:UInt8),(61:UInt8),(43:UInt8),(45:UInt8),(42:UInt8),(60:UInt8),(63:UInt8),(58:UInt8)].toList,.str x] fun x_1 y=>rA GG x [.bool (decide (CD x_1.1 (List.headD x_1.2 (0:UInt8))≥(0:Int))),.top]) (rA GG x [.bool false,.top]))))))) (fun x=>by kernel_rfl) fun(x:List UInt8) (hx:x.length<2^63)=>(by
 dsimp only[cA,rA,GG,LR,Av,Az,mvL,lnL,mvE,lnE]
 (repeat' first|(with_reducible first|rfl|exact True.intro|apply AK|apply And.intro|((first|apply AA|apply AI|apply AB|apply AJ)<;>intro _))|(apply Ax<;>intro _)|apply AH|refine Af () ?_ ?_|((first|apply AO|apply AN|apply AM|apply AL|apply AG|apply AF|apply AE|apply AD|apply AC)<;>try dsimp only)|apply Af|(refine Prod.forall.2 ?_;intro _;try dsimp only)|(intro _;try dsimp only))<;>(try dsimp only at*)<;>(try simp only[AR,List.length_cons,List.length_nil])<;>(try omega)
 ·rename_i h;simp [CB,mk2,h]
 ·rename_i h;simp [CB,mk2,h]
 ·rename_i h;simp [CB,mk2,h]
 ·rename_i h;simp [CB,mk2,h]
 ·rename_i h;simp [CB,mk2,h]
 ·rename_i h1 h2 h3 h4 h5 h _ _
  have h:x.length=1:=by omega
  match x,h with
  |[c],_=>exact a5n.trans (by simp [CB,mk2])
 ·rename_i h1 h2 h3 h4 h5 h
  symm;simp only[CB,mk2,Bool.or_eq_false_iff,beq_eq_false_iff_ne]
  refine⟨⟨h1,h2,h3,h4,h5⟩,?_⟩
  split
  ·simp at h
  ·rfl)
def Kq:Sig:= {X:=List UInt8,args:=fun x=>[.str x,.int .u8 32],pre:=fun x=>x.length<2^63,Y:=Unit,post:=fun x y=>True,res:=fun x y=> .str (CC x),outs:=fun x y=>[.top,.top],keep:=false}
def Pf(x:List UInt8):LS:= {ι:=List UInt8,inv:=fun s=>s.length≤x.length∧CC s=CC x,regs:=fun s=>[(0,.str s),(1,.int .u8 32)],als:=[],meas:=fun s=>s.length}
theorem a5p:Aq G Tryz.prog 146 Kq:=
 vcFun_okP [] [] false (fun x=>[(1,Pf x)]) Tryz.func146 rfl (by decide) trivial (fun(x:List UInt8)=>(∀(y:Unit),True→True∧True∧True∧True)∧eA (Pf x) [.str x,AV.int IntKind.u8 (32:Int)]∧∀(i:List UInt8),List.length i≤List.length x∧CC i=CC x→Aa (decide ((↑(List.length i):Int)>(0:Int))) (inR IntKind.i64 ((↑(List.length i):Int)-(1:Int))∧((0:Int)≤(↑(List.length i):Int)-(1:Int)∧(↑(List.length i):Int)-(1:Int)<(↑(List.length i):Int))∧∀(c:UInt8),i[Int.toNat ((↑(List.length i):Int)-(1:Int))]? =some c→Aa ((↑(UInt8.toNat c):Int)==(32:Int)) (inR IntKind.i64 ((↑(List.length i):Int)-(1:Int))∧((0:Int)≤(0:Int)∧(0:Int)≤(↑(List.length i):Int)-(1:Int)∧(↑(List.length i):Int)-(1:Int)≤(↑(List.length i):Int))∧eN (Pf x) i [.str (List.take (Int.toNat ((↑(List.length i):Int)-(1:Int))) i),AV.int IntKind.u8 (32:Int)]) (rA Kq x [.str i,.top,.top])) (rA Kq x [.str i,.top,.top])) (fun x=>by kernel_rfl) fun(x:List UInt8) (hx:x.length<2^63)=>(by
 dsimp only[eA,eN,Pf,rA,Kq,Av,Az,BA]
 (repeat' first|(with_reducible first|rfl|exact True.intro|apply AK|apply And.intro|((first|apply AA|apply AI|apply AB|apply AJ)<;>intro _))|(apply Ax<;>intro _)|apply AH|refine Af () ?_ ?_|((first|apply AO|apply AN|apply AM|apply AL|apply AG|apply AF|apply AE|apply AD|apply AC)<;>try dsimp only)|apply Af|(refine Prod.forall.2 ?_;intro _;try dsimp only)|(intro _;try dsimp only))<;>(try dsimp only at*)<;>(try simp only[AR,List.length_cons,List.length_nil])<;>(try omega)
 ·rename_i s hs h c hc h2;simp;omega
 ·rename_i s hs h c hc h2;simp;omega
 ·rename_i s hs h c hc h2
  have e:((s.length:Int)-1).toNat=s.length-1:=by omega
  rw[e] at hc ⊢
  rw[←hs.2,Xs hc,if_pos (by omega)]
 ·rename_i s hs h c hc h2
  have e:((s.length:Int)-1).toNat=s.length-1:=by omega
  rw[e] at hc
  rw[←hs.2,Xs hc,if_neg (by omega)]
 ·rename_i s hs h
  have:s=[]:=List.length_eq_zero_iff.1 (by omega)
  rw[←hs.2,this];rfl)
def Kr:Sig:= {X:=List UInt8,args:=fun x=>[.str x,.str [32]],pre:=fun x=>x.length<2^63,Y:=Unit,post:=fun x y=>True,res:=fun x y=> .str (CC x),outs:=fun x y=>[.top,.top],keep:=false}
theorem a5q:Aq G Tryz.prog 113 Kr:=
 vcFun_okP [(146,0,Kq)] [] false (fun x=>[]) Tryz.func113 rfl (by decide) ⟨a5p,trivial⟩ (fun(x:List UInt8)=>(∀(y:Unit),True→True∧True∧True∧True)∧Aa (x== #[].toList) (rA Kr x [.str x,.top,.top]) (((0:Int)≤(0:Int)∧(0:Int)<(↑(1:Nat):Int))∧∀(c:UInt8),[(32:UInt8)][(0:Nat)]? =some c→Aa (decide ((↑(UInt8.toNat c):Int)<(128:Int))) (((0:Int)≤(0:Int)∧(0:Int)<(↑(1:Nat):Int))∧∀(c:UInt8),[(32:UInt8)][(0:Nat)]? =some c→cA Kq [.str x,AV.int IntKind.u8 (↑(UInt8.toNat c):Int)] fun x_1 y=>rA Kr x [.str (CC x_1),.top,.top]) False)) (fun x=>by kernel_rfl) fun(x:List UInt8) (hx:x.length<2^63)=>(by
 dsimp only[cA,rA,Kq,Kr,Av,Az,mvL,lnL,mvE,lnE]
 refine⟨fun _ _=>⟨trivial,trivial,trivial,trivial⟩,AB (fun h=>⟨(),trivial,by rw[h];rfl,trivial⟩) (fun h=>⟨by omega,fun c hc=> ?_⟩)⟩
 have hc:32=c:=by simpa using hc
 subst hc
 refine AA (fun _=>⟨by omega,fun c hc=> ?_⟩) (fun h=>(h (by decide)).elim)
 have hc:32=c:=by simpa using hc
 subst hc
 exact⟨x,hx,rfl,rfl,fun _ _=>⟨(),trivial,rfl,trivial⟩⟩)
def LW:Sig:= {X:=List UInt8,args:=fun x=>[.str x],pre:=fun x=>x.length<2^63,Y:=Unit,post:=fun x y=>True,res:=fun x y=> .str (CC x),outs:=fun x y=>[.top],keep:=false}
theorem a5r:Aq G Tryz.prog 89 LW:=
 vcFun_okP [(113,0,Kr)] [] false (fun x=>[]) Tryz.func89 rfl (by decide) ⟨a5q,trivial⟩ (fun(x:List UInt8)=>(∀(y:Unit),True→True∧True∧True)∧cA Kr [.str x,.str #[(32:UInt8)].toList] fun x_1 y=>rA LW x [.str (CC x_1),.top]) (fun x=>by kernel_rfl) fun(x:List UInt8) (hx:x.length<2^63)=>(by
 dsimp only[cA,rA,LW,Kr,Av,Az,mvL,lnL,mvE,lnE]
 (repeat' first|(with_reducible first|rfl|exact True.intro|apply AK|apply And.intro|((first|apply AA|apply AI|apply AB|apply AJ)<;>intro _))|(apply Ax<;>intro _)|apply AH|refine Af () ?_ ?_|((first|apply AO|apply AN|apply AM|apply AL|apply AG|apply AF|apply AE|apply AD|apply AC)<;>try dsimp only)|apply Af|(refine Prod.forall.2 ?_;intro _;try dsimp only)|(intro _;try dsimp only))<;>(try dsimp only at*)<;>(try simp only[AR,List.length_cons,List.length_nil])<;>(try omega))
def HW:Sig:= {X:=List UInt8,args:=fun x=>[.str x],pre:=fun x=>x.length<2^63,Y:=Unit,post:=fun x y=>True,res:=fun x y=> .str (CC x),outs:=fun x y=>[.top],keep:=false}
def Pg(x:List UInt8):LS:= {ι:=Int,inv:=fun i=>0≤i∧i≤x.length∧CC (x.take i.toNat)=CC x,regs:=fun i=>[(0,.str x),(3,.int .i64 i)],als:=[],meas:=fun i=>i.toNat}
theorem XE:Aq G Tryz.prog 77 HW:=
 vcFun_okP [] [] false (fun x=>[(2,Pg x)]) Tryz.func77 rfl (by decide) trivial (fun(x:List UInt8)=>(∀(y:Unit),True→True∧True∧True)∧eA (Pg x) [.str x,.int .i64 (↑(List.length x):Int)]∧∀(i:Int),(0:Int)≤i∧i≤(↑(List.length x):Int)∧CC (List.take (Int.toNat i) x)=CC x→Aa (decide (i>(0:Int))) (inR IntKind.i64 (i-(1:Int))∧((0:Int)≤i-(1:Int)∧i-(1:Int)<(↑(List.length x):Int))∧∀(c:UInt8),x[Int.toNat (i-(1:Int))]? =some c→Aa ((↑(UInt8.toNat c):Int)==(32:Int)) (inR IntKind.i64 (i-(1:Int))∧eN (Pg x) i [.str x,.int .i64 (i-(1:Int))]) (((0:Int)≤(0:Int)∧(0:Int)≤i∧i≤(↑(List.length x):Int))∧rA HW x [.str (List.take (Int.toNat i) x),.top])) (((0:Int)≤(0:Int)∧(0:Int)≤i∧i≤(↑(List.length x):Int))∧rA HW x [.str (List.take (Int.toNat i) x),.top])) (fun x=>by kernel_rfl) fun(x:List UInt8) (hx:x.length<2^63)=>(by
 dsimp only[eA,eN,Pg,rA,HW,Av,Az,BA]
 (repeat' first|(with_reducible first|rfl|exact True.intro|apply AK|apply And.intro|((first|apply AA|apply AI|apply AB|apply AJ)<;>intro _))|(apply Ax<;>intro _)|apply AH|refine Af () ?_ ?_|((first|apply AO|apply AN|apply AM|apply AL|apply AG|apply AF|apply AE|apply AD|apply AC)<;>try dsimp only)|apply Af|(refine Prod.forall.2 ?_;intro _;try dsimp only)|(intro _;try dsimp only))<;>(try dsimp only at*)<;>(try simp only[AR,List.length_cons,List.length_nil])<;>(try omega)
 ·simp
 ·rename_i i hi h c hc h2
  rw[←hi.2.2,show i.toNat=(i-1).toNat+1 by omega,Xt hc,if_pos (by omega)]
 ·rename_i i hi h c hc h2
  have:=hi.2.2
  rw[show i.toNat=(i-1).toNat+1 by omega,Xt hc,if_neg (by omega)] at this
  rw[←this,show i.toNat=(i-1).toNat+1 by omega]
 ·rename_i i hi h
  rw[←hi.2.2,show i.toNat=0 by omega];rfl)
theorem a5s(s:List UInt8)(c:UInt8):CD s c= -1∨(0≤CD s c∧CD s c<s.length):=by
 unfold CD
 split
 ·exact .inl rfl
 ·rename_i i h;have:=SW h;omega
theorem XF{s:List UInt8}:Dm s=if CD (s.drop 1) 39<0 then([],false) else(s.take (CD (s.drop 1) 39+2).toNat,(s.take (CD (s.drop 1) 39+2).toNat).all Cg):=by
 unfold Dm CD
 have e:(fun c:UInt8=>decide (c.toNat=39))=fun d:UInt8=>decide (d.toNat=(39:UInt8).toNat):=rfl
 rw[e]
 cases DG (fun d:UInt8=>decide (d.toNat=(39:UInt8).toNat)) (s.drop 1) with
 |none=>simp
 |some i=>
  have h1:¬(i:Int)<0:=by omega
  have h2:((i:Int)+2).toNat=i+2:=by omega
  simp only[if_neg h1,h2]
def Ks:Sig:= {X:=List UInt8,args:=fun x=>[.str x],pre:=fun x=>1≤x.length∧x.length<2^62,Y:=Unit,post:=fun x y=>True,res:=fun x y=> .tup [.str (Dm x).1,.bool (Dm x).2],outs:=fun x y=>[.top],keep:=false}
theorem a5t:Aq G Tryz.prog 86 Ks:=
 vcFun_okP [(111,0,LP),(90,0,Hh)] [] false (fun x=>[]) Tryz.func86 rfl (by decide) ⟨a4r,Xq,trivial⟩ (fun(x:List UInt8)=>(∀(y:Unit),True→(True∧True∧True)∧True∧True)∧((0:Int)≤(1:Int)∧(1:Int)≤(↑(List.length x):Int)∧(↑(List.length x):Int)≤(↑(List.length x):Int))∧cA LP [.str (List.drop (1:Nat) x),AV.int IntKind.u8 (39:Int)] fun x_1 y=>Aa (decide (CD x_1 (39:UInt8)<(0:Int))) (rA Ks x [.tup [.str #[].toList,.bool false],.top]) (inR IntKind.i64 (CD x_1 (39:UInt8)+(2:Int))∧((0:Int)≤(0:Int)∧(0:Int)≤CD x_1 (39:UInt8)+(2:Int)∧CD x_1 (39:UInt8)+(2:Int)≤(↑(List.length x):Int))∧cA Hh [.str (List.take (Int.toNat (CD x_1 (39:UInt8)+(2:Int))) x)] fun x_2 y=>rA Ks x [.tup [.str (List.take (Int.toNat (CD x_1 (39:UInt8)+(2:Int))) x),.bool (List.all x_2 Cg)],.top])) (fun x=>by kernel_rfl) fun(x:List UInt8) (hx:1≤x.length∧x.length<2^62)=>(by
 dsimp only[cA,rA,Hh,Ks,LP,Av,Az,mvL,lnL,mvE,lnE]
 obtain⟨h1,h2⟩:=hx
 have hq:=a5s (x.drop 1) 39;have hl:(x.drop 1).length=x.length-1:=by simp
 (repeat' first|(with_reducible first|rfl|exact True.intro|apply AK|apply And.intro|((first|apply AA|apply AI|apply AB|apply AJ)<;>intro _))|(apply Ax<;>intro _)|apply AH|refine Af () ?_ ?_|((first|apply AO|apply AN|apply AM|apply AL|apply AG|apply AF|apply AE|apply AD|apply AC)<;>try dsimp only)|apply Af|(refine Prod.forall.2 ?_;intro _;try dsimp only)|(intro _;try dsimp only))<;>(try dsimp only at*)<;>(try simp only[AR,List.length_cons,List.length_nil])<;>(try omega)
 all_goals first
  |omega
  |(rw[XF,if_neg ‹¬CD _ 39<0›];done)
  |(rw[XF,if_pos ‹CD _ 39<0›];done)
  |(simp;omega))
def FG:Sig:= {X:=List UInt8,args:=fun x=>[.str x],pre:=fun x=>1≤x.length∧x.length<2^62,Y:=Unit,post:=fun x y=>True,res:=fun x y=> .tup [.int .i64 (Bb x).kind,.str (Bb x).text,.int .i64 (Bb x).size,.bool (Bb x).ok],outs:=fun x y=>[.top],keep:=false}
def Ph(x:List UInt8):LS:= {ι:=Int,inv:=fun i=>Hi x i,regs:=fun i=>[(0,.str x),(12,.int .i64 i)],als:=[],meas:=fun i=>i.toNat}
theorem XG:Aq G Tryz.prog 50 FG:=
 vcFun_okP [(82,0,Fj),(83,84+1,Kn),(85,0,Gb),(83,85+1,Ko),(86,0,Ks),(87,0,LT),(83,88+1,Kp),(89,0,LW),(90,0,Hh),(91,0,GG)] [] false (fun x=>[(15,Ph x)]) Tryz.func50 rfl (by decide) ⟨Xn,a4z,SU,a4A,a5t,a4w,a4B,a5r,Xq,a5o,trivial⟩ (fun(x:List UInt8)=>(∀(y:Unit),True→(True∧True∧True∧True∧True)∧True∧True)∧((0:Int)≤(0:Int)∧(0:Int)<(↑(List.length x):Int))∧∀(c:UInt8),x[(0:Nat)]? =some c→cA Fj [AV.int IntKind.u8 (↑(UInt8.toNat c):Int)] fun x_1 y=>Aa (Cp x_1) (cA Kn [.str x,AV.clo (Fn.func (84:Nat)) []] fun x_2 y=>rA FG x [.tup [.int .i64 (1:Int),.str (List.takeWhile BN x_2),.int .i64 (↑(List.length (List.takeWhile BN x_2)):Int),.bool (decide ((↑(List.length (List.takeWhile BN x_2)):Int)≤(30:Int)))],.top]) (cA Gb [AV.int IntKind.u8 (↑(UInt8.toNat c):Int)] fun x_2 y=>Aa (Bq x_2) (cA Ko [.str x,AV.clo (Fn.func (85:Nat)) []] fun x_3 y=>rA FG x [.tup [.int .i64 (2:Int),.str (List.takeWhile Bq x_3),.int .i64 (↑(List.length (List.takeWhile Bq x_3)):Int),.bool (decide ((↑(List.length (List.takeWhile Bq x_3)):Int)≤(12:Int)))],.top]) (Aa ((↑(UInt8.toNat c):Int)==(39:Int)) (cA Ks [.str x] fun x_3 y=>rA FG x [.tup [.int .i64 (3:Int),.str (Dm x_3).1,.int .i64 (↑(List.length (Dm x_3).1):Int),.bool (Dm x_3).2],.top]) (cA LT [.str x,.str #[(47:UInt8),(47:UInt8)].toList] fun x_3 y=>Aa (List.take (List.length x_3.2) x_3.1==x_3.2) (cA Kp [.str x,AV.clo (Fn.func (88:Nat)) []] fun x_4 y=>cA LW [.str (List.takeWhile Cf x_4)] fun x_5 y=>cA Hh [.str (List.takeWhile Cf x_4)] fun x_6 y=>rA FG x [.tup [.int .i64 (5:Int),.str (CC x_5),.int .i64 (↑(List.length (List.takeWhile Cf x_4)):Int),.bool (List.all x_6 Cg)],.top]) (eA (Ph x) [.str x,.int .i64 (min (2:Int) (↑(List.length x):Int))]∧∀(i:Int),Hi x i→Aa (decide (i>(0:Int))) (((0:Int)≤(0:Int)∧(0:Int)≤i∧i≤(↑(List.length x):Int))∧cA GG [.str (List.take (Int.toNat i) x)] fun x_4 y=>Aa (CB x_4) (true=true∧true=true∧((0:Int)≤(0:Int)∧(0:Int)≤i∧i≤(↑(List.length x):Int))∧rA FG x [.tup [.int .i64 (4:Int),.str (List.take (Int.toNat i) x),.int .i64 i,.bool true],.top]) (inR IntKind.i64 (i-(1:Int))∧eN (Ph x) i [.str x,.int .i64 (i-(1:Int))])) (rA FG x [.tup [.int .i64 (0:Int),.str #[].toList,.int .i64 (0:Int),.bool false],.top])))))) (fun x=>by kernel_rfl) fun(x:List UInt8) (hx:1≤x.length∧x.length<2^62)=>(by
 dsimp only[cA,eA,eN,Ph,rA,LW,Gb,Fj,Hh,GG,Ks,Ko,Kn,Kp,LT,FG,Av,Az,mvL,lnL,mvE,lnE,BA]
 obtain⟨h1,h2⟩:=hx
 have h3:x.length<9223372036854775808:=by omega
 match x,h1,h2,h3 with
 |b::t,h1,h2,h3=>
 (repeat' first|(with_reducible first|rfl|exact True.intro|apply AK|apply And.intro|((first|apply AA|apply AI|apply AB|apply AJ)<;>intro _))|(apply Ax<;>intro _)|apply AH|refine Af () ?_ ?_|((first|apply AO|apply AN|apply AM|apply AL|apply AG|apply AF|apply AE|apply AD|apply AC)<;>try dsimp only)|apply Af|(refine Prod.forall.2 ?_;intro _;try dsimp only)|(intro _;try dsimp only))<;>(try dsimp only at*)<;>(try simp only[AR,List.length_cons,List.length_nil])<;>(try omega)
 all_goals(try simp only[List.getElem?_cons_zero,Option.some.injEq] at*)
 all_goals(try subst_vars)
 all_goals first
  |exact h3
  |(rw[a4G ‹_›];done)
  |(rw[a4H ‹_› ‹_›];done)
  |(rw[a4I ‹_› ‹_› ‹_›];done)
  |(rw[a4J ‹_› ‹_› ‹_› ‹_›];done)
  |(rw[a4C ‹_› h1 ‹_› ‹_›];done)
  |(rw[a4D ‹_› h1 ‹_›];done)
  |exact a4E ‹_› ‹_› ‹_›
  |exact a4F ‹_› ‹_› (by omega) ‹_›
  |exact Nat.lt_of_le_of_lt (List.takeWhile_prefix _).length_le h3
  |(have hI:=(‹Hi _ _› :Hi _ _).1;rw[List.length_cons] at hI;omega)
  |(have hI:=(‹Hi _ _› :Hi _ _).1;rw[List.length_take];omega)
  |trace_state)
def Fl:Sig:= {X:=List UInt8×Int,args:=fun x=>[.str x.1,.int .i64 x.2],pre:=fun x=>x.1.length<2^62,Y:=Unit,post:=fun x y=>True,res:=fun x y=> .bool (Cs x.1 x.2),outs:=fun x y=>[.top,.top],keep:=false}
theorem XH:Aq G Tryz.prog 123 Fl:=
 vcFun_okP [(50,0,FG)] [] false (fun x=>[]) Tryz.func123 rfl (by decide) ⟨XG,trivial⟩ (fun(x:List UInt8×Int)=>(∀(y:Unit),True→True∧True∧True∧True)∧Aa (x.1== #[].toList) (rA Fl x [.bool false,.top,.top]) (cA FG [.str x.1] fun x_1 y=>Aa (Bb x_1).ok (Aa ((Bb x_1).kind==x.2) (Aa ((Bb x_1).text==x.1) (rA Fl x [.bool ((Bb x_1).size==(↑(List.length x.1):Int)),.top,.top]) (rA Fl x [.bool false,.top,.top])) (rA Fl x [.bool false,.top,.top])) (rA Fl x [.bool false,.top,.top]))) (fun x=>by kernel_rfl) fun(x:List UInt8×Int) (hx:x.1.length<2^62)=>(by
 dsimp only[cA,rA,Fl,FG,Av,Az,mvL,lnL,mvE,lnE]
 (repeat' first|(with_reducible first|rfl|exact True.intro|apply AK|apply And.intro|((first|apply AA|apply AI|apply AB|apply AJ)<;>intro _))|(apply Ax<;>intro _)|apply AH|refine Af () ?_ ?_|((first|apply AO|apply AN|apply AM|apply AL|apply AG|apply AF|apply AE|apply AD|apply AC)<;>try dsimp only)|apply Af|(refine Prod.forall.2 ?_;intro _;try dsimp only)|(intro _;try dsimp only))<;>(try dsimp only at*)<;>(try simp only[AR,List.length_cons,List.length_nil])<;>(try omega)
 all_goals first
  |exact List.length_pos_iff.2 ‹_›
  |(simp [Cs, *];done)
  |(rw[Bool.eq_iff_iff];simp [Cs, *];done))
def GH:Sig:= {X:=List UInt8,args:=fun x=>[.str x],pre:=fun x=>x.length<2^62,Y:=Unit,post:=fun x y=>True,res:=fun x y=> .bool (DH x),outs:=fun x y=>[.top],keep:=false}
theorem a5u:Aq G Tryz.prog 122 GH:=
 vcFun_okP [(123,0,Fl),(160,0,Fk)] [] false (fun x=>[]) Tryz.func122 rfl (by decide) ⟨XH,XD,trivial⟩ (fun(x:List UInt8)=>(∀(y:Unit),True→True∧True∧True)∧cA Fl [.str x,.int .i64 (1:Int)] fun x_1 y=>Aa (Cs x_1.1 x_1.2) (cA Fk [.str x] fun x_2 y=>rA GH x [.bool !kw x_2,.top]) (rA GH x [.bool false,.top])) (fun x=>by kernel_rfl) fun(x:List UInt8) (hx:x.length<2^62)=>(by
 dsimp only[cA,rA,Fk,GH,Fl,Av,Az,mvL,lnL,mvE,lnE]
 (repeat' first|(with_reducible first|rfl|exact True.intro|apply AK|apply And.intro|((first|apply AA|apply AI|apply AB|apply AJ)<;>intro _))|(apply Ax<;>intro _)|apply AH|refine Af () ?_ ?_|((first|apply AO|apply AN|apply AM|apply AL|apply AG|apply AF|apply AE|apply AD|apply AC)<;>try dsimp only)|apply Af|(refine Prod.forall.2 ?_;intro _;try dsimp only)|(intro _;try dsimp only))<;>(try dsimp only at*)<;>(try simp only[AR,List.length_cons,List.length_nil])<;>(try omega)
 all_goals simp [DH, *])
def Dw:Sig:= {X:=Nd,args:=fun x=>[.agg (ndA false x)],pre:=fun x=>x.text.length<2^62,Y:=Unit,post:=fun x y=>True,res:=fun x y=> .bool (Fh x.kind x.text),outs:=fun x y=>[.top],keep:=false}
theorem a5v:Aq G Tryz.prog 97 Dw:=
 vcFun_okP [(123,0,Fl),(122,0,GH)] [] false (fun x=>[]) Tryz.func97 rfl (by decide) ⟨XH,a5u,trivial⟩ (fun(x:Nd)=>(∀(y:Unit),True→True∧True∧True)∧Aa (x.kind==(1:Int)) (cA GH [.str x.text] fun x_1 y=>rA Dw x [.bool (DH x_1),.top]) (Aa (x.kind==(6:Int)) (cA GH [.str x.text] fun x_1 y=>rA Dw x [.bool (DH x_1),.top]) (Aa (x.kind==(12:Int)) (cA GH [.str x.text] fun x_1 y=>rA Dw x [.bool (DH x_1),.top]) (Aa (x.kind==(13:Int)) (cA GH [.str x.text] fun x_1 y=>rA Dw x [.bool (DH x_1),.top]) (Aa (x.kind==(20:Int)) (cA GH [.str x.text] fun x_1 y=>rA Dw x [.bool (DH x_1),.top]) (Aa (x.kind==(21:Int)) (cA GH [.str x.text] fun x_1 y=>rA Dw x [.bool (DH x_1),.top]) (Aa (x.kind==(2:Int)) (cA Fl [.str x.text,.int .i64 (2:Int)] fun x_1 y=>rA Dw x [.bool (Cs x_1.1 x_1.2),.top]) (Aa (x.kind==(3:Int)) (cA Fl [.str x.text,.int .i64 (3:Int)] fun x_1 y=>rA Dw x [.bool (Cs x_1.1 x_1.2),.top]) (Aa (x.kind==(19:Int)) (cA Fl [.str x.text,.int .i64 (5:Int)] fun x_1 y=>rA Dw x [.bool (Cs x_1.1 x_1.2),.top]) (Aa (x.kind==(7:Int)) (Aa (x.text== #[(38:UInt8),(38:UInt8)].toList) (rA Dw x [.bool true,.top]) (Aa (x.text== #[(124:UInt8),(124:UInt8)].toList) (rA Dw x [.bool true,.top]) (Aa (x.text== #[(61:UInt8),(61:UInt8)].toList) (rA Dw x [.bool true,.top]) (Aa (x.text== #[(60:UInt8)].toList) (rA Dw x [.bool true,.top]) (Aa (x.text== #[(43:UInt8)].toList) (rA Dw x [.bool true,.top]) (Aa (x.text== #[(45:UInt8)].toList) (rA Dw x [.bool true,.top]) (Aa (x.text== #[(42:UInt8)].toList) (rA Dw x [.bool true,.top]) (rA Dw x [.bool false,.top])))))))) (rA Dw x [.bool (x.text== #[].toList),.top]))))))))))) (fun x=>by kernel_rfl) fun(x:Nd) (hx:x.text.length<2^62)=>(by
 dsimp only[cA,Bf,rA,GH,Fl,Dw,Av,Az,mvL,lnL,mvE,lnE]
 (repeat' first|(with_reducible first|rfl|exact True.intro|apply AK|apply And.intro|((first|apply AA|apply AI|apply AB|apply AJ)<;>intro _))|(apply Ax<;>intro _)|apply AH|refine Af () ?_ ?_|((first|apply AO|apply AN|apply AM|apply AL|apply AG|apply AF|apply AE|apply AD|apply AC)<;>try dsimp only)|apply Af|(refine Prod.forall.2 ?_;intro _;try dsimp only)|(intro _;try dsimp only))<;>(try dsimp only at*)<;>(try simp only[AR,List.length_cons,List.length_nil])<;>(try omega)
 all_goals simp [Fh,Nm, *])
def Hj:Sig:= {X:=List UInt8×Int,args:=fun x=>[.str x.1,.int .i64 x.2],pre:=fun x=>0≤x.2∧x.2≤x.1.length∧x.1.length<2^62,Y:=Unit,post:=fun x y=>True,res:=fun x y=> .int .i64 (Cx (x.1.drop x.2.toNat)),outs:=fun x y=>[.top,.top],keep:=false}
def Pi(x:List UInt8×Int):LS:= {ι:=Int,inv:=fun i=>qI x i,regs:=fun i=>[(0,.str x.1),(1,.int .i64 x.2),(5,.int .i64 i)],als:=[],meas:=fun i=>x.1.length-i.toNat}
theorem XI:Aq G Tryz.prog 80 Hj:=
 vcFun_okP [(109,0,HV)] [] false (fun x=>[(2,Pi x)]) Tryz.func80 rfl (by decide) ⟨Xp,trivial⟩ (fun(x:List UInt8×Int)=>(∀(y:Unit),True→True∧True∧True∧True)∧inR IntKind.i64 (x.2+(1:Int))∧eA (Pi x) [.str x.1,.int .i64 x.2,.int .i64 (x.2+(1:Int))]∧∀(i:Int),qI x i→Aa (decide (i<(↑(List.length x.1):Int))) (((0:Int)≤i∧i<(↑(List.length x.1):Int))∧∀(c:UInt8),x.1[Int.toNat i]? =some c→Aa ((↑(UInt8.toNat c):Int)==(39:Int)) (inR IntKind.i64 (i+(1:Int))∧inR IntKind.i64 (i+(1:Int)-x.2)∧rA Hj x [.int .i64 (i+(1:Int)-x.2),.top,.top]) (((0:Int)≤i∧i<(↑(List.length x.1):Int))∧∀(c:UInt8),x.1[Int.toNat i]? =some c→cA HV [AV.int IntKind.u8 (↑(UInt8.toNat c):Int)] fun x_1 y=>Aa (!Cg x_1) (rA Hj x [.int .i64 (0:Int),.top,.top]) (inR IntKind.i64 (i+(1:Int))∧eN (Pi x) i [.str x.1,.int .i64 x.2,.int .i64 (i+(1:Int))]))) (rA Hj x [.int .i64 (0:Int),.top,.top])) (fun x=>by kernel_rfl) fun(x:List UInt8×Int) (hx:0≤x.2∧x.2≤x.1.length∧x.1.length<2^62)=>(by
 dsimp only[cA,eA,eN,Pi,rA,HV,Hj,Av,Az,mvL,lnL,mvE,lnE,BA]
 obtain⟨h1,h2,h3⟩:=hx
 (repeat' first|(with_reducible first|rfl|exact True.intro|apply AK|apply And.intro|((first|apply AA|apply AI|apply AB|apply AJ)<;>intro _))|(apply Ax<;>intro _)|apply AH|refine Af () ?_ ?_|((first|apply AO|apply AN|apply AM|apply AL|apply AG|apply AF|apply AE|apply AD|apply AC)<;>try dsimp only)|apply Af|(refine Prod.forall.2 ?_;intro _;try dsimp only)|(intro _;try dsimp only))<;>(try dsimp only at*)<;>(try simp only[AR,List.length_cons,List.length_nil])<;>(try omega)
 all_goals first
  |exact a4R
  |exact a4T h1 ‹_› ‹_› ‹_›
  |exact a4U h1 ‹_› ‹_› ‹_› ‹_› ‹_›
  |exact a4V h1 ‹_› ‹_› ‹_› ‹_› ‹_› ‹_›
  |exact a4W h1 ‹_› ‹_›
  |(have hI:=a4S ‹_›;omega))
def Gc:Sig:= {X:=List UInt8×Int,args:=fun x=>[.str x.1,.int .i64 x.2],pre:=fun x=>0≤x.2∧x.2≤x.1.length∧x.1.length<2^62,Y:=Unit,post:=fun x y=>True,res:=fun x y=> .int .i64 (Co (x.1.drop x.2.toNat)),outs:=fun x y=>[.top,.top],keep:=false}
def Pj(x:List UInt8×Int):LS:= {ι:=Int,inv:=fun i=>nI x i,regs:=fun i=>[(0,.str x.1),(1,.int .i64 x.2),(5,.int .i64 i)],als:=[],meas:=fun i=>x.1.length-i.toNat}
theorem XJ:Aq G Tryz.prog 76 Gc:=
 vcFun_okP [(109,0,HV)] [] false (fun x=>[(4,Pj x)]) Tryz.func76 rfl (by decide) ⟨Xp,trivial⟩ (fun(x:List UInt8×Int)=>(∀(y:Unit),True→True∧True∧True∧True)∧inR IntKind.i64 (x.2+(2:Int))∧Aa (decide (x.2+(2:Int)>(↑(List.length x.1):Int))) (rA Gc x [.int .i64 (0:Int),.top,.top]) (inR IntKind.i64 (x.2+(2:Int))∧((0:Int)≤x.2∧x.2≤x.2+(2:Int)∧x.2+(2:Int)≤(↑(List.length x.1):Int))∧Aa (!List.drop (Int.toNat x.2) (List.take (Int.toNat (x.2+(2:Int))) x.1)== #[(47:UInt8),(47:UInt8)].toList) (rA Gc x [.int .i64 (0:Int),.top,.top]) (eA (Pj x) [.str x.1,.int .i64 x.2,.int .i64 x.2]∧∀(i:Int),nI x i→Aa (decide (i<(↑(List.length x.1):Int))) (((0:Int)≤i∧i<(↑(List.length x.1):Int))∧∀(c:UInt8),x.1[Int.toNat i]? =some c→Aa ((↑(UInt8.toNat c):Int) != (10:Int)) (((0:Int)≤i∧i<(↑(List.length x.1):Int))∧∀(c:UInt8),x.1[Int.toNat i]? =some c→cA HV [AV.int IntKind.u8 (↑(UInt8.toNat c):Int)] fun x_1 y=>Aa (!Cg x_1) (rA Gc x [.int .i64 (0:Int),.top,.top]) (inR IntKind.i64 (i+(1:Int))∧eN (Pj x) i [.str x.1,.int .i64 x.2,.int .i64 (i+(1:Int))])) (inR IntKind.i64 (i-x.2)∧rA Gc x [.int .i64 (i-x.2),.top,.top])) (inR IntKind.i64 (i-x.2)∧rA Gc x [.int .i64 (i-x.2),.top,.top])))) (fun x=>by kernel_rfl) fun(x:List UInt8×Int) (hx:0≤x.2∧x.2≤x.1.length∧x.1.length<2^62)=>(by
 dsimp only[cA,eA,eN,Pj,rA,Gc,HV,Av,Az,mvL,lnL,mvE,lnE,BA]
 obtain⟨h1,h2,h3⟩:=hx
 (repeat' first|(with_reducible first|rfl|exact True.intro|apply AK|apply And.intro|((first|apply AA|apply AI|apply AB|apply AJ)<;>intro _))|(apply Ax<;>intro _)|apply AH|refine Af () ?_ ?_|((first|apply AO|apply AN|apply AM|apply AL|apply AG|apply AF|apply AE|apply AD|apply AC)<;>try dsimp only)|apply Af|(refine Prod.forall.2 ?_;intro _;try dsimp only)|(intro _;try dsimp only))<;>(try dsimp only at*)<;>(try simp only[AR,List.length_cons,List.length_nil])<;>(try omega)
 all_goals first
  |exact a4Z h1 ‹_›
  |exact a4Y h1 ‹_›
  |exact a4X h1 h2 ‹_›
  |exact a5a h1 ‹_› ‹_› ‹_› ‹_› ‹_›
  |exact a5b h1 ‹_› ‹_› ‹_› ‹_› ‹_› ‹_›
  |exact a5c h1 ‹_› ‹_› ‹_›
  |exact a5d h1 ‹_› ‹_›
  |(have hI:=(‹nI _ _› :nI _ _).1;omega))
def Fm:Sig:= {X:=List UInt8,args:=fun x=>[.str x],pre:=fun x=>x.length<2^62,Y:=Unit,post:=fun x y=>True,res:=fun x y=> .bool (DH x),outs:=fun x y=>[.top],keep:=false}
def Nq(x:List UInt8):LS:= {ι:=Int,inv:=fun i=>nmI x i,regs:=fun i=>[(0,.str x),(3,.int .i64 i)],als:=[],meas:=fun i=>x.length-i.toNat}
theorem a5w:Aq G Tryz.prog 150 Fm:=
 vcFun_okP [(53,0,CQ),(78,0,EH),(105,0,FF),(79,0,Fi)] [] false (fun x=>[(4,Nq x)]) Tryz.func150 rfl (by decide) ⟨Kl,Xo,Tc,SV,trivial⟩ (fun(x:List UInt8)=>(∀(y:Unit),True→True∧True∧True)∧cA CQ [.int .i64 (↑(List.length x):Int),.int .i64 (1:Int),.int .i64 (30:Int)] fun x_1 y=>Aa (!inn x_1.1 x_1.2.1 x_1.2.2) (rA Fm x [.bool false,.top]) (((0:Int)≤(0:Int)∧(0:Int)<(↑(List.length x):Int))∧∀(c:UInt8),x[(0:Nat)]? =some c→cA EH [AV.int IntKind.u8 (↑(UInt8.toNat c):Int)] fun x_2 y=>Aa (!Cp x_2) (rA Fm x [.bool false,.top]) (cA FF [.str x] fun x_3 y=>Aa (kw x_3) (rA Fm x [.bool false,.top]) (eA (Nq x) [.str x,.int .i64 (0:Int)]∧∀(i:Int),nmI x i→Aa (decide (i<(↑(List.length x):Int))) (((0:Int)≤i∧i<(↑(List.length x):Int))∧∀(c:UInt8),x[Int.toNat i]? =some c→cA EH [AV.int IntKind.u8 (↑(UInt8.toNat c):Int)] fun x_4 y=>Aa (!Cp x_4) (((0:Int)≤i∧i<(↑(List.length x):Int))∧∀(c:UInt8),x[Int.toNat i]? =some c→cA Fi [AV.int IntKind.u8 (↑(UInt8.toNat c):Int)] fun x_5 y=>Aa (!Bq x_5) (rA Fm x [.bool false,.top]) (inR IntKind.i64 (i+(1:Int))∧eN (Nq x) i [.str x,.int .i64 (i+(1:Int))])) (inR IntKind.i64 (i+(1:Int))∧eN (Nq x) i [.str x,.int .i64 (i+(1:Int))])) (rA Fm x [.bool true,.top]))))) (fun x=>by kernel_rfl) fun(x:List UInt8) (hx:x.length<2^62)=>(by
 dsimp only[cA,eA,eN,Nq,rA,CQ,Fi,EH,Fm,FF,Av,Az,mvL,lnL,mvE,lnE,BA]
 have hp:∀h:inn x.length 1 30=true,1≤x.length:=fun h=>by simp [inn] at h;omega
 (repeat' first|(with_reducible first|rfl|exact True.intro|apply AK|apply And.intro|((first|apply AA|apply AI|apply AB|apply AJ)<;>intro _))|(apply Ax<;>intro _)|apply AH|refine Af () ?_ ?_|((first|apply AO|apply AN|apply AM|apply AL|apply AG|apply AF|apply AE|apply AD|apply AC)<;>try dsimp only)|apply Af|(refine Prod.forall.2 ?_;intro _;try dsimp only)|(intro _;try dsimp only))<;>(try dsimp only at*)<;>(try simp only[AR,List.length_cons,List.length_nil])<;>(try omega)
 all_goals(try(have:=hp ‹_›;omega))
 all_goals(try(have hI:=(‹nmI _ _› :nmI _ _).1;omega))
 ·rename_i h;exact Tb (fun hh=>by rw[hh.1] at h;cases h)
 ·rename_i c hc _ _ h;exact Tb (fun hh=>by rw[XB hc,h] at hh;cases hh.2.1)
 ·rename_i h;exact Tb (fun hh=>by rw[hh.2.2] at h;cases h)
 ·rename_i h1 c hc _ _ h2 _ _ h3;exact a5e h1 (by rw[XB hc];exact h2) h3
 ·rename_i i hi hl c hc _ _ h1 d hd _ _ h2
  rw[hc] at hd;cases hd
  exact a5f hi hc (by simp [BN,h1,h2])
 ·rename_i i hi hl c hc _ _ h1 d hd _ _ h2
  rw[hc] at hd;cases hd
  exact XC hi hc hl (by simp [BN,h2])
 ·rename_i i hi hl c hc _ _ h1
  exact XC hi hc hl (by simp [BN,h1])
 ·exact a5g ‹_› ‹_›)
def Kt:Sig:= {X:=List UInt8,args:=fun x=>[.str x],pre:=fun x=>x.length<2^62,Y:=Unit,post:=fun x y=>True,res:=fun x y=> .bool (Cs x 2),outs:=fun x y=>[.top],keep:=false}
theorem a5x:Aq G Tryz.prog 151 Kt:=
 vcFun_okP [(53,0,CQ),(79,0,Fi)] [] false (fun x=>[(2,DU Bq x fun i=>[(0,.str x),(3,.int .i64 i)])]) Tryz.func151 rfl (by decide) ⟨Kl,SV,trivial⟩ (fun(x:List UInt8)=>(∀(y:Unit),True→True∧True∧True)∧eA (DU Bq x fun(i:Int)=>[((0:Nat),.str x),((3:Nat),.int .i64 i)]) [.str x,.int .i64 (0:Int)]∧∀(i:Int),((0:Int)≤i∧i≤(↑(List.length x):Int)∧∀(e:UInt8),e∈List.take (Int.toNat i) x→Bq e=true)→Aa (decide (i<(↑(List.length x):Int))) (((0:Int)≤i∧i<(↑(List.length x):Int))∧∀(c:UInt8),x[Int.toNat i]? =some c→cA Fi [AV.int IntKind.u8 (↑(UInt8.toNat c):Int)] fun x_1 y=>Aa (!Bq x_1) (rA Kt x [.bool false,.top]) (inR IntKind.i64 (i+(1:Int))∧eN (DU Bq x fun(i:Int)=>[((0:Nat),.str x),((3:Nat),.int .i64 i)]) i [.str x,.int .i64 (i+(1:Int))])) (cA CQ [.int .i64 (↑(List.length x):Int),.int .i64 (1:Int),.int .i64 (12:Int)] fun x_1 y=>rA Kt x [.bool (inn x_1.1 x_1.2.1 x_1.2.2),.top])) (fun x=>by kernel_rfl) fun(x:List UInt8) (hx:x.length<2^62)=>(by
 dsimp only[cA,eA,eN,DU,rA,CQ,Fi,Kt,Av,Az,mvL,lnL,mvE,lnE,BA]
 (repeat' first|(with_reducible first|rfl|exact True.intro|apply AK|apply And.intro|((first|apply AA|apply AI|apply AB|apply AJ)<;>intro _))|(apply Ax<;>intro _)|apply AH|refine Af () ?_ ?_|((first|apply AO|apply AN|apply AM|apply AL|apply AG|apply AF|apply AE|apply AD|apply AC)<;>try dsimp only)|apply Af|(refine Prod.forall.2 ?_;intro _;try dsimp only)|(intro _;try dsimp only))<;>(try dsimp only at*)<;>(try simp only[AR,List.length_cons,List.length_nil])<;>(try omega)
 ·rename_i h;simp at h
 ·rename_i i hi hl c hc _ _ h;rw[Xx,OZ hc h];rfl
 ·rename_i i hi hl c hc _ _ h e he
  rw[Db hi.1] at he;exact Nn hi.2.2 hc h e he
 ·rename_i i hi hl _ _;rw[Xx,SN hi.2.2 (by omega)];simp only[Bool.true_and,inn];rw[Bool.eq_iff_iff];simp;omega)
def Jt:Sig:= {X:=List UInt8,args:=fun x=>[.str x],pre:=fun x=>x.length<2^62,Y:=Unit,post:=fun x y=>True,res:=fun x y=> .bool (Cs x 3),outs:=fun x y=>[.top],keep:=false}
theorem a5y:Aq G Tryz.prog 152 Jt:=
 vcFun_okP [(80,0,Hj)] [] false (fun x=>[]) Tryz.func152 rfl (by decide) ⟨XI,trivial⟩ (fun(x:List UInt8)=>(∀(y:Unit),True→True∧True∧True)∧Aa (decide ((↑(List.length x):Int)>(1:Int))) (((0:Int)≤(0:Int)∧(0:Int)<(↑(List.length x):Int))∧∀(c:UInt8),x[(0:Nat)]? =some c→Aa ((↑(UInt8.toNat c):Int)==(39:Int)) (cA Hj [.str x,.int .i64 (0:Int)] fun x_1 y=>rA Jt x [.bool ((↑(Cx (List.drop (Int.toNat x_1.2) x_1.1)):Int)==(↑(List.length x):Int)),.top]) (rA Jt x [.bool false,.top])) (rA Jt x [.bool false,.top])) (fun x=>by kernel_rfl) fun(x:List UInt8) (hx:x.length<2^62)=>(by
 dsimp only[cA,rA,Hj,Jt,Av,Az,mvL,lnL,mvE,lnE]
 (repeat' first|(with_reducible first|rfl|exact True.intro|apply AK|apply And.intro|((first|apply AA|apply AI|apply AB|apply AJ)<;>intro _))|(apply Ax<;>intro _)|apply AH|refine Af () ?_ ?_|((first|apply AO|apply AN|apply AM|apply AL|apply AG|apply AF|apply AE|apply AD|apply AC)<;>try dsimp only)|apply Af|(refine Prod.forall.2 ?_;intro _;try dsimp only)|(intro _;try dsimp only))<;>(try dsimp only at*)<;>(try simp only[AR,List.length_cons,List.length_nil])<;>(try omega)
 ·exact a5h ‹_› ‹_› ‹_›
 ·exact a5i ‹_› ‹_›
 ·exact a5j ‹_›)
def Ju:Sig:= {X:=List UInt8,args:=fun x=>[.str x],pre:=fun x=>x.length<2^62,Y:=Unit,post:=fun x y=>True,res:=fun x y=> .bool (Cs x 5),outs:=fun x y=>[.top],keep:=false}
theorem a5z:Aq G Tryz.prog 153 Ju:=
 vcFun_okP [(76,0,Gc),(77,0,HW)] [] false (fun x=>[]) Tryz.func153 rfl (by decide) ⟨XJ,XE,trivial⟩ (fun(x:List UInt8)=>(∀(y:Unit),True→True∧True∧True)∧Aa (decide ((↑(List.length x):Int)>(1:Int))) (cA Gc [.str x,.int .i64 (0:Int)] fun x_1 y=>Aa ((↑(Co (List.drop (Int.toNat x_1.2) x_1.1)):Int)==(↑(List.length x):Int)) (cA HW [.str x] fun x_2 y=>rA Ju x [.bool (CC x_2==x),.top]) (rA Ju x [.bool false,.top])) (rA Ju x [.bool false,.top])) (fun x=>by kernel_rfl) fun(x:List UInt8) (hx:x.length<2^62)=>(by
 dsimp only[cA,rA,Gc,Ju,HW,Av,Az,mvL,lnL,mvE,lnE]
 (repeat' first|(with_reducible first|rfl|exact True.intro|apply AK|apply And.intro|((first|apply AA|apply AI|apply AB|apply AJ)<;>intro _))|(apply Ax<;>intro _)|apply AH|refine Af () ?_ ?_|((first|apply AO|apply AN|apply AM|apply AL|apply AG|apply AF|apply AE|apply AD|apply AC)<;>try dsimp only)|apply Af|(refine Prod.forall.2 ?_;intro _;try dsimp only)|(intro _;try dsimp only))<;>(try dsimp only at*)<;>(try simp only[AR,List.length_cons,List.length_nil])<;>(try omega)
 ·exact a5k ‹_› ‹_›
 ·exact a5l ‹_›
 ·exact a5m ‹_›)
def Gd:Sig:= {X:=List UInt8,args:=fun x=>[.str x],pre:=fun x=>x.length<2^62,Y:=Unit,post:=fun x y=>True,res:=fun x y=> .bool (Nm x),outs:=fun x y=>[.top],keep:=false}
theorem a5A:Aq G Tryz.prog 154 Gd:=
 vcFun_okP [] [] false (fun x=>[]) Tryz.func154 rfl (by decide) trivial (fun(x:List UInt8)=>(∀(y:Unit),True→True∧True∧True)∧Aa (x== #[(38:UInt8),(38:UInt8)].toList) (rA Gd x [.bool true,.top]) (Aa (x== #[(124:UInt8),(124:UInt8)].toList) (rA Gd x [.bool true,.top]) (Aa (x== #[(61:UInt8),(61:UInt8)].toList) (rA Gd x [.bool true,.top]) (Aa (x== #[(60:UInt8)].toList) (rA Gd x [.bool true,.top]) (Aa (x== #[(43:UInt8)].toList) (rA Gd x [.bool true,.top]) (Aa (x== #[(45:UInt8)].toList) (rA Gd x [.bool true,.top]) (Aa (x== #[(42:UInt8)].toList) (rA Gd x [.bool true,.top]) (rA Gd x [.bool false,.top])))))))) (fun x=>by kernel_rfl) fun(x:List UInt8) (hx:x.length<2^62)=>(by
 dsimp only[rA,Gd,Av,Az]
 (repeat' first|(with_reducible first|rfl|exact True.intro|apply AK|apply And.intro|((first|apply AA|apply AI|apply AB|apply AJ)<;>intro _))|(apply Ax<;>intro _)|apply AH|refine Af () ?_ ?_|((first|apply AO|apply AN|apply AM|apply AL|apply AG|apply AF|apply AE|apply AD|apply AC)<;>try dsimp only)|apply Af|(refine Prod.forall.2 ?_;intro _;try dsimp only)|(intro _;try dsimp only))<;>(try dsimp only at*)<;>(try simp only[AR,List.length_cons,List.length_nil])<;>(try omega)
 all_goals simp [Nm, *])
def EU:Sig:= {X:=Int×List UInt8,args:=fun x=>[.int .i64 x.1,.str x.2],pre:=fun x=>x.2.length<2^62,Y:=Unit,post:=fun x y=>True,res:=fun x y=> .bool (Fh x.1 x.2),outs:=fun x y=>[.top,.top],keep:=false}
theorem a5B:Aq G Tryz.prog 116 EU:=
 vcFun_okP [(150,0,Fm),(151,0,Kt),(152,0,Jt),(153,0,Ju),(154,0,Gd)] [] false (fun x=>[]) Tryz.func116 rfl (by decide) ⟨a5w,a5x,a5y,a5z,a5A,trivial⟩ (fun(x:Int×List UInt8)=>(∀(y:Unit),True→True∧True∧True∧True)∧Aa (x.1==(1:Int)) (cA Fm [.str x.2] fun x_1 y=>rA EU x [.bool (DH x_1),.top,.top]) (Aa (x.1==(6:Int)) (cA Fm [.str x.2] fun x_1 y=>rA EU x [.bool (DH x_1),.top,.top]) (Aa (x.1==(12:Int)) (cA Fm [.str x.2] fun x_1 y=>rA EU x [.bool (DH x_1),.top,.top]) (Aa (x.1==(13:Int)) (cA Fm [.str x.2] fun x_1 y=>rA EU x [.bool (DH x_1),.top,.top]) (Aa (x.1==(20:Int)) (cA Fm [.str x.2] fun x_1 y=>rA EU x [.bool (DH x_1),.top,.top]) (Aa (x.1==(21:Int)) (cA Fm [.str x.2] fun x_1 y=>rA EU x [.bool (DH x_1),.top,.top]) (Aa (x.1==(2:Int)) (cA Kt [.str x.2] fun x_1 y=>rA EU x [.bool (Cs x_1 (2:Int)),.top,.top]) (Aa (x.1==(3:Int)) (cA Jt [.str x.2] fun x_1 y=>rA EU x [.bool (Cs x_1 (3:Int)),.top,.top]) (Aa (x.1==(19:Int)) (cA Ju [.str x.2] fun x_1 y=>rA EU x [.bool (Cs x_1 (5:Int)),.top,.top]) (Aa (x.1==(7:Int)) (cA Gd [.str x.2] fun x_1 y=>rA EU x [.bool (Nm x_1),.top,.top]) (rA EU x [.bool (x.2== #[].toList),.top,.top]))))))))))) (fun x=>by kernel_rfl) fun(x:Int×List UInt8) (hx:x.2.length<2^62)=>(by
 dsimp only[cA,rA,Gd,Fm,Ju,Kt,Jt,EU,Av,Az,mvL,lnL,mvE,lnE]
 (repeat' first|(with_reducible first|rfl|exact True.intro|apply AK|apply And.intro|((first|apply AA|apply AI|apply AB|apply AJ)<;>intro _))|(apply Ax<;>intro _)|apply AH|refine Af () ?_ ?_|((first|apply AO|apply AN|apply AM|apply AL|apply AG|apply AF|apply AE|apply AD|apply AC)<;>try dsimp only)|apply Af|(refine Prod.forall.2 ?_;intro _;try dsimp only)|(intro _;try dsimp only))<;>(try dsimp only at*)<;>(try simp only[AR,List.length_cons,List.length_nil])<;>(try omega)
 all_goals simp [Fh, *])
end Go.My
end
section
set_option linter.unusedVariables false
set_option linter.unusedSimpArgs false
namespace Go.My
open Go.Eng
def DB(k:Int):Int×Int:=
 if k=4∨k=18∨k=21∨k=22 then(0,12)
 else if k=5∨k=9∨k=20 then(1,12)
 else if k=6∨k=11∨k=13∨k=14 then(1,1)
 else if k=7∨k=10 then(2,12)
 else if k=8 then(3,3)
 else if k=12∨k=15 then(0,1)
 else if k=16 then(2,3)
 else if k=17 then(2,2)
 else(0,0)
def Ge(k n i y:Int):Bool:=
 if k=9 then(if i+1<n then Ev y else BK y)
 else if k=20 then(if i+1<n then Ev y else DT y)
 else if k=10 then(if 0<i then FE y else BK y)
 else if k=16∨k=17 then(if 0<i then DT y else BK y)
 else if k=18 then Ec y
 else if k=21 then EG y
 else if k=22 then GF y
 else BK y
def Ku(ns:List Nd)(x:Nd)(i c:Int):Bool:=
 Ge x.kind x.kids.length i (BG ns c)&&(if x.kind=10∧0<i then decide (BG ns ((Ag ns c).kids.headD 0)=1) else true)
def DJ(ns:List Nd)(x:Nd)(i c:Int):Bool:=
 (!(decide (BG ns c=5)&&(decide ((Ag ns c).kids.length=0)|| !BO ns ((Ag ns c).kids.headD 0))))&&Ku ns x i c
def BT(f:Int→Int→Bool):List Int→Int→Bool
 |[],_=>true
 |c::l,i=>f i c&&BT f l (i+1)
theorem Td{f g:Int→Int→Bool}:∀ {l:List Int} {i:Int},(∀j c,i≤j→j<i+l.length→c∈l→f j c=g j c)→BT f l i=BT g l i
 |[],i,h=>rfl
 |c::l,i,h=>by
  simp only[BT]
  rw[h i c (Int.le_refl i) (by simp;omega) (by simp),Td (fun j c hj hl hc=>h j c (by omega) (by simp;omega) (by simp [hc]))]
theorem XK{f g:Int→Int→Bool}:∀ {l:List Int} {i:Int},BT (fun i c=>f i c&&g i c) l i=(BT f l i&&BT g l i)
 |[],i=>rfl
 |c::l,i=>by
  simp only[BT];rw[XK]
  cases f i c<;>cases g i c<;>cases BT f l (i+1)<;>cases BT g l (i+1)<;>rfl
theorem Pk{f:Int→Bool}:∀ {l:List Int} {i:Int},BT (fun _ c=>f c) l i=l.all f
 |[],i=>rfl
 |c::l,i=>by simp only[BT,List.all_cons];rw[Pk]
theorem XL{f:Int→Int→Bool}{g:Int→Int}:∀ {l:List Int} {i:Int},BT f (l.map g) i=BT (fun i c=>f i (g c)) l i
 |[],i=>rfl
 |c::l,i=>by simp only[BT,List.map_cons];rw[XL]
theorem XM{f:Int→Int→Bool}:∀ {l m:List Int} {i:Int},BT f (l++m) i=(BT f l i&&BT f m (i+l.length))
 |[],m,i=>by simp [BT]
 |c::l,m,i=>by
  simp only[List.cons_append,BT];rw[XM,Bool.and_assoc]
  congr 2;congr 1;simp;omega
theorem Te{f:Int→Int→Bool}:∀ {l:List Int} {i:Nat},((l.zipIdx i).all fun p=>f p.2 p.1)=BT f l i
 |[],i=>rfl
 |c::l,i=>by
  simp only[List.zipIdx_cons,List.all_cons,BT];rw[Te];congr 2
theorem Tf{f:Int→Int→Bool}{l:List Int}:BT f l 0=true↔∀(j:Nat) c,l[j]? =some c→f j c=true:=by
 have:∀(l:List Int) (i:Nat),BT f l i=true↔∀(j:Nat) c,l[j]? =some c→f (i+j:Nat) c=true:=by
  intro l
  induction l with
  |nil=>intro i;simp [BT]
  |cons c l ih=>
   intro i
   simp only[BT,Bool.and_eq_true]
   have:=ih (i+1)
   rw[show((i:Int)+1)=((i+1:Nat):Int) from by omega,this]
   constructor
   ·rintro⟨h1,h2⟩ j d hd
    cases j with
    |zero=>simp at hd;subst hd;simpa using h1
    |succ j=>have:=h2 j d (by simpa using hd);rwa [show i+1+j=i+(j+1) by omega] at this
   ·intro h
    refine⟨by simpa using h 0 c rfl,fun j d hd=> ?_⟩
    have:=h (j+1) d (by simpa using hd)
    rwa [show i+(j+1)=i+1+j by omega] at this
 have:=this l 0
 simpa using this
theorem a5C{l:List Int}{k:Int}(h:l.getLast? =some k):l=l.dropLast++[k]:=by
 have hne:l≠[]:=by intro e;rw[e] at h;cases h
 rw[List.getLast?_eq_some_getLast hne] at h
 have:=List.dropLast_concat_getLast hne
 rw[Option.some.inj h] at this;exact this.symm
theorem XN{p:Int→Bool}{l:List Int}:(decide (1≤l.length)&&BT (fun i y=>if i+1<(l.length:Int) then Ev y else p y) l 0)=Hf p l:=by
 unfold Hf
 cases h:l.getLast? with
 |none=>have:l=[]:=by simpa using h
        subst this;rfl
 |some k=>
  have e:=a5C h
  generalize hd:l.dropLast=m at e ⊢
  subst e
  rw[XM]
  have h1:BT (fun i y=>if i+1<((m++[k]).length:Int) then Ev y else p y) m 0=m.all Ev:=by
   rw[←Pk (i:=0)]
   exact Td fun j c h0 hj hc=>if_pos (by simp;omega)
  rw[h1]
  simp only[BT]
  have h2:¬((0:Int)+m.length+1<((m++[k]).length:Int)):=by simp
  rw[if_neg h2]
  have:decide (1≤(m++[k]).length)=true:=by simp
  rw[this];simp [Bool.and_comm]
theorem XO{p q:Int→Bool}{c:Int}{l:List Int}:BT (fun i y=>if 0<i then q y else p y) (c::l) 0=(p c&&l.all q):=by
 simp only[BT]
 have h1:¬((0:Int)<0):=by omega
 rw[if_neg h1]
 congr 1
 rw[←Pk (i:=0+1)]
 exact Td fun j c h0 hj hc=>if_pos (by omega)
theorem XP{k:Int}{l:List Int}(h1:1≤k)(h2:k≤22):(inn l.length (DB k).1 (DB k).2&&BT (fun i y=>Ge k l.length i y) l 0)=(decide (l.length≤12)&&Ed k l):=by
 have hk:k=1∨k=2∨k=3∨k=4∨k=5∨k=6∨k=7∨k=8∨k=9∨k=10∨k=11∨k=12∨k=13∨k=14∨k=15∨k=16∨k=17∨k=18∨k=19∨k=20∨k=21∨k=22:=by omega
 have len0:∀ {b c:Bool},l.length=0→(l=[]):=fun h=>List.length_eq_zero_iff.1 h
 rcases hk with rfl|rfl|rfl|rfl|rfl|rfl|rfl|rfl|rfl|rfl|rfl|rfl|rfl|rfl|rfl|rfl|rfl|rfl|rfl|rfl|rfl|rfl
 all_goals simp only[DB,Ge,Ed,inn,Int.reduceEq,or_self,or_false,false_or,or_true,true_or,if_true,if_false,reduceIte]
 all_goals try(
  by_cases h:l.length=0
  ·have:=List.length_eq_zero_iff.1 h;subst this;rfl
  ·have e1:decide ((l.length:Int)≤0)=false:=decide_eq_false (by omega)
   have e2:decide (l.length=0)=false:=decide_eq_false h
   simp only[e1,e2,Bool.and_false,Bool.false_and];done)
 all_goals try rw[Pk]
 all_goals try(
  generalize l.all _=b
  rw[Bool.eq_iff_iff];cases b<;>simp only[Bool.and_eq_true,decide_eq_true_eq,Bool.false_eq_true,and_false,and_true]<;>omega)
 ·rw[show decide (1≤(l.length:Int))=decide (1≤l.length) from decide_eq_decide.2 (by omega),show decide ((l.length:Int)≤12)=decide (l.length≤12) from decide_eq_decide.2 (by omega),←XN (p:=BK)]
  generalize BT _ l 0=b
  cases decide (1≤l.length)<;>cases decide (l.length≤12)<;>cases b<;>rfl
 ·cases l with
  |nil=>rfl
  |cons c l=>
   rw[XO]
   simp only[List.headD_cons,List.drop_succ_cons,List.drop_zero]
   generalize BK c=b;generalize l.all _=d
   rw[Bool.eq_iff_iff];cases b<;>cases d<;>simp only[Bool.and_eq_true,decide_eq_true_eq,Bool.false_eq_true,and_false,and_true]<;>omega
 ·cases l with
  |nil=>rfl
  |cons c l=>
   rw[XO]
   simp only[List.headD_cons,List.drop_succ_cons,List.drop_zero]
   generalize BK c=b;generalize l.all _=d
   rw[Bool.eq_iff_iff];cases b<;>cases d<;>simp only[Bool.and_eq_true,decide_eq_true_eq,Bool.false_eq_true,and_false,and_true]<;>omega
 ·match l with
  |[]=>rfl
  |[c]=>rfl
  |[c,d]=>simp [BT]
  |c::d::e::l=>
   have e1:decide (((c::d::e::l).length:Int)≤2)=false:=decide_eq_false (by simp;omega)
   have e2:decide ((c::d::e::l).length=2)=false:=decide_eq_false (by simp)
   rw[e1,e2];simp
 ·rw[show decide (1≤(l.length:Int))=decide (1≤l.length) from decide_eq_decide.2 (by omega),show decide ((l.length:Int)≤12)=decide (l.length≤12) from decide_eq_decide.2 (by omega),←XN (p:=DT)]
  generalize BT _ l 0=b
  cases decide (1≤l.length)<;>cases decide (l.length≤12)<;>cases b<;>rfl
theorem XQ{k:Int}{l:List Int}(h:inn k 1 22=false):Ed k l=false:=by
 have h:¬(1≤k∧k≤22):=by intro hh;simp [inn] at h;omega
 unfold Ed
 have e:∀j:Int,1≤j→j≤22→k≠j:=fun j h1 h2 e=>h (by omega)
 simp [e]
theorem a5D{ns:List Nd}{x:Nd}{i c:Int}:DJ ns x i c=(Ge x.kind x.kids.length i (BG ns c)&&CP ns x i.toNat c):=by
 unfold DJ Ku CP BG
 generalize hy:Ag ns c=y
 by_cases h5:y.kind=5
 ·simp only[h5,if_true,decide_true,Bool.true_and]
  cases hk:y.kids with
  |nil=>simp
  |cons h t=>
   simp only[List.length_cons,List.headD_cons]
   have e0:decide (t.length+1=0)=false:=by simp
   rw[e0]
   by_cases hx:x.kind=10∧0<i
   ·have hi:0<i.toNat:=by omega
    simp only[hx,and_self,if_true,decide_true,Bool.true_and,hi]
    generalize Ge 10 _ _ _=a;generalize BO ns h=b
    by_cases hd:(Ag ns h).kind=1<;>cases a<;>cases b<;>simp [hd]
   ·rw[if_neg hx]
    have:(decide (x.kind=10)&&(decide (0<i.toNat)&& !decide ((Ag ns h).kind=1)))=false:=by
     by_cases h1:x.kind=10
     ·have:¬0<i.toNat:=by omega
      simp [this]
     ·simp [h1]
    rw[this]
    generalize Ge _ _ _ _=a;generalize BO ns h=b
    cases a<;>cases b<;>rfl
 ·simp only[h5,if_false,decide_false,Bool.false_and,Bool.not_false,Bool.true_and,Bool.and_true]
  by_cases hx:x.kind=10∧0<i
  ·rw[if_pos hx]
   have:Ge x.kind x.kids.length i y.kind=false:=by
    simp [Ge,hx,FE,h5]
   rw[this];rfl
  ·rw[if_neg hx];simp
theorem a5E{ns:List Nd}{k:Int}{x:Nd}:HT ns k x=
 (inn x.kind 1 22&&(inn x.kids.length (DB x.kind).1 (DB x.kind).2&&(Fh x.kind x.text&&((Hg x.kind|| !x.blank)&&((DI x.kids k&&decide x.kids.Nodup)&&BT (DJ ns x) x.kids 0))))):=by
 have e1:BT (DJ ns x) x.kids 0=(BT (fun i y=>Ge x.kind (x.kids.map (BG ns)).length i y) (x.kids.map (BG ns)) 0&&ER ns x):=by
  have:(DJ ns x)=fun i c=>(Ge x.kind x.kids.length i (BG ns c)&&CP ns x i.toNat c):=by
   funext i c;exact a5D
  rw[this,XK,XL,List.length_map]
  congr 1
  unfold ER
  have:(fun p:Int×Nat=>CP ns x p.2 p.1)=fun p:Int×Nat=>(fun(i c:Int)=>CP ns x i.toNat c) p.2 p.1:=by
   funext p;simp
  rw[this]
  exact(Te (f:=fun i c=>CP ns x i.toNat c) (i:=0)).symm
 unfold HT
 by_cases h:inn x.kind 1 22=true
 ·have hb:= @XP x.kind (x.kids.map (BG ns)) (by simp [inn] at h;omega) (by simp [inn] at h;omega)
  rw[List.length_map] at hb
  rw[e1,List.length_map,h]
  generalize decide (x.kids.length≤12)=a at hb ⊢;generalize Ed x.kind _=b at hb ⊢;generalize inn _ _ _=c at hb ⊢
  generalize BT _ _ 0=d at hb ⊢;generalize Fh _ _=e;generalize Hg _=f;generalize ER _ _=g;generalize DI _ _=h1;generalize decide x.kids.Nodup=h2
  cases a<;>cases b<;>cases c<;>cases d<;>simp at hb<;>cases e<;>cases f<;>cases g<;>cases h1<;>cases h2<;>simp
 ·simp only[Bool.not_eq_true] at h
  rw[XQ h,h];simp
end Go.My
end
