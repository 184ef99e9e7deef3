/- A part of the proof: the engine and the contracts, joined. -/
import Derived.Test.YtplklcfglbkfhaaGreatDoorQE
section
set_option linter.unusedVariables false
set_option linter.unusedSimpArgs false
namespace Go.My
open Go.Eng Go.Proofs
variable {G:GInv}
theorem FH{a b:Int}:(a==b)=decide (a=b):=by rw[Bool.eq_iff_iff];simp
theorem a6A{α:Type}{p:α→Bool}{x:List α}{n:Nat}{e:α}(he:x[n]? =some e)(hp:p e=true)(h:∀e∈x.take n,p e=true):∀e∈x.take (n+1),p e=true:=by
 rw[FE he];intro d hd
 rcases List.mem_append.1 hd with hd|hd
 ·exact h d hd
 ·simp at hd;subst hd;exact hp
theorem a6B{α:Type}{p:α→Bool}{x:List α}{n:Nat}(h:∀e∈x.take n,p e=true)(hn:x.length≤n):x.all p=true:=by
 rw[List.take_of_length_le hn] at h;exact List.all_eq_true.2 h
theorem KF{α:Type}{p:α→Bool}{x:List α}{n:Nat}{e:α}(he:x[n]? =some e)(hp:p e=false):x.all p=false:=by
 rw[Bool.eq_false_iff];intro h
 rw[List.all_eq_true.1 h e (List.mem_of_getElem? he)] at hp;cases hp
def FI:Sig:= {X:=Int,args:=fun x=>[.int .i64 x],pre:=fun x=>True,Y:=Unit,post:=fun x y=>True,res:=fun x y=> .bool (BH x),outs:=fun x y=>[.top],keep:=false}
theorem Uv:Am G Tryz.prog 102 FI:=
 vcFun_okP [(57,0,EX)] [] false (fun x=>[]) Tryz.func102 rfl (by decide) ⟨Qt,trivial⟩ (fun(x:Int)=>(∀(y:Unit),True→True∧True∧True)∧cA EX [.int .i64 x,.int .i64 (1:Int),.int .i64 (11:Int)] fun x_1 y=>rA FI x [.bool (inn x_1.1 x_1.2.1 x_1.2.2),.top]) (fun x=>by kernel_rfl) fun(x:Int) (hx:True)=>(by
 dsimp only[cA,rA,EX,FI,Au,Ax,mvL,lnL,mvE,lnE]
 (repeat' first|(with_reducible first|rfl|exact True.intro|apply AJ|apply And.intro|((first|apply Az|apply AH|apply AA|apply AI)<;>intro _))|(apply Av<;>intro _)|apply AG|refine Af () ?_ ?_|((first|apply AO|apply AN|apply AM|apply AL|apply AF|apply AE|apply AD|apply AC|apply AB)<;>try dsimp only)|apply Af|(refine Prod.forall.2 ?_;intro _;try dsimp only)|(intro _;try dsimp only))<;>(try dsimp only at*)<;>(try simp only[AR,List.length_cons,List.length_nil])<;>(try omega)
 all_goals simp [BH,FH, *])
def IL:Sig:= {X:=Int,args:=fun x=>[.int .i64 x],pre:=fun x=>True,Y:=Unit,post:=fun x y=>True,res:=fun x y=> .bool (JG x),outs:=fun x y=>[.top],keep:=false}
theorem Yt:Am G Tryz.prog 60 IL:=
 vcFun_okP [(57,0,EX)] [] false (fun x=>[]) Tryz.func60 rfl (by decide) ⟨Qt,trivial⟩ (fun(x:Int)=>(∀(y:Unit),True→True∧True∧True)∧cA EX [.int .i64 x,.int .i64 (12:Int),.int .i64 (17:Int)] fun x_1 y=>rA IL x [.bool (inn x_1.1 x_1.2.1 x_1.2.2),.top]) (fun x=>by kernel_rfl) fun(x:Int) (hx:True)=>(by
 dsimp only[cA,rA,EX,IL,Au,Ax,mvL,lnL,mvE,lnE]
 (repeat' first|(with_reducible first|rfl|exact True.intro|apply AJ|apply And.intro|((first|apply Az|apply AH|apply AA|apply AI)<;>intro _))|(apply Av<;>intro _)|apply AG|refine Af () ?_ ?_|((first|apply AO|apply AN|apply AM|apply AL|apply AF|apply AE|apply AD|apply AC|apply AB)<;>try dsimp only)|apply Af|(refine Prod.forall.2 ?_;intro _;try dsimp only)|(intro _;try dsimp only))<;>(try dsimp only at*)<;>(try simp only[AR,List.length_cons,List.length_nil])<;>(try omega)
 all_goals simp [JG,FH, *])
def GN:Sig:= {X:=Int,args:=fun x=>[.int .i64 x],pre:=fun x=>True,Y:=Unit,post:=fun x y=>True,res:=fun x y=> .bool (DP x),outs:=fun x y=>[.top],keep:=false}
theorem Uw:Am G Tryz.prog 105 GN:=
 vcFun_okP [] [] false (fun x=>[]) Tryz.func105 rfl (by decide) trivial (fun(x:Int)=>(∀(y:Unit),True→True∧True∧True)∧rA GN x [.bool (x==(18:Int)),.top]) (fun x=>by kernel_rfl) fun(x:Int) (hx:True)=>(by
 dsimp only[rA,GN,Au,Ax]
 (repeat' first|(with_reducible first|rfl|exact True.intro|apply AJ|apply And.intro|((first|apply Az|apply AH|apply AA|apply AI)<;>intro _))|(apply Av<;>intro _)|apply AG|refine Af () ?_ ?_|((first|apply AO|apply AN|apply AM|apply AL|apply AF|apply AE|apply AD|apply AC|apply AB)<;>try dsimp only)|apply Af|(refine Prod.forall.2 ?_;intro _;try dsimp only)|(intro _;try dsimp only))<;>(try dsimp only at*)<;>(try simp only[AR,List.length_cons,List.length_nil])<;>(try omega)
 all_goals simp [DP,FH, *])
def FJ:Sig:= {X:=Int,args:=fun x=>[.int .i64 x],pre:=fun x=>True,Y:=Unit,post:=fun x y=>True,res:=fun x y=> .bool (EH x),outs:=fun x y=>[.top],keep:=false}
theorem Ux:Am G Tryz.prog 61 FJ:=
 vcFun_okP [] [] false (fun x=>[]) Tryz.func61 rfl (by decide) trivial (fun(x:Int)=>(∀(y:Unit),True→True∧True∧True)∧Aa (x==(12:Int)) (rA FJ x [.bool true,.top]) (Aa (x==(20:Int)) (rA FJ x [.bool true,.top]) (rA FJ x [.bool (x==(19:Int)),.top]))) (fun x=>by kernel_rfl) fun(x:Int) (hx:True)=>(by
 dsimp only[rA,FJ,Au,Ax]
 (repeat' first|(with_reducible first|rfl|exact True.intro|apply AJ|apply And.intro|((first|apply Az|apply AH|apply AA|apply AI)<;>intro _))|(apply Av<;>intro _)|apply AG|refine Af () ?_ ?_|((first|apply AO|apply AN|apply AM|apply AL|apply AF|apply AE|apply AD|apply AC|apply AB)<;>try dsimp only)|apply Af|(refine Prod.forall.2 ?_;intro _;try dsimp only)|(intro _;try dsimp only))<;>(try dsimp only at*)<;>(try simp only[AR,List.length_cons,List.length_nil])<;>(try omega)
 all_goals simp [EH,FH, *])
def Mo:Sig:= {X:=Int,args:=fun x=>[.int .i64 x],pre:=fun x=>True,Y:=Unit,post:=fun x y=>True,res:=fun x y=> .bool (FF x),outs:=fun x y=>[.top],keep:=false}
theorem a6C:Am G Tryz.prog 104 Mo:=
 vcFun_okP [] [] false (fun x=>[]) Tryz.func104 rfl (by decide) trivial (fun(x:Int)=>(∀(y:Unit),True→True∧True∧True)∧rA Mo x [.bool (x==(5:Int)),.top]) (fun x=>by kernel_rfl) fun(x:Int) (hx:True)=>(by
 dsimp only[rA,Mo,Au,Ax]
 (repeat' first|(with_reducible first|rfl|exact True.intro|apply AJ|apply And.intro|((first|apply Az|apply AH|apply AA|apply AI)<;>intro _))|(apply Av<;>intro _)|apply AG|refine Af () ?_ ?_|((first|apply AO|apply AN|apply AM|apply AL|apply AF|apply AE|apply AD|apply AC|apply AB)<;>try dsimp only)|apply Af|(refine Prod.forall.2 ?_;intro _;try dsimp only)|(intro _;try dsimp only))<;>(try dsimp only at*)<;>(try simp only[AR,List.length_cons,List.length_nil])<;>(try omega)
 all_goals simp [FF,FH, *])
def KG:Sig:= {X:=Int,args:=fun x=>[.int .i64 x],pre:=fun x=>True,Y:=Unit,post:=fun x y=>True,res:=fun x y=> .bool (EI x),outs:=fun x y=>[.top],keep:=false}
theorem a6D:Am G Tryz.prog 106 KG:=
 vcFun_okP [(60,0,IL)] [] false (fun x=>[]) Tryz.func106 rfl (by decide) ⟨Yt,trivial⟩ (fun(x:Int)=>(∀(y:Unit),True→True∧True∧True)∧cA IL [.int .i64 x] fun x_1 y=>Aa (JG x_1) (rA KG x [.bool true,.top]) (rA KG x [.bool (x==(19:Int)),.top])) (fun x=>by kernel_rfl) fun(x:Int) (hx:True)=>(by
 dsimp only[cA,rA,IL,KG,Au,Ax,mvL,lnL,mvE,lnE]
 (repeat' first|(with_reducible first|rfl|exact True.intro|apply AJ|apply And.intro|((first|apply Az|apply AH|apply AA|apply AI)<;>intro _))|(apply Av<;>intro _)|apply AG|refine Af () ?_ ?_|((first|apply AO|apply AN|apply AM|apply AL|apply AF|apply AE|apply AD|apply AC|apply AB)<;>try dsimp only)|apply Af|(refine Prod.forall.2 ?_;intro _;try dsimp only)|(intro _;try dsimp only))<;>(try dsimp only at*)<;>(try simp only[AR,List.length_cons,List.length_nil])<;>(try omega)
 all_goals simp [EI,FH, *])
def KH:Sig:= {X:=Int,args:=fun x=>[.int .i64 x],pre:=fun x=>True,Y:=Unit,post:=fun x y=>True,res:=fun x y=> .bool (GJ x),outs:=fun x y=>[.top],keep:=false}
theorem a6E:Am G Tryz.prog 107 KH:=
 vcFun_okP [(61,0,FJ)] [] false (fun x=>[]) Tryz.func107 rfl (by decide) ⟨Ux,trivial⟩ (fun(x:Int)=>(∀(y:Unit),True→True∧True∧True)∧cA FJ [.int .i64 x] fun x_1 y=>Aa (EH x_1) (rA KH x [.bool true,.top]) (rA KH x [.bool (x==(21:Int)),.top])) (fun x=>by kernel_rfl) fun(x:Int) (hx:True)=>(by
 dsimp only[cA,rA,FJ,KH,Au,Ax,mvL,lnL,mvE,lnE]
 (repeat' first|(with_reducible first|rfl|exact True.intro|apply AJ|apply And.intro|((first|apply Az|apply AH|apply AA|apply AI)<;>intro _))|(apply Av<;>intro _)|apply AG|refine Af () ?_ ?_|((first|apply AO|apply AN|apply AM|apply AL|apply AF|apply AE|apply AD|apply AC|apply AB)<;>try dsimp only)|apply Af|(refine Prod.forall.2 ?_;intro _;try dsimp only)|(intro _;try dsimp only))<;>(try dsimp only at*)<;>(try simp only[AR,List.length_cons,List.length_nil])<;>(try omega)
 all_goals simp [GJ,FH, *])
def Mp:Sig:= {X:=Int,args:=fun x=>[.int .i64 x],pre:=fun x=>True,Y:=Unit,post:=fun x y=>True,res:=fun x y=> .bool (Et x),outs:=fun x y=>[.top],keep:=false}
theorem a6F:Am G Tryz.prog 132 Mp:=
 vcFun_okP [] [] false (fun x=>[]) Tryz.func132 rfl (by decide) trivial (fun(x:Int)=>(∀(y:Unit),True→True∧True∧True)∧rA Mp x [.bool (x==(1:Int)),.top]) (fun x=>by kernel_rfl) fun(x:Int) (hx:True)=>(by
 dsimp only[rA,Mp,Au,Ax]
 (repeat' first|(with_reducible first|rfl|exact True.intro|apply AJ|apply And.intro|((first|apply Az|apply AH|apply AA|apply AI)<;>intro _))|(apply Av<;>intro _)|apply AG|refine Af () ?_ ?_|((first|apply AO|apply AN|apply AM|apply AL|apply AF|apply AE|apply AD|apply AC|apply AB)<;>try dsimp only)|apply Af|(refine Prod.forall.2 ?_;intro _;try dsimp only)|(intro _;try dsimp only))<;>(try dsimp only at*)<;>(try simp only[AR,List.length_cons,List.length_nil])<;>(try omega)
 all_goals simp [Et,FH, *])
def Ec(p:Int→Bool)(x:List Int)(i:Int):Prop:=0≤i∧i≤x.length∧∀e∈x.take i.toNat,p e=true
theorem KI{p:Int→Bool}{x:List Int}:Ec p x 0:=⟨by omega,by omega,by simp⟩
theorem KJ{p:Int→Bool}{x:List Int}{i:Int}{e:Int}(h:Ec p x i)(he:x[i.toNat]? =some e)(hp:p e=true):Ec p x (i+1):=by
 obtain⟨h1,h2,h3⟩:=h
 have:=(Fl he).1
 exact⟨by omega,by omega,by rw[Dv h1];exact a6A he hp h3⟩
theorem KK{p:Int→Bool}{x:List Int}{i:Int}(h:Ec p x i)(hl:¬i<x.length):true=x.all p:=(a6B h.2.2 (by omega)).symm
def CJ(p:Int→Bool)(c:AV)(x:List Int):LS:= {
 ι:=Int,inv:=Ec p x,regs:=fun i=>[(0,Aq x),(1,c),(7,Aq x),(8,.int .i64 x.length),(9,.int .i64 i)],als:=[],meas:=fun i=>x.length-i.toNat}
def KL:Sig:= {X:=List Int,args:=fun x=>[Aq x,.clo (.func 102) []],pre:=fun x=>x.length<2^62,Y:=Unit,post:=fun x y=>True,res:=fun x y=> .bool (x.all BH),outs:=fun x y=>[.top,.top],keep:=false}
theorem a6G:Am G Tryz.prog 101 KL:=
 vcFun_okP [(102,0,FI)] [] false (fun x=>[(2,CJ BH (.clo (.func 102) []) x)]) Tryz.func101 rfl (by decide) ⟨Uv,trivial⟩ (fun(x:List Int)=>(∀(y:Unit),True→True∧True∧True∧True)∧eA (CJ BH (AV.clo (.func 102) []) x) [Aq x,AV.clo (.func 102) [],Aq x,.int .i64 (↑(List.length x):Int),.int .i64 (0:Int)]∧∀(i:Int),Ec BH x i→Aa (decide (i<(↑(List.length x):Int))) (((0:Int)≤i∧i<(↑(List.length x):Int))∧∀(e:Int),x[Int.toNat i]? =some e→cA FI [.int .i64 e] fun x_1 y=>Aa (!BH x_1) (rA KL x [.bool false,.top,.top]) (inR IntKind.i64 (i+(1:Int))∧eN (CJ BH (AV.clo (.func 102) []) x) i [Aq x,AV.clo (.func 102) [],Aq x,.int .i64 (↑(List.length x):Int),.int .i64 (i+(1:Int))])) (rA KL x [.bool true,.top,.top])) (fun x=>by kernel_rfl) fun(x:List Int) (hx:x.length<2^62)=>(by
 dsimp only[cA,eA,eN,Aq,CJ,rA,KL,FI,Au,Ax,mvL,lnL,mvE,lnE,Bm]
 have hx:x.length<2^62:=hx
 (repeat' first|(with_reducible first|rfl|exact True.intro|apply AJ|apply And.intro|((first|apply Az|apply AH|apply AA|apply AI)<;>intro _))|(apply Av<;>intro _)|apply AG|refine Af () ?_ ?_|((first|apply AO|apply AN|apply AM|apply AL|apply AF|apply AE|apply AD|apply AC|apply AB)<;>try dsimp only)|apply Af|(refine Prod.forall.2 ?_;intro _;try dsimp only)|(intro _;try dsimp only))
 all_goals first|exact KI|(rename_i i hi hl e he y _ hp;exact(KF he hp).symm)|(rename_i i hi hl e he y _ hp;exact KJ hi he hp)|(rename_i i hi hl;exact KK hi hl)|(obtain⟨_,_,_⟩:= ‹Ec _ _ _›;(try simp only[AR] at*);omega)|skip)
def KM:Sig:= {X:=List Int,args:=fun x=>[Aq x,.clo (.func 105) []],pre:=fun x=>x.length<2^62,Y:=Unit,post:=fun x y=>True,res:=fun x y=> .bool (x.all DP),outs:=fun x y=>[.top,.top],keep:=false}
theorem a6H:Am G Tryz.prog 101 KM:=
 vcFun_okP [(105,0,GN)] [] false (fun x=>[(2,CJ DP (.clo (.func 105) []) x)]) Tryz.func101 rfl (by decide) ⟨Uw,trivial⟩ (fun(x:List Int)=>(∀(y:Unit),True→True∧True∧True∧True)∧eA (CJ DP (AV.clo (.func 105) []) x) [Aq x,AV.clo (.func 105) [],Aq x,.int .i64 (↑(List.length x):Int),.int .i64 (0:Int)]∧∀(i:Int),Ec DP x i→Aa (decide (i<(↑(List.length x):Int))) (((0:Int)≤i∧i<(↑(List.length x):Int))∧∀(e:Int),x[Int.toNat i]? =some e→cA GN [.int .i64 e] fun x_1 y=>Aa (!DP x_1) (rA KM x [.bool false,.top,.top]) (inR IntKind.i64 (i+(1:Int))∧eN (CJ DP (AV.clo (.func 105) []) x) i [Aq x,AV.clo (.func 105) [],Aq x,.int .i64 (↑(List.length x):Int),.int .i64 (i+(1:Int))])) (rA KM x [.bool true,.top,.top])) (fun x=>by kernel_rfl) fun(x:List Int) (hx:x.length<2^62)=>(by
 dsimp only[cA,eA,eN,Aq,CJ,rA,KM,GN,Au,Ax,mvL,lnL,mvE,lnE,Bm]
 have hx:x.length<2^62:=hx
 (repeat' first|(with_reducible first|rfl|exact True.intro|apply AJ|apply And.intro|((first|apply Az|apply AH|apply AA|apply AI)<;>intro _))|(apply Av<;>intro _)|apply AG|refine Af () ?_ ?_|((first|apply AO|apply AN|apply AM|apply AL|apply AF|apply AE|apply AD|apply AC|apply AB)<;>try dsimp only)|apply Af|(refine Prod.forall.2 ?_;intro _;try dsimp only)|(intro _;try dsimp only))
 all_goals first|exact KI|(rename_i i hi hl e he y _ hp;exact(KF he hp).symm)|(rename_i i hi hl e he y _ hp;exact KJ hi he hp)|(rename_i i hi hl;exact KK hi hl)|(obtain⟨_,_,_⟩:= ‹Ec _ _ _›;(try simp only[AR] at*);omega)|skip)
def KN:Sig:= {X:=List Int,args:=fun x=>[Aq x,.clo (.func 61) []],pre:=fun x=>x.length<2^62,Y:=Unit,post:=fun x y=>True,res:=fun x y=> .bool (x.all EH),outs:=fun x y=>[.top,.top],keep:=false}
theorem a6I:Am G Tryz.prog 101 KN:=
 vcFun_okP [(61,0,FJ)] [] false (fun x=>[(2,CJ EH (.clo (.func 61) []) x)]) Tryz.func101 rfl (by decide) ⟨Ux,trivial⟩ (fun(x:List Int)=>(∀(y:Unit),True→True∧True∧True∧True)∧eA (CJ EH (AV.clo (.func 61) []) x) [Aq x,AV.clo (.func 61) [],Aq x,.int .i64 (↑(List.length x):Int),.int .i64 (0:Int)]∧∀(i:Int),Ec EH x i→Aa (decide (i<(↑(List.length x):Int))) (((0:Int)≤i∧i<(↑(List.length x):Int))∧∀(e:Int),x[Int.toNat i]? =some e→cA FJ [.int .i64 e] fun x_1 y=>Aa (!EH x_1) (rA KN x [.bool false,.top,.top]) (inR IntKind.i64 (i+(1:Int))∧eN (CJ EH (AV.clo (.func 61) []) x) i [Aq x,AV.clo (.func 61) [],Aq x,.int .i64 (↑(List.length x):Int),.int .i64 (i+(1:Int))])) (rA KN x [.bool true,.top,.top])) (fun x=>by kernel_rfl) fun(x:List Int) (hx:x.length<2^62)=>(by
 dsimp only[cA,eA,eN,Aq,CJ,rA,KN,FJ,Au,Ax,mvL,lnL,mvE,lnE,Bm]
 have hx:x.length<2^62:=hx
 (repeat' first|(with_reducible first|rfl|exact True.intro|apply AJ|apply And.intro|((first|apply Az|apply AH|apply AA|apply AI)<;>intro _))|(apply Av<;>intro _)|apply AG|refine Af () ?_ ?_|((first|apply AO|apply AN|apply AM|apply AL|apply AF|apply AE|apply AD|apply AC|apply AB)<;>try dsimp only)|apply Af|(refine Prod.forall.2 ?_;intro _;try dsimp only)|(intro _;try dsimp only))
 all_goals first|exact KI|(rename_i i hi hl e he y _ hp;exact(KF he hp).symm)|(rename_i i hi hl e he y _ hp;exact KJ hi he hp)|(rename_i i hi hl;exact KK hi hl)|(obtain⟨_,_,_⟩:= ‹Ec _ _ _›;(try simp only[AR] at*);omega)|skip)
def KO:Sig:= {X:=List Int,args:=fun x=>[Aq x,.clo (.func 104) []],pre:=fun x=>x.length<2^62,Y:=Unit,post:=fun x y=>True,res:=fun x y=> .bool (x.all FF),outs:=fun x y=>[.top,.top],keep:=false}
theorem a6J:Am G Tryz.prog 101 KO:=
 vcFun_okP [(104,0,Mo)] [] false (fun x=>[(2,CJ FF (.clo (.func 104) []) x)]) Tryz.func101 rfl (by decide) ⟨a6C,trivial⟩ (fun(x:List Int)=>(∀(y:Unit),True→True∧True∧True∧True)∧eA (CJ FF (AV.clo (.func 104) []) x) [Aq x,AV.clo (.func 104) [],Aq x,.int .i64 (↑(List.length x):Int),.int .i64 (0:Int)]∧∀(i:Int),Ec FF x i→Aa (decide (i<(↑(List.length x):Int))) (((0:Int)≤i∧i<(↑(List.length x):Int))∧∀(e:Int),x[Int.toNat i]? =some e→cA Mo [.int .i64 e] fun x_1 y=>Aa (!FF x_1) (rA KO x [.bool false,.top,.top]) (inR IntKind.i64 (i+(1:Int))∧eN (CJ FF (AV.clo (.func 104) []) x) i [Aq x,AV.clo (.func 104) [],Aq x,.int .i64 (↑(List.length x):Int),.int .i64 (i+(1:Int))])) (rA KO x [.bool true,.top,.top])) (fun x=>by kernel_rfl) fun(x:List Int) (hx:x.length<2^62)=>(by
 dsimp only[cA,eA,eN,Aq,CJ,rA,KO,Mo,Au,Ax,mvL,lnL,mvE,lnE,Bm]
 have hx:x.length<2^62:=hx
 (repeat' first|(with_reducible first|rfl|exact True.intro|apply AJ|apply And.intro|((first|apply Az|apply AH|apply AA|apply AI)<;>intro _))|(apply Av<;>intro _)|apply AG|refine Af () ?_ ?_|((first|apply AO|apply AN|apply AM|apply AL|apply AF|apply AE|apply AD|apply AC|apply AB)<;>try dsimp only)|apply Af|(refine Prod.forall.2 ?_;intro _;try dsimp only)|(intro _;try dsimp only))
 all_goals first|exact KI|(rename_i i hi hl e he y _ hp;exact(KF he hp).symm)|(rename_i i hi hl e he y _ hp;exact KJ hi he hp)|(rename_i i hi hl;exact KK hi hl)|(obtain⟨_,_,_⟩:= ‹Ec _ _ _›;(try simp only[AR] at*);omega)|skip)
def KP:Sig:= {X:=List Int,args:=fun x=>[Aq x,.clo (.func 106) []],pre:=fun x=>x.length<2^62,Y:=Unit,post:=fun x y=>True,res:=fun x y=> .bool (x.all EI),outs:=fun x y=>[.top,.top],keep:=false}
theorem a6K:Am G Tryz.prog 101 KP:=
 vcFun_okP [(106,0,KG)] [] false (fun x=>[(2,CJ EI (.clo (.func 106) []) x)]) Tryz.func101 rfl (by decide) ⟨a6D,trivial⟩ (fun(x:List Int)=>(∀(y:Unit),True→True∧True∧True∧True)∧eA (CJ EI (AV.clo (.func 106) []) x) [Aq x,AV.clo (.func 106) [],Aq x,.int .i64 (↑(List.length x):Int),.int .i64 (0:Int)]∧∀(i:Int),Ec EI x i→Aa (decide (i<(↑(List.length x):Int))) (((0:Int)≤i∧i<(↑(List.length x):Int))∧∀(e:Int),x[Int.toNat i]? =some e→cA KG [.int .i64 e] fun x_1 y=>Aa (!EI x_1) (rA KP x [.bool false,.top,.top]) (inR IntKind.i64 (i+(1:Int))∧eN (CJ EI (AV.clo (.func 106) []) x) i [Aq x,AV.clo (.func 106) [],Aq x,.int .i64 (↑(List.length x):Int),.int .i64 (i+(1:Int))])) (rA KP x [.bool true,.top,.top])) (fun x=>by kernel_rfl) fun(x:List Int) (hx:x.length<2^62)=>(by
 dsimp only[cA,eA,eN,Aq,CJ,rA,KP,KG,Au,Ax,mvL,lnL,mvE,lnE,Bm]
 have hx:x.length<2^62:=hx
 (repeat' first|(with_reducible first|rfl|exact True.intro|apply AJ|apply And.intro|((first|apply Az|apply AH|apply AA|apply AI)<;>intro _))|(apply Av<;>intro _)|apply AG|refine Af () ?_ ?_|((first|apply AO|apply AN|apply AM|apply AL|apply AF|apply AE|apply AD|apply AC|apply AB)<;>try dsimp only)|apply Af|(refine Prod.forall.2 ?_;intro _;try dsimp only)|(intro _;try dsimp only))
 all_goals first|exact KI|(rename_i i hi hl e he y _ hp;exact(KF he hp).symm)|(rename_i i hi hl e he y _ hp;exact KJ hi he hp)|(rename_i i hi hl;exact KK hi hl)|(obtain⟨_,_,_⟩:= ‹Ec _ _ _›;(try simp only[AR] at*);omega)|skip)
def KQ:Sig:= {X:=List Int,args:=fun x=>[Aq x,.clo (.func 107) []],pre:=fun x=>x.length<2^62,Y:=Unit,post:=fun x y=>True,res:=fun x y=> .bool (x.all GJ),outs:=fun x y=>[.top,.top],keep:=false}
theorem a6L:Am G Tryz.prog 101 KQ:=
 vcFun_okP [(107,0,KH)] [] false (fun x=>[(2,CJ GJ (.clo (.func 107) []) x)]) Tryz.func101 rfl (by decide) ⟨a6E,trivial⟩ (fun(x:List Int)=>(∀(y:Unit),True→True∧True∧True∧True)∧eA (CJ GJ (AV.clo (.func 107) []) x) [Aq x,AV.clo (.func 107) [],Aq x,.int .i64 (↑(List.length x):Int),.int .i64 (0:Int)]∧∀(i:Int),Ec GJ x i→Aa (decide (i<(↑(List.length x):Int))) (((0:Int)≤i∧i<(↑(List.length x):Int))∧∀(e:Int),x[Int.toNat i]? =some e→cA KH [.int .i64 e] fun x_1 y=>Aa (!GJ x_1) (rA KQ x [.bool false,.top,.top]) (inR IntKind.i64 (i+(1:Int))∧eN (CJ GJ (AV.clo (.func 107) []) x) i [Aq x,AV.clo (.func 107) [],Aq x,.int .i64 (↑(List.length x):Int),.int .i64 (i+(1:Int))])) (rA KQ x [.bool true,.top,.top])) (fun x=>by kernel_rfl) fun(x:List Int) (hx:x.length<2^62)=>(by
 dsimp only[cA,eA,eN,Aq,CJ,rA,KQ,KH,Au,Ax,mvL,lnL,mvE,lnE,Bm]
 have hx:x.length<2^62:=hx
 (repeat' first|(with_reducible first|rfl|exact True.intro|apply AJ|apply And.intro|((first|apply Az|apply AH|apply AA|apply AI)<;>intro _))|(apply Av<;>intro _)|apply AG|refine Af () ?_ ?_|((first|apply AO|apply AN|apply AM|apply AL|apply AF|apply AE|apply AD|apply AC|apply AB)<;>try dsimp only)|apply Af|(refine Prod.forall.2 ?_;intro _;try dsimp only)|(intro _;try dsimp only))
 all_goals first|exact KI|(rename_i i hi hl e he y _ hp;exact(KF he hp).symm)|(rename_i i hi hl e he y _ hp;exact KJ hi he hp)|(rename_i i hi hl;exact KK hi hl)|(obtain⟨_,_,_⟩:= ‹Ec _ _ _›;(try simp only[AR] at*);omega)|skip)
def Ig:Sig:= {X:=List Int,args:=fun x=>[Aq x,.clo (.func 132) []],pre:=fun x=>x.length<2^62,Y:=Unit,post:=fun x y=>True,res:=fun x y=> .bool (x.all Et),outs:=fun x y=>[.top,.top],keep:=false}
theorem Yu:Am G Tryz.prog 101 Ig:=
 vcFun_okP [(132,0,Mp)] [] false (fun x=>[(2,CJ Et (.clo (.func 132) []) x)]) Tryz.func101 rfl (by decide) ⟨a6F,trivial⟩ (fun(x:List Int)=>(∀(y:Unit),True→True∧True∧True∧True)∧eA (CJ Et (AV.clo (.func 132) []) x) [Aq x,AV.clo (.func 132) [],Aq x,.int .i64 (↑(List.length x):Int),.int .i64 (0:Int)]∧∀(i:Int),Ec Et x i→Aa (decide (i<(↑(List.length x):Int))) (((0:Int)≤i∧i<(↑(List.length x):Int))∧∀(e:Int),x[Int.toNat i]? =some e→cA Mp [.int .i64 e] fun x_1 y=>Aa (!Et x_1) (rA Ig x [.bool false,.top,.top]) (inR IntKind.i64 (i+(1:Int))∧eN (CJ Et (AV.clo (.func 132) []) x) i [Aq x,AV.clo (.func 132) [],Aq x,.int .i64 (↑(List.length x):Int),.int .i64 (i+(1:Int))])) (rA Ig x [.bool true,.top,.top])) (fun x=>by kernel_rfl) fun(x:List Int) (hx:x.length<2^62)=>(by
 dsimp only[cA,eA,eN,Aq,CJ,rA,Ig,Mp,Au,Ax,mvL,lnL,mvE,lnE,Bm]
 have hx:x.length<2^62:=hx
 (repeat' first|(with_reducible first|rfl|exact True.intro|apply AJ|apply And.intro|((first|apply Az|apply AH|apply AA|apply AI)<;>intro _))|(apply Av<;>intro _)|apply AG|refine Af () ?_ ?_|((first|apply AO|apply AN|apply AM|apply AL|apply AF|apply AE|apply AD|apply AC|apply AB)<;>try dsimp only)|apply Af|(refine Prod.forall.2 ?_;intro _;try dsimp only)|(intro _;try dsimp only))
 all_goals first|exact KI|(rename_i i hi hl e he y _ hp;exact(KF he hp).symm)|(rename_i i hi hl e he y _ hp;exact KJ hi he hp)|(rename_i i hi hl;exact KK hi hl)|(obtain⟨_,_,_⟩:= ‹Ec _ _ _›;(try simp only[AR] at*);omega)|skip)
theorem Yv{p:Int→Bool}{x:List Int}(h:¬(0:Int)<x.length):false=GK p x:=by
 obtain rfl:x=[]:=List.length_eq_zero_iff.1 (by omega)
 rfl
theorem Yw{p:Int→Bool}{x:List Int}{e:Int}(he:x[(x.length-1:Int).toNat]? =some e):GK p x=(p e&&(x.take (x.length-1:Int).toNat).all Et):=by
 have e1:(x.length-1:Int).toNat=x.length-1:=by omega
 rw[e1] at he ⊢
 unfold GK
 rw[List.getLast?_eq_getElem?,he,List.dropLast_eq_take]
def JJ:Sig:= {X:=List Int,args:=fun x=>[Aq x,.clo (.func 102) []],pre:=fun x=>x.length<2^62,Y:=Unit,post:=fun x y=>True,res:=fun x y=> .bool (GK BH x),outs:=fun x y=>[.top,.top],keep:=false}
theorem a6M:Am G Tryz.prog 103 JJ:=
 vcFun_okP [(102,0,FI),(101,132+1,Ig)] [] false (fun x=>[]) Tryz.func103 rfl (by decide) ⟨Uv,Yu,trivial⟩ (fun(x:List Int)=>(∀(y:Unit),True→True∧True∧True∧True)∧Aa (decide ((↑(List.length x):Int)>(0:Int))) (inR IntKind.i64 ((↑(List.length x):Int)-(1:Int))∧((0:Int)≤(↑(List.length x):Int)-(1:Int)∧(↑(List.length x):Int)-(1:Int)<(↑(List.length x):Int))∧∀(e:Int),x[Int.toNat ((↑(List.length x):Int)-(1:Int))]? =some e→cA FI [.int .i64 e] fun x_1 y=>Aa (BH x_1) (inR IntKind.i64 ((↑(List.length x):Int)-(1:Int))∧((0:Int)≤(0:Int)∧(0:Int)≤(↑(List.length x):Int)-(1:Int)∧(↑(List.length x):Int)-(1:Int)≤(↑(List.length x):Int))∧cA Ig [Aq (List.take (Int.toNat ((↑(List.length x):Int)-(1:Int))) x),AV.clo (Fn.func (161:Nat)) []] fun x_2 y=>rA JJ x [.bool (List.all x_2 Et),.top,.top]) (rA JJ x [.bool false,.top,.top])) (rA JJ x [.bool false,.top,.top])) (fun x=>by kernel_rfl) fun(x:List Int) (hx:x.length<2^62)=>(by
 dsimp only[cA,Aq,rA,Ig,FI,JJ,Au,Ax,mvL,lnL,mvE,lnE]
 have hx:x.length<2^62:=hx
 (repeat' first|(with_reducible first|rfl|exact True.intro|apply AJ|apply And.intro|((first|apply Az|apply AH|apply AA|apply AI)<;>intro _))|(apply Av<;>intro _)|apply AG|refine Af () ?_ ?_|((first|apply AO|apply AN|apply AM|apply AL|apply AF|apply AE|apply AD|apply AC|apply AB)<;>try dsimp only)|apply Af|(refine Prod.forall.2 ?_;intro _;try dsimp only)|(intro _;try dsimp only))<;>(try dsimp only at*)<;>(try simp only[AR,List.length_cons,List.length_nil])<;>(try omega)
 all_goals first|exact Yv (by omega)|(rw[Yw ‹_›];simp [*];done)|(rw[List.length_take];omega)|skip)
def JK:Sig:= {X:=List Int,args:=fun x=>[Aq x,.clo (.func 105) []],pre:=fun x=>x.length<2^62,Y:=Unit,post:=fun x y=>True,res:=fun x y=> .bool (GK DP x),outs:=fun x y=>[.top,.top],keep:=false}
theorem a6N:Am G Tryz.prog 103 JK:=
 vcFun_okP [(105,0,GN),(101,132+1,Ig)] [] false (fun x=>[]) Tryz.func103 rfl (by decide) ⟨Uw,Yu,trivial⟩ (fun(x:List Int)=>(∀(y:Unit),True→True∧True∧True∧True)∧Aa (decide ((↑(List.length x):Int)>(0:Int))) (inR IntKind.i64 ((↑(List.length x):Int)-(1:Int))∧((0:Int)≤(↑(List.length x):Int)-(1:Int)∧(↑(List.length x):Int)-(1:Int)<(↑(List.length x):Int))∧∀(e:Int),x[Int.toNat ((↑(List.length x):Int)-(1:Int))]? =some e→cA GN [.int .i64 e] fun x_1 y=>Aa (DP x_1) (inR IntKind.i64 ((↑(List.length x):Int)-(1:Int))∧((0:Int)≤(0:Int)∧(0:Int)≤(↑(List.length x):Int)-(1:Int)∧(↑(List.length x):Int)-(1:Int)≤(↑(List.length x):Int))∧cA Ig [Aq (List.take (Int.toNat ((↑(List.length x):Int)-(1:Int))) x),AV.clo (Fn.func (161:Nat)) []] fun x_2 y=>rA JK x [.bool (List.all x_2 Et),.top,.top]) (rA JK x [.bool false,.top,.top])) (rA JK x [.bool false,.top,.top])) (fun x=>by kernel_rfl) fun(x:List Int) (hx:x.length<2^62)=>(by
 dsimp only[cA,Aq,rA,Ig,GN,JK,Au,Ax,mvL,lnL,mvE,lnE]
 have hx:x.length<2^62:=hx
 (repeat' first|(with_reducible first|rfl|exact True.intro|apply AJ|apply And.intro|((first|apply Az|apply AH|apply AA|apply AI)<;>intro _))|(apply Av<;>intro _)|apply AG|refine Af () ?_ ?_|((first|apply AO|apply AN|apply AM|apply AL|apply AF|apply AE|apply AD|apply AC|apply AB)<;>try dsimp only)|apply Af|(refine Prod.forall.2 ?_;intro _;try dsimp only)|(intro _;try dsimp only))<;>(try dsimp only at*)<;>(try simp only[AR,List.length_cons,List.length_nil])<;>(try omega)
 all_goals first|exact Yv (by omega)|(rw[Yw ‹_›];simp [*];done)|(rw[List.length_take];omega)|skip)
def BR:Sig:= {X:=Int×List Int,args:=fun x=>[.int .i64 x.1,Aq x.2],pre:=fun x=>x.2.length<2^62,Y:=Unit,post:=fun x y=>True,res:=fun x y=> .bool (DQ x.1 x.2),outs:=fun x y=>[.top,.top],keep:=false}
theorem a6O:Am G Tryz.prog 62 BR:=
 vcFun_okP [(102,0,FI),(105,0,GN),(57,0,EX),(101,102+1,KL),(101,105+1,KM),(101,61+1,KN),(101,104+1,KO),(101,106+1,KP),(101,107+1,KQ),(103,102+1,JJ),(103,105+1,JK)] [] false (fun x=>[]) Tryz.func62 rfl (by decide) ⟨Uv,Uw,Qt,a6G,a6H,a6I,a6J,a6K,a6L,a6M,a6N,trivial⟩ (fun(x:Int×List Int)=>(∀(y:Unit),True→True∧True∧True∧True)∧cA KL [Aq x.2,AV.clo (Fn.func (126:Nat)) []] fun x_1 y=>Aa (x.1==(1:Int)) (rA BR x [.bool ((↑(List.length x.2):Int)==(0:Int)),.top,.top]) (Aa (x.1==(2:Int)) (rA BR x [.bool ((↑(List.length x.2):Int)==(0:Int)),.top,.top]) (Aa (x.1==(3:Int)) (rA BR x [.bool ((↑(List.length x.2):Int)==(0:Int)),.top,.top]) (Aa (x.1==(19:Int)) (rA BR x [.bool ((↑(List.length x.2):Int)==(0:Int)),.top,.top]) (Aa (x.1==(4:Int)) (rA BR x [.bool (List.all x_1 BH),.top,.top]) (Aa (x.1==(5:Int)) (Aa (decide ((↑(List.length x.2):Int)≥(1:Int))) (rA BR x [.bool (List.all x_1 BH),.top,.top]) (rA BR x [.bool false,.top,.top])) (Aa (x.1==(7:Int)) (Aa (decide ((↑(List.length x.2):Int)≥(2:Int))) (rA BR x [.bool (List.all x_1 BH),.top,.top]) (rA BR x [.bool false,.top,.top])) (Aa (x.1==(8:Int)) (Aa ((↑(List.length x.2):Int)==(3:Int)) (rA BR x [.bool (List.all x_1 BH),.top,.top]) (rA BR x [.bool false,.top,.top])) (Aa (x.1==(6:Int)) (Aa ((↑(List.length x.2):Int)==(1:Int)) (rA BR x [.bool (List.all x_1 BH),.top,.top]) (rA BR x [.bool false,.top,.top])) (Aa (x.1==(11:Int)) (Aa ((↑(List.length x.2):Int)==(1:Int)) (rA BR x [.bool (List.all x_1 BH),.top,.top]) (rA BR x [.bool false,.top,.top])) (Aa (x.1==(13:Int)) (Aa ((↑(List.length x.2):Int)==(1:Int)) (rA BR x [.bool (List.all x_1 BH),.top,.top]) (rA BR x [.bool false,.top,.top])) (Aa (x.1==(14:Int)) (Aa ((↑(List.length x.2):Int)==(1:Int)) (rA BR x [.bool (List.all x_1 BH),.top,.top]) (rA BR x [.bool false,.top,.top])) (Aa (x.1==(12:Int)) (Aa (decide ((↑(List.length x.2):Int)≤(1:Int))) (rA BR x [.bool (List.all x_1 BH),.top,.top]) (rA BR x [.bool false,.top,.top])) (Aa (x.1==(15:Int)) (Aa (decide ((↑(List.length x.2):Int)≤(1:Int))) (rA BR x [.bool (List.all x_1 BH),.top,.top]) (rA BR x [.bool false,.top,.top])) (Aa (x.1==(9:Int)) (cA JJ [Aq x.2,AV.clo (Fn.func (126:Nat)) []] fun x_2 y=>rA BR x [.bool (GK BH x_2),.top,.top]) (Aa (x.1==(10:Int)) (Aa (decide ((↑(List.length x.2):Int)≥(2:Int))) (((0:Int)≤(0:Int)∧(0:Int)<(↑(List.length x.2):Int))∧∀(e:Int),x.2[(0:Nat)]? =some e→cA FI [.int .i64 e] fun x_2 y=>Aa (BH x_2) (((0:Int)≤(1:Int)∧(1:Int)≤(↑(List.length x.2):Int)∧(↑(List.length x.2):Int)≤(↑(List.length x.2):Int))∧cA KO [Aq (List.drop (1:Nat) x.2),AV.clo (Fn.func (128:Nat)) []] fun x_3 y=>rA BR x [.bool (List.all x_3 FF),.top,.top]) (rA BR x [.bool false,.top,.top])) (rA BR x [.bool false,.top,.top])) (Aa (x.1==(16:Int)) (cA EX [.int .i64 (↑(List.length x.2):Int),.int .i64 (2:Int),.int .i64 (3:Int)] fun x_2 y=>Aa (inn x_2.1 x_2.2.1 x_2.2.2) (((0:Int)≤(0:Int)∧(0:Int)<(↑(List.length x.2):Int))∧∀(e:Int),x.2[(0:Nat)]? =some e→cA FI [.int .i64 e] fun x_3 y=>Aa (BH x_3) (((0:Int)≤(1:Int)∧(1:Int)≤(↑(List.length x.2):Int)∧(↑(List.length x.2):Int)≤(↑(List.length x.2):Int))∧cA KM [Aq (List.drop (1:Nat) x.2),AV.clo (Fn.func (129:Nat)) []] fun x_4 y=>rA BR x [.bool (List.all x_4 DP),.top,.top]) (rA BR x [.bool false,.top,.top])) (rA BR x [.bool false,.top,.top])) (Aa (x.1==(17:Int)) (Aa ((↑(List.length x.2):Int)==(2:Int)) (((0:Int)≤(0:Int)∧(0:Int)<(↑(List.length x.2):Int))∧∀(e:Int),x.2[(0:Nat)]? =some e→cA FI [.int .i64 e] fun x_2 y=>Aa (BH x_2) (((0:Int)≤(1:Int)∧(1:Int)<(↑(List.length x.2):Int))∧∀(e:Int),x.2[(1:Nat)]? =some e→cA GN [.int .i64 e] fun x_3 y=>rA BR x [.bool (DP x_3),.top,.top]) (rA BR x [.bool false,.top,.top])) (rA BR x [.bool false,.top,.top])) (Aa (x.1==(18:Int)) (cA KP [Aq x.2,AV.clo (Fn.func (130:Nat)) []] fun x_2 y=>rA BR x [.bool (List.all x_2 EI),.top,.top]) (Aa (x.1==(20:Int)) (cA JK [Aq x.2,AV.clo (Fn.func (129:Nat)) []] fun x_2 y=>rA BR x [.bool (GK DP x_2),.top,.top]) (Aa (x.1==(21:Int)) (cA KN [Aq x.2,AV.clo (Fn.func (99:Nat)) []] fun x_2 y=>rA BR x [.bool (List.all x_2 EH),.top,.top]) (Aa (x.1==(22:Int)) (cA KQ [Aq x.2,AV.clo (Fn.func (131:Nat)) []] fun x_2 y=>rA BR x [.bool (List.all x_2 GJ),.top,.top]) (rA BR x [.bool false,.top,.top]))))))))))))))))))))))) (fun x=>by kernel_rfl) fun(x:Int×List Int) (hx:x.2.length<2^62)=>(by
 dsimp only[cA,Aq,rA,KM,KO,KN,KP,KQ,KL,EX,GN,FI,BR,JK,JJ,Au,Ax,mvL,lnL,mvE,lnE]
 have hx:x.2.length<2^62:=hx
 obtain⟨k,l⟩:=x
 (repeat' first|(with_reducible first|rfl|exact True.intro|apply AJ|apply And.intro|((first|apply Az|apply AH|apply AA|apply AI)<;>intro _))|(apply Av<;>intro _)|apply AG|refine Af () ?_ ?_|((first|apply AO|apply AN|apply AM|apply AL|apply AF|apply AE|apply AD|apply AC|apply AB)<;>try dsimp only)|apply Af|(refine Prod.forall.2 ?_;intro _;try dsimp only)|(intro _;try dsimp only))<;>(try dsimp only at*)<;>(try simp only[AR,List.length_cons,List.length_nil])<;>(try omega)
 all_goals try(simp only[List.length_drop];omega)
 all_goals try(simp [DQ,FH, *]<;>omega)
 all_goals(match l with
  |[]=>simp_all [DQ,inn]<;>omega
  |[a]=>simp_all [DQ,inn]<;>omega
  |[a,b]=>simp_all [DQ,inn]<;>omega
  |[a,b,c]=>simp_all [DQ,inn]<;>omega
  |a::b::c::d::m=>simp_all [DQ,inn]<;>omega))
def Gh:Sig:= {X:=List Nd×Int,args:=fun x=>[nds x.1,.int .i64 x.2],pre:=fun x=>x.1.length<2^62,Y:=Unit,post:=fun x y=>True,res:=fun x y=> .bool (BK x.1 x.2),outs:=fun x y=>[.top,.top],keep:=false}
theorem Uy:Am G Tryz.prog 52 Gh:=
 vcFun_okP [] [] false (fun x=>[]) Tryz.func52 rfl (by decide) trivial (fun(x:List Nd×Int)=>(∀(y:Unit),True→True∧True∧True∧True)∧Aa (decide (x.2≥(0:Int))) (rA Gh x [.bool (decide (x.2<(↑(List.length x.1):Int))),.top,.top]) (rA Gh x [.bool false,.top,.top])) (fun x=>by kernel_rfl) fun(x:List Nd×Int) (hx:x.1.length<2^62)=>(by
 dsimp only[Bn,nds,rA,Gh,Au,Ax]
 have hx:x.1.length<2^62:=hx
 (repeat' first|(with_reducible first|rfl|exact True.intro|apply AJ|apply And.intro|((first|apply Az|apply AH|apply AA|apply AI)<;>intro _))|(apply Av<;>intro _)|apply AG|refine Af () ?_ ?_|((first|apply AO|apply AN|apply AM|apply AL|apply AF|apply AE|apply AD|apply AC|apply AB)<;>try dsimp only)|apply Af|(refine Prod.forall.2 ?_;intro _;try dsimp only)|(intro _;try dsimp only))<;>(try dsimp only at*)<;>(try simp only[AR,List.length_cons,List.length_nil])<;>(try omega)
 all_goals simp [BK, *])
end Go.My
end
section
set_option linter.unusedVariables false
set_option linter.unusedSimpArgs false
namespace Go.My
open Go.Eng Go.Proofs
variable {G:GInv}
def Oo(x:Nd):Prop:=x.text.length<2^62∧x.kids.length<2^62
def Be(l:List Nd):Prop:=l.length<2^62∧∀x∈l,Oo x
theorem a6P{l:List Nd}{n:Nat}{x:Nd}(hx:l[n]? =some x)(h:Be l):Oo x:=h.2 x (Cz hx)
def GP(v:Int):List Int→Int→Int
 |[],_=> -1
 |c::l,i=>if v=c then i else GP v l (i+1)
theorem Yx{v:Int}:∀ {l:List Int} {i:Int},0≤i→(0≤GP v l i↔v∈l)
 |[],i,h=>by simp [GP]
 |c::l,i,h=>by
  unfold GP
  by_cases e:v=c
  ·simp [e,h]
  ·rw[if_neg e,Yx (by omega)];simp [e]
def KR:Sig:= {X:=List Int×Int,args:=fun x=>[Aq x.1,.int .i64 x.2],pre:=fun x=>x.1.length<2^62,Y:=Unit,post:=fun x y=>True,res:=fun x y=> .int .i64 (GP x.2 x.1 0),outs:=fun x y=>[.top,.top],keep:=false}
def QB(x:List Int×Int):LS:= {ι:=Int,inv:=fun i=>(0≤i∧i≤x.1.length)∧GP x.2 (x.1.drop i.toNat) i=GP x.2 x.1 0,regs:=fun i=>[(0,Aq x.1),(1,.int .i64 x.2),(7,.int .i64 x.1.length),(8,.int .i64 i)],als:=[],meas:=fun i=>x.1.length-i.toNat}
theorem a6Q:Am G Tryz.prog 100 KR:=
 vcFun_okP [] [] false (fun x=>[(2,QB x)]) Tryz.func100 rfl (by decide) trivial (fun(x:List Int×Int)=>(∀(y:Unit),True→True∧True∧True∧True)∧eA (QB x) [Aq x.1,.int .i64 x.2,.int .i64 (↑(List.length x.1):Int),.int .i64 (0:Int)]∧∀(i:Int),((0:Int)≤i∧i≤(↑(List.length x.1):Int))∧GP x.2 (List.drop (Int.toNat i) x.1) i=GP x.2 x.1 (0:Int)→Aa (decide (i<(↑(List.length x.1):Int))) (((0:Int)≤i∧i<(↑(List.length x.1):Int))∧∀(e:Int),x.1[Int.toNat i]? =some e→Aa (x.2==e) (rA KR x [.int .i64 i,.top,.top]) (inR IntKind.i64 (i+(1:Int))∧eN (QB x) i [Aq x.1,.int .i64 x.2,.int .i64 (↑(List.length x.1):Int),.int .i64 (i+(1:Int))])) (rA KR x [.int .i64 (-1:Int),.top,.top])) (fun x=>by kernel_rfl) fun(x:List Int×Int) (hx:x.1.length<2^62)=>(by
 dsimp only[eA,eN,QB,Aq,rA,KR,Au,Ax,Bm]
 have hx:x.1.length<2^62:=hx
 (repeat' first|(with_reducible first|rfl|exact True.intro|apply AJ|apply And.intro|((first|apply Az|apply AH|apply AA|apply AI)<;>intro _))|(apply Av<;>intro _)|apply AG|refine Af () ?_ ?_|((first|apply AO|apply AN|apply AM|apply AL|apply AF|apply AE|apply AD|apply AC|apply AB)<;>try dsimp only)|apply Af|(refine Prod.forall.2 ?_;intro _;try dsimp only)|(intro _;try dsimp only))<;>(try dsimp only at*)<;>(try simp only[AR,List.length_cons,List.length_nil])<;>(try omega)
 all_goals first
  |(rename_i i hi hl e he h;rw[←hi.2,Ia he];simp [GP,h];done)
  |(rename_i i hi hl e he h;rw[←hi.2,Ia he,Dv hi.1.1];simp [GP,h];done)
  |rfl
  |(rename_i i hi hl;rw[←hi.2,List.drop_eq_nil_of_le (by omega)];rfl)
  |skip)
def IM:Sig:= {X:=List Int×Int,args:=fun x=>[Aq x.1,.int .i64 x.2],pre:=fun x=>x.1.length<2^62,Y:=Unit,post:=fun x y=>True,res:=fun x y=> .bool (x.1.elem x.2),outs:=fun x y=>[.top,.top],keep:=false}
theorem Yy:Am G Tryz.prog 59 IM:=
 vcFun_okP [(100,0,KR)] [] false (fun x=>[]) Tryz.func59 rfl (by decide) ⟨a6Q,trivial⟩ (fun(x:List Int×Int)=>(∀(y:Unit),True→True∧True∧True∧True)∧cA KR [Aq x.1,.int .i64 x.2] fun x_1 y=>rA IM x [.bool (decide (GP x_1.2 x_1.1 (0:Int)≥(0:Int))),.top,.top]) (fun x=>by kernel_rfl) fun(x:List Int×Int) (hx:x.1.length<2^62)=>(by
 dsimp only[cA,Aq,rA,IM,KR,Au,Ax,mvL,lnL,mvE,lnE]
 have hx:x.1.length<2^62:=hx
 (repeat' first|(with_reducible first|rfl|exact True.intro|apply AJ|apply And.intro|((first|apply Az|apply AH|apply AA|apply AI)<;>intro _))|(apply Av<;>intro _)|apply AG|refine Af () ?_ ?_|((first|apply AO|apply AN|apply AM|apply AL|apply AF|apply AE|apply AD|apply AC|apply AB)<;>try dsimp only)|apply Af|(refine Prod.forall.2 ?_;intro _;try dsimp only)|(intro _;try dsimp only))<;>(try dsimp only at*)<;>(try simp only[AR,List.length_cons,List.length_nil])<;>(try omega)
 all_goals first|(rw[Bool.eq_iff_iff,decide_eq_true_iff,List.elem_iff];exact Yx (by omega))|skip)
theorem Yz{ns:List Nd}{x:Nd}:EV ns x=true↔∀(j:Nat) c,x.kids[j]? =some c→CG ns x j c=true:=by
 have e:EV ns x=BQ (fun i c=>CG ns x i.toNat c) x.kids 0:=by
  unfold EV
  have:(fun p:Int×Nat=>CG ns x p.2 p.1)=fun p:Int×Nat=>(fun(i c:Int)=>CG ns x i.toNat c) p.2 p.1:=by funext p;simp
  rw[this];exact Uh (f:=fun i c=>CG ns x i.toNat c) (i:=0)
 rw[e,Ui];simp
def cfI(ns:List Nd)(x:Nd)(i:Int):Prop:=0≤i∧i≤x.kids.length∧∀(j:Nat) c,(j:Int)<i→x.kids[j]? =some c→CG ns x j c=true
theorem a6R{ns:List Nd}{x:Nd}:cfI ns x 0:=⟨by omega,by omega,fun j c h=>by omega⟩
theorem QC{ns:List Nd}{x:Nd}{i c:Int}(h:cfI ns x i)(hc:x.kids[i.toNat]? =some c)(hk:CG ns x i.toNat c=true):cfI ns x (i+1):=by
 obtain⟨h1,h2,h3⟩:=h
 have:=(Fl hc).1
 refine⟨by omega,by omega,fun j d hj hd=> ?_⟩
 by_cases e:(j:Int)<i
 ·exact h3 j d e hd
 ·obtain rfl:j=i.toNat:=by omega
  rw[hc] at hd;cases hd;exact hk
theorem a6S{ns:List Nd}{x:Nd}{i:Int}(h:cfI ns x i)(hl:¬i<x.kids.length):true=EV ns x:=by
 symm;rw[Yz];intro j c hc
 exact h.2.2 j c (by have:=(Fl hc).1;omega) hc
theorem Uz{ns:List Nd}{x:Nd}{i c:Int}(hc:x.kids[i.toNat]? =some c)(hk:CG ns x i.toNat c=false):false=EV ns x:=by
 symm;rw[Bool.eq_false_iff];intro h
 rw[Yz.1 h _ _ hc] at hk;cases hk
theorem a6T{ns:List Nd}{x y:Nd}{i c:Int}(hy:ns[c.toNat]? =some y)(h:y.kind≠5):CG ns x i.toNat c=true:=by
 simp [CG,Bg hy,h]
theorem a6U{ns:List Nd}{x y:Nd}{i c:Int}(hy:ns[c.toNat]? =some y)(h:y.kind=5)(h0:(y.kids.length:Int)=0):CG ns x i.toNat c=false:=by
 have h0:=List.length_eq_zero_iff.1 (show y.kids.length=0 by omega)
 simp [CG,Bg hy,h,h0]
theorem a6V{ns:List Nd}{x y:Nd}{i c d:Int}(hy:ns[c.toNat]? =some y)(h:y.kind=5)(hd:BK ns d=false)(h0:y.kids[0]? =some d):CG ns x i.toNat c=false:=by
 match hk:y.kids with
 |[]=>rw[hk] at h0;cases h0
 |e::t=>rw[hk] at h0;cases h0;simp [CG,Bg hy,h,hk,hd]
theorem a6W{ns:List Nd}{x y z:Nd}{i c d d':Int}(hy:ns[c.toNat]? =some y)(h:y.kind=5)(hd:BK ns d=true)(h0:y.kids[0]? =some d)(hz:ns[d'.toNat]? =some z)(h0':y.kids[0]? =some d')(h10:x.kind=10)(hi:i>0)(h1:z.kind≠1):CG ns x i.toNat c=false:=by
 match hk:y.kids with
 |[]=>rw[hk] at h0;cases h0
 |e::t=>rw[hk] at h0 h0';cases h0;cases h0';simp [CG,Bg hy,h,hk,hd,h10,Bd,Bg hz,h1];omega
theorem a6X{ns:List Nd}{x y z:Nd}{i c d d':Int}(hy:ns[c.toNat]? =some y)(h:y.kind=5)(hd:BK ns d=true)(h0:y.kids[0]? =some d)(hz:ns[d'.toNat]? =some z)(h0':y.kids[0]? =some d')(h1:z.kind=1):CG ns x i.toNat c=true:=by
 match hk:y.kids with
 |[]=>rw[hk] at h0;cases h0
 |e::t=>rw[hk] at h0 h0';cases h0;cases h0';simp [CG,Bg hy,h,hk,hd,Bd,Bg hz,h1]
theorem a6Y{ns:List Nd}{x y:Nd}{i c d:Int}(hy:ns[c.toNat]? =some y)(h:y.kind=5)(hd:BK ns d=true)(h0:y.kids[0]? =some d)(h1:x.kind≠10):CG ns x i.toNat c=true:=by
 match hk:y.kids with
 |[]=>rw[hk] at h0;cases h0
 |e::t=>rw[hk] at h0;cases h0;simp [CG,Bg hy,h,hk,hd,h1]
theorem a6Z{ns:List Nd}{x y:Nd}{i c d:Int}(hy:ns[c.toNat]? =some y)(h:y.kind=5)(hd:BK ns d=true)(h0:y.kids[0]? =some d)(h1:¬i>0):CG ns x i.toNat c=true:=by
 have:i.toNat=0:=by omega
 match hk:y.kids with
 |[]=>rw[hk] at h0;cases h0
 |e::t=>rw[hk] at h0;cases h0;simp [CG,Bg hy,h,hk,hd,this]
theorem ndB{ns:List Nd}{l:List Int}{d d':Int}(hd:BK ns d=true)(h0:l[0]? =some d)(h0':l[0]? =some d'):0≤d'∧d'<ns.length:=by
 rw[h0] at h0';cases h0';exact Cu.1 hd
def Hw:Sig:= {X:=List Nd×Nd,args:=fun x=>[nds x.1,.agg (ndA false x.2)],pre:=fun x=>Be x.1∧Oo x.2∧∀c∈x.2.kids,0≤c∧c<x.1.length,Y:=Unit,post:=fun x y=>True,res:=fun x y=> .bool (EV x.1 x.2),outs:=fun x y=>[.top,.top],keep:=false}
def KS(x:List Nd×Nd):LS:= {ι:=Int,inv:=cfI x.1 x.2,regs:=fun i=>[(0,nds x.1),(3,.box 0 (ndA false x.2)),(9,Aq x.2.kids),(10,.int .i64 x.2.kids.length),(11,.int .i64 i)],als:=[],meas:=fun i=>x.2.kids.length-i.toNat}
theorem a7a:Am G Tryz.prog 63 Hw:=
 vcFun_okP [(52,0,Gh)] [] false (fun x=>[(2,KS x)]) Tryz.func63 rfl (by decide) ⟨Uy,trivial⟩ (fun(x:List Nd×Nd)=>(∀(y:Unit),True→True∧True∧True∧True)∧eA (KS x) [nds x.1,.box 0 [.int .i64 x.2.kind,.str x.2.text,Aq x.2.kids,.bool x.2.blank],Aq x.2.kids,.int .i64 (↑(List.length x.2.kids):Int),.int .i64 (0:Int)]∧∀(i:Int),cfI x.1 x.2 i→Aa (decide (i<(↑(List.length x.2.kids):Int))) (((0:Int)≤i∧i<(↑(List.length x.2.kids):Int))∧∀(e:Int),x.2.kids[Int.toNat i]? =some e→((0:Int)≤e∧e<(↑(List.length x.1):Int))∧∀(e_1:Nd),x.1[Int.toNat e]? =some e_1→Aa (e_1.kind != (5:Int)) (inR IntKind.i64 (i+(1:Int))∧eN (KS x) i [nds x.1,.box 0 [.int .i64 x.2.kind,.str x.2.text,Aq x.2.kids,.bool x.2.blank],Aq x.2.kids,.int .i64 (↑(List.length x.2.kids):Int),.int .i64 (i+(1:Int))]) (Aa ((↑(List.length e_1.kids):Int)==(0:Int)) (rA Hw x [.bool false,.top,.top]) (((0:Int)≤(0:Int)∧(0:Int)<(↑(List.length e_1.kids):Int))∧∀(e:Int),e_1.kids[(0:Nat)]? =some e→cA Gh [nds x.1,.int .i64 e] fun x_1 y=>Aa (!BK x_1.1 x_1.2) (rA Hw x [.bool false,.top,.top]) (Aa (x.2.kind==(10:Int)) (Aa (decide (i>(0:Int))) (((0:Int)≤(0:Int)∧(0:Int)<(↑(List.length e_1.kids):Int))∧∀(e:Int),e_1.kids[(0:Nat)]? =some e→((0:Int)≤e∧e<(↑(List.length x.1):Int))∧∀(e_2:Nd),x.1[Int.toNat e]? =some e_2→Aa (e_2.kind != (1:Int)) (rA Hw x [.bool false,.top,.top]) (inR IntKind.i64 (i+(1:Int))∧eN (KS x) i [nds x.1,.box 0 [.int .i64 x.2.kind,.str x.2.text,Aq x.2.kids,.bool x.2.blank],Aq x.2.kids,.int .i64 (↑(List.length x.2.kids):Int),.int .i64 (i+(1:Int))])) (inR IntKind.i64 (i+(1:Int))∧eN (KS x) i [nds x.1,.box 0 [.int .i64 x.2.kind,.str x.2.text,Aq x.2.kids,.bool x.2.blank],Aq x.2.kids,.int .i64 (↑(List.length x.2.kids):Int),.int .i64 (i+(1:Int))])) (inR IntKind.i64 (i+(1:Int))∧eN (KS x) i [nds x.1,.box 0 [.int .i64 x.2.kind,.str x.2.text,Aq x.2.kids,.bool x.2.blank],Aq x.2.kids,.int .i64 (↑(List.length x.2.kids):Int),.int .i64 (i+(1:Int))]))))) (rA Hw x [.bool true,.top,.top])) (fun x=>by kernel_rfl) fun(x:List Nd×Nd) (hx:Be x.1∧Oo x.2∧∀c∈x.2.kids,0≤c∧c<x.1.length)=>(by
 dsimp only[cA,eA,eN,KS,Aq,Bn,nds,rA,Hw,Gh,Au,Ax,mvL,lnL,mvE,lnE,Bm]
 obtain⟨h1,h2,h3⟩:=hx;have hl:=h1.1;have hk:=h2.2
 (repeat' first|(with_reducible first|rfl|exact True.intro|apply AJ|apply And.intro|((first|apply Az|apply AH|apply AA|apply AI)<;>intro _))|(apply Av<;>intro _)|apply AG|refine Af () ?_ ?_|((first|apply AO|apply AN|apply AM|apply AL|apply AF|apply AE|apply AD|apply AC|apply AB)<;>try dsimp only)|apply Af|(refine Prod.forall.2 ?_;intro _;try dsimp only)|(intro _;try dsimp only))
 all_goals first
  |exact a6R
  |exact a6S ‹_› ‹_›
  |exact QC ‹_› ‹_› (a6T ‹_› ‹_›)
  |exact QC ‹_› ‹_› (a6Z ‹_› ‹_› ‹_› ‹_› ‹_›)
  |exact QC ‹_› ‹_› (a6Y ‹_› ‹_› ‹_› ‹_› ‹_›)
  |exact QC ‹_› ‹_› (a6X ‹_› ‹_› ‹_› ‹_› ‹_› ‹_› ‹_›)
  |exact Uz ‹_› (a6U ‹_› ‹_› ‹_›)
  |exact Uz ‹_› (a6V ‹_› ‹_› ‹_› ‹_›)
  |exact Uz ‹_› (a6W ‹_› ‹_› ‹_› ‹_› ‹_› ‹_› ‹_› ‹_› ‹_›)
  |exact(h3 _ (Cz ‹_›)).1
  |exact(h3 _ (Cz ‹_›)).2
  |exact(ndB ‹_› ‹_› ‹_›).1
  |exact(ndB ‹_› ‹_› ‹_›).2
  |(obtain⟨_,_,_⟩:= ‹cfI _ _ _›;(try simp only[AR] at*);omega)
  |skip)
end Go.My
end
section
set_option linter.unusedVariables false
set_option linter.unusedSimpArgs false
namespace Go.My
open Go.Eng Go.Proofs
variable {G:GInv}
def nkI(k:Int)(l:List Int)(i:Int):Prop:=0≤i∧i≤l.length∧(∀c∈l.take i.toNat,0≤c∧c<k)∧(l.take i.toNat).Nodup
theorem YA{k:Int}{l:List Int}:nkI k l 0:=⟨by omega,by omega,by simp,by simp⟩
theorem YB{k:Int}{l:List Int}{i c:Int}(h:nkI k l i)(hc:l[i.toNat]? =some c)(h1:¬c<0)(h2:¬c≥k)(h3:(l.take i.toNat).elem c=false):nkI k l (i+1):=by
 obtain⟨ha,hb,hd,he⟩:=h
 have:=(Fl hc).1
 refine⟨by omega,by omega,?_,?_⟩
 ·rw[Dv ha,FE hc];intro d hd'
  rcases List.mem_append.1 hd' with hd'|hd'
  ·exact hd d hd'
  ·simp at hd';subst hd';omega
 ·rw[Dv ha,FE hc,List.nodup_append]
  refine⟨he,by simp,?_⟩
  intro a ha' b hb' hab
  simp at hb';subst hb';subst hab
  simp at h3;exact h3 ha'
theorem Oq{k:Int}{l:List Int}{i:Int}(h:nkI k l i)(hl:¬i<l.length):DB l k=true∧l.Nodup:=by
 obtain⟨ha,hb,hd,he⟩:=h
 rw[List.take_of_length_le (by omega)] at hd he
 exact⟨by simpa [DB] using hd,he⟩
theorem a7b{k:Int}{l:List Int}{n:Nat}{c:Int}(hc:l[n]? =some c)(h1:c<0):DB l k=false:=by
 rw[Bool.eq_false_iff];intro h;simp only[DB,List.all_eq_true,Bool.and_eq_true,decide_eq_true_eq] at h
 have:=h c (Cz hc);omega
theorem a7c{k:Int}{l:List Int}{n:Nat}{c:Int}(hc:l[n]? =some c)(h1:c≥k):DB l k=false:=by
 rw[Bool.eq_false_iff];intro h;simp only[DB,List.all_eq_true,Bool.and_eq_true,decide_eq_true_eq] at h
 have:=h c (Cz hc);omega
theorem YC{l:List Int}{n:Nat}{c:Int}(hc:l[n]? =some c)(h1:(l.take n).elem c=true):¬l.Nodup:=by
 intro h
 have e:l=l.take n++l.drop n:=(List.take_append_drop n l).symm
 rw[e,Ia hc,List.nodup_append] at h
 exact h.2.2 c (by simpa using h1) c (by simp) rfl
theorem YD{ns:List Nd}{k:Int}(h:BK ns k=false):false=BT ns k:=by simp [BT,h]
theorem Mq{ns:List Nd}{k:Int}{x:Nd}(hx:ns[k.toNat]? =some x)(h:BK ns k=true):BT ns k=Ib ns k x:=by rw[BT,h,Bg hx];rfl
theorem a7d{ns:List Nd}{k:Int}{x:Nd}(hx:ns[k.toNat]? =some x)(h:BK ns k=true)(h1:(x.kids.length:Int)>12):false=BT ns k:=by
 rw[Mq hx h,Ib,decide_eq_false (by omega)];rfl
theorem a7e{ns:List Nd}{k:Int}{x:Nd}(hx:ns[k.toNat]? =some x)(h:BK ns k=true)(h1:Fm x.kind x.text=false):false=BT ns k:=by
 rw[Mq hx h,Ib,h1];simp
theorem YE{ns:List Nd}{k:Int}{x:Nd}(hx:ns[k.toNat]? =some x)(h:BK ns k=true)(h1:DB x.kids k=false):false=BT ns k:=by
 rw[Mq hx h,Ib,h1];simp
theorem a7f{ns:List Nd}{k:Int}{x:Nd}(hx:ns[k.toNat]? =some x)(h:BK ns k=true)(h1:¬x.kids.Nodup):false=BT ns k:=by
 rw[Mq hx h,Ib,decide_eq_false h1];simp
theorem YF{ns:List Nd}{k i:Int}{x:Nd}(hx:ns[k.toNat]? =some x)(h:BK ns k=true)(h1:(x.kids.length:Int)≤12)(h2:Fm x.kind x.text=true)(h3:nkI k x.kids i)(hl:¬i<x.kids.length):
 BT ns k=(DQ x.kind ((x.kids.take i.toNat).map (Bd ns))&&(EV ns x&&(Hr x.kind|| !x.blank))):=by
 obtain⟨ha,hb⟩:=Oq h3 hl
 rw[List.take_of_length_le (by have:=h3.1;omega),Mq hx h,Ib,h2,ha,decide_eq_true hb,decide_eq_true (by omega)];simp
theorem UA{k:Int}{l:List Int}{i c n:Int}(h:nkI k l i)(hl:¬i<l.length)(hk:k<n)(hc:c∈l):0≤c∧c<n:=by
 have:=(Oq h hl).1
 simp only[DB,List.all_eq_true,Bool.and_eq_true,decide_eq_true_eq] at this
 have:=this c hc;omega
theorem a7g{ns:List Nd}{l:List Int}{i c:Int}{y:Nd}(h0:0≤i)(hc:l[i.toNat]? =some c)(hy:ns[c.toNat]? =some y):(l.take i.toNat).map (Bd ns)++[y.kind]=(l.take (i+1).toNat).map (Bd ns):=by
 rw[Dv h0,FE hc,List.map_append];simp [Bd,Bg hy]
def QD(x:List Nd×Int):LS:= {
 ι:=Int,inv:=nkI x.2 (Ai x.1 x.2).kids,
 regs:=fun i=>[(0,nds x.1),(1,.int .i64 x.2),(5,.box 0 (ndA false (Ai x.1 x.2))),(6,Ab (((Ai x.1 x.2).kids.take i.toNat).map (Bd x.1))),(28,Aq (Ai x.1 x.2).kids),(29,.int .i64 (Ai x.1 x.2).kids.length),(30,.int .i64 i)],als:=[],meas:=fun i=>(Ai x.1 x.2).kids.length-i.toNat}
def DF:Sig:= {X:=List Nd×Int,args:=fun x=>[nds x.1,.int .i64 x.2],pre:=fun x=>Be x.1,Y:=Unit,post:=fun x y=>True,res:=fun x y=> .bool (BT x.1 x.2),outs:=fun x y=>[.top,.top],keep:=false}
theorem a7h:Am G Tryz.prog 14 DF:=
 vcFun_okP [(52,0,Gh),(58,0,Dp),(59,0,IM),(60,0,IL),(61,0,FJ),(62,0,BR),(63,0,Hw)] [(26,⟨Int,Bj⟩)] false (fun x=>[(8,QD x)]) Tryz.func14 rfl (by decide) ⟨Uy,a6u,Yy,Yt,Ux,a6O,a7a,trivial⟩ (fun(x:List Nd×Int)=>(∀(y:Unit),True→True∧True∧True∧True)∧cA Gh [nds x.1,.int .i64 x.2] fun x_1 y=>Aa (!BK x_1.1 x_1.2) (rA DF x [.bool false,.top,.top]) (((0:Int)≤x.2∧x.2<(↑(List.length x.1):Int))∧∀(e:Nd),x.1[Int.toNat x.2]? =some e→Aa (decide ((↑(List.length e.kids):Int)>(12:Int))) (rA DF x [.bool false,.top,.top]) (cA Dp [.agg [.int .i64 e.kind,.str e.text,Aq e.kids,.bool e.blank]] fun x_2 y=>Aa (!Fm x_2.kind x_2.text) (rA DF x [.bool false,.top,.top]) (eA (QD x) [nds x.1,.int .i64 x.2,.box 0 [.int .i64 e.kind,.str e.text,Aq e.kids,.bool e.blank],.nil,Aq e.kids,.int .i64 (↑(List.length e.kids):Int),.int .i64 (0:Int)]∧∀(i:Int),nkI x.2 (Ai x.1 x.2).kids i→Aa (decide (i<(↑(List.length (Ai x.1 x.2).kids):Int))) (((0:Int)≤i∧i<(↑(List.length (Ai x.1 x.2).kids):Int))∧∀(e:Int),(Ai x.1 x.2).kids[Int.toNat i]? =some e→Aa (decide (e<(0:Int))) (rA DF x [.bool false,.top,.top]) (Aa (decide (e≥x.2)) (rA DF x [.bool false,.top,.top]) (((0:Int)≤(0:Int)∧(0:Int)≤i∧i≤(↑(List.length (Ai x.1 x.2).kids):Int))∧cA IM [Aq (List.take (Int.toNat i) (Ai x.1 x.2).kids),.int .i64 e] fun x_3 y=>Aa (List.elem x_3.2 x_3.1) (rA DF x [.bool false,.top,.top]) (((0:Int)≤e∧e<(↑(List.length x.1):Int))∧∀(e_1:Nd),x.1[Int.toNat e]? =some e_1→∃(x_4:Int),e_1.kind=x_4∧∃(zs:List Int),Ab [x_4]=Ab zs∧BF Bj∧Ba (List.length (List.map (Bd x.1) (List.take (Int.toNat i) (Ai x.1 x.2).kids))+List.length zs) (8:Nat)∧inR IntKind.i64 (i+(1:Int))∧eN (QD x) i [nds x.1,.int .i64 x.2,.box 0 [.int .i64 (Ai x.1 x.2).kind,.str (Ai x.1 x.2).text,Aq (Ai x.1 x.2).kids,.bool (Ai x.1 x.2).blank],Ab (List.map (Bd x.1) (List.take (Int.toNat i) (Ai x.1 x.2).kids)++zs),Aq (Ai x.1 x.2).kids,.int .i64 (↑(List.length (Ai x.1 x.2).kids):Int),.int .i64 (i+(1:Int))])))) (cA IL [.int .i64 (Ai x.1 x.2).kind] fun x_3 y=>Aa (JG x_3) (cA BR [.int .i64 (Ai x.1 x.2).kind,Ab (List.map (Bd x.1) (List.take (Int.toNat i) (Ai x.1 x.2).kids))] fun x_4 y=>Aa (DQ x_4.1 x_4.2) (cA Hw [nds x.1,.agg [.int .i64 (Ai x.1 x.2).kind,.str (Ai x.1 x.2).text,Aq (Ai x.1 x.2).kids,.bool (Ai x.1 x.2).blank]] fun x_5 y=>Aa (EV x_5.1 x_5.2) (rA DF x [.bool true,.top,.top]) (rA DF x [.bool false,.top,.top])) (rA DF x [.bool false,.top,.top])) (cA FJ [.int .i64 (Ai x.1 x.2).kind] fun x_4 y=>Aa (EH x_4) (cA BR [.int .i64 (Ai x.1 x.2).kind,Ab (List.map (Bd x.1) (List.take (Int.toNat i) (Ai x.1 x.2).kids))] fun x_5 y=>Aa (DQ x_5.1 x_5.2) (cA Hw [nds x.1,.agg [.int .i64 (Ai x.1 x.2).kind,.str (Ai x.1 x.2).text,Aq (Ai x.1 x.2).kids,.bool (Ai x.1 x.2).blank]] fun x_6 y=>Aa (EV x_6.1 x_6.2) (rA DF x [.bool true,.top,.top]) (rA DF x [.bool false,.top,.top])) (rA DF x [.bool false,.top,.top])) (cA BR [.int .i64 (Ai x.1 x.2).kind,Ab (List.map (Bd x.1) (List.take (Int.toNat i) (Ai x.1 x.2).kids))] fun x_5 y=>Aa (DQ x_5.1 x_5.2) (cA Hw [nds x.1,.agg [.int .i64 (Ai x.1 x.2).kind,.str (Ai x.1 x.2).text,Aq (Ai x.1 x.2).kids,.bool (Ai x.1 x.2).blank]] fun x_6 y=>Aa (EV x_6.1 x_6.2) (Aa ((Ai x.1 x.2).kind==(21:Int)) (rA DF x [.bool true,.top,.top]) (rA DF x [.bool !(Ai x.1 x.2).blank,.top,.top])) (rA DF x [.bool false,.top,.top])) (rA DF x [.bool false,.top,.top])))))))) (fun x=>by kernel_rfl) fun(x:List Nd×Int) (hx:Be x.1)=>(by
 dsimp only[cA,eA,eN,Aq,QD,Bn,nds,Ab,rA,Hw,IM,DF,FJ,Gh,IL,BR,Dp,Au,Ax,mvL,lnL,mvE,lnE,Bm]
 have h1:Be x.1:=hx;have hl:=h1.1
 (repeat' first|(with_reducible first|rfl|exact True.intro|apply AJ|apply And.intro|((first|apply Az|apply AH|apply AA|apply AI)<;>intro _))|(apply Av<;>intro _)|apply AG|refine Af () ?_ ?_|((first|apply AO|apply AN|apply AM|apply AL|apply AF|apply AE|apply AD|apply AC|apply AB)<;>try dsimp only)|apply Af|(refine Prod.forall.2 ?_;intro _;try dsimp only)|(intro _;try dsimp only))
 all_goals try(simp only[Bg (show x.1[x.2.toNat]? =some _ by assumption)] at*)
 all_goals first
  |rfl
  |exact YA
  |exact(h1.2 _ (Cz ‹_›)).1
  |exact(h1.2 _ (Cz ‹_›)).2
  |exact a6P ‹_› h1
  |exact(UA ‹_› ‹_› (Cu.1 ‹BK _ _=true›).2 ‹_›).1
  |exact(UA ‹_› ‹_› (Cu.1 ‹BK _ _=true›).2 ‹_›).2
  |exact YD ‹_›
  |exact a7d ‹_› ‹_› ‹_›
  |exact a7e ‹_› ‹_› ‹_›
  |exact YE ‹_› ‹_› (a7b ‹_› ‹_›)
  |exact YE ‹_› ‹_› (a7c ‹_› ‹_›)
  |exact a7f ‹_› ‹_› (YC ‹_› ‹_›)
  |exact YB ‹_› ‹_› ‹_› ‹_› ‹_›
  |exact a7g (‹nkI _ _ _›.1) ‹_› ‹_›
  |(refine Eq.trans ?_ (YF (show x.1[x.2.toNat]? =some _ by assumption) ‹_› (by omega) ‹_› ‹_› ‹_›).symm;simp [-List.map_take,Hr,FH, *];done)
  |omega
  |(have:=Cu.1 ‹BK _ _=true›;omega)
  |(have:=Cu.1 ‹BK _ _=true›;obtain⟨_,_,_⟩:= ‹nkI _ _ _›;(try simp only[AR,Ba,List.length_take,List.length_map,List.length_append,List.length_cons,List.length_nil] at*);omega)
  |(refine Eq.trans ?_ (YF (show x.1[x.2.toNat]? =some _ by assumption) ‹_› (by omega) ‹_› ‹_› ‹_›).symm;rw[‹DQ _ _=true›,‹EV _ _=true›];simp [Hr, *]))
end Go.My
end
section
set_option linter.unusedVariables false
set_option linter.unusedSimpArgs false
namespace Go.My
open Go.Eng Go.Proofs
variable {G:GInv}
def dl(k i:Int)(ds:List Int):List Int:=ds++List.replicate (k+1-i).toNat 0
def dI(ns:List Nd)(k i:Int)(ds:List Int):Prop:=BK ns k=true∧0≤i∧i≤k+1∧Dn ns i.toNat=some ds
def dJ(ns:List Nd)(k i:Int)(ds:List Int)(j d:Int):Prop:=dI ns k i ds∧i≤k∧BT ns i=true∧0≤j∧j≤(Ai ns i).kids.length∧0≤d∧d≤14∧mx ds ((Ai ns i).kids.drop j.toNat) d=mx ds (Ai ns i).kids 0
theorem a7i{ns:List Nd}{k:Int}(h:BK ns k=true):dI ns k 0 []:=⟨h,by omega,by have:=Cu.1 h;omega,rfl⟩
theorem a7j{k:Int}:List.replicate (k+1).toNat 0=dl k 0 []:=by simp [dl]
theorem YG{ns:List Nd}{k i:Int}{ds:List Int}(h:dI ns k i ds):((dl k i ds).length:Int)=k+1:=by
 obtain⟨h0,h1,h2,h3⟩:=h
 have:=Ol h3
 rw[dl,List.length_append,List.length_replicate];omega
theorem a7k{ns:List Nd}{k i:Int}{ds:List Int}(h:dI ns k i ds)(hl:i<k+1)(hn:BT ns i=false):0=Ct ns k:=by
 obtain⟨h0,h1,h2,h3⟩:=h
 have:Dn ns (i.toNat+1)=none:=by
  unfold Dn;rw[h3];simp only
  rw[show((i.toNat:Nat):Int)=i by omega,hn];rfl
 unfold Ct;rw[if_pos h0,XR this (by omega)]
theorem a7l{ns:List Nd}{k i:Int}{ds:List Int}(h:dI ns k i ds)(hl:i<k+1)(hn:BT ns i=true):dJ ns k i ds 0 0:=
 ⟨h,by omega,hn,by omega,by omega,by omega,by omega,by simp⟩
theorem YH{ns:List Nd}{k i:Int}{ds:List Int}{j d c:Int}(h:dJ ns k i ds j d)(hc:(Ai ns i).kids[j.toNat]? =some c):0≤c∧c<i:=by
 exact(DC h.2.2.1).2.2.2.1 c (Cz hc)
theorem UB{ns:List Nd}{k i:Int}{ds:List Int}{j d c:Int}(h:dJ ns k i ds j d)(hc:(Ai ns i).kids[j.toNat]? =some c):0≤c∧c<(dl k i ds).length:=by
 have:=YH h hc;have:=YG h.1;have:=h.1.2.2;omega
theorem a7m{ns:List Nd}{k i:Int}{ds:List Int}{j d c v:Int}(h:dJ ns k i ds j d)(hc:(Ai ns i).kids[j.toNat]? =some c)(hv:(dl k i ds)[c.toNat]? =some v):ds.getD c.toNat 0=v∧1≤v∧v≤14:=by
 have h1:=YH h hc
 have h2:=Ol h.1.2.2.2
 rw[dl,List.getElem?_append_left (by omega)] at hv
 refine⟨by simp [List.getD,hv],?_⟩
 exact Ue h.1.2.2.2 v (Cz hv)
theorem a7n{ns:List Nd}{k i:Int}{ds:List Int}{j d c v:Int}(h:dJ ns k i ds j d)(hc:(Ai ns i).kids[j.toNat]? =some c)(hv:(dl k i ds)[c.toNat]? =some v):dJ ns k i ds (j+1) (max d v):=by
 obtain⟨hv1,hv2,hv3⟩:=a7m h hc hv
 obtain⟨h1,h2,h3,h4,h5,h6,h7,h8⟩:=h
 have:=(Fl hc).1
 refine⟨h1,h2,h3,by omega,by omega,by omega,by omega,?_⟩
 rw[←h8,Ia hc,Dv h4];simp only[mx,hv1]
theorem YI{ns:List Nd}{k i:Int}{ds:List Int}{j d:Int}(h:dJ ns k i ds j d)(hl:¬j<(Ai ns i).kids.length):d=mx ds (Ai ns i).kids 0:=by
 obtain⟨h1,h2,h3,h4,h5,h6,h7,h8⟩:=h
 rw[List.drop_eq_nil_of_le (by omega)] at h8;exact h8
theorem a7o{ns:List Nd}{k i:Int}{ds:List Int}{j d:Int}(h:dJ ns k i ds j d)(hl:¬j<(Ai ns i).kids.length)(hd:d≥14):0=Ct ns k:=by
 have hm:=YI h hl
 obtain⟨⟨ha,hb,he,hf⟩,h2,h3,_⟩:=h
 have e:((i.toNat:Nat):Int)=i:=by omega
 have:Dn ns (i.toNat+1)=none:=by
  unfold Dn;rw[hf];simp only
  rw[e,h3,if_pos rfl,if_pos (by omega)]
 unfold Ct;rw[if_pos ha,XR this (by omega)]
theorem a7p{ns:List Nd}{k i:Int}{ds:List Int}{j d:Int}(h:dJ ns k i ds j d)(hl:¬j<(Ai ns i).kids.length)(hd:¬d≥14):dI ns k (i+1) (ds++[d+1]):=by
 have hm:=YI h hl
 obtain⟨⟨ha,hb,he,hf⟩,h2,h3,_⟩:=h
 have e:((i.toNat:Nat):Int)=i:=by omega
 refine⟨ha,by omega,by omega,?_⟩
 rw[Dv hb];unfold Dn;rw[hf];simp only
 rw[e,h3,if_pos rfl,if_neg (by omega),←hm]
theorem a7q{ns:List Nd}{k i:Int}{ds:List Int}{j d:Int}(h:dJ ns k i ds j d):(dl k i ds).set i.toNat (d+1)=dl k (i+1) (ds++[d+1]):=by
 obtain⟨⟨ha,hb,he,hf⟩,h2,h3,_⟩:=h
 have hl:=Ol hf
 have e:(k+1-i).toNat=(k+1-(i+1)).toNat+1:=by omega
 unfold dl;rw[List.set_append_right _ _ (by omega),e,hl];simp [List.replicate_succ]
theorem a7r{ns:List Nd}{k i v:Int}{ds:List Int}(h:dI ns k i ds)(hl:¬i<k+1)(hv:(dl k i ds)[k.toNat]? =some v):v=Ct ns k:=by
 obtain⟨h0,h1,h2,h3⟩:=h
 obtain rfl:i=k+1:=by omega
 have:=Cu.1 h0
 rw[show(k+1).toNat=k.toNat+1 by omega] at h3
 unfold Ct;rw[if_pos h0,h3]
 simp [dl] at hv
 simp [List.getD,hv]
theorem YJ{ns:List Nd}{k:Int}(h:BK ns k=false):0=Ct ns k:=by simp [Ct,h]
theorem a7s{ns:List Nd}{k i:Int}{ds:List Int}{j d:Int}(h:dJ ns k i ds j d):((Ai ns i).kids.length:Int)≤12:=by
 have:=(DC h.2.2.1).2.1;omega
def QE(x:List Nd×Int)(o:Int×List Int):LS:= {
 ι:=Int×Int,inv:=fun i=>dJ x.1 x.2 o.1 o.2 i.1 i.2,
 regs:=fun i=>[(0,nds x.1),(1,.int .i64 x.2),(5,Ab (dl x.2 o.1 o.2)),(18,.int .i64 (x.2+1)),(19,.int .i64 o.1),(6,.int .i64 o.1),(7,.int .i64 i.2),(30,Aq (Ai x.1 o.1).kids),(31,.int .i64 (Ai x.1 o.1).kids.length),(32,.int .i64 i.1)],als:=[],meas:=fun i=>(Ai x.1 o.1).kids.length-i.1.toNat}
def QF(x:List Nd×Int):LS:= {
 ι:=Int×List Int,inv:=fun i=>dI x.1 x.2 i.1 i.2,
 regs:=fun i=>[(0,nds x.1),(1,.int .i64 x.2),(5,Ab (dl x.2 i.1 i.2)),(18,.int .i64 (x.2+1)),(19,.int .i64 i.1)],als:=[],meas:=fun i=>x.2.toNat+1-i.1.toNat,
 sub:=fun i=>[(11,QE x i)]}
def GQ:Sig:= {X:=List Nd×Int,args:=fun x=>[nds x.1,.int .i64 x.2],pre:=fun x=>Be x.1∧x.1.length≤2^30,Y:=Unit,post:=fun x y=>True,res:=fun x y=> .int .i64 (Ct x.1 x.2),outs:=fun x y=>[.top,.top],keep:=false}
theorem YK:Am G Tryz.prog 9 GQ:=
 vcFun_okP [(52,0,Gh),(14,0,DF)] [(26,⟨Int,Bj⟩)] false (fun x=>[(5,QF x)]) Tryz.func9 rfl (by decide) ⟨Uy,a7h,trivial⟩ (fun(x:List Nd×Int)=>(∀(y:Unit),True→True∧True∧True∧True)∧cA Gh [nds x.1,.int .i64 x.2] fun x_1 y=>Aa (!BK x_1.1 x_1.2) (rA GQ x [.int .i64 (0:Int),.top,.top]) (inR IntKind.i64 (x.2+(1:Int))∧((0:Int)≤x.2+(1:Int)∧x.2+(1:Int)≤x.2+(1:Int)∧(↑(8:Nat):Int)*(x.2+(1:Int))≤(2:Int)^(46:Nat)∧x.2+(1:Int)≤(2:Int)^(46:Nat))∧∃(x_2:Int),(0:Int)=x_2∧eA (QF x) [nds x.1,.int .i64 x.2,Ab (List.replicate (Int.toNat (x.2+(1:Int))) x_2),.int .i64 (↑(List.length (List.replicate (Int.toNat (x.2+(1:Int))) x_2)):Int),.int .i64 (0:Int)]∧∀(i:Int×List Int),dI x.1 x.2 i.1 i.2→Aa (decide (i.1<x.2+(1:Int))) (cA DF [nds x.1,.int .i64 i.1] fun x_3 y=>Aa (!BT x_3.1 x_3.2) (rA GQ x [.int .i64 (0:Int),.top,.top]) (((0:Int)≤i.1∧i.1<(↑(List.length x.1):Int))∧∀(e:Nd),x.1[Int.toNat i.1]? =some e→eA (QE x i) [nds x.1,.int .i64 x.2,Ab (dl x.2 i.1 i.2),.int .i64 (x.2+(1:Int)),.int .i64 i.1,.int .i64 i.1,.int .i64 (0:Int),Aq e.kids,.int .i64 (↑(List.length e.kids):Int),.int .i64 (0:Int)]∧∀(i_1:Int×Int),dJ x.1 x.2 i.1 i.2 i_1.1 i_1.2→Aa (decide (i_1.1<(↑(List.length (Ai x.1 i.1).kids):Int))) (((0:Int)≤i_1.1∧i_1.1<(↑(List.length (Ai x.1 i.1).kids):Int))∧∀(e:Int),(Ai x.1 i.1).kids[Int.toNat i_1.1]? =some e→((0:Int)≤e∧e<(↑(List.length (dl x.2 i.1 i.2)):Int))∧Int.toNat e<List.length (dl x.2 i.1 i.2)∧∀(x_4:Int),(dl x.2 i.1 i.2)[Int.toNat e]? =some x_4→inR IntKind.i64 (i_1.1+(1:Int))∧eN (QE x i) i_1 [nds x.1,.int .i64 x.2,Ab (dl x.2 i.1 i.2),.int .i64 (x.2+(1:Int)),.int .i64 i.1,.int .i64 i.1,.int .i64 (max i_1.2 x_4),Aq (Ai x.1 i.1).kids,.int .i64 (↑(List.length (Ai x.1 i.1).kids):Int),.int .i64 (i_1.1+(1:Int))]) (Aa (decide (i_1.2≥(14:Int))) (rA GQ x [.int .i64 (0:Int),.top,.top]) (inR IntKind.i64 (i_1.2+(1:Int))∧((0:Int)≤i.1∧i.1<(↑(List.length (dl x.2 i.1 i.2)):Int))∧Int.toNat i.1<List.length (dl x.2 i.1 i.2)∧∀(x_4:Int),(dl x.2 i.1 i.2)[Int.toNat i.1]? =some x_4→∃(x':Int),((@List.nil AV)=[]∧(@List.nil AV)=[])∧i_1.2+(1:Int)=x'∧inR IntKind.i64 (i.1+(1:Int))∧eN (QF x) i [nds x.1,.int .i64 x.2,Ab (List.set (dl x.2 i.1 i.2) (Int.toNat i.1) x'),.int .i64 (x.2+(1:Int)),.int .i64 (i.1+(1:Int))])))) (((0:Int)≤x.2∧x.2<(↑(List.length (dl x.2 i.1 i.2)):Int))∧Int.toNat x.2<List.length (dl x.2 i.1 i.2)∧∀(x_3:Int),(dl x.2 i.1 i.2)[Int.toNat x.2]? =some x_3→rA GQ x [.int .i64 x_3,.top,.top]))) (fun x=>by kernel_rfl) fun(x:List Nd×Int) (hx:Be x.1∧x.1.length≤2^30)=>(by
 dsimp only[cA,eA,eN,Aq,QF,QE,Bn,nds,Ab,rA,GQ,DF,Gh,Au,Ax,mvL,lnL,mvE,lnE,Bm]
 obtain⟨h1,h2⟩:=hx;have hl:=h1.1
 (repeat' first|(with_reducible first|rfl|exact True.intro|apply AJ|apply And.intro|((first|apply Az|apply AH|apply AA|apply AI)<;>intro _))|(apply Av<;>intro _)|apply AG|refine Af () ?_ ?_|((first|apply AO|apply AN|apply AM|apply AL|apply AF|apply AE|apply AD|apply AC|apply AB)<;>try dsimp only)|apply Af|(refine Prod.forall.2 ?_;intro _;try dsimp only)|(intro _;try dsimp only))
 all_goals try(have nd0:=Cu.1 (show BK x.1 x.2=true by assumption))
 all_goals first
  |rfl
  |exact YJ ‹_›
  |exact a7i ‹_›
  |exact a7j
  |exact a7k ‹_› ‹_› ‹_›
  |exact a7l ‹_› ‹_› ‹_›
  |exact(UB ‹_› ‹_›).1
  |exact(UB ‹_› ‹_›).2
  |exact a7n ‹_› ‹_› ‹_›
  |exact a7o ‹_› ‹_› ‹_›
  |exact a7p ‹_› ‹_› ‹_›
  |exact a7q ‹_›
  |exact a7r ‹_› ‹_› ‹_›
  |(rw[Bg ‹_›];done)
  |(rw[List.length_replicate];omega)
  |(have:=a7s ‹_›;obtain⟨⟨_,_,_,_⟩,_,_,_,_,_,_,_⟩:= ‹dJ _ _ _ _ _ _›;(try simp only[AR,Ba] at*);omega)
  |(have:=YG ‹_›;obtain⟨_,_,_,_⟩:= ‹dI _ _ _ _›;(try simp only[AR,Ba] at*);omega)
  |(have:=UB ‹_› ‹_›;omega)
  |((try simp only[AR,Ba] at*);omega)
  |skip)
end Go.My
end
section
set_option linter.unusedVariables false
set_option linter.unusedSimpArgs false
namespace Go.My
open Go.Eng Go.Proofs
variable {G:GInv}
def cnt(n:Nat)(l:List Int):List Int:=(List.range n).map fun(c:Nat)=>(l.count (c:Int):Int)
theorem Gi{n:Nat}{l:List Int}:(cnt n l).length=n:=by simp [cnt]
theorem KT{n:Nat}{l:List Int}{c:Nat}(h:c<n):(cnt n l)[c]? =some (l.count (c:Int):Int):=by
 simp [cnt,List.getElem?_map,List.getElem?_range,h]
theorem YL{n:Nat}:List.replicate n 0=cnt n []:=by
 apply List.ext_getElem?
 intro c
 by_cases h:c<n
 ·rw[KT h];simp [h]
 ·rw[List.getElem?_eq_none (by simp;omega),List.getElem?_eq_none (by simp [cnt];omega)]
theorem YM{n:Nat}{l:List Int}{c v:Int}(h0:0≤c)(h1:c<n)(hv:(cnt n l)[c.toNat]? =some v):(cnt n l).set c.toNat (v+1)=cnt n (l++[c]):=by
 apply List.ext_getElem?
 intro d
 rw[List.getElem?_set]
 by_cases hd:d<n
 ·rw[KT hd,KT hd,List.count_append]
  rw[KT (by omega)] at hv
  by_cases e:c.toNat=d
  ·subst e
   rw[if_pos rfl,if_pos (by rw[Gi];omega)]
   have e2:((c.toNat:Nat):Int)=c:=by omega
   rw[e2] at hv ⊢
   simp at hv ⊢;omega
  ·rw[if_neg e]
   have:¬c=(d:Int):=by omega
   simp [List.count_cons,this]
 ·rw[if_neg (by omega),List.getElem?_eq_none (by rw[Gi];omega),List.getElem?_eq_none (by rw[Gi];omega)]
def tk(ns:List Nd)(i j:Int):List Int:=BW (ns.take i.toNat)++(Ai ns i).kids.take j.toNat
def tI(ns:List Nd):Prop:=1≤ns.length∧ns.length≤300∧Bd ns (ns.length-1)=22∧Ct ns (ns.length-1)≠0
theorem a7t{ns:List Nd}{n:Nat}{y:Nd}(h:tI ns)(hy:ns[n]? =some y):BT ns n=true:=by
 exact(Uf h.2.2.2).2.2 n (by have:=(Fl hy).1;omega)
theorem Ot{ns:List Nd}{n:Nat}{y:Nd}(h:tI ns)(hy:ns[n]? =some y):y.kids.length≤12∧∀c∈y.kids,0≤c∧c<ns.length:=by
 obtain⟨h1,h2,h3,h4,h5⟩:=DC (a7t h hy)
 rw[Bg (by simpa using hy)] at h2 h4
 exact⟨h2,fun c hc=>by have:=h4 c hc;omega⟩
theorem a7u{l:List Nd}(h:∀y∈l,y.kids.length≤12):(BW l).length≤12*l.length:=by
 induction l with
 |nil=>simp [BW]
 |cons y l ih=>
  have h1:=h y (by simp)
  have h2:=ih fun z hz=>h z (by simp [hz])
  simp only[BW,List.flatMap_cons,List.length_append,List.length_cons] at h2 ⊢;omega
theorem a7v{ns:List Nd}{i j:Int}(h:tI ns):(BW (ns.take i.toNat)).length≤3600:=by
 have h1:∀y∈ns.take i.toNat,y.kids.length≤12:=by
  intro y hy
  obtain⟨n,hn⟩:=List.mem_iff_getElem?.1 (List.mem_of_mem_take hy)
  exact(Ot h hn).1
 have:=a7u h1
 have h2:(ns.take i.toNat).length≤300:=by have:=h.2.1;simp;omega
 omega
theorem a7w{n:Nat}{l:List Int}{c:Nat}{v:Int}(hv:(cnt n l)[c]? =some v):0≤v∧v≤l.length:=by
 have h:c<n:=by have:=(Fl hv).1;rwa [Gi] at this
 rw[KT h] at hv;cases hv
 have:=List.count_le_length (a:=(c:Int)) (l:=l)
 omega
theorem YN{ns:List Nd}{i:Int}:tk ns i 0=BW (ns.take i.toNat):=by simp [tk]
theorem YO{ns:List Nd}{i j c:Int}(h0:0≤j)(hc:(Ai ns i).kids[j.toNat]? =some c):tk ns i (j+1)=tk ns i j++[c]:=by
 rw[tk,Dv h0,FE hc,tk,List.append_assoc]
theorem YP{ns:List Nd}{i j:Int}{y:Nd}(h0:0≤i)(hy:ns[i.toNat]? =some y)(hl:¬j<(Ai ns i).kids.length):tk ns i j=BW (ns.take (i+1).toNat):=by
 rw[tk,List.take_of_length_le (l:=(Ai ns i).kids) (by omega),Dv h0,FE hy,Bg hy];simp [BW]
def tE(ns:List Nd)(i:Int):Prop:=0≤i∧i≤ns.length-1∧∀c:Nat,(c:Int)<i→(BW ns).count (c:Int)=1
theorem YQ{ns:List Nd}{i v:Int}(hv:(((cnt ns.length (BW ns)).take (ns.length-1:Int).toNat)[i.toNat]?)=some v)(h0:0≤i)(hl:i<(ns.length-1:Int)):((BW ns).count i:Int)=v:=by
 rw[List.getElem?_take_of_lt (by omega),KT (by omega)] at hv
 have e2:((i.toNat:Nat):Int)=i:=by omega
 rw[e2] at hv;exact Option.some.inj hv
theorem YR{ns:List Nd}{i:Int}(h:tI ns)(he:tE ns i)(hl:¬i<(ns.length-1:Int)):true=BC ns:=by
 symm;unfold BC
 have h1:decide (1≤ns.length)=true:=decide_eq_true h.1
 have h2:decide (ns.length≤300)=true:=decide_eq_true h.2.1
 have h3:decide (Bd ns (ns.length-1)=22)=true:=decide_eq_true h.2.2.1
 have h4:decide (Ct ns (ns.length-1)=0)=false:=decide_eq_false h.2.2.2
 rw[h1,h2,h3,h4]
 simp only[Bool.and_true,Bool.not_false,Bool.true_and,List.all_eq_true,decide_eq_true_eq,List.mem_range]
 exact fun c hc=>he.2.2 c (by omega)
theorem YS{ns:List Nd}{i v:Int}(hv:(BW ns).count i=v)(h0:0≤i)(hl:i<(ns.length-1:Int))(hne:v≠1):false=BC ns:=by
 symm;rw[Bool.eq_false_iff];intro h
 unfold BC at h
 simp only[Bool.and_eq_true,List.all_eq_true,decide_eq_true_eq,List.mem_range] at h
 have:=h.2.2.2 i.toNat (by omega)
 have e2:((i.toNat:Nat):Int)=i:=by omega
 rw[e2] at this;omega
theorem Mr{ns:List Nd}(h:¬tI ns):false=BC ns:=by
 symm;rw[Bool.eq_false_iff];intro hh
 unfold BC at hh
 simp only[Bool.and_eq_true,decide_eq_true_eq,Bool.not_eq_true',decide_eq_false_iff_not] at hh
 exact h ⟨hh.1.1,hh.1.2,hh.2.1,hh.2.2.1⟩
theorem Ou{ns:List Nd}{i j c:Int}{y:Nd}(h:tI ns)(hc:(Ai ns i).kids[j.toNat]? =some c)(hy:ns[i.toNat]? =some y):0≤c∧c<ns.length:=by
 rw[Bg hy] at hc;exact(Ot h hy).2 c (Cz hc)
theorem YT{ns:List Nd}{i:Int}{y:Nd}(h:tI ns)(hy:ns[i.toNat]? =some y):(Ai ns i).kids.length≤12:=by
 rw[Bg hy];exact(Ot h hy).1
theorem a7x{ns:List Nd}{i j:Int}{y:Nd}(h:tI ns)(hy:ns[i.toNat]? =some y):(tk ns i j).length≤3612:=by
 have h1:= @a7v ns i j h;have h2:=YT h hy
 rw[tk,List.length_append,List.length_take];omega
theorem YU{ns:List Nd}{i j v:Int}{c:Nat}{y:Nd}(h:tI ns)(hv:(cnt ns.length (tk ns i j))[c]? =some v)(hy:ns[i.toNat]? =some y):0≤v∧v≤3612:=by
 have h1:=a7w hv;have h2:= @a7x ns i j y h hy;omega
theorem Ms{x a b:Int}:inn x a b=true↔a≤x∧x≤b:=by simp [inn]
theorem YV{ns:List Nd}{y:Nd}(h:inn ns.length 1 300=true)(hy:ns[(ns.length-1:Int).toNat]? =some y)(hk:y.kind=22)(hd:Ct ns (ns.length-1)≠0):tI ns:=by
 have:=Ms.1 h
 exact⟨by omega,by omega,by rw[Bd,Bg hy,hk],hd⟩
theorem YW{ns:List Nd}(h:inn ns.length 1 300=false):¬tI ns:=by
 intro hh;have:inn ns.length 1 300=true:=Ms.2 ⟨by have:=hh.1;omega,by have:=hh.2.1;omega⟩
 rw[h] at this;cases this
theorem YX{ns:List Nd}{y:Nd}(hy:ns[(ns.length-1:Int).toNat]? =some y)(hk:y.kind≠22):¬tI ns:=by
 intro hh;have:=hh.2.2.1;rw[Bd,Bg hy] at this;exact hk this
theorem YY{ns:List Nd}{i:Int}(hl:¬i<ns.length):BW (ns.take i.toNat)=BW ns:=by rw[List.take_of_length_le (by omega)]
theorem a7y{ns:List Nd}{i v:Int}(h:tE ns i)(hl:i<(ns.length-1:Int))(hv:(((cnt ns.length (BW ns)).take (ns.length-1:Int).toNat)[i.toNat]?)=some v)(h1:v=1):tE ns (i+1):=by
 have:=YQ hv h.1 hl
 refine⟨by have:=h.1;omega,by omega,fun c hc=> ?_⟩
 by_cases e:(c:Int)<i
 ·exact h.2.2 c e
 ·have:=h.1
  obtain rfl:i=(c:Int):=by omega
  omega
def QG(x:List Nd)(o:Int):LS:= {
 ι:=Int,inv:=fun j=>0≤j∧j≤(Ai x o).kids.length,
 regs:=fun j=>[(0,nds x),(3,.int .i64 x.length),(4,Ab (cnt x.length (tk x o j))),(34,nds x),(35,.int .i64 x.length),(36,.int .i64 o),(41,Aq (Ai x o).kids),(42,.int .i64 (Ai x o).kids.length),(43,.int .i64 j)],als:=[],meas:=fun j=>(Ai x o).kids.length-j.toNat}
def QH(x:List Nd):LS:= {
 ι:=Int,inv:=fun i=>0≤i∧i≤x.length,
 regs:=fun i=>[(0,nds x),(3,.int .i64 x.length),(4,Ab (cnt x.length (BW (x.take i.toNat)))),(34,nds x),(35,.int .i64 x.length),(36,.int .i64 i)],als:=[],meas:=fun i=>x.length-i.toNat,
 sub:=fun i=>[(9,QG x i)]}
def QI(x:List Nd):LS:= {
 ι:=Int,inv:=tE x,
 regs:=fun i=>[(58,Ab ((cnt x.length (BW x)).take (x.length-1:Int).toNat)),(59,.int .i64 (x.length-1)),(60,.int .i64 i)],als:=[],meas:=fun i=>x.length-1-i.toNat}
def Ih:Sig:= {X:=List Nd,args:=fun x=>[nds x],pre:=fun x=>Be x∧x.length≤2^30,Y:=Unit,post:=fun x y=>True,res:=fun x y=> .bool (BC x),outs:=fun x y=>[.top],keep:=false}
theorem a7z:Am G Tryz.prog 13 Ih:=
 vcFun_okP [(57,0,EX),(9,0,GQ)] [(26,⟨Int,Bj⟩)] false (fun x=>[(6,QH x),(15,QI x)]) Tryz.func13 rfl (by decide) ⟨Qt,YK,trivial⟩ (fun(x:List Nd)=>(∀(y:Unit),True→True∧True∧True)∧cA EX [.int .i64 (↑(List.length x):Int),.int .i64 (1:Int),.int .i64 (300:Int)] fun x_1 y=>Aa (!inn x_1.1 x_1.2.1 x_1.2.2) (rA Ih x [.bool false,.top]) (inR IntKind.i64 ((↑(List.length x):Int)-(1:Int))∧((0:Int)≤(↑(List.length x):Int)-(1:Int)∧(↑(List.length x):Int)-(1:Int)<(↑(List.length x):Int))∧∀(e:Nd),x[Int.toNat ((↑(List.length x):Int)-(1:Int))]? =some e→Aa (e.kind != (22:Int)) (rA Ih x [.bool false,.top]) (inR IntKind.i64 ((↑(List.length x):Int)-(1:Int))∧cA GQ [nds x,.int .i64 ((↑(List.length x):Int)-(1:Int))] fun x_2 y=>Aa (Ct x_2.1 x_2.2==(0:Int)) (rA Ih x [.bool false,.top]) (((0:Int)≤(↑(List.length x):Int)∧(↑(List.length x):Int)≤(↑(List.length x):Int)∧(↑(8:Nat):Int)*(↑(List.length x):Int)≤(2:Int)^(46:Nat)∧(↑(List.length x):Int)≤(2:Int)^(46:Nat))∧∃(x_3:Int),(0:Int)=x_3∧eA (QH x) [nds x,.int .i64 (↑(List.length x):Int),Ab (List.replicate (Int.toNat (↑(List.length x):Int)) x_3),nds x,.int .i64 (↑(List.length x):Int),.int .i64 (0:Int)]∧∀(i:Int),(0:Int)≤i∧i≤(↑(List.length x):Int)→Aa (decide (i<(↑(List.length x):Int))) (((0:Int)≤i∧i<(↑(List.length x):Int))∧∀(e:Nd),x[Int.toNat i]? =some e→eA (QG x i) [nds x,.int .i64 (↑(List.length x):Int),Ab (cnt (List.length x) (BW (List.take (Int.toNat i) x))),nds x,.int .i64 (↑(List.length x):Int),.int .i64 i,Aq e.kids,.int .i64 (↑(List.length e.kids):Int),.int .i64 (0:Int)]∧∀(i_1:Int),(0:Int)≤i_1∧i_1≤(↑(List.length (Ai x i).kids):Int)→Aa (decide (i_1<(↑(List.length (Ai x i).kids):Int))) (((0:Int)≤i_1∧i_1<(↑(List.length (Ai x i).kids):Int))∧∀(e:Int),(Ai x i).kids[Int.toNat i_1]? =some e→((0:Int)≤e∧e<(↑(List.length (cnt (List.length x) (tk x i i_1))):Int))∧Int.toNat e<List.length (cnt (List.length x) (tk x i i_1))∧∀(x_4:Int),(cnt (List.length x) (tk x i i_1))[Int.toNat e]? =some x_4→inR IntKind.i64 (x_4+(1:Int))∧((0:Int)≤e∧e<(↑(List.length (cnt (List.length x) (tk x i i_1))):Int))∧Int.toNat e<List.length (cnt (List.length x) (tk x i i_1))∧∀(x_5:Int),(cnt (List.length x) (tk x i i_1))[Int.toNat e]? =some x_5→∃(x':Int),((@List.nil AV)=[]∧(@List.nil AV)=[])∧x_4+(1:Int)=x'∧inR IntKind.i64 (i_1+(1:Int))∧eN (QG x i) i_1 [nds x,.int .i64 (↑(List.length x):Int),Ab (List.set (cnt (List.length x) (tk x i i_1)) (Int.toNat e) x'),nds x,.int .i64 (↑(List.length x):Int),.int .i64 i,Aq (Ai x i).kids,.int .i64 (↑(List.length (Ai x i).kids):Int),.int .i64 (i_1+(1:Int))]) (inR IntKind.i64 (i+(1:Int))∧eN (QH x) i [nds x,.int .i64 (↑(List.length x):Int),Ab (cnt (List.length x) (tk x i i_1)),nds x,.int .i64 (↑(List.length x):Int),.int .i64 (i+(1:Int))])) (inR IntKind.i64 ((↑(List.length x):Int)-(1:Int))∧((0:Int)≤(0:Int)∧(0:Int)≤(↑(List.length x):Int)-(1:Int)∧(↑(List.length x):Int)-(1:Int)≤(↑(List.length (cnt (List.length x) (BW (List.take (Int.toNat i) x)))):Int))∧eA (QI x) [Ab (List.take (Int.toNat ((↑(List.length x):Int)-(1:Int))) (cnt (List.length x) (BW (List.take (Int.toNat i) x)))),.int .i64 (↑(List.length (List.take (Int.toNat ((↑(List.length x):Int)-(1:Int))) (cnt (List.length x) (BW (List.take (Int.toNat i) x))))):Int),.int .i64 (0:Int)]∧∀(i:Int),tE x i→Aa (decide (i<(↑(List.length x):Int)-(1:Int))) (((0:Int)≤i∧i<(↑(List.length (List.take (Int.toNat ((↑(List.length x):Int)-(1:Int))) (cnt (List.length x) (BW x)))):Int))∧Int.toNat i<List.length (List.take (Int.toNat ((↑(List.length x):Int)-(1:Int))) (cnt (List.length x) (BW x)))∧∀(x_4:Int),(List.take (Int.toNat ((↑(List.length x):Int)-(1:Int))) (cnt (List.length x) (BW x)))[Int.toNat i]? =some x_4→Aa (x_4 != (1:Int)) (rA Ih x [.bool false,.top]) (inR IntKind.i64 (i+(1:Int))∧eN (QI x) i [Ab (List.take (Int.toNat ((↑(List.length x):Int)-(1:Int))) (cnt (List.length x) (BW x))),.int .i64 ((↑(List.length x):Int)-(1:Int)),.int .i64 (i+(1:Int))])) (rA Ih x [.bool true,.top])))))) (fun x=>by kernel_rfl) fun(x:List Nd) (hx:Be x∧x.length≤2^30)=>(by
 dsimp only[cA,eA,eN,Aq,QH,QG,QI,Bn,nds,Ab,rA,GQ,Ih,EX,Au,Ax,mvL,lnL,mvE,lnE,Bm]
 obtain⟨h1,h2⟩:=hx;have hl:=h1.1
 (repeat' first|(with_reducible first|rfl|exact True.intro|apply AJ|apply And.intro|((first|apply Az|apply AH|apply AA|apply AI)<;>intro _))|(apply Av<;>intro _)|apply AG|refine Af () ?_ ?_|((first|apply AO|apply AN|apply AM|apply AL|apply AF|apply AE|apply AD|apply AC|apply AB)<;>try dsimp only)|apply Af|(refine Prod.forall.2 ?_;intro _;try dsimp only)|(intro _;try dsimp only))
 all_goals try(have t1:=Ms.1 (show inn x.length 1 300=true by assumption))
 all_goals try(have t0:=YV ‹_› ‹_› ‹_› ‹_›)
 all_goals first
  |rfl
  |exact Mr (YW ‹_›)
  |exact Mr (YX ‹_› ‹_›)
  |exact Mr (fun h=>h.2.2.2 ‹_›)
  |exact YL
  |(rw[YN];done)
  |(rw[Bg ‹_›];done)
  |exact(Ou ‹_› ‹_› ‹_›).1
  |(rw[Gi];exact(Ou ‹_› ‹_› ‹_›).2)
  |(have:=Ou ‹_› (show(Ai x _).kids[_]? =some _ by assumption) ‹_›;rw[Gi];omega)
  |(rw[YO (by omega) ‹_›];exact YM (Ou ‹_› ‹_› ‹_›).1 (Ou ‹_› ‹_› ‹_›).2 ‹_›)
  |(rw[YP (by omega) ‹_› ‹_›];done)
  |(rw[YY ‹_›];done)
  |(have:=YU ‹_› ‹_› ‹_›;omega)
  |(have:=YT ‹_› ‹_›;(try simp only[AR] at*);omega)
  |exact YR ‹_› ‹_› ‹_›
  |exact YS (YQ ‹_› (‹tE _ _›.1) ‹_›) (‹tE _ _›.1) ‹_› ‹_›
  |exact a7y ‹_› ‹_› ‹_› ‹_›
  |exact⟨by omega,by omega,fun c hc=>by omega⟩
  |(rw[List.length_take,Gi];omega)
  |((try simp only[AR,Ba,List.length_replicate,Gi] at*);omega)
  |(obtain⟨_,_,_⟩:= ‹tE _ _›;(try rw[List.length_take,Gi]);(try simp only[AR] at*);omega)
  |skip)
end Go.My
end
section
set_option linter.unusedVariables false
set_option linter.unusedSimpArgs false
namespace Go.My
open Go.Eng Go.Proofs
variable {G:GInv}
def Ii:Sig:= {X:=Int,args:=fun x=>[.int .i64 x],pre:=fun x=>True,Y:=Unit,post:=fun x y=>True,res:=fun x y=> .bool (BH x),outs:=fun x y=>[.top],keep:=false}
theorem a7A:Am G Tryz.prog 112 Ii:=
 vcFun_okP [(64,0,CH)] [] false (fun x=>[]) Tryz.func112 rfl (by decide) ⟨Kw,trivial⟩ (fun(x:Int)=>(∀(y:Unit),True→True∧True∧True)∧cA CH [.int .i64 x,.int .i64 (1:Int),.int .i64 (11:Int)] fun x_1 y=>rA Ii x [.bool (inn x_1.1 x_1.2.1 x_1.2.2),.top]) (fun x=>by kernel_rfl) fun(x:Int) (hx:True)=>(by
 dsimp only[cA,rA,CH,Ii,Au,Ax,mvL,lnL,mvE,lnE]
 (repeat' first|(with_reducible first|rfl|exact True.intro|apply AJ|apply And.intro|((first|apply Az|apply AH|apply AA|apply AI)<;>intro _))|(apply Av<;>intro _)|apply AG|refine Af () ?_ ?_|((first|apply AO|apply AN|apply AM|apply AL|apply AF|apply AE|apply AD|apply AC|apply AB)<;>try dsimp only)|apply Af|(refine Prod.forall.2 ?_;intro _;try dsimp only)|(intro _;try dsimp only))<;>(try dsimp only at*)<;>(try simp only[AR,List.length_cons,List.length_nil])<;>(try omega)
 all_goals simp [BH,FH, *])
def Ij:Sig:= {X:=Int,args:=fun x=>[.int .i64 x],pre:=fun x=>True,Y:=Unit,post:=fun x y=>True,res:=fun x y=> .bool (EI x),outs:=fun x y=>[.top],keep:=false}
theorem YZ:Am G Tryz.prog 67 Ij:=
 vcFun_okP [(64,0,CH)] [] false (fun x=>[]) Tryz.func67 rfl (by decide) ⟨Kw,trivial⟩ (fun(x:Int)=>(∀(y:Unit),True→True∧True∧True)∧cA CH [.int .i64 x,.int .i64 (12:Int),.int .i64 (17:Int)] fun x_1 y=>Aa (inn x_1.1 x_1.2.1 x_1.2.2) (rA Ij x [.bool true,.top]) (rA Ij x [.bool (x==(19:Int)),.top])) (fun x=>by kernel_rfl) fun(x:Int) (hx:True)=>(by
 dsimp only[cA,rA,CH,Ij,Au,Ax,mvL,lnL,mvE,lnE]
 (repeat' first|(with_reducible first|rfl|exact True.intro|apply AJ|apply And.intro|((first|apply Az|apply AH|apply AA|apply AI)<;>intro _))|(apply Av<;>intro _)|apply AG|refine Af () ?_ ?_|((first|apply AO|apply AN|apply AM|apply AL|apply AF|apply AE|apply AD|apply AC|apply AB)<;>try dsimp only)|apply Af|(refine Prod.forall.2 ?_;intro _;try dsimp only)|(intro _;try dsimp only))<;>(try dsimp only at*)<;>(try simp only[AR,List.length_cons,List.length_nil])<;>(try omega)
 all_goals simp [EI,JG,FH, *])
def Df:Sig:= {X:=Int,args:=fun x=>[.int .i64 x],pre:=fun x=>True,Y:=Unit,post:=fun x y=>True,res:=fun x y=> .tup [.int .i64 (EW x).1,.int .i64 (EW x).2],outs:=fun x y=>[.top],keep:=false}
theorem a7B:Am G Tryz.prog 65 Df:=
 vcFun_okP [] [] false (fun x=>[]) Tryz.func65 rfl (by decide) trivial (fun(x:Int)=>(∀(y:Unit),True→(True∧True∧True)∧True∧True)∧Aa (x==(4:Int)) (rA Df x [.tup [.int .i64 (0:Int),.int .i64 (12:Int)],.top]) (Aa (x==(18:Int)) (rA Df x [.tup [.int .i64 (0:Int),.int .i64 (12:Int)],.top]) (Aa (x==(21:Int)) (rA Df x [.tup [.int .i64 (0:Int),.int .i64 (12:Int)],.top]) (Aa (x==(22:Int)) (rA Df x [.tup [.int .i64 (0:Int),.int .i64 (12:Int)],.top]) (Aa (x==(5:Int)) (rA Df x [.tup [.int .i64 (1:Int),.int .i64 (12:Int)],.top]) (Aa (x==(9:Int)) (rA Df x [.tup [.int .i64 (1:Int),.int .i64 (12:Int)],.top]) (Aa (x==(20:Int)) (rA Df x [.tup [.int .i64 (1:Int),.int .i64 (12:Int)],.top]) (Aa (x==(6:Int)) (rA Df x [.tup [.int .i64 (1:Int),.int .i64 (1:Int)],.top]) (Aa (x==(11:Int)) (rA Df x [.tup [.int .i64 (1:Int),.int .i64 (1:Int)],.top]) (Aa (x==(13:Int)) (rA Df x [.tup [.int .i64 (1:Int),.int .i64 (1:Int)],.top]) (Aa (x==(14:Int)) (rA Df x [.tup [.int .i64 (1:Int),.int .i64 (1:Int)],.top]) (Aa (x==(7:Int)) (rA Df x [.tup [.int .i64 (2:Int),.int .i64 (12:Int)],.top]) (Aa (x==(10:Int)) (rA Df x [.tup [.int .i64 (2:Int),.int .i64 (12:Int)],.top]) (Aa (x==(8:Int)) (rA Df x [.tup [.int .i64 (3:Int),.int .i64 (3:Int)],.top]) (Aa (x==(12:Int)) (rA Df x [.tup [.int .i64 (0:Int),.int .i64 (1:Int)],.top]) (Aa (x==(15:Int)) (rA Df x [.tup [.int .i64 (0:Int),.int .i64 (1:Int)],.top]) (Aa (x==(16:Int)) (rA Df x [.tup [.int .i64 (2:Int),.int .i64 (3:Int)],.top]) (Aa (x==(17:Int)) (rA Df x [.tup [.int .i64 (2:Int),.int .i64 (2:Int)],.top]) (rA Df x [.tup [.int .i64 (0:Int),.int .i64 (0:Int)],.top]))))))))))))))))))) (fun x=>by kernel_rfl) fun(x:Int) (hx:True)=>(by
 dsimp only[rA,Df,Au,Ax]
 (repeat' first|(with_reducible first|rfl|exact True.intro|apply AJ|apply And.intro|((first|apply Az|apply AH|apply AA|apply AI)<;>intro _))|(apply Av<;>intro _)|apply AG|refine Af () ?_ ?_|((first|apply AO|apply AN|apply AM|apply AL|apply AF|apply AE|apply AD|apply AC|apply AB)<;>try dsimp only)|apply Af|(refine Prod.forall.2 ?_;intro _;try dsimp only)|(intro _;try dsimp only))<;>(try dsimp only at*)<;>(try simp only[AR,List.length_cons,List.length_nil])<;>(try omega)
 all_goals simp [EW, *])
def Hx(x:List Nd×Int×Int):Prop:=Be x.1∧BK x.1 x.2.1=true∧((Ai x.1 x.2.1).kind=10→∀c,(Ai x.1 x.2.1).kids[x.2.2.toNat]? =some c→Bd x.1 c=5→∃h t,(Ai x.1 c).kids=h::t∧BK x.1 h=true)∧
 (0≤x.2.2∧x.2.2<(Ai x.1 x.2.1).kids.length)∧∀c,(Ai x.1 x.2.1).kids[x.2.2.toNat]? =some c→0≤c∧c<x.1.length
theorem UC{x:List Nd×Int×Int}{y:Nd}(h:Hx x)(hy:x.1[x.2.1.toNat]? =some y):0≤x.2.2∧x.2.2<y.kids.length:=by
 have:=h.2.2.2.1;rwa [Bg hy] at this
theorem Za{x:List Nd×Int×Int}{y:Nd}{c:Int}(h:Hx x)(hy:x.1[x.2.1.toNat]? =some y)(hc:y.kids[x.2.2.toNat]? =some c):0≤c∧c<x.1.length:=by
 have:=h.2.2.2.2 c;rw[Bg hy] at this;exact this hc
theorem Zb{x:List Nd×Int×Int}{y z:Nd}{c:Int}(h:Hx x)(hy:x.1[x.2.1.toNat]? =some y)(hc:y.kids[x.2.2.toNat]? =some c)(hz:x.1[c.toNat]? =some z)(hk:y.kind=10)(hz5:z.kind=5):∃h t,z.kids=h::t∧BK x.1 h=true:=by
 have:=h.2.2.1;rw[Bg hy] at this
 have:=this hk c hc;rw[Bd,Bg hz] at this;exact this hz5
theorem Zd{x:List Nd×Int×Int}{y z:Nd}{c d:Int}(h:Hx x)(hy:x.1[x.2.1.toNat]? =some y)(hc:y.kids[x.2.2.toNat]? =some c)(hz:x.1[c.toNat]? =some z)(hk:y.kind=10)(hz5:z.kind=5)(hd:z.kids[0]? =some d):(0≤d∧d<x.1.length)∧z.kids.headD 0=d:=by
 obtain⟨a,t,e,ha⟩:=Zb h hy hc hz hk hz5
 rw[e] at hd ⊢;cases hd;exact⟨Cu.1 ha,rfl⟩
theorem Ze{x:List Nd×Int×Int}{y z:Nd}{c:Int}(h:Hx x)(hy:x.1[x.2.1.toNat]? =some y)(hc:y.kids[x.2.2.toNat]? =some c)(hz:x.1[c.toNat]? =some z)(hk:y.kind=10)(hz5:z.kind=5):0<z.kids.length:=by
 obtain⟨a,t,e,ha⟩:=Zb h hy hc hz hk hz5
 rw[e];simp
def KU(x:List Nd×Int×Int):Bool:=Ku x.1 (Ai x.1 x.2.1) x.2.2 ((Ai x.1 x.2.1).kids.getD x.2.2.toNat 0)
theorem Zf{x:List Nd×Int×Int}{y z:Nd}{c:Int}(hy:x.1[x.2.1.toNat]? =some y)(hc:y.kids[x.2.2.toNat]? =some c)(hz:x.1[c.toNat]? =some z):
 KU x=(Gd y.kind y.kids.length x.2.2 z.kind&&(if y.kind=10∧0<x.2.2 then decide (Bd x.1 (z.kids.headD 0)=1) else true)):=by
 rw[KU,Bg hy,List.getD,hc,Option.getD_some,Ku,Bd,Bg hz]
def CX:Sig:= {X:=List Nd×Int×Int,args:=fun x=>[nds x.1,.int .i64 x.2.1,.int .i64 x.2.2],pre:=fun x=>Hx x,Y:=Unit,post:=fun x y=>True,res:=fun x y=> .bool (KU x),outs:=fun x y=>[.top,.top,.top],keep:=false}
theorem a7C:Am G Tryz.prog 68 CX:=
 vcFun_okP [(112,0,Ii),(67,0,Ij)] [] false (fun x=>[]) Tryz.func68 rfl (by decide) ⟨a7A,YZ,trivial⟩ (fun(x:List Nd×Int×Int)=>(∀(y:Unit),True→True∧True∧True∧True∧True)∧((0:Int)≤x.2.1∧x.2.1<(↑(List.length x.1):Int))∧∀(e:Nd),x.1[Int.toNat x.2.1]? =some e→((0:Int)≤x.2.2∧x.2.2<(↑(List.length e.kids):Int))∧∀(e_1:Int),e.kids[Int.toNat x.2.2]? =some e_1→((0:Int)≤e_1∧e_1<(↑(List.length x.1):Int))∧∀(e_2:Nd),x.1[Int.toNat e_1]? =some e_2→Aa (e.kind==(9:Int)) (inR IntKind.i64 (x.2.2+(1:Int))∧Aa (decide (x.2.2+(1:Int)<(↑(List.length e.kids):Int))) (rA CX x [.bool (e_2.kind==(1:Int)),.top,.top,.top]) (cA Ii [.int .i64 e_2.kind] fun x_1 y=>rA CX x [.bool (BH x_1),.top,.top,.top])) (Aa (e.kind==(20:Int)) (inR IntKind.i64 (x.2.2+(1:Int))∧Aa (decide (x.2.2+(1:Int)<(↑(List.length e.kids):Int))) (rA CX x [.bool (e_2.kind==(1:Int)),.top,.top,.top]) (rA CX x [.bool (e_2.kind==(18:Int)),.top,.top,.top])) (Aa (e.kind==(10:Int)) (Aa (decide (x.2.2>(0:Int))) (Aa (e_2.kind==(5:Int)) (((0:Int)≤(0:Int)∧(0:Int)<(↑(List.length e_2.kids):Int))∧∀(e:Int),e_2.kids[(0:Nat)]? =some e→((0:Int)≤e∧e<(↑(List.length x.1):Int))∧∀(e_3:Nd),x.1[Int.toNat e]? =some e_3→rA CX x [.bool (e_3.kind==(1:Int)),.top,.top,.top]) (rA CX x [.bool false,.top,.top,.top])) (cA Ii [.int .i64 e_2.kind] fun x_1 y=>rA CX x [.bool (BH x_1),.top,.top,.top])) (Aa (e.kind==(16:Int)) (Aa (decide (x.2.2>(0:Int))) (rA CX x [.bool (e_2.kind==(18:Int)),.top,.top,.top]) (cA Ii [.int .i64 e_2.kind] fun x_1 y=>rA CX x [.bool (BH x_1),.top,.top,.top])) (Aa (e.kind==(17:Int)) (Aa (decide (x.2.2>(0:Int))) (rA CX x [.bool (e_2.kind==(18:Int)),.top,.top,.top]) (cA Ii [.int .i64 e_2.kind] fun x_1 y=>rA CX x [.bool (BH x_1),.top,.top,.top])) (Aa (e.kind==(18:Int)) (cA Ij [.int .i64 e_2.kind] fun x_1 y=>rA CX x [.bool (EI x_1),.top,.top,.top]) (Aa (e.kind==(21:Int)) (Aa (e_2.kind==(12:Int)) (rA CX x [.bool true,.top,.top,.top]) (Aa (e_2.kind==(20:Int)) (rA CX x [.bool true,.top,.top,.top]) (rA CX x [.bool (e_2.kind==(19:Int)),.top,.top,.top]))) (Aa (e.kind==(22:Int)) (Aa (e_2.kind==(21:Int)) (rA CX x [.bool true,.top,.top,.top]) (Aa (e_2.kind==(12:Int)) (rA CX x [.bool true,.top,.top,.top]) (Aa (e_2.kind==(20:Int)) (rA CX x [.bool true,.top,.top,.top]) (rA CX x [.bool (e_2.kind==(19:Int)),.top,.top,.top])))) (cA Ii [.int .i64 e_2.kind] fun x_1 y=>rA CX x [.bool (BH x_1),.top,.top,.top]))))))))) (fun x=>by kernel_rfl) fun(x:List Nd×Int×Int) (hx:Hx x)=>(by
 dsimp only[cA,Bn,nds,rA,CX,Ij,Ii,Au,Ax,mvL,lnL,mvE,lnE]
 have h:=hx;have h1:=h.1;have hl:=h1.1;have hn:=Cu.1 h.2.1
 (repeat' first|(with_reducible first|rfl|exact True.intro|apply AJ|apply And.intro|((first|apply Az|apply AH|apply AA|apply AI)<;>intro _))|(apply Av<;>intro _)|apply AG|refine Af () ?_ ?_|((first|apply AO|apply AN|apply AM|apply AL|apply AF|apply AE|apply AD|apply AC|apply AB)<;>try dsimp only)|apply Af|(refine Prod.forall.2 ?_;intro _;try dsimp only)|(intro _;try dsimp only))
 all_goals first
  |omega
  |exact(UC h ‹_›).1
  |exact(UC h ‹_›).2
  |exact(Za h ‹_› ‹_›).1
  |exact(Za h ‹_› ‹_›).2
  |exact Ze h ‹_› ‹_› ‹_› ‹_› ‹_›
  |(have:=Ze h ‹_› ‹_› ‹_› ‹_› ‹_›;omega)
  |(have:=(Zd h ‹_› ‹_› ‹_› ‹_› ‹_› ‹_›).1;omega)
  |(have hk:=(h1.2 _ (Cz (show x.1[x.2.1.toNat]? =some _ by assumption))).2;have:=UC h ‹_›;(try simp only[AR]);omega)
  |(rw[Zf ‹_› ‹_› ‹_›];simp [Gd,Et,DP,EH,GJ,FF,FH, *];done)
  |(rw[Zf ‹_› ‹_› ‹_›,(Zd h ‹_› ‹_› ‹_› ‹_› ‹_› ‹_›).2,Bd,Bg ‹_›];simp [Gd,FF,FH, *];done)
  |skip)
end Go.My
end
section
set_option linter.unusedVariables false
set_option linter.unusedSimpArgs false
namespace Go.My
open Go.Eng Go.Proofs
variable {G:GInv}
def koI(ns:List Nd)(x:Nd)(i:Int):Prop:=0≤i∧i≤x.kids.length∧∀(j:Nat) c,(j:Int)<i→x.kids[j]? =some c→DD ns x j c=true
theorem a7D{ns:List Nd}{x:Nd}:koI ns x 0:=⟨by omega,by omega,fun j c h=>by omega⟩
theorem Zg{ns:List Nd}{x:Nd}{i c:Int}(h:koI ns x i)(hc:x.kids[i.toNat]? =some c)(hk:DD ns x i c=true):koI ns x (i+1):=by
 obtain⟨h1,h2,h3⟩:=h
 have:=(Fl hc).1
 refine⟨by omega,by omega,fun j d hj hd=> ?_⟩
 by_cases e:(j:Int)<i
 ·exact h3 j d e hd
 ·obtain rfl:j=i.toNat:=by omega
  rw[hc] at hd;cases hd
  rwa [show((i.toNat:Nat):Int)=i by omega]
theorem a7E{ns:List Nd}{x:Nd}{i:Int}(h:koI ns x i)(hl:¬i<x.kids.length):BQ (DD ns x) x.kids 0=true:=by
 rw[Ui];intro j c hc
 exact h.2.2 j c (by have:=(Fl hc).1;omega) hc
theorem QJ{ns:List Nd}{x:Nd}{i c:Int}(h0:0≤i)(hc:x.kids[i.toNat]? =some c)(hk:DD ns x i c=false):BQ (DD ns x) x.kids 0=false:=by
 rw[Bool.eq_false_iff];intro h
 rw[Ui] at h
 have:=h _ _ hc
 rw[show((i.toNat:Nat):Int)=i by omega,hk] at this;cases this
theorem ko1{ns:List Nd}{x y:Nd}{i c:Int}(hy:ns[c.toNat]? =some y)(h:y.kind=5)(h0:(y.kids.length:Int)=0):DD ns x i c=false:=by
 have h0:=List.length_eq_zero_iff.1 (show y.kids.length=0 by omega)
 simp [DD,Bd,Bg hy,h,h0]
theorem IP{ns:List Nd}{d:Int}:inn d 0 (ns.length-1)=BK ns d:=by
 rw[Bool.eq_iff_iff];simp only[inn,BK,Bool.and_eq_true,decide_eq_true_eq];omega
theorem ko2{ns:List Nd}{x y:Nd}{i c d:Int}(hy:ns[c.toNat]? =some y)(h:y.kind=5)(h0:y.kids[0]? =some d)(hd:inn d 0 (ns.length-1)=false):DD ns x i c=false:=by
 rw[IP] at hd
 match hk:y.kids with
 |[]=>rw[hk] at h0;cases h0
 |e::t=>rw[hk] at h0;cases h0;simp [DD,Bd,Bg hy,h,hk,hd]
theorem ko3{ns:List Nd}{x y:Nd}{i c d:Int}(hy:ns[c.toNat]? =some y)(h:y.kind=5)(h0:y.kids[0]? =some d)(hd:inn d 0 (ns.length-1)=true):DD ns x i c=Ku ns x i c:=by
 rw[IP] at hd
 match hk:y.kids with
 |[]=>rw[hk] at h0;cases h0
 |e::t=>rw[hk] at h0;cases h0;simp [DD,Bd,Bg hy,h,hk,hd]
theorem ko4{ns:List Nd}{x y:Nd}{i c:Int}(hy:ns[c.toNat]? =some y)(h:y.kind≠5):DD ns x i c=Ku ns x i c:=by
 simp [DD,Bd,Bg hy,h]
theorem QK{ns:List Nd}{x:Nd}{k i c:Int}{b:Bool}(hx:ns[k.toNat]? =some x)(hc:x.kids[i.toNat]? =some c)(hb:KU (ns,k,i)=b):Ku ns x i c=b:=by
 rw[←hb,KU,Bg hx,List.getD,hc,Option.getD_some]
theorem a7F{ns:List Nd}{x y:Nd}{k i c d:Int}(h1:Be ns)(hn:BK ns k=true)(hx:ns[k.toNat]? =some x)(hin:DB x.kids k=true)(hi:koI ns x i)(hc:x.kids[i.toNat]? =some c)(hy:ns[c.toNat]? =some y)(h0:y.kids[0]? =some d)(hd:inn d 0 (ns.length-1)=true):Hx (ns,k,i):=by
 have hk:=Cu.1 hn
 have:=(Fl hc).1
 unfold Hx;simp only[Bg hx]
 refine⟨h1,hn,fun h10 c' hc' h5=> ?_,⟨hi.1,by omega⟩,fun c' hc'=> ?_⟩
 ·rw[hc] at hc';cases hc'
  rw[Bg hy]
  match hkk:y.kids with
  |[]=>rw[hkk] at h0;cases h0
  |e::t=>rw[hkk] at h0;cases h0;exact⟨_,_,rfl,by rw[←IP];exact hd⟩
 ·simp only[DB,List.all_eq_true,Bool.and_eq_true,decide_eq_true_eq] at hin
  have:=hin c' (Cz hc');omega
theorem a7G{ns:List Nd}{x y:Nd}{k i c:Int}(h1:Be ns)(hn:BK ns k=true)(hx:ns[k.toNat]? =some x)(hin:DB x.kids k=true)(hi:koI ns x i)(hc:x.kids[i.toNat]? =some c)(hy:ns[c.toNat]? =some y)(h5:y.kind≠5):Hx (ns,k,i):=by
 have hk:=Cu.1 hn
 have:=(Fl hc).1
 unfold Hx;simp only[Bg hx]
 refine⟨h1,hn,fun h10 c' hc' h5'=> ?_,⟨hi.1,by omega⟩,fun c' hc'=> ?_⟩
 ·rw[hc] at hc';cases hc'
  rw[Bd,Bg hy] at h5';exact(h5 h5').elim
 ·simp only[DB,List.all_eq_true,Bool.and_eq_true,decide_eq_true_eq] at hin
  have:=hin c' (Cz hc');omega
theorem Zh{k:Int}:Hr k=(EI k||(decide (k=20)||decide (k=21))):=by
 rw[Bool.eq_iff_iff]
 simp only[Hr,EI,EH,JG,inn,Bool.or_eq_true,Bool.and_eq_true,decide_eq_true_eq];omega
theorem Zi{ns:List Nd}{k:Int}(h:inn k 0 (ns.length-1)=false):false=BT ns k:=by rw[IP] at h;exact YD h
theorem Ov{ns:List Nd}{k:Int}{x:Nd}(hx:ns[k.toNat]? =some x)(h:inn k 0 (ns.length-1)=true):BT ns k=(inn x.kind 1 22&&(inn x.kids.length (EW x.kind).1 (EW x.kind).2&&(Fm x.kind x.text&&((Hr x.kind|| !x.blank)&&((DB x.kids k&&decide x.kids.Nodup)&&BQ (DD ns x) x.kids 0))))):=by
 rw[IP] at h;rw[Mq hx h,a5m]
theorem a7H{ns:List Nd}{k:Int}{x:Nd}(hx:ns[k.toNat]? =some x)(h:inn k 0 (ns.length-1)=true)(h1:DB x.kids k=false):false=BT ns k:=by
 rw[Ov hx h,h1];simp
theorem a7I{ns:List Nd}{k:Int}{x:Nd}(hx:ns[k.toNat]? =some x)(h:inn k 0 (ns.length-1)=true)(h1:¬x.kids.Nodup):false=BT ns k:=by
 rw[Ov hx h,decide_eq_false h1];simp
theorem QL{ns:List Nd}{k:Int}{x:Nd}(hx:ns[k.toNat]? =some x)(h:inn k 0 (ns.length-1)=true)(h1:BQ (DD ns x) x.kids 0=false):false=BT ns k:=by
 rw[Ov hx h,h1];simp
theorem a7J{ns:List Nd}{k:Int}{x:Nd}(hx:ns[k.toNat]? =some x)(h:inn k 0 (ns.length-1)=true)(h1:inn x.kind 1 22=true)(h2:inn x.kids.length (EW x.kind).1 (EW x.kind).2=true)(h3:Fm x.kind x.text=true)(h4:(Hr x.kind|| !x.blank)=true)
 (h5:DB x.kids k=true∧x.kids.Nodup) (h6:BQ (DD ns x) x.kids 0=true):true=BT ns k:=by
 rw[Ov hx h,h1,h2,h3,h4,h5.1,h6,decide_eq_true h5.2];rfl
theorem a7K{k c:Int}{l:List Int}{n:Nat}(hc:l[n]? =some c)(h:inn c 0 (k-1)=false):DB l k=false:=by
 rw[Bool.eq_false_iff];intro hh;simp only[DB,List.all_eq_true,Bool.and_eq_true,decide_eq_true_eq] at hh
 have:=hh c (Cz hc)
 have:inn c 0 (k-1)=true:=Ms.2 (by omega)
 rw[h] at this;cases this
def djI(l:List Int)(i j:Int):Prop:=0≤j∧j≤i∧∀c,l[i.toNat]? =some c→(l.take j.toNat).elem c=false
theorem a7L{l:List Int}{i:Int}(h:0≤i):djI l i 0:=⟨by omega,h,by simp⟩
theorem a7M{l:List Int}{i j c d:Int}(h:djI l i j)(hl:j<i)(hc:l[i.toNat]? =some c)(hd:l[j.toNat]? =some d)(hne:c≠d):djI l i (j+1):=by
 refine⟨by have:=h.1;omega,by omega,fun c' hc'=> ?_⟩
 have h3:=h.2.2 c' hc'
 rw[hc] at hc';cases hc'
 rw[Dv h.1,FE hd]
 simp at h3 ⊢
 exact⟨h3,hne⟩
theorem a7N{l:List Int}{i j c d:Int}(h0:djI l i j)(hl:j<i)(hc:l[i.toNat]? =some c)(hd:l[j.toNat]? =some d)(he:c=d):¬l.Nodup:=by
 refine YC hc ?_
 subst he
 rw[List.elem_iff]
 rw[List.mem_take_iff_getElem]
 obtain⟨hj,e⟩:=Fl hd
 have:=h0.1
 exact⟨j.toNat,by omega,e⟩
theorem a7O{k:Int}{l:List Int}{i j c:Int}(h:nkI k l i)(hd:djI l i j)(hl:¬j<i)(hc:l[i.toNat]? =some c)(hin:inn c 0 (k-1)=true):nkI k l (i+1):=by
 have:=Ms.1 hin
 have h3:=hd.2.2 c hc
 obtain rfl:j=i:=by have:=hd.2.1;omega
 exact YB h hc (by omega) (by omega) h3
def QM(x:List Nd×Int)(i:Int):LS:= {
 ι:=Int,inv:=djI (Ai x.1 x.2).kids i,
 regs:=fun j=>[(0,nds x.1),(1,.int .i64 x.2),(5,.box 0 (ndA false (Ai x.1 x.2))),(8,.int .i64 i),(9,.int .i64 j)],als:=[],meas:=fun j=>i.toNat-j.toNat}
def QN(x:List Nd×Int):LS:= {
 ι:=Int,inv:=nkI x.2 (Ai x.1 x.2).kids,
 regs:=fun i=>[(0,nds x.1),(1,.int .i64 x.2),(5,.box 0 (ndA false (Ai x.1 x.2))),(8,.int .i64 i)],als:=[],meas:=fun i=>(Ai x.1 x.2).kids.length-i.toNat,sub:=fun i=>[(15,QM x i)]}
def Ow(x:List Nd×Int):LS:= {
 ι:=Int,inv:=koI x.1 (Ai x.1 x.2),
 regs:=fun i=>[(0,nds x.1),(1,.int .i64 x.2),(5,.box 0 (ndA false (Ai x.1 x.2))),(10,.int .i64 i)],als:=[],meas:=fun i=>(Ai x.1 x.2).kids.length-i.toNat}
def jI(x:Nd):Prop:=inn x.kind 1 22=true∧inn x.kids.length (EW x.kind).1 (EW x.kind).2=true∧Fm x.kind x.text=true∧(Hr x.kind|| !x.blank)=true
def Mt(x:List Nd×Int):LS:= {
 ι:=Unit,inv:=fun _=>jI (Ai x.1 x.2),
 regs:=fun _=>[(0,nds x.1),(1,.int .i64 x.2),(5,.box 0 (ndA false (Ai x.1 x.2)))],als:=[],meas:=fun _=>0}
def EK:Sig:= {X:=List Nd×Int,args:=fun x=>[nds x.1,.int .i64 x.2],pre:=fun x=>Be x.1,Y:=Unit,post:=fun x y=>True,res:=fun x y=> .bool (BT x.1 x.2),outs:=fun x y=>[.top,.top],keep:=false}
set_option maxHeartbeats 4000000 in
theorem a7P:Am G Tryz.prog 15 EK:=
 vcFun_okP [(64,0,CH),(65,0,Df),(66,0,EY),(67,0,Ij),(68,0,CX)] [] false (fun x=>[(10,QN x),(20,Ow x),(200009,Mt x)]) Tryz.func15 rfl (by decide) ⟨Kw,a7B,a6z,YZ,a7C,trivial⟩ (fun(x:List Nd×Int)=>(∀(y:Unit),True→True∧True∧True∧True)∧inR IntKind.i64 ((↑(List.length x.1):Int)-(1:Int))∧cA CH [.int .i64 x.2,.int .i64 (0:Int),.int .i64 ((↑(List.length x.1):Int)-(1:Int))] fun x_1 y=>Aa (!inn x_1.1 x_1.2.1 x_1.2.2) (rA EK x [.bool false,.top,.top]) (((0:Int)≤x.2∧x.2<(↑(List.length x.1):Int))∧∀(e:Nd),x.1[Int.toNat x.2]? =some e→cA CH [.int .i64 e.kind,.int .i64 (1:Int),.int .i64 (22:Int)] fun x_2 y=>Aa (!inn x_2.1 x_2.2.1 x_2.2.2) (rA EK x [.bool false,.top,.top]) (((0:Int)≤x.2∧x.2<(↑(List.length x.1):Int))∧∀(e:Nd),x.1[Int.toNat x.2]? =some e→cA Df [.int .i64 e.kind] fun x_3 y=>cA CH [.int .i64 (↑(List.length e.kids):Int),.int .i64 (EW x_3).1,.int .i64 (EW x_3).2] fun x_4 y=>Aa (!inn x_4.1 x_4.2.1 x_4.2.2) (rA EK x [.bool false,.top,.top]) (cA EY [.int .i64 e.kind,.str e.text] fun x_5 y=>Aa (!Fm x_5.1 x_5.2) (rA EK x [.bool false,.top,.top]) (Aa e.blank (cA Ij [.int .i64 e.kind] fun x_6 y=>Aa (!EI x_6) (Aa (e.kind != (20:Int)) (Aa (e.kind != (21:Int)) (rA EK x [.bool false,.top,.top]) (eA (Mt x) [nds x.1,.int .i64 x.2,.box 0 [.int .i64 e.kind,.str e.text,Aq e.kids,.bool e.blank]])) (eA (Mt x) [nds x.1,.int .i64 x.2,.box 0 [.int .i64 e.kind,.str e.text,Aq e.kids,.bool e.blank]])) (eA (Mt x) [nds x.1,.int .i64 x.2,.box 0 [.int .i64 e.kind,.str e.text,Aq e.kids,.bool e.blank]])) (eA (Mt x) [nds x.1,.int .i64 x.2,.box 0 [.int .i64 e.kind,.str e.text,Aq e.kids,.bool e.blank]])∧∀(i:Unit),jI (Ai x.1 x.2)→eA (QN x) [nds x.1,.int .i64 x.2,.box 0 [.int .i64 (Ai x.1 x.2).kind,.str (Ai x.1 x.2).text,Aq (Ai x.1 x.2).kids,.bool (Ai x.1 x.2).blank],.int .i64 (0:Int)]∧∀(i:Int),nkI x.2 (Ai x.1 x.2).kids i→Aa (decide (i<(↑(List.length (Ai x.1 x.2).kids):Int))) (((0:Int)≤i∧i<(↑(List.length (Ai x.1 x.2).kids):Int))∧∀(e:Int),(Ai x.1 x.2).kids[Int.toNat i]? =some e→inR IntKind.i64 (x.2-(1:Int))∧cA CH [.int .i64 e,.int .i64 (0:Int),.int .i64 (x.2-(1:Int))] fun x_6 y=>Aa (!inn x_6.1 x_6.2.1 x_6.2.2) (rA EK x [.bool false,.top,.top]) (eA (QM x i) [nds x.1,.int .i64 x.2,.box 0 [.int .i64 (Ai x.1 x.2).kind,.str (Ai x.1 x.2).text,Aq (Ai x.1 x.2).kids,.bool (Ai x.1 x.2).blank],.int .i64 i,.int .i64 (0:Int)]∧∀(i_1:Int),djI (Ai x.1 x.2).kids i i_1→Aa (decide (i_1<i)) (true=true∧true=true∧((0:Int)≤i∧i<(↑(List.length (Ai x.1 x.2).kids):Int))∧∀(e:Int),(Ai x.1 x.2).kids[Int.toNat i]? =some e→((0:Int)≤i_1∧i_1<(↑(List.length (Ai x.1 x.2).kids):Int))∧∀(e_1:Int),(Ai x.1 x.2).kids[Int.toNat i_1]? =some e_1→Aa (e==e_1) (rA EK x [.bool false,.top,.top]) (inR IntKind.i64 (i_1+(1:Int))∧eN (QM x i) i_1 [nds x.1,.int .i64 x.2,.box 0 [.int .i64 (Ai x.1 x.2).kind,.str (Ai x.1 x.2).text,Aq (Ai x.1 x.2).kids,.bool (Ai x.1 x.2).blank],.int .i64 i,.int .i64 (i_1+(1:Int))])) (inR IntKind.i64 (i+(1:Int))∧eN (QN x) i [nds x.1,.int .i64 x.2,.box 0 [.int .i64 (Ai x.1 x.2).kind,.str (Ai x.1 x.2).text,Aq (Ai x.1 x.2).kids,.bool (Ai x.1 x.2).blank],.int .i64 (i+(1:Int))]))) (eA (Ow x) [nds x.1,.int .i64 x.2,.box 0 [.int .i64 (Ai x.1 x.2).kind,.str (Ai x.1 x.2).text,Aq (Ai x.1 x.2).kids,.bool (Ai x.1 x.2).blank],.int .i64 (0:Int)]∧∀(i:Int),koI x.1 (Ai x.1 x.2) i→Aa (decide (i<(↑(List.length (Ai x.1 x.2).kids):Int))) (((0:Int)≤i∧i<(↑(List.length (Ai x.1 x.2).kids):Int))∧∀(e:Int),(Ai x.1 x.2).kids[Int.toNat i]? =some e→((0:Int)≤e∧e<(↑(List.length x.1):Int))∧∀(e_1:Nd),x.1[Int.toNat e]? =some e_1→Aa (e_1.kind==(5:Int)) (Aa ((↑(List.length e_1.kids):Int)==(0:Int)) (rA EK x [.bool false,.top,.top]) (((0:Int)≤(0:Int)∧(0:Int)<(↑(List.length e_1.kids):Int))∧∀(e:Int),e_1.kids[(0:Nat)]? =some e→inR IntKind.i64 ((↑(List.length x.1):Int)-(1:Int))∧cA CH [.int .i64 e,.int .i64 (0:Int),.int .i64 ((↑(List.length x.1):Int)-(1:Int))] fun x_6 y=>Aa (!inn x_6.1 x_6.2.1 x_6.2.2) (rA EK x [.bool false,.top,.top]) (cA CX [nds x.1,.int .i64 x.2,.int .i64 i] fun x_7 y=>Aa (!KU x_7) (rA EK x [.bool false,.top,.top]) (inR IntKind.i64 (i+(1:Int))∧eN (Ow x) i [nds x.1,.int .i64 x.2,.box 0 [.int .i64 (Ai x.1 x.2).kind,.str (Ai x.1 x.2).text,Aq (Ai x.1 x.2).kids,.bool (Ai x.1 x.2).blank],.int .i64 (i+(1:Int))])))) (cA CX [nds x.1,.int .i64 x.2,.int .i64 i] fun x_6 y=>Aa (!KU x_6) (rA EK x [.bool false,.top,.top]) (inR IntKind.i64 (i+(1:Int))∧eN (Ow x) i [nds x.1,.int .i64 x.2,.box 0 [.int .i64 (Ai x.1 x.2).kind,.str (Ai x.1 x.2).text,Aq (Ai x.1 x.2).kids,.bool (Ai x.1 x.2).blank],.int .i64 (i+(1:Int))]))) (rA EK x [.bool true,.top,.top]))))))) (fun x=>by kernel_rfl) fun(x:List Nd×Int) (hx:Be x.1)=>(by
 dsimp only[cA,eA,eN,Aq,Mt,QN,QM,Ow,Bn,nds,rA,CH,Df,CX,Ij,EY,EK,Au,Ax,mvL,lnL,mvE,lnE,Bm]
 have h1:Be x.1:=hx;have hl:=h1.1
 by_cases hn:BK x.1 x.2=true
 case neg=>
  (repeat' first|(with_reducible first|rfl|exact True.intro|apply AJ|apply And.intro|((first|apply Az|apply AH|apply AA|apply AI)<;>intro _))|(apply Av<;>intro _)|apply AG|refine Af () ?_ ?_|((first|apply AO|apply AN|apply AM|apply AL|apply AF|apply AE|apply AD|apply AC|apply AB)<;>try dsimp only)|apply Af|(refine Prod.forall.2 ?_;intro _;try dsimp only)|(intro _;try dsimp only))
  all_goals first
   |exact Zi ‹_›
   |(have hh:=(show inn x.2 0 (x.1.length-1)=true by assumption);rw[IP] at hh;exact(hn hh).elim)
   |((try simp only[AR]);omega)
 case pos=>
 have hr:=Cu.1 hn
 obtain⟨z,hz⟩:∃z,x.1[x.2.toNat]? =some z:=⟨x.1[x.2.toNat],by simp⟩
 have hzo:=h1.2 _ (Cz hz)
 have hi:inn x.2 0 (x.1.length-1)=true:=by rw[IP];exact hn
 simp only[hz,Option.some.injEq,forall_eq',Bg hz]
 (repeat' first|(with_reducible first|rfl|exact True.intro|apply AJ|apply And.intro|((first|apply Az|apply AH|apply AA|apply AI)<;>intro _))|(apply Av<;>intro _)|apply AG|refine Af () ?_ ?_|((first|apply AO|apply AN|apply AM|apply AL|apply AF|apply AE|apply AD|apply AC|apply AB)<;>try dsimp only)|apply Af|(refine Prod.forall.2 ?_;intro _;try dsimp only)|(intro _;try dsimp only))
 all_goals first
  |rfl
  |assumption
  |exact YA
  |exact a7D
  |exact a7L (‹nkI _ _ _›.1)
  |exact Zi ‹_›
  |exact⟨by assumption,by assumption,by assumption,by simp [Zh, *]⟩
  |exact a7H hz hi (a7K ‹_› ‹_›)
  |exact a7I hz hi (a7N ‹_› ‹_› ‹_› ‹_› ‹_›)
  |exact a7M ‹_› ‹_› ‹_› ‹_› ‹_›
  |exact a7O ‹_› ‹_› ‹_› ‹_› ‹_›
  |exact QL hz hi (QJ (‹koI _ _ _›.1) ‹_› (ko1 ‹_› ‹_› ‹_›))
  |exact QL hz hi (QJ (‹koI _ _ _›.1) ‹_› (ko2 ‹_› ‹_› ‹_› ‹_›))
  |exact QL hz hi (QJ (‹koI _ _ _›.1) ‹_› ((ko4 ‹_› ‹_›).trans (QK hz ‹_› ‹_›)))
  |exact QL hz hi (QJ (‹koI _ _ _›.1) ‹_› ((ko3 ‹_› ‹_› ‹_› ‹_›).trans (QK hz ‹_› ‹_›)))
  |exact Zg ‹_› ‹_› ((ko4 ‹_› ‹_›).trans (QK hz ‹_› ‹_›))
  |exact Zg ‹_› ‹_› ((ko3 ‹_› ‹_› ‹_› ‹_›).trans (QK hz ‹_› ‹_›))
  |exact a7F h1 hn hz (Oq ‹_› ‹_›).1 ‹_› ‹_› ‹_› ‹_› ‹_›
  |exact a7G h1 hn hz (Oq ‹_› ‹_›).1 ‹_› ‹_› ‹_› ‹_›
  |exact a7J hz hi (‹jI _›.1) (‹jI _›.2.1) (‹jI _›.2.2.1) (‹jI _›.2.2.2) (Oq ‹_› ‹_›) (a7E ‹_› ‹_›)
  |(rw[Ov hz hi];simp [Zh, *];done)
  |exact hzo.1
  |(have:=UA ‹_› ‹_› hr.2 (Cz (show z.kids[_]? =some _ by assumption));omega)
  |((try simp only[AR]);omega)
  |(have hko:=(show koI _ _ _ by assumption);have hk2:=hzo.2;have:=hko.1;have:=hko.2.1;(try simp only[AR]);omega)
  |(have hko:=(show djI _ _ _ by assumption);have hk1:=(show nkI _ _ _ by assumption);have hk2:=hzo.2;have:=hko.1;have:=hko.2.1;have:=hk1.1;have:=hk1.2.1;(try simp only[AR]);omega)
  |(have hk1:=(show nkI _ _ _ by assumption);have hk2:=hzo.2;have:=hk1.1;have:=hk1.2.1;(try simp only[AR]);omega)
  |skip)
end Go.My
end
