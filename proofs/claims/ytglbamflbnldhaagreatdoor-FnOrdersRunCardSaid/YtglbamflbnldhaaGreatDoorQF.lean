/- joined -/
import Derived.Test.YtglbamflbnldhaaGreatDoorQE
set_option linter.unusedSimpArgs false
set_option linter.unusedVariables false
section
namespace Go.My
open Go.Eng Go.Proofs
variable {G:GInv}
theorem Gx{a b:Int}:(a==b)=decide (a=b):=by rw[Bool.eq_iff_iff];simp
theorem b0D{α:Type}{p:α→Bool}{x:List α}{n:Nat}{e:α}(he:x[n]? =some e)(hp:p e=true)(h:∀e∈x.take n,p e=true):∀e∈x.take (n+1),p e=true:=by
 rw[Ey he];intro d hd
 rcases List.mem_append.1 hd with hd|hd
 ·exact h d hd
 ·simp at hd;subst hd;exact hp
theorem b0E{α:Type}{p:α→Bool}{x:List α}{n:Nat}(h:∀e∈x.take n,p e=true)(hn:x.length≤n):x.all p=true:=by
 rw[List.take_of_length_le hn] at h;exact List.all_eq_true.2 h
theorem LA{α:Type}{p:α→Bool}{x:List α}{n:Nat}{e:α}(he:x[n]? =some e)(hp:p e=false):x.all p=false:=by
 rw[Bool.eq_false_iff];intro h
 rw[List.all_eq_true.1 h e (List.mem_of_getElem? he)] at hp;cases hp
def Gy:Sig:= {X:=Int,args:=fun x=>[.int .i64 x],pre:=fun x=>True,Y:=Unit,post:=fun x y=>True,res:=fun x y=> .bool (BG x),outs:=fun x y=>[.top],keep:=false}
theorem Wo:Aj G Tryz.prog 142 Gy:=
 vcFun_okP [(66,0,FC)] [] false (fun x=>[]) Tryz.func142 rfl (by decide) ⟨RE,trivial⟩ (fun(x:Int)=>(∀(y:Unit),True→True∧True∧True)∧cA FC [.int .i64 x,.int .i64 (1:Int),.int .i64 (11:Int)] fun x_1 y=>rA Gy x [.bool (inn x_1.1 x_1.2.1 x_1.2.2),.top]) (fun x=>by kernel_rfl) fun(x:Int) (hx:True)=>(by
 dsimp only[cA,rA,FC,Gy,Au,Az,mvL,lnL,mvE,lnE]
 (repeat' first|(with_reducible first|rfl|exact True.intro|apply AK|apply And.intro|((first|apply AA|apply AI|apply AB|apply AJ)<;>intro _))|(apply Ax<;>intro _)|apply AH|refine Ae () ?_ ?_|((first|apply AO|apply AN|apply AM|apply AL|apply AG|apply AF|apply AE|apply AD|apply AC)<;>try dsimp only)|apply Ae|(refine Prod.forall.2 ?_;intro _;try dsimp only)|(intro _;try dsimp only))<;>(try dsimp only at*)<;>(try simp only[AQ,List.length_cons,List.length_nil])<;>(try omega)
 all_goals simp [BG,Gx, *])
def JF:Sig:= {X:=Int,args:=fun x=>[.int .i64 x],pre:=fun x=>True,Y:=Unit,post:=fun x y=>True,res:=fun x y=> .bool (JC x),outs:=fun x y=>[.top],keep:=false}
theorem a1y:Aj G Tryz.prog 114 JF:=
 vcFun_okP [(66,0,FC)] [] false (fun x=>[]) Tryz.func114 rfl (by decide) ⟨RE,trivial⟩ (fun(x:Int)=>(∀(y:Unit),True→True∧True∧True)∧cA FC [.int .i64 x,.int .i64 (12:Int),.int .i64 (17:Int)] fun x_1 y=>rA JF x [.bool (inn x_1.1 x_1.2.1 x_1.2.2),.top]) (fun x=>by kernel_rfl) fun(x:Int) (hx:True)=>(by
 dsimp only[cA,rA,FC,JF,Au,Az,mvL,lnL,mvE,lnE]
 (repeat' first|(with_reducible first|rfl|exact True.intro|apply AK|apply And.intro|((first|apply AA|apply AI|apply AB|apply AJ)<;>intro _))|(apply Ax<;>intro _)|apply AH|refine Ae () ?_ ?_|((first|apply AO|apply AN|apply AM|apply AL|apply AG|apply AF|apply AE|apply AD|apply AC)<;>try dsimp only)|apply Ae|(refine Prod.forall.2 ?_;intro _;try dsimp only)|(intro _;try dsimp only))<;>(try dsimp only at*)<;>(try simp only[AQ,List.length_cons,List.length_nil])<;>(try omega)
 all_goals simp [JC,Gx, *])
def HN:Sig:= {X:=Int,args:=fun x=>[.int .i64 x],pre:=fun x=>True,Y:=Unit,post:=fun x y=>True,res:=fun x y=> .bool (CU x),outs:=fun x y=>[.top],keep:=false}
theorem Wp:Aj G Tryz.prog 145 HN:=
 vcFun_okP [] [] false (fun x=>[]) Tryz.func145 rfl (by decide) trivial (fun(x:Int)=>(∀(y:Unit),True→True∧True∧True)∧rA HN x [.bool (x==(18:Int)),.top]) (fun x=>by kernel_rfl) fun(x:Int) (hx:True)=>(by
 dsimp only[rA,HN,Au,Az]
 (repeat' first|(with_reducible first|rfl|exact True.intro|apply AK|apply And.intro|((first|apply AA|apply AI|apply AB|apply AJ)<;>intro _))|(apply Ax<;>intro _)|apply AH|refine Ae () ?_ ?_|((first|apply AO|apply AN|apply AM|apply AL|apply AG|apply AF|apply AE|apply AD|apply AC)<;>try dsimp only)|apply Ae|(refine Prod.forall.2 ?_;intro _;try dsimp only)|(intro _;try dsimp only))<;>(try dsimp only at*)<;>(try simp only[AQ,List.length_cons,List.length_nil])<;>(try omega)
 all_goals simp [CU,Gx, *])
def Gz:Sig:= {X:=Int,args:=fun x=>[.int .i64 x],pre:=fun x=>True,Y:=Unit,post:=fun x y=>True,res:=fun x y=> .bool (Ez x),outs:=fun x y=>[.top],keep:=false}
theorem Wq:Aj G Tryz.prog 115 Gz:=
 vcFun_okP [] [] false (fun x=>[]) Tryz.func115 rfl (by decide) trivial (fun(x:Int)=>(∀(y:Unit),True→True∧True∧True)∧Aa (x==(12:Int)) (rA Gz x [.bool true,.top]) (Aa (x==(20:Int)) (rA Gz x [.bool true,.top]) (rA Gz x [.bool (x==(19:Int)),.top]))) (fun x=>by kernel_rfl) fun(x:Int) (hx:True)=>(by
 dsimp only[rA,Gz,Au,Az]
 (repeat' first|(with_reducible first|rfl|exact True.intro|apply AK|apply And.intro|((first|apply AA|apply AI|apply AB|apply AJ)<;>intro _))|(apply Ax<;>intro _)|apply AH|refine Ae () ?_ ?_|((first|apply AO|apply AN|apply AM|apply AL|apply AG|apply AF|apply AE|apply AD|apply AC)<;>try dsimp only)|apply Ae|(refine Prod.forall.2 ?_;intro _;try dsimp only)|(intro _;try dsimp only))<;>(try dsimp only at*)<;>(try simp only[AQ,List.length_cons,List.length_nil])<;>(try omega)
 all_goals simp [Ez,Gx, *])
def NB:Sig:= {X:=Int,args:=fun x=>[.int .i64 x],pre:=fun x=>True,Y:=Unit,post:=fun x y=>True,res:=fun x y=> .bool (FY x),outs:=fun x y=>[.top],keep:=false}
theorem b0F:Aj G Tryz.prog 144 NB:=
 vcFun_okP [] [] false (fun x=>[]) Tryz.func144 rfl (by decide) trivial (fun(x:Int)=>(∀(y:Unit),True→True∧True∧True)∧rA NB x [.bool (x==(5:Int)),.top]) (fun x=>by kernel_rfl) fun(x:Int) (hx:True)=>(by
 dsimp only[rA,NB,Au,Az]
 (repeat' first|(with_reducible first|rfl|exact True.intro|apply AK|apply And.intro|((first|apply AA|apply AI|apply AB|apply AJ)<;>intro _))|(apply Ax<;>intro _)|apply AH|refine Ae () ?_ ?_|((first|apply AO|apply AN|apply AM|apply AL|apply AG|apply AF|apply AE|apply AD|apply AC)<;>try dsimp only)|apply Ae|(refine Prod.forall.2 ?_;intro _;try dsimp only)|(intro _;try dsimp only))<;>(try dsimp only at*)<;>(try simp only[AQ,List.length_cons,List.length_nil])<;>(try omega)
 all_goals simp [FY,Gx, *])
def LB:Sig:= {X:=Int,args:=fun x=>[.int .i64 x],pre:=fun x=>True,Y:=Unit,post:=fun x y=>True,res:=fun x y=> .bool (DT x),outs:=fun x y=>[.top],keep:=false}
theorem b0G:Aj G Tryz.prog 146 LB:=
 vcFun_okP [(114,0,JF)] [] false (fun x=>[]) Tryz.func146 rfl (by decide) ⟨a1y,trivial⟩ (fun(x:Int)=>(∀(y:Unit),True→True∧True∧True)∧cA JF [.int .i64 x] fun x_1 y=>Aa (JC x_1) (rA LB x [.bool true,.top]) (rA LB x [.bool (x==(19:Int)),.top])) (fun x=>by kernel_rfl) fun(x:Int) (hx:True)=>(by
 dsimp only[cA,rA,JF,LB,Au,Az,mvL,lnL,mvE,lnE]
 (repeat' first|(with_reducible first|rfl|exact True.intro|apply AK|apply And.intro|((first|apply AA|apply AI|apply AB|apply AJ)<;>intro _))|(apply Ax<;>intro _)|apply AH|refine Ae () ?_ ?_|((first|apply AO|apply AN|apply AM|apply AL|apply AG|apply AF|apply AE|apply AD|apply AC)<;>try dsimp only)|apply Ae|(refine Prod.forall.2 ?_;intro _;try dsimp only)|(intro _;try dsimp only))<;>(try dsimp only at*)<;>(try simp only[AQ,List.length_cons,List.length_nil])<;>(try omega)
 all_goals simp [DT,Gx, *])
def LC:Sig:= {X:=Int,args:=fun x=>[.int .i64 x],pre:=fun x=>True,Y:=Unit,post:=fun x y=>True,res:=fun x y=> .bool (FA x),outs:=fun x y=>[.top],keep:=false}
theorem b0H:Aj G Tryz.prog 147 LC:=
 vcFun_okP [(115,0,Gz)] [] false (fun x=>[]) Tryz.func147 rfl (by decide) ⟨Wq,trivial⟩ (fun(x:Int)=>(∀(y:Unit),True→True∧True∧True)∧cA Gz [.int .i64 x] fun x_1 y=>Aa (Ez x_1) (rA LC x [.bool true,.top]) (rA LC x [.bool (x==(21:Int)),.top])) (fun x=>by kernel_rfl) fun(x:Int) (hx:True)=>(by
 dsimp only[cA,rA,Gz,LC,Au,Az,mvL,lnL,mvE,lnE]
 (repeat' first|(with_reducible first|rfl|exact True.intro|apply AK|apply And.intro|((first|apply AA|apply AI|apply AB|apply AJ)<;>intro _))|(apply Ax<;>intro _)|apply AH|refine Ae () ?_ ?_|((first|apply AO|apply AN|apply AM|apply AL|apply AG|apply AF|apply AE|apply AD|apply AC)<;>try dsimp only)|apply Ae|(refine Prod.forall.2 ?_;intro _;try dsimp only)|(intro _;try dsimp only))<;>(try dsimp only at*)<;>(try simp only[AQ,List.length_cons,List.length_nil])<;>(try omega)
 all_goals simp [FA,Gx, *])
def NC:Sig:= {X:=Int,args:=fun x=>[.int .i64 x],pre:=fun x=>True,Y:=Unit,post:=fun x y=>True,res:=fun x y=> .bool (EA x),outs:=fun x y=>[.top],keep:=false}
theorem b0I:Aj G Tryz.prog 183 NC:=
 vcFun_okP [] [] false (fun x=>[]) Tryz.func183 rfl (by decide) trivial (fun(x:Int)=>(∀(y:Unit),True→True∧True∧True)∧rA NC x [.bool (x==(1:Int)),.top]) (fun x=>by kernel_rfl) fun(x:Int) (hx:True)=>(by
 dsimp only[rA,NC,Au,Az]
 (repeat' first|(with_reducible first|rfl|exact True.intro|apply AK|apply And.intro|((first|apply AA|apply AI|apply AB|apply AJ)<;>intro _))|(apply Ax<;>intro _)|apply AH|refine Ae () ?_ ?_|((first|apply AO|apply AN|apply AM|apply AL|apply AG|apply AF|apply AE|apply AD|apply AC)<;>try dsimp only)|apply Ae|(refine Prod.forall.2 ?_;intro _;try dsimp only)|(intro _;try dsimp only))<;>(try dsimp only at*)<;>(try simp only[AQ,List.length_cons,List.length_nil])<;>(try omega)
 all_goals simp [EA,Gx, *])
def EB(p:Int→Bool)(x:List Int)(i:Int):Prop:=0≤i∧i≤x.length∧∀e∈x.take i.toNat,p e=true
theorem LD{p:Int→Bool}{x:List Int}:EB p x 0:=⟨by omega,by omega,by simp⟩
theorem LE{p:Int→Bool}{x:List Int}{i:Int}{e:Int}(h:EB p x i)(he:x[i.toNat]? =some e)(hp:p e=true):EB p x (i+1):=by
 obtain⟨h1,h2,h3⟩:=h
 have:=(DK he).1
 exact⟨by omega,by omega,by rw[Da h1];exact b0D he hp h3⟩
theorem LF{p:Int→Bool}{x:List Int}{i:Int}(h:EB p x i)(hl:¬i<x.length):true=x.all p:=(b0E h.2.2 (by omega)).symm
def Dd(p:Int→Bool)(c:AV)(x:List Int):LS:= {
 ι:=Int,inv:=EB p x,regs:=fun i=>[(0,Af x),(1,c),(7,Af x),(8,.int .i64 x.length),(9,.int .i64 i)],als:=[],meas:=fun i=>x.length-i.toNat}
def LG:Sig:= {X:=List Int,args:=fun x=>[Af x,.clo (.func 142) []],pre:=fun x=>x.length<2^62,Y:=Unit,post:=fun x y=>True,res:=fun x y=> .bool (x.all BG),outs:=fun x y=>[.top,.top],keep:=false}
theorem b0J:Aj G Tryz.prog 141 LG:=
 vcFun_okP [(142,0,Gy)] [] false (fun x=>[(2,Dd BG (.clo (.func 142) []) x)]) Tryz.func141 rfl (by decide) ⟨Wo,trivial⟩ (fun(x:List Int)=>(∀(y:Unit),True→True∧True∧True∧True)∧eA (Dd BG (AV.clo (.func 142) []) x) [Af x,AV.clo (.func 142) [],Af x,.int .i64 (↑(List.length x):Int),.int .i64 (0:Int)]∧∀(i:Int),EB BG x i→Aa (decide (i<(↑(List.length x):Int))) (((0:Int)≤i∧i<(↑(List.length x):Int))∧∀(e:Int),x[Int.toNat i]? =some e→cA Gy [.int .i64 e] fun x_1 y=>Aa (!BG x_1) (rA LG x [.bool false,.top,.top]) (inR IntKind.i64 (i+(1:Int))∧eN (Dd BG (AV.clo (.func 142) []) x) i [Af x,AV.clo (.func 142) [],Af x,.int .i64 (↑(List.length x):Int),.int .i64 (i+(1:Int))])) (rA LG x [.bool true,.top,.top])) (fun x=>by kernel_rfl) fun(x:List Int) (hx:x.length<2^62)=>(by
 dsimp only[cA,eA,eN,Af,Dd,rA,LG,Gy,Au,Az,mvL,lnL,mvE,lnE,Br]
 have hx:x.length<2^62:=hx
 (repeat' first|(with_reducible first|rfl|exact True.intro|apply AK|apply And.intro|((first|apply AA|apply AI|apply AB|apply AJ)<;>intro _))|(apply Ax<;>intro _)|apply AH|refine Ae () ?_ ?_|((first|apply AO|apply AN|apply AM|apply AL|apply AG|apply AF|apply AE|apply AD|apply AC)<;>try dsimp only)|apply Ae|(refine Prod.forall.2 ?_;intro _;try dsimp only)|(intro _;try dsimp only))
 all_goals first|exact LD|(rename_i i hi hl e he y _ hp;exact(LA he hp).symm)|(rename_i i hi hl e he y _ hp;exact LE hi he hp)|(rename_i i hi hl;exact LF hi hl)|(obtain⟨_,_,_⟩:= ‹EB _ _ _›;(try simp only[AQ] at*);omega)|skip)
def LH:Sig:= {X:=List Int,args:=fun x=>[Af x,.clo (.func 145) []],pre:=fun x=>x.length<2^62,Y:=Unit,post:=fun x y=>True,res:=fun x y=> .bool (x.all CU),outs:=fun x y=>[.top,.top],keep:=false}
theorem b0K:Aj G Tryz.prog 141 LH:=
 vcFun_okP [(145,0,HN)] [] false (fun x=>[(2,Dd CU (.clo (.func 145) []) x)]) Tryz.func141 rfl (by decide) ⟨Wp,trivial⟩ (fun(x:List Int)=>(∀(y:Unit),True→True∧True∧True∧True)∧eA (Dd CU (AV.clo (.func 145) []) x) [Af x,AV.clo (.func 145) [],Af x,.int .i64 (↑(List.length x):Int),.int .i64 (0:Int)]∧∀(i:Int),EB CU x i→Aa (decide (i<(↑(List.length x):Int))) (((0:Int)≤i∧i<(↑(List.length x):Int))∧∀(e:Int),x[Int.toNat i]? =some e→cA HN [.int .i64 e] fun x_1 y=>Aa (!CU x_1) (rA LH x [.bool false,.top,.top]) (inR IntKind.i64 (i+(1:Int))∧eN (Dd CU (AV.clo (.func 145) []) x) i [Af x,AV.clo (.func 145) [],Af x,.int .i64 (↑(List.length x):Int),.int .i64 (i+(1:Int))])) (rA LH x [.bool true,.top,.top])) (fun x=>by kernel_rfl) fun(x:List Int) (hx:x.length<2^62)=>(by
 dsimp only[cA,eA,eN,Af,Dd,rA,LH,HN,Au,Az,mvL,lnL,mvE,lnE,Br]
 have hx:x.length<2^62:=hx
 (repeat' first|(with_reducible first|rfl|exact True.intro|apply AK|apply And.intro|((first|apply AA|apply AI|apply AB|apply AJ)<;>intro _))|(apply Ax<;>intro _)|apply AH|refine Ae () ?_ ?_|((first|apply AO|apply AN|apply AM|apply AL|apply AG|apply AF|apply AE|apply AD|apply AC)<;>try dsimp only)|apply Ae|(refine Prod.forall.2 ?_;intro _;try dsimp only)|(intro _;try dsimp only))
 all_goals first|exact LD|(rename_i i hi hl e he y _ hp;exact(LA he hp).symm)|(rename_i i hi hl e he y _ hp;exact LE hi he hp)|(rename_i i hi hl;exact LF hi hl)|(obtain⟨_,_,_⟩:= ‹EB _ _ _›;(try simp only[AQ] at*);omega)|skip)
def LI:Sig:= {X:=List Int,args:=fun x=>[Af x,.clo (.func 115) []],pre:=fun x=>x.length<2^62,Y:=Unit,post:=fun x y=>True,res:=fun x y=> .bool (x.all Ez),outs:=fun x y=>[.top,.top],keep:=false}
theorem b0L:Aj G Tryz.prog 141 LI:=
 vcFun_okP [(115,0,Gz)] [] false (fun x=>[(2,Dd Ez (.clo (.func 115) []) x)]) Tryz.func141 rfl (by decide) ⟨Wq,trivial⟩ (fun(x:List Int)=>(∀(y:Unit),True→True∧True∧True∧True)∧eA (Dd Ez (AV.clo (.func 115) []) x) [Af x,AV.clo (.func 115) [],Af x,.int .i64 (↑(List.length x):Int),.int .i64 (0:Int)]∧∀(i:Int),EB Ez x i→Aa (decide (i<(↑(List.length x):Int))) (((0:Int)≤i∧i<(↑(List.length x):Int))∧∀(e:Int),x[Int.toNat i]? =some e→cA Gz [.int .i64 e] fun x_1 y=>Aa (!Ez x_1) (rA LI x [.bool false,.top,.top]) (inR IntKind.i64 (i+(1:Int))∧eN (Dd Ez (AV.clo (.func 115) []) x) i [Af x,AV.clo (.func 115) [],Af x,.int .i64 (↑(List.length x):Int),.int .i64 (i+(1:Int))])) (rA LI x [.bool true,.top,.top])) (fun x=>by kernel_rfl) fun(x:List Int) (hx:x.length<2^62)=>(by
 dsimp only[cA,eA,eN,Af,Dd,rA,LI,Gz,Au,Az,mvL,lnL,mvE,lnE,Br]
 have hx:x.length<2^62:=hx
 (repeat' first|(with_reducible first|rfl|exact True.intro|apply AK|apply And.intro|((first|apply AA|apply AI|apply AB|apply AJ)<;>intro _))|(apply Ax<;>intro _)|apply AH|refine Ae () ?_ ?_|((first|apply AO|apply AN|apply AM|apply AL|apply AG|apply AF|apply AE|apply AD|apply AC)<;>try dsimp only)|apply Ae|(refine Prod.forall.2 ?_;intro _;try dsimp only)|(intro _;try dsimp only))
 all_goals first|exact LD|(rename_i i hi hl e he y _ hp;exact(LA he hp).symm)|(rename_i i hi hl e he y _ hp;exact LE hi he hp)|(rename_i i hi hl;exact LF hi hl)|(obtain⟨_,_,_⟩:= ‹EB _ _ _›;(try simp only[AQ] at*);omega)|skip)
def LJ:Sig:= {X:=List Int,args:=fun x=>[Af x,.clo (.func 144) []],pre:=fun x=>x.length<2^62,Y:=Unit,post:=fun x y=>True,res:=fun x y=> .bool (x.all FY),outs:=fun x y=>[.top,.top],keep:=false}
theorem b0M:Aj G Tryz.prog 141 LJ:=
 vcFun_okP [(144,0,NB)] [] false (fun x=>[(2,Dd FY (.clo (.func 144) []) x)]) Tryz.func141 rfl (by decide) ⟨b0F,trivial⟩ (fun(x:List Int)=>(∀(y:Unit),True→True∧True∧True∧True)∧eA (Dd FY (AV.clo (.func 144) []) x) [Af x,AV.clo (.func 144) [],Af x,.int .i64 (↑(List.length x):Int),.int .i64 (0:Int)]∧∀(i:Int),EB FY x i→Aa (decide (i<(↑(List.length x):Int))) (((0:Int)≤i∧i<(↑(List.length x):Int))∧∀(e:Int),x[Int.toNat i]? =some e→cA NB [.int .i64 e] fun x_1 y=>Aa (!FY x_1) (rA LJ x [.bool false,.top,.top]) (inR IntKind.i64 (i+(1:Int))∧eN (Dd FY (AV.clo (.func 144) []) x) i [Af x,AV.clo (.func 144) [],Af x,.int .i64 (↑(List.length x):Int),.int .i64 (i+(1:Int))])) (rA LJ x [.bool true,.top,.top])) (fun x=>by kernel_rfl) fun(x:List Int) (hx:x.length<2^62)=>(by
 dsimp only[cA,eA,eN,Af,Dd,rA,LJ,NB,Au,Az,mvL,lnL,mvE,lnE,Br]
 have hx:x.length<2^62:=hx
 (repeat' first|(with_reducible first|rfl|exact True.intro|apply AK|apply And.intro|((first|apply AA|apply AI|apply AB|apply AJ)<;>intro _))|(apply Ax<;>intro _)|apply AH|refine Ae () ?_ ?_|((first|apply AO|apply AN|apply AM|apply AL|apply AG|apply AF|apply AE|apply AD|apply AC)<;>try dsimp only)|apply Ae|(refine Prod.forall.2 ?_;intro _;try dsimp only)|(intro _;try dsimp only))
 all_goals first|exact LD|(rename_i i hi hl e he y _ hp;exact(LA he hp).symm)|(rename_i i hi hl e he y _ hp;exact LE hi he hp)|(rename_i i hi hl;exact LF hi hl)|(obtain⟨_,_,_⟩:= ‹EB _ _ _›;(try simp only[AQ] at*);omega)|skip)
def LK:Sig:= {X:=List Int,args:=fun x=>[Af x,.clo (.func 146) []],pre:=fun x=>x.length<2^62,Y:=Unit,post:=fun x y=>True,res:=fun x y=> .bool (x.all DT),outs:=fun x y=>[.top,.top],keep:=false}
theorem b0N:Aj G Tryz.prog 141 LK:=
 vcFun_okP [(146,0,LB)] [] false (fun x=>[(2,Dd DT (.clo (.func 146) []) x)]) Tryz.func141 rfl (by decide) ⟨b0G,trivial⟩ (fun(x:List Int)=>(∀(y:Unit),True→True∧True∧True∧True)∧eA (Dd DT (AV.clo (.func 146) []) x) [Af x,AV.clo (.func 146) [],Af x,.int .i64 (↑(List.length x):Int),.int .i64 (0:Int)]∧∀(i:Int),EB DT x i→Aa (decide (i<(↑(List.length x):Int))) (((0:Int)≤i∧i<(↑(List.length x):Int))∧∀(e:Int),x[Int.toNat i]? =some e→cA LB [.int .i64 e] fun x_1 y=>Aa (!DT x_1) (rA LK x [.bool false,.top,.top]) (inR IntKind.i64 (i+(1:Int))∧eN (Dd DT (AV.clo (.func 146) []) x) i [Af x,AV.clo (.func 146) [],Af x,.int .i64 (↑(List.length x):Int),.int .i64 (i+(1:Int))])) (rA LK x [.bool true,.top,.top])) (fun x=>by kernel_rfl) fun(x:List Int) (hx:x.length<2^62)=>(by
 dsimp only[cA,eA,eN,Af,Dd,rA,LK,LB,Au,Az,mvL,lnL,mvE,lnE,Br]
 have hx:x.length<2^62:=hx
 (repeat' first|(with_reducible first|rfl|exact True.intro|apply AK|apply And.intro|((first|apply AA|apply AI|apply AB|apply AJ)<;>intro _))|(apply Ax<;>intro _)|apply AH|refine Ae () ?_ ?_|((first|apply AO|apply AN|apply AM|apply AL|apply AG|apply AF|apply AE|apply AD|apply AC)<;>try dsimp only)|apply Ae|(refine Prod.forall.2 ?_;intro _;try dsimp only)|(intro _;try dsimp only))
 all_goals first|exact LD|(rename_i i hi hl e he y _ hp;exact(LA he hp).symm)|(rename_i i hi hl e he y _ hp;exact LE hi he hp)|(rename_i i hi hl;exact LF hi hl)|(obtain⟨_,_,_⟩:= ‹EB _ _ _›;(try simp only[AQ] at*);omega)|skip)
def LL:Sig:= {X:=List Int,args:=fun x=>[Af x,.clo (.func 147) []],pre:=fun x=>x.length<2^62,Y:=Unit,post:=fun x y=>True,res:=fun x y=> .bool (x.all FA),outs:=fun x y=>[.top,.top],keep:=false}
theorem b0O:Aj G Tryz.prog 141 LL:=
 vcFun_okP [(147,0,LC)] [] false (fun x=>[(2,Dd FA (.clo (.func 147) []) x)]) Tryz.func141 rfl (by decide) ⟨b0H,trivial⟩ (fun(x:List Int)=>(∀(y:Unit),True→True∧True∧True∧True)∧eA (Dd FA (AV.clo (.func 147) []) x) [Af x,AV.clo (.func 147) [],Af x,.int .i64 (↑(List.length x):Int),.int .i64 (0:Int)]∧∀(i:Int),EB FA x i→Aa (decide (i<(↑(List.length x):Int))) (((0:Int)≤i∧i<(↑(List.length x):Int))∧∀(e:Int),x[Int.toNat i]? =some e→cA LC [.int .i64 e] fun x_1 y=>Aa (!FA x_1) (rA LL x [.bool false,.top,.top]) (inR IntKind.i64 (i+(1:Int))∧eN (Dd FA (AV.clo (.func 147) []) x) i [Af x,AV.clo (.func 147) [],Af x,.int .i64 (↑(List.length x):Int),.int .i64 (i+(1:Int))])) (rA LL x [.bool true,.top,.top])) (fun x=>by kernel_rfl) fun(x:List Int) (hx:x.length<2^62)=>(by
 dsimp only[cA,eA,eN,Af,Dd,rA,LL,LC,Au,Az,mvL,lnL,mvE,lnE,Br]
 have hx:x.length<2^62:=hx
 (repeat' first|(with_reducible first|rfl|exact True.intro|apply AK|apply And.intro|((first|apply AA|apply AI|apply AB|apply AJ)<;>intro _))|(apply Ax<;>intro _)|apply AH|refine Ae () ?_ ?_|((first|apply AO|apply AN|apply AM|apply AL|apply AG|apply AF|apply AE|apply AD|apply AC)<;>try dsimp only)|apply Ae|(refine Prod.forall.2 ?_;intro _;try dsimp only)|(intro _;try dsimp only))
 all_goals first|exact LD|(rename_i i hi hl e he y _ hp;exact(LA he hp).symm)|(rename_i i hi hl e he y _ hp;exact LE hi he hp)|(rename_i i hi hl;exact LF hi hl)|(obtain⟨_,_,_⟩:= ‹EB _ _ _›;(try simp only[AQ] at*);omega)|skip)
def Jb:Sig:= {X:=List Int,args:=fun x=>[Af x,.clo (.func 183) []],pre:=fun x=>x.length<2^62,Y:=Unit,post:=fun x y=>True,res:=fun x y=> .bool (x.all EA),outs:=fun x y=>[.top,.top],keep:=false}
theorem a1z:Aj G Tryz.prog 141 Jb:=
 vcFun_okP [(183,0,NC)] [] false (fun x=>[(2,Dd EA (.clo (.func 183) []) x)]) Tryz.func141 rfl (by decide) ⟨b0I,trivial⟩ (fun(x:List Int)=>(∀(y:Unit),True→True∧True∧True∧True)∧eA (Dd EA (AV.clo (.func 183) []) x) [Af x,AV.clo (.func 183) [],Af x,.int .i64 (↑(List.length x):Int),.int .i64 (0:Int)]∧∀(i:Int),EB EA x i→Aa (decide (i<(↑(List.length x):Int))) (((0:Int)≤i∧i<(↑(List.length x):Int))∧∀(e:Int),x[Int.toNat i]? =some e→cA NC [.int .i64 e] fun x_1 y=>Aa (!EA x_1) (rA Jb x [.bool false,.top,.top]) (inR IntKind.i64 (i+(1:Int))∧eN (Dd EA (AV.clo (.func 183) []) x) i [Af x,AV.clo (.func 183) [],Af x,.int .i64 (↑(List.length x):Int),.int .i64 (i+(1:Int))])) (rA Jb x [.bool true,.top,.top])) (fun x=>by kernel_rfl) fun(x:List Int) (hx:x.length<2^62)=>(by
 dsimp only[cA,eA,eN,Af,Dd,rA,Jb,NC,Au,Az,mvL,lnL,mvE,lnE,Br]
 have hx:x.length<2^62:=hx
 (repeat' first|(with_reducible first|rfl|exact True.intro|apply AK|apply And.intro|((first|apply AA|apply AI|apply AB|apply AJ)<;>intro _))|(apply Ax<;>intro _)|apply AH|refine Ae () ?_ ?_|((first|apply AO|apply AN|apply AM|apply AL|apply AG|apply AF|apply AE|apply AD|apply AC)<;>try dsimp only)|apply Ae|(refine Prod.forall.2 ?_;intro _;try dsimp only)|(intro _;try dsimp only))
 all_goals first|exact LD|(rename_i i hi hl e he y _ hp;exact(LA he hp).symm)|(rename_i i hi hl e he y _ hp;exact LE hi he hp)|(rename_i i hi hl;exact LF hi hl)|(obtain⟨_,_,_⟩:= ‹EB _ _ _›;(try simp only[AQ] at*);omega)|skip)
theorem a1A{p:Int→Bool}{x:List Int}(h:¬(0:Int)<x.length):false=EP p x:=by
 obtain rfl:x=[]:=List.length_eq_zero_iff.1 (by omega)
 rfl
theorem a1B{p:Int→Bool}{x:List Int}{e:Int}(he:x[(x.length-1:Int).toNat]? =some e):EP p x=(p e&&(x.take (x.length-1:Int).toNat).all EA):=by
 have e1:(x.length-1:Int).toNat=x.length-1:=by omega
 rw[e1] at he ⊢
 unfold EP
 rw[List.getLast?_eq_getElem?,he,List.dropLast_eq_take]
def Kz:Sig:= {X:=List Int,args:=fun x=>[Af x,.clo (.func 142) []],pre:=fun x=>x.length<2^62,Y:=Unit,post:=fun x y=>True,res:=fun x y=> .bool (EP BG x),outs:=fun x y=>[.top,.top],keep:=false}
theorem b0P:Aj G Tryz.prog 143 Kz:=
 vcFun_okP [(142,0,Gy),(141,183+1,Jb)] [] false (fun x=>[]) Tryz.func143 rfl (by decide) ⟨Wo,a1z,trivial⟩ (fun(x:List Int)=>(∀(y:Unit),True→True∧True∧True∧True)∧Aa (decide ((↑(List.length x):Int)>(0:Int))) (inR IntKind.i64 ((↑(List.length x):Int)-(1:Int))∧((0:Int)≤(↑(List.length x):Int)-(1:Int)∧(↑(List.length x):Int)-(1:Int)<(↑(List.length x):Int))∧∀(e:Int),x[Int.toNat ((↑(List.length x):Int)-(1:Int))]? =some e→cA Gy [.int .i64 e] fun x_1 y=>Aa (BG x_1) (inR IntKind.i64 ((↑(List.length x):Int)-(1:Int))∧((0:Int)≤(0:Int)∧(0:Int)≤(↑(List.length x):Int)-(1:Int)∧(↑(List.length x):Int)-(1:Int)≤(↑(List.length x):Int))∧cA Jb [Af (List.take (Int.toNat ((↑(List.length x):Int)-(1:Int))) x),AV.clo (Fn.func (161:Nat)) []] fun x_2 y=>rA Kz x [.bool (List.all x_2 EA),.top,.top]) (rA Kz x [.bool false,.top,.top])) (rA Kz x [.bool false,.top,.top])) (fun x=>by kernel_rfl) fun(x:List Int) (hx:x.length<2^62)=>(by
 dsimp only[cA,Af,rA,Jb,Gy,Kz,Au,Az,mvL,lnL,mvE,lnE]
 have hx:x.length<2^62:=hx
 (repeat' first|(with_reducible first|rfl|exact True.intro|apply AK|apply And.intro|((first|apply AA|apply AI|apply AB|apply AJ)<;>intro _))|(apply Ax<;>intro _)|apply AH|refine Ae () ?_ ?_|((first|apply AO|apply AN|apply AM|apply AL|apply AG|apply AF|apply AE|apply AD|apply AC)<;>try dsimp only)|apply Ae|(refine Prod.forall.2 ?_;intro _;try dsimp only)|(intro _;try dsimp only))<;>(try dsimp only at*)<;>(try simp only[AQ,List.length_cons,List.length_nil])<;>(try omega)
 all_goals first|exact a1A (by omega)|(rw[a1B ‹_›];simp [*];done)|(rw[List.length_take];omega)|skip)
def KA:Sig:= {X:=List Int,args:=fun x=>[Af x,.clo (.func 145) []],pre:=fun x=>x.length<2^62,Y:=Unit,post:=fun x y=>True,res:=fun x y=> .bool (EP CU x),outs:=fun x y=>[.top,.top],keep:=false}
theorem b0Q:Aj G Tryz.prog 143 KA:=
 vcFun_okP [(145,0,HN),(141,183+1,Jb)] [] false (fun x=>[]) Tryz.func143 rfl (by decide) ⟨Wp,a1z,trivial⟩ (fun(x:List Int)=>(∀(y:Unit),True→True∧True∧True∧True)∧Aa (decide ((↑(List.length x):Int)>(0:Int))) (inR IntKind.i64 ((↑(List.length x):Int)-(1:Int))∧((0:Int)≤(↑(List.length x):Int)-(1:Int)∧(↑(List.length x):Int)-(1:Int)<(↑(List.length x):Int))∧∀(e:Int),x[Int.toNat ((↑(List.length x):Int)-(1:Int))]? =some e→cA HN [.int .i64 e] fun x_1 y=>Aa (CU x_1) (inR IntKind.i64 ((↑(List.length x):Int)-(1:Int))∧((0:Int)≤(0:Int)∧(0:Int)≤(↑(List.length x):Int)-(1:Int)∧(↑(List.length x):Int)-(1:Int)≤(↑(List.length x):Int))∧cA Jb [Af (List.take (Int.toNat ((↑(List.length x):Int)-(1:Int))) x),AV.clo (Fn.func (161:Nat)) []] fun x_2 y=>rA KA x [.bool (List.all x_2 EA),.top,.top]) (rA KA x [.bool false,.top,.top])) (rA KA x [.bool false,.top,.top])) (fun x=>by kernel_rfl) fun(x:List Int) (hx:x.length<2^62)=>(by
 dsimp only[cA,Af,rA,Jb,HN,KA,Au,Az,mvL,lnL,mvE,lnE]
 have hx:x.length<2^62:=hx
 (repeat' first|(with_reducible first|rfl|exact True.intro|apply AK|apply And.intro|((first|apply AA|apply AI|apply AB|apply AJ)<;>intro _))|(apply Ax<;>intro _)|apply AH|refine Ae () ?_ ?_|((first|apply AO|apply AN|apply AM|apply AL|apply AG|apply AF|apply AE|apply AD|apply AC)<;>try dsimp only)|apply Ae|(refine Prod.forall.2 ?_;intro _;try dsimp only)|(intro _;try dsimp only))<;>(try dsimp only at*)<;>(try simp only[AQ,List.length_cons,List.length_nil])<;>(try omega)
 all_goals first|exact a1A (by omega)|(rw[a1B ‹_›];simp [*];done)|(rw[List.length_take];omega)|skip)
def BX:Sig:= {X:=Int×List Int,args:=fun x=>[.int .i64 x.1,Af x.2],pre:=fun x=>x.2.length<2^62,Y:=Unit,post:=fun x y=>True,res:=fun x y=> .bool (Cd x.1 x.2),outs:=fun x y=>[.top,.top],keep:=false}
theorem b0R:Aj G Tryz.prog 116 BX:=
 vcFun_okP [(142,0,Gy),(145,0,HN),(66,0,FC),(141,142+1,LG),(141,145+1,LH),(141,115+1,LI),(141,144+1,LJ),(141,146+1,LK),(141,147+1,LL),(143,142+1,Kz),(143,145+1,KA)] [] false (fun x=>[]) Tryz.func116 rfl (by decide) ⟨Wo,Wp,RE,b0J,b0K,b0L,b0M,b0N,b0O,b0P,b0Q,trivial⟩ (fun(x:Int×List Int)=>(∀(y:Unit),True→True∧True∧True∧True)∧cA LG [Af x.2,AV.clo (Fn.func (126:Nat)) []] fun x_1 y=>Aa (x.1==(1:Int)) (rA BX x [.bool ((↑(List.length x.2):Int)==(0:Int)),.top,.top]) (Aa (x.1==(2:Int)) (rA BX x [.bool ((↑(List.length x.2):Int)==(0:Int)),.top,.top]) (Aa (x.1==(3:Int)) (rA BX x [.bool ((↑(List.length x.2):Int)==(0:Int)),.top,.top]) (Aa (x.1==(19:Int)) (rA BX x [.bool ((↑(List.length x.2):Int)==(0:Int)),.top,.top]) (Aa (x.1==(4:Int)) (rA BX x [.bool (List.all x_1 BG),.top,.top]) (Aa (x.1==(5:Int)) (Aa (decide ((↑(List.length x.2):Int)≥(1:Int))) (rA BX x [.bool (List.all x_1 BG),.top,.top]) (rA BX x [.bool false,.top,.top])) (Aa (x.1==(7:Int)) (Aa (decide ((↑(List.length x.2):Int)≥(2:Int))) (rA BX x [.bool (List.all x_1 BG),.top,.top]) (rA BX x [.bool false,.top,.top])) (Aa (x.1==(8:Int)) (Aa ((↑(List.length x.2):Int)==(3:Int)) (rA BX x [.bool (List.all x_1 BG),.top,.top]) (rA BX x [.bool false,.top,.top])) (Aa (x.1==(6:Int)) (Aa ((↑(List.length x.2):Int)==(1:Int)) (rA BX x [.bool (List.all x_1 BG),.top,.top]) (rA BX x [.bool false,.top,.top])) (Aa (x.1==(11:Int)) (Aa ((↑(List.length x.2):Int)==(1:Int)) (rA BX x [.bool (List.all x_1 BG),.top,.top]) (rA BX x [.bool false,.top,.top])) (Aa (x.1==(13:Int)) (Aa ((↑(List.length x.2):Int)==(1:Int)) (rA BX x [.bool (List.all x_1 BG),.top,.top]) (rA BX x [.bool false,.top,.top])) (Aa (x.1==(14:Int)) (Aa ((↑(List.length x.2):Int)==(1:Int)) (rA BX x [.bool (List.all x_1 BG),.top,.top]) (rA BX x [.bool false,.top,.top])) (Aa (x.1==(12:Int)) (Aa (decide ((↑(List.length x.2):Int)≤(1:Int))) (rA BX x [.bool (List.all x_1 BG),.top,.top]) (rA BX x [.bool false,.top,.top])) (Aa (x.1==(15:Int)) (Aa (decide ((↑(List.length x.2):Int)≤(1:Int))) (rA BX x [.bool (List.all x_1 BG),.top,.top]) (rA BX x [.bool false,.top,.top])) (Aa (x.1==(9:Int)) (cA Kz [Af x.2,AV.clo (Fn.func (126:Nat)) []] fun x_2 y=>rA BX x [.bool (EP BG x_2),.top,.top]) (Aa (x.1==(10:Int)) (Aa (decide ((↑(List.length x.2):Int)≥(2:Int))) (((0:Int)≤(0:Int)∧(0:Int)<(↑(List.length x.2):Int))∧∀(e:Int),x.2[(0:Nat)]? =some e→cA Gy [.int .i64 e] fun x_2 y=>Aa (BG x_2) (((0:Int)≤(1:Int)∧(1:Int)≤(↑(List.length x.2):Int)∧(↑(List.length x.2):Int)≤(↑(List.length x.2):Int))∧cA LJ [Af (List.drop (1:Nat) x.2),AV.clo (Fn.func (128:Nat)) []] fun x_3 y=>rA BX x [.bool (List.all x_3 FY),.top,.top]) (rA BX x [.bool false,.top,.top])) (rA BX x [.bool false,.top,.top])) (Aa (x.1==(16:Int)) (cA FC [.int .i64 (↑(List.length x.2):Int),.int .i64 (2:Int),.int .i64 (3:Int)] fun x_2 y=>Aa (inn x_2.1 x_2.2.1 x_2.2.2) (((0:Int)≤(0:Int)∧(0:Int)<(↑(List.length x.2):Int))∧∀(e:Int),x.2[(0:Nat)]? =some e→cA Gy [.int .i64 e] fun x_3 y=>Aa (BG x_3) (((0:Int)≤(1:Int)∧(1:Int)≤(↑(List.length x.2):Int)∧(↑(List.length x.2):Int)≤(↑(List.length x.2):Int))∧cA LH [Af (List.drop (1:Nat) x.2),AV.clo (Fn.func (129:Nat)) []] fun x_4 y=>rA BX x [.bool (List.all x_4 CU),.top,.top]) (rA BX x [.bool false,.top,.top])) (rA BX x [.bool false,.top,.top])) (Aa (x.1==(17:Int)) (Aa ((↑(List.length x.2):Int)==(2:Int)) (((0:Int)≤(0:Int)∧(0:Int)<(↑(List.length x.2):Int))∧∀(e:Int),x.2[(0:Nat)]? =some e→cA Gy [.int .i64 e] fun x_2 y=>Aa (BG x_2) (((0:Int)≤(1:Int)∧(1:Int)<(↑(List.length x.2):Int))∧∀(e:Int),x.2[(1:Nat)]? =some e→cA HN [.int .i64 e] fun x_3 y=>rA BX x [.bool (CU x_3),.top,.top]) (rA BX x [.bool false,.top,.top])) (rA BX x [.bool false,.top,.top])) (Aa (x.1==(18:Int)) (cA LK [Af x.2,AV.clo (Fn.func (130:Nat)) []] fun x_2 y=>rA BX x [.bool (List.all x_2 DT),.top,.top]) (Aa (x.1==(20:Int)) (cA KA [Af x.2,AV.clo (Fn.func (129:Nat)) []] fun x_2 y=>rA BX x [.bool (EP CU x_2),.top,.top]) (Aa (x.1==(21:Int)) (cA LI [Af x.2,AV.clo (Fn.func (99:Nat)) []] fun x_2 y=>rA BX x [.bool (List.all x_2 Ez),.top,.top]) (Aa (x.1==(22:Int)) (cA LL [Af x.2,AV.clo (Fn.func (131:Nat)) []] fun x_2 y=>rA BX x [.bool (List.all x_2 FA),.top,.top]) (rA BX x [.bool false,.top,.top]))))))))))))))))))))))) (fun x=>by kernel_rfl) fun(x:Int×List Int) (hx:x.2.length<2^62)=>(by
 dsimp only[cA,Af,rA,LH,LJ,LI,LK,LL,LG,FC,HN,Gy,BX,KA,Kz,Au,Az,mvL,lnL,mvE,lnE]
 have hx:x.2.length<2^62:=hx
 obtain⟨k,l⟩:=x
 (repeat' first|(with_reducible first|rfl|exact True.intro|apply AK|apply And.intro|((first|apply AA|apply AI|apply AB|apply AJ)<;>intro _))|(apply Ax<;>intro _)|apply AH|refine Ae () ?_ ?_|((first|apply AO|apply AN|apply AM|apply AL|apply AG|apply AF|apply AE|apply AD|apply AC)<;>try dsimp only)|apply Ae|(refine Prod.forall.2 ?_;intro _;try dsimp only)|(intro _;try dsimp only))<;>(try dsimp only at*)<;>(try simp only[AQ,List.length_cons,List.length_nil])<;>(try omega)
 all_goals try(simp only[List.length_drop];omega)
 all_goals try(simp [Cd,Gx, *]<;>omega)
 all_goals(match l with
  |[]=>simp_all [Cd,inn]<;>omega
  |[a]=>simp_all [Cd,inn]<;>omega
  |[a,b]=>simp_all [Cd,inn]<;>omega
  |[a,b,c]=>simp_all [Cd,inn]<;>omega
  |a::b::c::d::m=>simp_all [Cd,inn]<;>omega))
def FF:Sig:= {X:=List Nd×Int,args:=fun x=>[nds x.1,.int .i64 x.2],pre:=fun x=>x.1.length<2^62,Y:=Unit,post:=fun x y=>True,res:=fun x y=> .bool (Bz x.1 x.2),outs:=fun x y=>[.top,.top],keep:=false}
theorem RO:Aj G Tryz.prog 93 FF:=
 vcFun_okP [] [] false (fun x=>[]) Tryz.func93 rfl (by decide) trivial (fun(x:List Nd×Int)=>(∀(y:Unit),True→True∧True∧True∧True)∧Aa (decide (x.2≥(0:Int))) (rA FF x [.bool (decide (x.2<(↑(List.length x.1):Int))),.top,.top]) (rA FF x [.bool false,.top,.top])) (fun x=>by kernel_rfl) fun(x:List Nd×Int) (hx:x.1.length<2^62)=>(by
 dsimp only[Bu,nds,rA,FF,Au,Az]
 have hx:x.1.length<2^62:=hx
 (repeat' first|(with_reducible first|rfl|exact True.intro|apply AK|apply And.intro|((first|apply AA|apply AI|apply AB|apply AJ)<;>intro _))|(apply Ax<;>intro _)|apply AH|refine Ae () ?_ ?_|((first|apply AO|apply AN|apply AM|apply AL|apply AG|apply AF|apply AE|apply AD|apply AC)<;>try dsimp only)|apply Ae|(refine Prod.forall.2 ?_;intro _;try dsimp only)|(intro _;try dsimp only))<;>(try dsimp only at*)<;>(try simp only[AQ,List.length_cons,List.length_nil])<;>(try omega)
 all_goals simp [Bz, *])
def ND(x:Nd):Prop:=x.text.length<2^62∧x.kids.length<2^62
def BM(l:List Nd):Prop:=l.length<2^62∧∀x∈l,ND x
theorem a1C{l:List Nd}{n:Nat}{x:Nd}(hx:l[n]? =some x)(h:BM l):ND x:=h.2 x (BO hx)
theorem Wr{l:List Nd}{k:Int}(h:BM l):ND (ndAt l k):=by
 unfold ndAt
 rw[List.getD]
 cases hx:l[k.toNat]? with
 |none=>simp [ND]
 |some x=>exact a1C hx h
def HO(v:Int):List Int→Int→Int
 |[],_=> -1
 |c::l,i=>if v=c then i else HO v l (i+1)
theorem a1D{v:Int}:∀ {l:List Int} {i:Int},0≤i→(0≤HO v l i↔v∈l)
 |[],i,h=>by simp [HO]
 |c::l,i,h=>by
  unfold HO
  by_cases e:v=c
  ·simp [e,h]
  ·rw[if_neg e,a1D (by omega)];simp [e]
def LM:Sig:= {X:=List Int×Int,args:=fun x=>[Af x.1,.int .i64 x.2],pre:=fun x=>x.1.length<2^62,Y:=Unit,post:=fun x y=>True,res:=fun x y=> .int .i64 (HO x.2 x.1 0),outs:=fun x y=>[.top,.top],keep:=false}
def RP(x:List Int×Int):LS:= {ι:=Int,inv:=fun i=>(0≤i∧i≤x.1.length)∧HO x.2 (x.1.drop i.toNat) i=HO x.2 x.1 0,regs:=fun i=>[(0,Af x.1),(1,.int .i64 x.2),(7,.int .i64 x.1.length),(8,.int .i64 i)],als:=[],meas:=fun i=>x.1.length-i.toNat}
theorem b0S:Aj G Tryz.prog 140 LM:=
 vcFun_okP [] [] false (fun x=>[(2,RP x)]) Tryz.func140 rfl (by decide) trivial (fun(x:List Int×Int)=>(∀(y:Unit),True→True∧True∧True∧True)∧eA (RP x) [Af x.1,.int .i64 x.2,.int .i64 (↑(List.length x.1):Int),.int .i64 (0:Int)]∧∀(i:Int),((0:Int)≤i∧i≤(↑(List.length x.1):Int))∧HO x.2 (List.drop (Int.toNat i) x.1) i=HO x.2 x.1 (0:Int)→Aa (decide (i<(↑(List.length x.1):Int))) (((0:Int)≤i∧i<(↑(List.length x.1):Int))∧∀(e:Int),x.1[Int.toNat i]? =some e→Aa (x.2==e) (rA LM x [.int .i64 i,.top,.top]) (inR IntKind.i64 (i+(1:Int))∧eN (RP x) i [Af x.1,.int .i64 x.2,.int .i64 (↑(List.length x.1):Int),.int .i64 (i+(1:Int))])) (rA LM x [.int .i64 (-1:Int),.top,.top])) (fun x=>by kernel_rfl) fun(x:List Int×Int) (hx:x.1.length<2^62)=>(by
 dsimp only[eA,eN,RP,Af,rA,LM,Au,Az,Br]
 have hx:x.1.length<2^62:=hx
 (repeat' first|(with_reducible first|rfl|exact True.intro|apply AK|apply And.intro|((first|apply AA|apply AI|apply AB|apply AJ)<;>intro _))|(apply Ax<;>intro _)|apply AH|refine Ae () ?_ ?_|((first|apply AO|apply AN|apply AM|apply AL|apply AG|apply AF|apply AE|apply AD|apply AC)<;>try dsimp only)|apply Ae|(refine Prod.forall.2 ?_;intro _;try dsimp only)|(intro _;try dsimp only))<;>(try dsimp only at*)<;>(try simp only[AQ,List.length_cons,List.length_nil])<;>(try omega)
 all_goals first
  |(rename_i i hi hl e he h;rw[←hi.2,GX he];simp [HO,h];done)
  |(rename_i i hi hl e he h;rw[←hi.2,GX he,Da hi.1.1];simp [HO,h];done)
  |rfl
  |(rename_i i hi hl;rw[←hi.2,List.drop_eq_nil_of_le (by omega)];rfl)
  |skip)
def NE:Sig:= {X:=List Int×Int,args:=fun x=>[Af x.1,.int .i64 x.2],pre:=fun x=>x.1.length<2^62,Y:=Unit,post:=fun x y=>True,res:=fun x y=> .bool (x.1.elem x.2),outs:=fun x y=>[.top,.top],keep:=false}
theorem b0T:Aj G Tryz.prog 113 NE:=
 vcFun_okP [(140,0,LM)] [] false (fun x=>[]) Tryz.func113 rfl (by decide) ⟨b0S,trivial⟩ (fun(x:List Int×Int)=>(∀(y:Unit),True→True∧True∧True∧True)∧cA LM [Af x.1,.int .i64 x.2] fun x_1 y=>rA NE x [.bool (decide (HO x_1.2 x_1.1 (0:Int)≥(0:Int))),.top,.top]) (fun x=>by kernel_rfl) fun(x:List Int×Int) (hx:x.1.length<2^62)=>(by
 dsimp only[cA,Af,rA,NE,LM,Au,Az,mvL,lnL,mvE,lnE]
 have hx:x.1.length<2^62:=hx
 (repeat' first|(with_reducible first|rfl|exact True.intro|apply AK|apply And.intro|((first|apply AA|apply AI|apply AB|apply AJ)<;>intro _))|(apply Ax<;>intro _)|apply AH|refine Ae () ?_ ?_|((first|apply AO|apply AN|apply AM|apply AL|apply AG|apply AF|apply AE|apply AD|apply AC)<;>try dsimp only)|apply Ae|(refine Prod.forall.2 ?_;intro _;try dsimp only)|(intro _;try dsimp only))<;>(try dsimp only at*)<;>(try simp only[AQ,List.length_cons,List.length_nil])<;>(try omega)
 all_goals first|(rw[Bool.eq_iff_iff,decide_eq_true_iff,List.elem_iff];exact a1D (by omega))|skip)
theorem a1E{ns:List Nd}{x:Nd}:DL ns x=true↔∀(j:Nat) c,x.kids[j]? =some c→CD ns x j c=true:=by
 have e:DL ns x=BW (fun i c=>CD ns x i.toNat c) x.kids 0:=by
  unfold DL
  have:(fun p:Int×Nat=>CD ns x p.2 p.1)=fun p:Int×Nat=>(fun(i c:Int)=>CD ns x i.toNat c) p.2 p.1:=by funext p;simp
  rw[this];exact Wm (f:=fun i c=>CD ns x i.toNat c) (i:=0)
 rw[e,Wn];simp
def cfI(ns:List Nd)(x:Nd)(i:Int):Prop:=0≤i∧i≤x.kids.length∧∀(j:Nat) c,(j:Int)<i→x.kids[j]? =some c→CD ns x j c=true
theorem b0U{ns:List Nd}{x:Nd}:cfI ns x 0:=⟨by omega,by omega,fun j c h=>by omega⟩
theorem RQ{ns:List Nd}{x:Nd}{i c:Int}(h:cfI ns x i)(hc:x.kids[i.toNat]? =some c)(hk:CD ns x i.toNat c=true):cfI ns x (i+1):=by
 obtain⟨h1,h2,h3⟩:=h
 have:=(DK hc).1
 refine⟨by omega,by omega,fun j d hj hd=> ?_⟩
 by_cases e:(j:Int)<i
 ·exact h3 j d e hd
 ·obtain rfl:j=i.toNat:=by omega
  rw[hc] at hd;cases hd;exact hk
theorem b0V{ns:List Nd}{x:Nd}{i:Int}(h:cfI ns x i)(hl:¬i<x.kids.length):true=DL ns x:=by
 symm;rw[a1E];intro j c hc
 exact h.2.2 j c (by have:=(DK hc).1;omega) hc
theorem Ws{ns:List Nd}{x:Nd}{i c:Int}(hc:x.kids[i.toNat]? =some c)(hk:CD ns x i.toNat c=false):false=DL ns x:=by
 symm;rw[Bool.eq_false_iff];intro h
 rw[a1E.1 h _ _ hc] at hk;cases hk
theorem b0W{ns:List Nd}{x y:Nd}{i c:Int}(hy:ns[c.toNat]? =some y)(h:y.kind≠5):CD ns x i.toNat c=true:=by
 simp [CD,Bn hy,h]
theorem b0X{ns:List Nd}{x y:Nd}{i c:Int}(hy:ns[c.toNat]? =some y)(h:y.kind=5)(h0:(y.kids.length:Int)=0):CD ns x i.toNat c=false:=by
 have h0:=List.length_eq_zero_iff.1 (show y.kids.length=0 by omega)
 simp [CD,Bn hy,h,h0]
theorem b0Y{ns:List Nd}{x y:Nd}{i c d:Int}(hy:ns[c.toNat]? =some y)(h:y.kind=5)(hd:Bz ns d=false)(h0:y.kids[0]? =some d):CD ns x i.toNat c=false:=by
 match hk:y.kids with
 |[]=>rw[hk] at h0;cases h0
 |e::t=>rw[hk] at h0;cases h0;simp [CD,Bn hy,h,hk,hd]
theorem b0Z{ns:List Nd}{x y z:Nd}{i c d d':Int}(hy:ns[c.toNat]? =some y)(h:y.kind=5)(hd:Bz ns d=true)(h0:y.kids[0]? =some d)(hz:ns[d'.toNat]? =some z)(h0':y.kids[0]? =some d')(h10:x.kind=10)(hi:i>0)(h1:z.kind≠1):CD ns x i.toNat c=false:=by
 match hk:y.kids with
 |[]=>rw[hk] at h0;cases h0
 |e::t=>rw[hk] at h0 h0';cases h0;cases h0';simp [CD,Bn hy,h,hk,hd,h10,As,Bn hz,h1];omega
theorem b1a{ns:List Nd}{x y z:Nd}{i c d d':Int}(hy:ns[c.toNat]? =some y)(h:y.kind=5)(hd:Bz ns d=true)(h0:y.kids[0]? =some d)(hz:ns[d'.toNat]? =some z)(h0':y.kids[0]? =some d')(h1:z.kind=1):CD ns x i.toNat c=true:=by
 match hk:y.kids with
 |[]=>rw[hk] at h0;cases h0
 |e::t=>rw[hk] at h0 h0';cases h0;cases h0';simp [CD,Bn hy,h,hk,hd,As,Bn hz,h1]
theorem b1b{ns:List Nd}{x y:Nd}{i c d:Int}(hy:ns[c.toNat]? =some y)(h:y.kind=5)(hd:Bz ns d=true)(h0:y.kids[0]? =some d)(h1:x.kind≠10):CD ns x i.toNat c=true:=by
 match hk:y.kids with
 |[]=>rw[hk] at h0;cases h0
 |e::t=>rw[hk] at h0;cases h0;simp [CD,Bn hy,h,hk,hd,h1]
theorem b1c{ns:List Nd}{x y:Nd}{i c d:Int}(hy:ns[c.toNat]? =some y)(h:y.kind=5)(hd:Bz ns d=true)(h0:y.kids[0]? =some d)(h1:¬i>0):CD ns x i.toNat c=true:=by
 have:i.toNat=0:=by omega
 match hk:y.kids with
 |[]=>rw[hk] at h0;cases h0
 |e::t=>rw[hk] at h0;cases h0;simp [CD,Bn hy,h,hk,hd,this]
theorem ndB{ns:List Nd}{l:List Int}{d d':Int}(hd:Bz ns d=true)(h0:l[0]? =some d)(h0':l[0]? =some d'):0≤d'∧d'<ns.length:=by
 rw[h0] at h0';cases h0';exact BV.1 hd
def Iv:Sig:= {X:=List Nd×Nd,args:=fun x=>[nds x.1,.agg (ndA false x.2)],pre:=fun x=>BM x.1∧ND x.2∧∀c∈x.2.kids,0≤c∧c<x.1.length,Y:=Unit,post:=fun x y=>True,res:=fun x y=> .bool (DL x.1 x.2),outs:=fun x y=>[.top,.top],keep:=false}
def LN(x:List Nd×Nd):LS:= {ι:=Int,inv:=cfI x.1 x.2,regs:=fun i=>[(0,nds x.1),(3,.box 0 (ndA false x.2)),(9,Af x.2.kids),(10,.int .i64 x.2.kids.length),(11,.int .i64 i)],als:=[],meas:=fun i=>x.2.kids.length-i.toNat}
theorem b1d:Aj G Tryz.prog 117 Iv:=
 vcFun_okP [(93,0,FF)] [] false (fun x=>[(2,LN x)]) Tryz.func117 rfl (by decide) ⟨RO,trivial⟩ (fun(x:List Nd×Nd)=>(∀(y:Unit),True→True∧True∧True∧True)∧eA (LN x) [nds x.1,.box 0 [.int .i64 x.2.kind,.str x.2.text,Af x.2.kids,.bool x.2.blank],Af x.2.kids,.int .i64 (↑(List.length x.2.kids):Int),.int .i64 (0:Int)]∧∀(i:Int),cfI x.1 x.2 i→Aa (decide (i<(↑(List.length x.2.kids):Int))) (((0:Int)≤i∧i<(↑(List.length x.2.kids):Int))∧∀(e:Int),x.2.kids[Int.toNat i]? =some e→((0:Int)≤e∧e<(↑(List.length x.1):Int))∧∀(e_1:Nd),x.1[Int.toNat e]? =some e_1→Aa (e_1.kind != (5:Int)) (inR IntKind.i64 (i+(1:Int))∧eN (LN x) i [nds x.1,.box 0 [.int .i64 x.2.kind,.str x.2.text,Af x.2.kids,.bool x.2.blank],Af x.2.kids,.int .i64 (↑(List.length x.2.kids):Int),.int .i64 (i+(1:Int))]) (Aa ((↑(List.length e_1.kids):Int)==(0:Int)) (rA Iv x [.bool false,.top,.top]) (((0:Int)≤(0:Int)∧(0:Int)<(↑(List.length e_1.kids):Int))∧∀(e:Int),e_1.kids[(0:Nat)]? =some e→cA FF [nds x.1,.int .i64 e] fun x_1 y=>Aa (!Bz x_1.1 x_1.2) (rA Iv x [.bool false,.top,.top]) (Aa (x.2.kind==(10:Int)) (Aa (decide (i>(0:Int))) (((0:Int)≤(0:Int)∧(0:Int)<(↑(List.length e_1.kids):Int))∧∀(e:Int),e_1.kids[(0:Nat)]? =some e→((0:Int)≤e∧e<(↑(List.length x.1):Int))∧∀(e_2:Nd),x.1[Int.toNat e]? =some e_2→Aa (e_2.kind != (1:Int)) (rA Iv x [.bool false,.top,.top]) (inR IntKind.i64 (i+(1:Int))∧eN (LN x) i [nds x.1,.box 0 [.int .i64 x.2.kind,.str x.2.text,Af x.2.kids,.bool x.2.blank],Af x.2.kids,.int .i64 (↑(List.length x.2.kids):Int),.int .i64 (i+(1:Int))])) (inR IntKind.i64 (i+(1:Int))∧eN (LN x) i [nds x.1,.box 0 [.int .i64 x.2.kind,.str x.2.text,Af x.2.kids,.bool x.2.blank],Af x.2.kids,.int .i64 (↑(List.length x.2.kids):Int),.int .i64 (i+(1:Int))])) (inR IntKind.i64 (i+(1:Int))∧eN (LN x) i [nds x.1,.box 0 [.int .i64 x.2.kind,.str x.2.text,Af x.2.kids,.bool x.2.blank],Af x.2.kids,.int .i64 (↑(List.length x.2.kids):Int),.int .i64 (i+(1:Int))]))))) (rA Iv x [.bool true,.top,.top])) (fun x=>by kernel_rfl) fun(x:List Nd×Nd) (hx:BM x.1∧ND x.2∧∀c∈x.2.kids,0≤c∧c<x.1.length)=>(by
 dsimp only[cA,eA,eN,LN,Af,Bu,nds,rA,Iv,FF,Au,Az,mvL,lnL,mvE,lnE,Br]
 obtain⟨h1,h2,h3⟩:=hx;have hl:=h1.1;have hk:=h2.2
 (repeat' first|(with_reducible first|rfl|exact True.intro|apply AK|apply And.intro|((first|apply AA|apply AI|apply AB|apply AJ)<;>intro _))|(apply Ax<;>intro _)|apply AH|refine Ae () ?_ ?_|((first|apply AO|apply AN|apply AM|apply AL|apply AG|apply AF|apply AE|apply AD|apply AC)<;>try dsimp only)|apply Ae|(refine Prod.forall.2 ?_;intro _;try dsimp only)|(intro _;try dsimp only))
 all_goals first
  |exact b0U
  |exact b0V ‹_› ‹_›
  |exact RQ ‹_› ‹_› (b0W ‹_› ‹_›)
  |exact RQ ‹_› ‹_› (b1c ‹_› ‹_› ‹_› ‹_› ‹_›)
  |exact RQ ‹_› ‹_› (b1b ‹_› ‹_› ‹_› ‹_› ‹_›)
  |exact RQ ‹_› ‹_› (b1a ‹_› ‹_› ‹_› ‹_› ‹_› ‹_› ‹_›)
  |exact Ws ‹_› (b0X ‹_› ‹_› ‹_›)
  |exact Ws ‹_› (b0Y ‹_› ‹_› ‹_› ‹_›)
  |exact Ws ‹_› (b0Z ‹_› ‹_› ‹_› ‹_› ‹_› ‹_› ‹_› ‹_› ‹_›)
  |exact(h3 _ (BO ‹_›)).1
  |exact(h3 _ (BO ‹_›)).2
  |exact(ndB ‹_› ‹_› ‹_›).1
  |exact(ndB ‹_› ‹_› ‹_›).2
  |(obtain⟨_,_,_⟩:= ‹cfI _ _ _›;(try simp only[AQ] at*);omega)
  |skip)
def nkI(k:Int)(l:List Int)(i:Int):Prop:=0≤i∧i≤l.length∧(∀c∈l.take i.toNat,0≤c∧c<k)∧(l.take i.toNat).Nodup
theorem a1F{k:Int}{l:List Int}:nkI k l 0:=⟨by omega,by omega,by simp,by simp⟩
theorem a1G{k:Int}{l:List Int}{i c:Int}(h:nkI k l i)(hc:l[i.toNat]? =some c)(h1:¬c<0)(h2:¬c≥k)(h3:(l.take i.toNat).elem c=false):nkI k l (i+1):=by
 obtain⟨ha,hb,hd,he⟩:=h
 have:=(DK hc).1
 refine⟨by omega,by omega,?_,?_⟩
 ·rw[Da ha,Ey hc];intro d hd'
  rcases List.mem_append.1 hd' with hd'|hd'
  ·exact hd d hd'
  ·simp at hd';subst hd';omega
 ·rw[Da ha,Ey hc,List.nodup_append]
  refine⟨he,by simp,?_⟩
  intro a ha' b hb' hab
  simp at hb';subst hb';subst hab
  simp at h3;exact h3 ha'
theorem PE{k:Int}{l:List Int}{i:Int}(h:nkI k l i)(hl:¬i<l.length):DE l k=true∧l.Nodup:=by
 obtain⟨ha,hb,hd,he⟩:=h
 rw[List.take_of_length_le (by omega)] at hd he
 exact⟨by simpa [DE] using hd,he⟩
theorem b1e{k:Int}{l:List Int}{n:Nat}{c:Int}(hc:l[n]? =some c)(h1:c<0):DE l k=false:=by
 rw[Bool.eq_false_iff];intro h;simp only[DE,List.all_eq_true,Bool.and_eq_true,decide_eq_true_eq] at h
 have:=h c (BO hc);omega
theorem b1f{k:Int}{l:List Int}{n:Nat}{c:Int}(hc:l[n]? =some c)(h1:c≥k):DE l k=false:=by
 rw[Bool.eq_false_iff];intro h;simp only[DE,List.all_eq_true,Bool.and_eq_true,decide_eq_true_eq] at h
 have:=h c (BO hc);omega
theorem a1H{l:List Int}{n:Nat}{c:Int}(hc:l[n]? =some c)(h1:(l.take n).elem c=true):¬l.Nodup:=by
 intro h
 have e:l=l.take n++l.drop n:=(List.take_append_drop n l).symm
 rw[e,GX hc,List.nodup_append] at h
 exact h.2.2 c (by simpa using h1) c (by simp) rfl
theorem a1I{ns:List Nd}{k:Int}(h:Bz ns k=false):false=BH ns k:=by simp [BH,h]
theorem NF{ns:List Nd}{k:Int}{x:Nd}(hx:ns[k.toNat]? =some x)(h:Bz ns k=true):BH ns k=FB ns k x:=by rw[BH,h,Bn hx];rfl
theorem b1g{ns:List Nd}{k:Int}{x:Nd}(hx:ns[k.toNat]? =some x)(h:Bz ns k=true)(h1:(x.kids.length:Int)>12):false=BH ns k:=by
 rw[NF hx h,FB,decide_eq_false (by omega)];rfl
theorem b1h{ns:List Nd}{k:Int}{x:Nd}(hx:ns[k.toNat]? =some x)(h:Bz ns k=true)(h1:Fg x.kind x.text=false):false=BH ns k:=by
 rw[NF hx h,FB,h1];simp
theorem a1J{ns:List Nd}{k:Int}{x:Nd}(hx:ns[k.toNat]? =some x)(h:Bz ns k=true)(h1:DE x.kids k=false):false=BH ns k:=by
 rw[NF hx h,FB,h1];simp
theorem b1i{ns:List Nd}{k:Int}{x:Nd}(hx:ns[k.toNat]? =some x)(h:Bz ns k=true)(h1:¬x.kids.Nodup):false=BH ns k:=by
 rw[NF hx h,FB,decide_eq_false h1];simp
theorem a1K{ns:List Nd}{k i:Int}{x:Nd}(hx:ns[k.toNat]? =some x)(h:Bz ns k=true)(h1:(x.kids.length:Int)≤12)(h2:Fg x.kind x.text=true)(h3:nkI k x.kids i)(hl:¬i<x.kids.length):
 BH ns k=(Cd x.kind ((x.kids.take i.toNat).map (As ns))&&(DL ns x&&(HJ x.kind|| !x.blank))):=by
 obtain⟨ha,hb⟩:=PE h3 hl
 rw[List.take_of_length_le (by have:=h3.1;omega),NF hx h,FB,h2,ha,decide_eq_true hb,decide_eq_true (by omega)];simp
theorem Wt{k:Int}{l:List Int}{i c n:Int}(h:nkI k l i)(hl:¬i<l.length)(hk:k<n)(hc:c∈l):0≤c∧c<n:=by
 have:=(PE h hl).1
 simp only[DE,List.all_eq_true,Bool.and_eq_true,decide_eq_true_eq] at this
 have:=this c hc;omega
theorem b1j{ns:List Nd}{l:List Int}{i c:Int}{y:Nd}(h0:0≤i)(hc:l[i.toNat]? =some c)(hy:ns[c.toNat]? =some y):(l.take i.toNat).map (As ns)++[y.kind]=(l.take (i+1).toNat).map (As ns):=by
 rw[Da h0,Ey hc,List.map_append];simp [As,Bn hy]
def RR(x:List Nd×Int):LS:= {
 ι:=Int,inv:=nkI x.2 (ndAt x.1 x.2).kids,
 regs:=fun i=>[(0,nds x.1),(1,.int .i64 x.2),(5,.box 0 (ndA false (ndAt x.1 x.2))),(6,Ab (((ndAt x.1 x.2).kids.take i.toNat).map (As x.1))),(28,Af (ndAt x.1 x.2).kids),(29,.int .i64 (ndAt x.1 x.2).kids.length),(30,.int .i64 i)],als:=[],meas:=fun i=>(ndAt x.1 x.2).kids.length-i.toNat}
def DZ:Sig:= {X:=List Nd×Int,args:=fun x=>[nds x.1,.int .i64 x.2],pre:=fun x=>BM x.1,Y:=Unit,post:=fun x y=>True,res:=fun x y=> .bool (BH x.1 x.2),outs:=fun x y=>[.top,.top],keep:=false}
theorem b1k:Aj G Tryz.prog 94 DZ:=
 vcFun_okP [(93,0,FF),(112,0,DN),(113,0,NE),(114,0,JF),(115,0,Gz),(116,0,BX),(117,0,Iv)] [(25,⟨Int,AZ⟩)] false (fun x=>[(8,RR x)]) Tryz.func94 rfl (by decide) ⟨RO,b0r,b0T,a1y,Wq,b0R,b1d,trivial⟩ (fun(x:List Nd×Int)=>(∀(y:Unit),True→True∧True∧True∧True)∧cA FF [nds x.1,.int .i64 x.2] fun x_1 y=>Aa (!Bz x_1.1 x_1.2) (rA DZ x [.bool false,.top,.top]) (((0:Int)≤x.2∧x.2<(↑(List.length x.1):Int))∧∀(e:Nd),x.1[Int.toNat x.2]? =some e→Aa (decide ((↑(List.length e.kids):Int)>(12:Int))) (rA DZ x [.bool false,.top,.top]) (cA DN [.agg [.int .i64 e.kind,.str e.text,Af e.kids,.bool e.blank]] fun x_2 y=>Aa (!Fg x_2.kind x_2.text) (rA DZ x [.bool false,.top,.top]) (eA (RR x) [nds x.1,.int .i64 x.2,.box 0 [.int .i64 e.kind,.str e.text,Af e.kids,.bool e.blank],.nil,Af e.kids,.int .i64 (↑(List.length e.kids):Int),.int .i64 (0:Int)]∧∀(i:Int),nkI x.2 (ndAt x.1 x.2).kids i→Aa (decide (i<(↑(List.length (ndAt x.1 x.2).kids):Int))) (((0:Int)≤i∧i<(↑(List.length (ndAt x.1 x.2).kids):Int))∧∀(e:Int),(ndAt x.1 x.2).kids[Int.toNat i]? =some e→Aa (decide (e<(0:Int))) (rA DZ x [.bool false,.top,.top]) (Aa (decide (e≥x.2)) (rA DZ x [.bool false,.top,.top]) (((0:Int)≤(0:Int)∧(0:Int)≤i∧i≤(↑(List.length (ndAt x.1 x.2).kids):Int))∧cA NE [Af (List.take (Int.toNat i) (ndAt x.1 x.2).kids),.int .i64 e] fun x_3 y=>Aa (List.elem x_3.2 x_3.1) (rA DZ x [.bool false,.top,.top]) (((0:Int)≤e∧e<(↑(List.length x.1):Int))∧∀(e_1:Nd),x.1[Int.toNat e]? =some e_1→∃(x_4:Int),e_1.kind=x_4∧∃(zs:List Int),Ab [x_4]=Ab zs∧Bo AZ∧AY (List.length (List.map (As x.1) (List.take (Int.toNat i) (ndAt x.1 x.2).kids))+List.length zs) (8:Nat)∧inR IntKind.i64 (i+(1:Int))∧eN (RR x) i [nds x.1,.int .i64 x.2,.box 0 [.int .i64 (ndAt x.1 x.2).kind,.str (ndAt x.1 x.2).text,Af (ndAt x.1 x.2).kids,.bool (ndAt x.1 x.2).blank],Ab (List.map (As x.1) (List.take (Int.toNat i) (ndAt x.1 x.2).kids)++zs),Af (ndAt x.1 x.2).kids,.int .i64 (↑(List.length (ndAt x.1 x.2).kids):Int),.int .i64 (i+(1:Int))])))) (cA JF [.int .i64 (ndAt x.1 x.2).kind] fun x_3 y=>Aa (JC x_3) (cA BX [.int .i64 (ndAt x.1 x.2).kind,Ab (List.map (As x.1) (List.take (Int.toNat i) (ndAt x.1 x.2).kids))] fun x_4 y=>Aa (Cd x_4.1 x_4.2) (cA Iv [nds x.1,.agg [.int .i64 (ndAt x.1 x.2).kind,.str (ndAt x.1 x.2).text,Af (ndAt x.1 x.2).kids,.bool (ndAt x.1 x.2).blank]] fun x_5 y=>Aa (DL x_5.1 x_5.2) (rA DZ x [.bool true,.top,.top]) (rA DZ x [.bool false,.top,.top])) (rA DZ x [.bool false,.top,.top])) (cA Gz [.int .i64 (ndAt x.1 x.2).kind] fun x_4 y=>Aa (Ez x_4) (cA BX [.int .i64 (ndAt x.1 x.2).kind,Ab (List.map (As x.1) (List.take (Int.toNat i) (ndAt x.1 x.2).kids))] fun x_5 y=>Aa (Cd x_5.1 x_5.2) (cA Iv [nds x.1,.agg [.int .i64 (ndAt x.1 x.2).kind,.str (ndAt x.1 x.2).text,Af (ndAt x.1 x.2).kids,.bool (ndAt x.1 x.2).blank]] fun x_6 y=>Aa (DL x_6.1 x_6.2) (rA DZ x [.bool true,.top,.top]) (rA DZ x [.bool false,.top,.top])) (rA DZ x [.bool false,.top,.top])) (cA BX [.int .i64 (ndAt x.1 x.2).kind,Ab (List.map (As x.1) (List.take (Int.toNat i) (ndAt x.1 x.2).kids))] fun x_5 y=>Aa (Cd x_5.1 x_5.2) (cA Iv [nds x.1,.agg [.int .i64 (ndAt x.1 x.2).kind,.str (ndAt x.1 x.2).text,Af (ndAt x.1 x.2).kids,.bool (ndAt x.1 x.2).blank]] fun x_6 y=>Aa (DL x_6.1 x_6.2) (Aa ((ndAt x.1 x.2).kind==(21:Int)) (rA DZ x [.bool true,.top,.top]) (rA DZ x [.bool !(ndAt x.1 x.2).blank,.top,.top])) (rA DZ x [.bool false,.top,.top])) (rA DZ x [.bool false,.top,.top])))))))) (fun x=>by kernel_rfl) fun(x:List Nd×Int) (hx:BM x.1)=>(by
 dsimp only[cA,eA,eN,Af,RR,Bu,nds,Ab,rA,Iv,NE,DZ,Gz,FF,JF,BX,DN,Au,Az,mvL,lnL,mvE,lnE,Br]
 have h1:BM x.1:=hx;have hl:=h1.1
 (repeat' first|(with_reducible first|rfl|exact True.intro|apply AK|apply And.intro|((first|apply AA|apply AI|apply AB|apply AJ)<;>intro _))|(apply Ax<;>intro _)|apply AH|refine Ae () ?_ ?_|((first|apply AO|apply AN|apply AM|apply AL|apply AG|apply AF|apply AE|apply AD|apply AC)<;>try dsimp only)|apply Ae|(refine Prod.forall.2 ?_;intro _;try dsimp only)|(intro _;try dsimp only))
 all_goals try(simp only[Bn (show x.1[x.2.toNat]? =some _ by assumption)] at*)
 all_goals first
  |rfl
  |exact a1F
  |exact(h1.2 _ (BO ‹_›)).1
  |exact(h1.2 _ (BO ‹_›)).2
  |exact a1C ‹_› h1
  |exact(Wt ‹_› ‹_› (BV.1 ‹Bz _ _=true›).2 ‹_›).1
  |exact(Wt ‹_› ‹_› (BV.1 ‹Bz _ _=true›).2 ‹_›).2
  |exact a1I ‹_›
  |exact b1g ‹_› ‹_› ‹_›
  |exact b1h ‹_› ‹_› ‹_›
  |exact a1J ‹_› ‹_› (b1e ‹_› ‹_›)
  |exact a1J ‹_› ‹_› (b1f ‹_› ‹_›)
  |exact b1i ‹_› ‹_› (a1H ‹_› ‹_›)
  |exact a1G ‹_› ‹_› ‹_› ‹_› ‹_›
  |exact b1j (‹nkI _ _ _›.1) ‹_› ‹_›
  |(refine Eq.trans ?_ (a1K (show x.1[x.2.toNat]? =some _ by assumption) ‹_› (by omega) ‹_› ‹_› ‹_›).symm;simp [-List.map_take,HJ,Gx, *];done)
  |omega
  |(have:=BV.1 ‹Bz _ _=true›;omega)
  |(have:=BV.1 ‹Bz _ _=true›;obtain⟨_,_,_⟩:= ‹nkI _ _ _›;(try simp only[AQ,AY,List.length_take,List.length_map,List.length_append,List.length_cons,List.length_nil] at*);omega)
  |(refine Eq.trans ?_ (a1K (show x.1[x.2.toNat]? =some _ by assumption) ‹_› (by omega) ‹_› ‹_› ‹_›).symm;rw[‹Cd _ _=true›,‹DL _ _=true›];simp [HJ, *]))
def dl(k i:Int)(ds:List Int):List Int:=ds++List.replicate (k+1-i).toNat 0
def dI(ns:List Nd)(k i:Int)(ds:List Int):Prop:=Bz ns k=true∧0≤i∧i≤k+1∧CN ns i.toNat=some ds
def dJ(ns:List Nd)(k i:Int)(ds:List Int)(j d:Int):Prop:=dI ns k i ds∧i≤k∧BH ns i=true∧0≤j∧j≤(ndAt ns i).kids.length∧0≤d∧d≤14∧mx ds ((ndAt ns i).kids.drop j.toNat) d=mx ds (ndAt ns i).kids 0
theorem b1l{ns:List Nd}{k:Int}(h:Bz ns k=true):dI ns k 0 []:=⟨h,by omega,by have:=BV.1 h;omega,rfl⟩
theorem b1m{k:Int}:List.replicate (k+1).toNat 0=dl k 0 []:=by simp [dl]
theorem a1L{ns:List Nd}{k i:Int}{ds:List Int}(h:dI ns k i ds):((dl k i ds).length:Int)=k+1:=by
 obtain⟨h0,h1,h2,h3⟩:=h
 have:=JD h3
 rw[dl,List.length_append,List.length_replicate];omega
theorem b1n{ns:List Nd}{k i:Int}{ds:List Int}(h:dI ns k i ds)(hl:i<k+1)(hn:BH ns i=false):0=BA ns k:=by
 obtain⟨h0,h1,h2,h3⟩:=h
 have:CN ns (i.toNat+1)=none:=by
  unfold CN;rw[h3];simp only
  rw[show((i.toNat:Nat):Int)=i by omega,hn];rfl
 unfold BA;rw[if_pos h0,a0W this (by omega)]
theorem b1o{ns:List Nd}{k i:Int}{ds:List Int}(h:dI ns k i ds)(hl:i<k+1)(hn:BH ns i=true):dJ ns k i ds 0 0:=
 ⟨h,by omega,hn,by omega,by omega,by omega,by omega,by simp⟩
theorem a1M{ns:List Nd}{k i:Int}{ds:List Int}{j d c:Int}(h:dJ ns k i ds j d)(hc:(ndAt ns i).kids[j.toNat]? =some c):0≤c∧c<i:=by
 exact(DM h.2.2.1).2.2.2.1 c (BO hc)
theorem Wu{ns:List Nd}{k i:Int}{ds:List Int}{j d c:Int}(h:dJ ns k i ds j d)(hc:(ndAt ns i).kids[j.toNat]? =some c):0≤c∧c<(dl k i ds).length:=by
 have:=a1M h hc;have:=a1L h.1;have:=h.1.2.2;omega
theorem b1p{ns:List Nd}{k i:Int}{ds:List Int}{j d c v:Int}(h:dJ ns k i ds j d)(hc:(ndAt ns i).kids[j.toNat]? =some c)(hv:(dl k i ds)[c.toNat]? =some v):ds.getD c.toNat 0=v∧1≤v∧v≤14:=by
 have h1:=a1M h hc
 have h2:=JD h.1.2.2.2
 rw[dl,List.getElem?_append_left (by omega)] at hv
 refine⟨by simp [List.getD,hv],?_⟩
 exact PB h.1.2.2.2 v (BO hv)
theorem b1q{ns:List Nd}{k i:Int}{ds:List Int}{j d c v:Int}(h:dJ ns k i ds j d)(hc:(ndAt ns i).kids[j.toNat]? =some c)(hv:(dl k i ds)[c.toNat]? =some v):dJ ns k i ds (j+1) (max d v):=by
 obtain⟨hv1,hv2,hv3⟩:=b1p h hc hv
 obtain⟨h1,h2,h3,h4,h5,h6,h7,h8⟩:=h
 have:=(DK hc).1
 refine⟨h1,h2,h3,by omega,by omega,by omega,by omega,?_⟩
 rw[←h8,GX hc,Da h4];simp only[mx,hv1]
theorem a1N{ns:List Nd}{k i:Int}{ds:List Int}{j d:Int}(h:dJ ns k i ds j d)(hl:¬j<(ndAt ns i).kids.length):d=mx ds (ndAt ns i).kids 0:=by
 obtain⟨h1,h2,h3,h4,h5,h6,h7,h8⟩:=h
 rw[List.drop_eq_nil_of_le (by omega)] at h8;exact h8
theorem b1r{ns:List Nd}{k i:Int}{ds:List Int}{j d:Int}(h:dJ ns k i ds j d)(hl:¬j<(ndAt ns i).kids.length)(hd:d≥14):0=BA ns k:=by
 have hm:=a1N h hl
 obtain⟨⟨ha,hb,he,hf⟩,h2,h3,_⟩:=h
 have e:((i.toNat:Nat):Int)=i:=by omega
 have:CN ns (i.toNat+1)=none:=by
  unfold CN;rw[hf];simp only
  rw[e,h3,if_pos rfl,if_pos (by omega)]
 unfold BA;rw[if_pos ha,a0W this (by omega)]
theorem b1s{ns:List Nd}{k i:Int}{ds:List Int}{j d:Int}(h:dJ ns k i ds j d)(hl:¬j<(ndAt ns i).kids.length)(hd:¬d≥14):dI ns k (i+1) (ds++[d+1]):=by
 have hm:=a1N h hl
 obtain⟨⟨ha,hb,he,hf⟩,h2,h3,_⟩:=h
 have e:((i.toNat:Nat):Int)=i:=by omega
 refine⟨ha,by omega,by omega,?_⟩
 rw[Da hb];unfold CN;rw[hf];simp only
 rw[e,h3,if_pos rfl,if_neg (by omega),←hm]
theorem b1t{ns:List Nd}{k i:Int}{ds:List Int}{j d:Int}(h:dJ ns k i ds j d):(dl k i ds).set i.toNat (d+1)=dl k (i+1) (ds++[d+1]):=by
 obtain⟨⟨ha,hb,he,hf⟩,h2,h3,_⟩:=h
 have hl:=JD hf
 have e:(k+1-i).toNat=(k+1-(i+1)).toNat+1:=by omega
 unfold dl;rw[List.set_append_right _ _ (by omega),e,hl];simp [List.replicate_succ]
theorem b1u{ns:List Nd}{k i v:Int}{ds:List Int}(h:dI ns k i ds)(hl:¬i<k+1)(hv:(dl k i ds)[k.toNat]? =some v):v=BA ns k:=by
 obtain⟨h0,h1,h2,h3⟩:=h
 obtain rfl:i=k+1:=by omega
 have:=BV.1 h0
 rw[show(k+1).toNat=k.toNat+1 by omega] at h3
 unfold BA;rw[if_pos h0,h3]
 simp [dl] at hv
 simp [List.getD,hv]
theorem a1O{ns:List Nd}{k:Int}(h:Bz ns k=false):0=BA ns k:=by simp [BA,h]
theorem b1v{ns:List Nd}{k i:Int}{ds:List Int}{j d:Int}(h:dJ ns k i ds j d):((ndAt ns i).kids.length:Int)≤12:=by
 have:=(DM h.2.2.1).2.1;omega
def RS(x:List Nd×Int)(o:Int×List Int):LS:= {
 ι:=Int×Int,inv:=fun i=>dJ x.1 x.2 o.1 o.2 i.1 i.2,
 regs:=fun i=>[(0,nds x.1),(1,.int .i64 x.2),(5,Ab (dl x.2 o.1 o.2)),(18,.int .i64 (x.2+1)),(19,.int .i64 o.1),(6,.int .i64 o.1),(7,.int .i64 i.2),(30,Af (ndAt x.1 o.1).kids),(31,.int .i64 (ndAt x.1 o.1).kids.length),(32,.int .i64 i.1)],als:=[],meas:=fun i=>(ndAt x.1 o.1).kids.length-i.1.toNat}
def RT(x:List Nd×Int):LS:= {
 ι:=Int×List Int,inv:=fun i=>dI x.1 x.2 i.1 i.2,
 regs:=fun i=>[(0,nds x.1),(1,.int .i64 x.2),(5,Ab (dl x.2 i.1 i.2)),(18,.int .i64 (x.2+1)),(19,.int .i64 i.1)],als:=[],meas:=fun i=>x.2.toNat+1-i.1.toNat,
 sub:=fun i=>[(11,RS x i)]}
def JG:Sig:= {X:=List Nd×Int,args:=fun x=>[nds x.1,.int .i64 x.2],pre:=fun x=>BM x.1∧x.1.length≤2^30,Y:=Unit,post:=fun x y=>True,res:=fun x y=> .int .i64 (BA x.1 x.2),outs:=fun x y=>[.top,.top],keep:=false}
theorem b1w:Aj G Tryz.prog 67 JG:=
 vcFun_okP [(93,0,FF),(94,0,DZ)] [(25,⟨Int,AZ⟩)] false (fun x=>[(5,RT x)]) Tryz.func67 rfl (by decide) ⟨RO,b1k,trivial⟩ (fun(x:List Nd×Int)=>(∀(y:Unit),True→True∧True∧True∧True)∧cA FF [nds x.1,.int .i64 x.2] fun x_1 y=>Aa (!Bz x_1.1 x_1.2) (rA JG x [.int .i64 (0:Int),.top,.top]) (inR IntKind.i64 (x.2+(1:Int))∧((0:Int)≤x.2+(1:Int)∧x.2+(1:Int)≤x.2+(1:Int)∧(↑(8:Nat):Int)*(x.2+(1:Int))≤(2:Int)^(46:Nat)∧x.2+(1:Int)≤(2:Int)^(46:Nat))∧∃(x_2:Int),(0:Int)=x_2∧eA (RT x) [nds x.1,.int .i64 x.2,Ab (List.replicate (Int.toNat (x.2+(1:Int))) x_2),.int .i64 (↑(List.length (List.replicate (Int.toNat (x.2+(1:Int))) x_2)):Int),.int .i64 (0:Int)]∧∀(i:Int×List Int),dI x.1 x.2 i.1 i.2→Aa (decide (i.1<x.2+(1:Int))) (cA DZ [nds x.1,.int .i64 i.1] fun x_3 y=>Aa (!BH x_3.1 x_3.2) (rA JG x [.int .i64 (0:Int),.top,.top]) (((0:Int)≤i.1∧i.1<(↑(List.length x.1):Int))∧∀(e:Nd),x.1[Int.toNat i.1]? =some e→eA (RS x i) [nds x.1,.int .i64 x.2,Ab (dl x.2 i.1 i.2),.int .i64 (x.2+(1:Int)),.int .i64 i.1,.int .i64 i.1,.int .i64 (0:Int),Af e.kids,.int .i64 (↑(List.length e.kids):Int),.int .i64 (0:Int)]∧∀(i_1:Int×Int),dJ x.1 x.2 i.1 i.2 i_1.1 i_1.2→Aa (decide (i_1.1<(↑(List.length (ndAt x.1 i.1).kids):Int))) (((0:Int)≤i_1.1∧i_1.1<(↑(List.length (ndAt x.1 i.1).kids):Int))∧∀(e:Int),(ndAt x.1 i.1).kids[Int.toNat i_1.1]? =some e→((0:Int)≤e∧e<(↑(List.length (dl x.2 i.1 i.2)):Int))∧Int.toNat e<List.length (dl x.2 i.1 i.2)∧∀(x_4:Int),(dl x.2 i.1 i.2)[Int.toNat e]? =some x_4→inR IntKind.i64 (i_1.1+(1:Int))∧eN (RS x i) i_1 [nds x.1,.int .i64 x.2,Ab (dl x.2 i.1 i.2),.int .i64 (x.2+(1:Int)),.int .i64 i.1,.int .i64 i.1,.int .i64 (max i_1.2 x_4),Af (ndAt x.1 i.1).kids,.int .i64 (↑(List.length (ndAt x.1 i.1).kids):Int),.int .i64 (i_1.1+(1:Int))]) (Aa (decide (i_1.2≥(14:Int))) (rA JG x [.int .i64 (0:Int),.top,.top]) (inR IntKind.i64 (i_1.2+(1:Int))∧((0:Int)≤i.1∧i.1<(↑(List.length (dl x.2 i.1 i.2)):Int))∧Int.toNat i.1<List.length (dl x.2 i.1 i.2)∧∀(x_4:Int),(dl x.2 i.1 i.2)[Int.toNat i.1]? =some x_4→∃(x':Int),((@List.nil AV)=[]∧(@List.nil AV)=[])∧i_1.2+(1:Int)=x'∧inR IntKind.i64 (i.1+(1:Int))∧eN (RT x) i [nds x.1,.int .i64 x.2,Ab (List.set (dl x.2 i.1 i.2) (Int.toNat i.1) x'),.int .i64 (x.2+(1:Int)),.int .i64 (i.1+(1:Int))])))) (((0:Int)≤x.2∧x.2<(↑(List.length (dl x.2 i.1 i.2)):Int))∧Int.toNat x.2<List.length (dl x.2 i.1 i.2)∧∀(x_3:Int),(dl x.2 i.1 i.2)[Int.toNat x.2]? =some x_3→rA JG x [.int .i64 x_3,.top,.top]))) (fun x=>by kernel_rfl) fun(x:List Nd×Int) (hx:BM x.1∧x.1.length≤2^30)=>(by
 dsimp only[cA,eA,eN,Af,RT,RS,Bu,nds,Ab,rA,JG,DZ,FF,Au,Az,mvL,lnL,mvE,lnE,Br]
 obtain⟨h1,h2⟩:=hx;have hl:=h1.1
 (repeat' first|(with_reducible first|rfl|exact True.intro|apply AK|apply And.intro|((first|apply AA|apply AI|apply AB|apply AJ)<;>intro _))|(apply Ax<;>intro _)|apply AH|refine Ae () ?_ ?_|((first|apply AO|apply AN|apply AM|apply AL|apply AG|apply AF|apply AE|apply AD|apply AC)<;>try dsimp only)|apply Ae|(refine Prod.forall.2 ?_;intro _;try dsimp only)|(intro _;try dsimp only))
 all_goals try(have nd0:=BV.1 (show Bz x.1 x.2=true by assumption))
 all_goals first
  |rfl
  |exact a1O ‹_›
  |exact b1l ‹_›
  |exact b1m
  |exact b1n ‹_› ‹_› ‹_›
  |exact b1o ‹_› ‹_› ‹_›
  |exact(Wu ‹_› ‹_›).1
  |exact(Wu ‹_› ‹_›).2
  |exact b1q ‹_› ‹_› ‹_›
  |exact b1r ‹_› ‹_› ‹_›
  |exact b1s ‹_› ‹_› ‹_›
  |exact b1t ‹_›
  |exact b1u ‹_› ‹_› ‹_›
  |(rw[Bn ‹_›];done)
  |(rw[List.length_replicate];omega)
  |(have:=b1v ‹_›;obtain⟨⟨_,_,_,_⟩,_,_,_,_,_,_,_⟩:= ‹dJ _ _ _ _ _ _›;(try simp only[AQ,AY] at*);omega)
  |(have:=a1L ‹_›;obtain⟨_,_,_,_⟩:= ‹dI _ _ _ _›;(try simp only[AQ,AY] at*);omega)
  |(have:=Wu ‹_› ‹_›;omega)
  |((try simp only[AQ,AY] at*);omega)
  |skip)
def cnt(n:Nat)(l:List Int):List Int:=(List.range n).map fun(c:Nat)=>(l.count (c:Int):Int)
theorem Hc{n:Nat}{l:List Int}:(cnt n l).length=n:=by simp [cnt]
theorem LO{n:Nat}{l:List Int}{c:Nat}(h:c<n):(cnt n l)[c]? =some (l.count (c:Int):Int):=by
 simp [cnt,List.getElem?_map,List.getElem?_range,h]
theorem a1P{n:Nat}:List.replicate n 0=cnt n []:=by
 apply List.ext_getElem?
 intro c
 by_cases h:c<n
 ·rw[LO h];simp [h]
 ·rw[List.getElem?_eq_none (by simp;omega),List.getElem?_eq_none (by simp [cnt];omega)]
theorem a1Q{n:Nat}{l:List Int}{c v:Int}(h0:0≤c)(h1:c<n)(hv:(cnt n l)[c.toNat]? =some v):(cnt n l).set c.toNat (v+1)=cnt n (l++[c]):=by
 apply List.ext_getElem?
 intro d
 rw[List.getElem?_set]
 by_cases hd:d<n
 ·rw[LO hd,LO hd,List.count_append]
  rw[LO (by omega)] at hv
  by_cases e:c.toNat=d
  ·subst e
   rw[if_pos rfl,if_pos (by rw[Hc];omega)]
   have e2:((c.toNat:Nat):Int)=c:=by omega
   rw[e2] at hv ⊢
   simp at hv ⊢;omega
  ·rw[if_neg e]
   have:¬c=(d:Int):=by omega
   simp [List.count_cons,this]
 ·rw[if_neg (by omega),List.getElem?_eq_none (by rw[Hc];omega),List.getElem?_eq_none (by rw[Hc];omega)]
def tk(ns:List Nd)(i j:Int):List Int:=BU (ns.take i.toNat)++(ndAt ns i).kids.take j.toNat
def tI(ns:List Nd):Prop:=1≤ns.length∧ns.length≤300∧As ns (ns.length-1)=22∧BA ns (ns.length-1)≠0
theorem b1x{ns:List Nd}{n:Nat}{y:Nd}(h:tI ns)(hy:ns[n]? =some y):BH ns n=true:=by
 exact(Ns h.2.2.2).2.2 n (by have:=(DK hy).1;omega)
theorem PF{ns:List Nd}{n:Nat}{y:Nd}(h:tI ns)(hy:ns[n]? =some y):y.kids.length≤12∧∀c∈y.kids,0≤c∧c<ns.length:=by
 obtain⟨h1,h2,h3,h4,h5⟩:=DM (b1x h hy)
 rw[Bn (by simpa using hy)] at h2 h4
 exact⟨h2,fun c hc=>by have:=h4 c hc;omega⟩
theorem b1y{l:List Nd}(h:∀y∈l,y.kids.length≤12):(BU l).length≤12*l.length:=by
 induction l with
 |nil=>simp [BU]
 |cons y l ih=>
  have h1:=h y (by simp)
  have h2:=ih fun z hz=>h z (by simp [hz])
  simp only[BU,List.flatMap_cons,List.length_append,List.length_cons] at h2 ⊢;omega
theorem b1z{ns:List Nd}{i j:Int}(h:tI ns):(BU (ns.take i.toNat)).length≤3600:=by
 have h1:∀y∈ns.take i.toNat,y.kids.length≤12:=by
  intro y hy
  obtain⟨n,hn⟩:=List.mem_iff_getElem?.1 (List.mem_of_mem_take hy)
  exact(PF h hn).1
 have:=b1y h1
 have h2:(ns.take i.toNat).length≤300:=by have:=h.2.1;simp;omega
 omega
theorem b1A{n:Nat}{l:List Int}{c:Nat}{v:Int}(hv:(cnt n l)[c]? =some v):0≤v∧v≤l.length:=by
 have h:c<n:=by have:=(DK hv).1;rwa [Hc] at this
 rw[LO h] at hv;cases hv
 have:=List.count_le_length (a:=(c:Int)) (l:=l)
 omega
theorem a1R{ns:List Nd}{i:Int}:tk ns i 0=BU (ns.take i.toNat):=by simp [tk]
theorem a1S{ns:List Nd}{i j c:Int}(h0:0≤j)(hc:(ndAt ns i).kids[j.toNat]? =some c):tk ns i (j+1)=tk ns i j++[c]:=by
 rw[tk,Da h0,Ey hc,tk,List.append_assoc]
theorem a1T{ns:List Nd}{i j:Int}{y:Nd}(h0:0≤i)(hy:ns[i.toNat]? =some y)(hl:¬j<(ndAt ns i).kids.length):tk ns i j=BU (ns.take (i+1).toNat):=by
 rw[tk,List.take_of_length_le (l:=(ndAt ns i).kids) (by omega),Da h0,Ey hy,Bn hy];simp [BU]
def tE(ns:List Nd)(i:Int):Prop:=0≤i∧i≤ns.length-1∧∀c:Nat,(c:Int)<i→(BU ns).count (c:Int)=1
theorem a1U{ns:List Nd}{i v:Int}(hv:(((cnt ns.length (BU ns)).take (ns.length-1:Int).toNat)[i.toNat]?)=some v)(h0:0≤i)(hl:i<(ns.length-1:Int)):((BU ns).count i:Int)=v:=by
 rw[List.getElem?_take_of_lt (by omega),LO (by omega)] at hv
 have e2:((i.toNat:Nat):Int)=i:=by omega
 rw[e2] at hv;exact Option.some.inj hv
theorem a1V{ns:List Nd}{i:Int}(h:tI ns)(he:tE ns i)(hl:¬i<(ns.length-1:Int)):true=Bf ns:=by
 symm;unfold Bf
 have h1:decide (1≤ns.length)=true:=decide_eq_true h.1
 have h2:decide (ns.length≤300)=true:=decide_eq_true h.2.1
 have h3:decide (As ns (ns.length-1)=22)=true:=decide_eq_true h.2.2.1
 have h4:decide (BA ns (ns.length-1)=0)=false:=decide_eq_false h.2.2.2
 rw[h1,h2,h3,h4]
 simp only[Bool.and_true,Bool.not_false,Bool.true_and,List.all_eq_true,decide_eq_true_eq,List.mem_range]
 exact fun c hc=>he.2.2 c (by omega)
theorem a1W{ns:List Nd}{i v:Int}(hv:(BU ns).count i=v)(h0:0≤i)(hl:i<(ns.length-1:Int))(hne:v≠1):false=Bf ns:=by
 symm;rw[Bool.eq_false_iff];intro h
 unfold Bf at h
 simp only[Bool.and_eq_true,List.all_eq_true,decide_eq_true_eq,List.mem_range] at h
 have:=h.2.2.2 i.toNat (by omega)
 have e2:((i.toNat:Nat):Int)=i:=by omega
 rw[e2] at this;omega
theorem NG{ns:List Nd}(h:¬tI ns):false=Bf ns:=by
 symm;rw[Bool.eq_false_iff];intro hh
 unfold Bf at hh
 simp only[Bool.and_eq_true,decide_eq_true_eq,Bool.not_eq_true',decide_eq_false_iff_not] at hh
 exact h ⟨hh.1.1,hh.1.2,hh.2.1,hh.2.2.1⟩
theorem PG{ns:List Nd}{i j c:Int}{y:Nd}(h:tI ns)(hc:(ndAt ns i).kids[j.toNat]? =some c)(hy:ns[i.toNat]? =some y):0≤c∧c<ns.length:=by
 rw[Bn hy] at hc;exact(PF h hy).2 c (BO hc)
theorem a1X{ns:List Nd}{i:Int}{y:Nd}(h:tI ns)(hy:ns[i.toNat]? =some y):(ndAt ns i).kids.length≤12:=by
 rw[Bn hy];exact(PF h hy).1
theorem b1B{ns:List Nd}{i j:Int}{y:Nd}(h:tI ns)(hy:ns[i.toNat]? =some y):(tk ns i j).length≤3612:=by
 have h1:= @b1z ns i j h;have h2:=a1X h hy
 rw[tk,List.length_append,List.length_take];omega
theorem a1Y{ns:List Nd}{i j v:Int}{c:Nat}{y:Nd}(h:tI ns)(hv:(cnt ns.length (tk ns i j))[c]? =some v)(hy:ns[i.toNat]? =some y):0≤v∧v≤3612:=by
 have h1:=b1A hv;have h2:= @b1B ns i j y h hy;omega
theorem KB{x a b:Int}:inn x a b=true↔a≤x∧x≤b:=by simp [inn]
theorem a1Z{ns:List Nd}{y:Nd}(h:inn ns.length 1 300=true)(hy:ns[(ns.length-1:Int).toNat]? =some y)(hk:y.kind=22)(hd:BA ns (ns.length-1)≠0):tI ns:=by
 have:=KB.1 h
 exact⟨by omega,by omega,by rw[As,Bn hy,hk],hd⟩
theorem a2a{ns:List Nd}(h:inn ns.length 1 300=false):¬tI ns:=by
 intro hh;have:inn ns.length 1 300=true:=KB.2 ⟨by have:=hh.1;omega,by have:=hh.2.1;omega⟩
 rw[h] at this;cases this
theorem a2b{ns:List Nd}{y:Nd}(hy:ns[(ns.length-1:Int).toNat]? =some y)(hk:y.kind≠22):¬tI ns:=by
 intro hh;have:=hh.2.2.1;rw[As,Bn hy] at this;exact hk this
theorem a2c{ns:List Nd}{i:Int}(hl:¬i<ns.length):BU (ns.take i.toNat)=BU ns:=by rw[List.take_of_length_le (by omega)]
theorem b1C{ns:List Nd}{i v:Int}(h:tE ns i)(hl:i<(ns.length-1:Int))(hv:(((cnt ns.length (BU ns)).take (ns.length-1:Int).toNat)[i.toNat]?)=some v)(h1:v=1):tE ns (i+1):=by
 have:=a1U hv h.1 hl
 refine⟨by have:=h.1;omega,by omega,fun c hc=> ?_⟩
 by_cases e:(c:Int)<i
 ·exact h.2.2 c e
 ·have:=h.1
  obtain rfl:i=(c:Int):=by omega
  omega
def RU(x:List Nd)(o:Int):LS:= {
 ι:=Int,inv:=fun j=>0≤j∧j≤(ndAt x o).kids.length,
 regs:=fun j=>[(0,nds x),(3,.int .i64 x.length),(4,Ab (cnt x.length (tk x o j))),(34,nds x),(35,.int .i64 x.length),(36,.int .i64 o),(41,Af (ndAt x o).kids),(42,.int .i64 (ndAt x o).kids.length),(43,.int .i64 j)],als:=[],meas:=fun j=>(ndAt x o).kids.length-j.toNat}
def RV(x:List Nd):LS:= {
 ι:=Int,inv:=fun i=>0≤i∧i≤x.length,
 regs:=fun i=>[(0,nds x),(3,.int .i64 x.length),(4,Ab (cnt x.length (BU (x.take i.toNat)))),(34,nds x),(35,.int .i64 x.length),(36,.int .i64 i)],als:=[],meas:=fun i=>x.length-i.toNat,
 sub:=fun i=>[(9,RU x i)]}
def RW(x:List Nd):LS:= {
 ι:=Int,inv:=tE x,
 regs:=fun i=>[(58,Ab ((cnt x.length (BU x)).take (x.length-1:Int).toNat)),(59,.int .i64 (x.length-1)),(60,.int .i64 i)],als:=[],meas:=fun i=>x.length-1-i.toNat}
def Hd:Sig:= {X:=List Nd,args:=fun x=>[nds x],pre:=fun x=>BM x∧x.length≤2^30,Y:=Unit,post:=fun x y=>True,res:=fun x y=> .bool (Bf x),outs:=fun x y=>[.top],keep:=false}
theorem a2d:Aj G Tryz.prog 37 Hd:=
 vcFun_okP [(66,0,FC),(67,0,JG)] [(25,⟨Int,AZ⟩)] false (fun x=>[(6,RV x),(15,RW x)]) Tryz.func37 rfl (by decide) ⟨RE,b1w,trivial⟩ (fun(x:List Nd)=>(∀(y:Unit),True→True∧True∧True)∧cA FC [.int .i64 (↑(List.length x):Int),.int .i64 (1:Int),.int .i64 (300:Int)] fun x_1 y=>Aa (!inn x_1.1 x_1.2.1 x_1.2.2) (rA Hd x [.bool false,.top]) (inR IntKind.i64 ((↑(List.length x):Int)-(1:Int))∧((0:Int)≤(↑(List.length x):Int)-(1:Int)∧(↑(List.length x):Int)-(1:Int)<(↑(List.length x):Int))∧∀(e:Nd),x[Int.toNat ((↑(List.length x):Int)-(1:Int))]? =some e→Aa (e.kind != (22:Int)) (rA Hd x [.bool false,.top]) (inR IntKind.i64 ((↑(List.length x):Int)-(1:Int))∧cA JG [nds x,.int .i64 ((↑(List.length x):Int)-(1:Int))] fun x_2 y=>Aa (BA x_2.1 x_2.2==(0:Int)) (rA Hd x [.bool false,.top]) (((0:Int)≤(↑(List.length x):Int)∧(↑(List.length x):Int)≤(↑(List.length x):Int)∧(↑(8:Nat):Int)*(↑(List.length x):Int)≤(2:Int)^(46:Nat)∧(↑(List.length x):Int)≤(2:Int)^(46:Nat))∧∃(x_3:Int),(0:Int)=x_3∧eA (RV x) [nds x,.int .i64 (↑(List.length x):Int),Ab (List.replicate (Int.toNat (↑(List.length x):Int)) x_3),nds x,.int .i64 (↑(List.length x):Int),.int .i64 (0:Int)]∧∀(i:Int),(0:Int)≤i∧i≤(↑(List.length x):Int)→Aa (decide (i<(↑(List.length x):Int))) (((0:Int)≤i∧i<(↑(List.length x):Int))∧∀(e:Nd),x[Int.toNat i]? =some e→eA (RU x i) [nds x,.int .i64 (↑(List.length x):Int),Ab (cnt (List.length x) (BU (List.take (Int.toNat i) x))),nds x,.int .i64 (↑(List.length x):Int),.int .i64 i,Af e.kids,.int .i64 (↑(List.length e.kids):Int),.int .i64 (0:Int)]∧∀(i_1:Int),(0:Int)≤i_1∧i_1≤(↑(List.length (ndAt x i).kids):Int)→Aa (decide (i_1<(↑(List.length (ndAt x i).kids):Int))) (((0:Int)≤i_1∧i_1<(↑(List.length (ndAt x i).kids):Int))∧∀(e:Int),(ndAt x i).kids[Int.toNat i_1]? =some e→((0:Int)≤e∧e<(↑(List.length (cnt (List.length x) (tk x i i_1))):Int))∧Int.toNat e<List.length (cnt (List.length x) (tk x i i_1))∧∀(x_4:Int),(cnt (List.length x) (tk x i i_1))[Int.toNat e]? =some x_4→inR IntKind.i64 (x_4+(1:Int))∧((0:Int)≤e∧e<(↑(List.length (cnt (List.length x) (tk x i i_1))):Int))∧Int.toNat e<List.length (cnt (List.length x) (tk x i i_1))∧∀(x_5:Int),(cnt (List.length x) (tk x i i_1))[Int.toNat e]? =some x_5→∃(x':Int),((@List.nil AV)=[]∧(@List.nil AV)=[])∧x_4+(1:Int)=x'∧inR IntKind.i64 (i_1+(1:Int))∧eN (RU x i) i_1 [nds x,.int .i64 (↑(List.length x):Int),Ab (List.set (cnt (List.length x) (tk x i i_1)) (Int.toNat e) x'),nds x,.int .i64 (↑(List.length x):Int),.int .i64 i,Af (ndAt x i).kids,.int .i64 (↑(List.length (ndAt x i).kids):Int),.int .i64 (i_1+(1:Int))]) (inR IntKind.i64 (i+(1:Int))∧eN (RV x) i [nds x,.int .i64 (↑(List.length x):Int),Ab (cnt (List.length x) (tk x i i_1)),nds x,.int .i64 (↑(List.length x):Int),.int .i64 (i+(1:Int))])) (inR IntKind.i64 ((↑(List.length x):Int)-(1:Int))∧((0:Int)≤(0:Int)∧(0:Int)≤(↑(List.length x):Int)-(1:Int)∧(↑(List.length x):Int)-(1:Int)≤(↑(List.length (cnt (List.length x) (BU (List.take (Int.toNat i) x)))):Int))∧eA (RW x) [Ab (List.take (Int.toNat ((↑(List.length x):Int)-(1:Int))) (cnt (List.length x) (BU (List.take (Int.toNat i) x)))),.int .i64 (↑(List.length (List.take (Int.toNat ((↑(List.length x):Int)-(1:Int))) (cnt (List.length x) (BU (List.take (Int.toNat i) x))))):Int),.int .i64 (0:Int)]∧∀(i:Int),tE x i→Aa (decide (i<(↑(List.length x):Int)-(1:Int))) (((0:Int)≤i∧i<(↑(List.length (List.take (Int.toNat ((↑(List.length x):Int)-(1:Int))) (cnt (List.length x) (BU x)))):Int))∧Int.toNat i<List.length (List.take (Int.toNat ((↑(List.length x):Int)-(1:Int))) (cnt (List.length x) (BU x)))∧∀(x_4:Int),(List.take (Int.toNat ((↑(List.length x):Int)-(1:Int))) (cnt (List.length x) (BU x)))[Int.toNat i]? =some x_4→Aa (x_4 != (1:Int)) (rA Hd x [.bool false,.top]) (inR IntKind.i64 (i+(1:Int))∧eN (RW x) i [Ab (List.take (Int.toNat ((↑(List.length x):Int)-(1:Int))) (cnt (List.length x) (BU x))),.int .i64 ((↑(List.length x):Int)-(1:Int)),.int .i64 (i+(1:Int))])) (rA Hd x [.bool true,.top])))))) (fun x=>by kernel_rfl) fun(x:List Nd) (hx:BM x∧x.length≤2^30)=>(by
 dsimp only[cA,eA,eN,Af,RV,RU,RW,Bu,nds,Ab,rA,JG,Hd,FC,Au,Az,mvL,lnL,mvE,lnE,Br]
 obtain⟨h1,h2⟩:=hx;have hl:=h1.1
 (repeat' first|(with_reducible first|rfl|exact True.intro|apply AK|apply And.intro|((first|apply AA|apply AI|apply AB|apply AJ)<;>intro _))|(apply Ax<;>intro _)|apply AH|refine Ae () ?_ ?_|((first|apply AO|apply AN|apply AM|apply AL|apply AG|apply AF|apply AE|apply AD|apply AC)<;>try dsimp only)|apply Ae|(refine Prod.forall.2 ?_;intro _;try dsimp only)|(intro _;try dsimp only))
 all_goals try(have t1:=KB.1 (show inn x.length 1 300=true by assumption))
 all_goals try(have t0:=a1Z ‹_› ‹_› ‹_› ‹_›)
 all_goals first
  |rfl
  |exact NG (a2a ‹_›)
  |exact NG (a2b ‹_› ‹_›)
  |exact NG (fun h=>h.2.2.2 ‹_›)
  |exact a1P
  |(rw[a1R];done)
  |(rw[Bn ‹_›];done)
  |exact(PG ‹_› ‹_› ‹_›).1
  |(rw[Hc];exact(PG ‹_› ‹_› ‹_›).2)
  |(have:=PG ‹_› (show(ndAt x _).kids[_]? =some _ by assumption) ‹_›;rw[Hc];omega)
  |(rw[a1S (by omega) ‹_›];exact a1Q (PG ‹_› ‹_› ‹_›).1 (PG ‹_› ‹_› ‹_›).2 ‹_›)
  |(rw[a1T (by omega) ‹_› ‹_›];done)
  |(rw[a2c ‹_›];done)
  |(have:=a1Y ‹_› ‹_› ‹_›;omega)
  |(have:=a1X ‹_› ‹_›;(try simp only[AQ] at*);omega)
  |exact a1V ‹_› ‹_› ‹_›
  |exact a1W (a1U ‹_› (‹tE _ _›.1) ‹_›) (‹tE _ _›.1) ‹_› ‹_›
  |exact b1C ‹_› ‹_› ‹_› ‹_›
  |exact⟨by omega,by omega,fun c hc=>by omega⟩
  |(rw[List.length_take,Hc];omega)
  |((try simp only[AQ,AY,List.length_replicate,Hc] at*);omega)
  |(obtain⟨_,_,_⟩:= ‹tE _ _›;(try rw[List.length_take,Hc]);(try simp only[AQ] at*);omega)
  |skip)
def Jc:Sig:= {X:=Int,args:=fun x=>[.int .i64 x],pre:=fun x=>True,Y:=Unit,post:=fun x y=>True,res:=fun x y=> .bool (BG x),outs:=fun x y=>[.top],keep:=false}
theorem b1D:Aj G Tryz.prog 158 Jc:=
 vcFun_okP [(46,0,CP)] [] false (fun x=>[]) Tryz.func158 rfl (by decide) ⟨Kw,trivial⟩ (fun(x:Int)=>(∀(y:Unit),True→True∧True∧True)∧cA CP [.int .i64 x,.int .i64 (1:Int),.int .i64 (11:Int)] fun x_1 y=>rA Jc x [.bool (inn x_1.1 x_1.2.1 x_1.2.2),.top]) (fun x=>by kernel_rfl) fun(x:Int) (hx:True)=>(by
 dsimp only[cA,rA,CP,Jc,Au,Az,mvL,lnL,mvE,lnE]
 (repeat' first|(with_reducible first|rfl|exact True.intro|apply AK|apply And.intro|((first|apply AA|apply AI|apply AB|apply AJ)<;>intro _))|(apply Ax<;>intro _)|apply AH|refine Ae () ?_ ?_|((first|apply AO|apply AN|apply AM|apply AL|apply AG|apply AF|apply AE|apply AD|apply AC)<;>try dsimp only)|apply Ae|(refine Prod.forall.2 ?_;intro _;try dsimp only)|(intro _;try dsimp only))<;>(try dsimp only at*)<;>(try simp only[AQ,List.length_cons,List.length_nil])<;>(try omega)
 all_goals simp [BG,Gx, *])
def Jd:Sig:= {X:=Int,args:=fun x=>[.int .i64 x],pre:=fun x=>True,Y:=Unit,post:=fun x y=>True,res:=fun x y=> .bool (DT x),outs:=fun x y=>[.top],keep:=false}
theorem a2e:Aj G Tryz.prog 129 Jd:=
 vcFun_okP [(46,0,CP)] [] false (fun x=>[]) Tryz.func129 rfl (by decide) ⟨Kw,trivial⟩ (fun(x:Int)=>(∀(y:Unit),True→True∧True∧True)∧cA CP [.int .i64 x,.int .i64 (12:Int),.int .i64 (17:Int)] fun x_1 y=>Aa (inn x_1.1 x_1.2.1 x_1.2.2) (rA Jd x [.bool true,.top]) (rA Jd x [.bool (x==(19:Int)),.top])) (fun x=>by kernel_rfl) fun(x:Int) (hx:True)=>(by
 dsimp only[cA,rA,CP,Jd,Au,Az,mvL,lnL,mvE,lnE]
 (repeat' first|(with_reducible first|rfl|exact True.intro|apply AK|apply And.intro|((first|apply AA|apply AI|apply AB|apply AJ)<;>intro _))|(apply Ax<;>intro _)|apply AH|refine Ae () ?_ ?_|((first|apply AO|apply AN|apply AM|apply AL|apply AG|apply AF|apply AE|apply AD|apply AC)<;>try dsimp only)|apply Ae|(refine Prod.forall.2 ?_;intro _;try dsimp only)|(intro _;try dsimp only))<;>(try dsimp only at*)<;>(try simp only[AQ,List.length_cons,List.length_nil])<;>(try omega)
 all_goals simp [DT,JC,Gx, *])
def DF:Sig:= {X:=Int,args:=fun x=>[.int .i64 x],pre:=fun x=>True,Y:=Unit,post:=fun x y=>True,res:=fun x y=> .tup [.int .i64 (FE x).1,.int .i64 (FE x).2],outs:=fun x y=>[.top],keep:=false}
theorem b1E:Aj G Tryz.prog 127 DF:=
 vcFun_okP [] [] false (fun x=>[]) Tryz.func127 rfl (by decide) trivial (fun(x:Int)=>(∀(y:Unit),True→(True∧True∧True)∧True∧True)∧Aa (x==(4:Int)) (rA DF x [.tup [.int .i64 (0:Int),.int .i64 (12:Int)],.top]) (Aa (x==(18:Int)) (rA DF x [.tup [.int .i64 (0:Int),.int .i64 (12:Int)],.top]) (Aa (x==(21:Int)) (rA DF x [.tup [.int .i64 (0:Int),.int .i64 (12:Int)],.top]) (Aa (x==(22:Int)) (rA DF x [.tup [.int .i64 (0:Int),.int .i64 (12:Int)],.top]) (Aa (x==(5:Int)) (rA DF x [.tup [.int .i64 (1:Int),.int .i64 (12:Int)],.top]) (Aa (x==(9:Int)) (rA DF x [.tup [.int .i64 (1:Int),.int .i64 (12:Int)],.top]) (Aa (x==(20:Int)) (rA DF x [.tup [.int .i64 (1:Int),.int .i64 (12:Int)],.top]) (Aa (x==(6:Int)) (rA DF x [.tup [.int .i64 (1:Int),.int .i64 (1:Int)],.top]) (Aa (x==(11:Int)) (rA DF x [.tup [.int .i64 (1:Int),.int .i64 (1:Int)],.top]) (Aa (x==(13:Int)) (rA DF x [.tup [.int .i64 (1:Int),.int .i64 (1:Int)],.top]) (Aa (x==(14:Int)) (rA DF x [.tup [.int .i64 (1:Int),.int .i64 (1:Int)],.top]) (Aa (x==(7:Int)) (rA DF x [.tup [.int .i64 (2:Int),.int .i64 (12:Int)],.top]) (Aa (x==(10:Int)) (rA DF x [.tup [.int .i64 (2:Int),.int .i64 (12:Int)],.top]) (Aa (x==(8:Int)) (rA DF x [.tup [.int .i64 (3:Int),.int .i64 (3:Int)],.top]) (Aa (x==(12:Int)) (rA DF x [.tup [.int .i64 (0:Int),.int .i64 (1:Int)],.top]) (Aa (x==(15:Int)) (rA DF x [.tup [.int .i64 (0:Int),.int .i64 (1:Int)],.top]) (Aa (x==(16:Int)) (rA DF x [.tup [.int .i64 (2:Int),.int .i64 (3:Int)],.top]) (Aa (x==(17:Int)) (rA DF x [.tup [.int .i64 (2:Int),.int .i64 (2:Int)],.top]) (rA DF x [.tup [.int .i64 (0:Int),.int .i64 (0:Int)],.top]))))))))))))))))))) (fun x=>by kernel_rfl) fun(x:Int) (hx:True)=>(by
 dsimp only[rA,DF,Au,Az]
 (repeat' first|(with_reducible first|rfl|exact True.intro|apply AK|apply And.intro|((first|apply AA|apply AI|apply AB|apply AJ)<;>intro _))|(apply Ax<;>intro _)|apply AH|refine Ae () ?_ ?_|((first|apply AO|apply AN|apply AM|apply AL|apply AG|apply AF|apply AE|apply AD|apply AC)<;>try dsimp only)|apply Ae|(refine Prod.forall.2 ?_;intro _;try dsimp only)|(intro _;try dsimp only))<;>(try dsimp only at*)<;>(try simp only[AQ,List.length_cons,List.length_nil])<;>(try omega)
 all_goals simp [FE, *])
def Iw(x:List Nd×Int×Int):Prop:=BM x.1∧Bz x.1 x.2.1=true∧((ndAt x.1 x.2.1).kind=10→∀c,(ndAt x.1 x.2.1).kids[x.2.2.toNat]? =some c→As x.1 c=5→∃h t,(ndAt x.1 c).kids=h::t∧Bz x.1 h=true)∧
 (0≤x.2.2∧x.2.2<(ndAt x.1 x.2.1).kids.length)∧∀c,(ndAt x.1 x.2.1).kids[x.2.2.toNat]? =some c→0≤c∧c<x.1.length
theorem Wv{x:List Nd×Int×Int}{y:Nd}(h:Iw x)(hy:x.1[x.2.1.toNat]? =some y):0≤x.2.2∧x.2.2<y.kids.length:=by
 have:=h.2.2.2.1;rwa [Bn hy] at this
theorem a2f{x:List Nd×Int×Int}{y:Nd}{c:Int}(h:Iw x)(hy:x.1[x.2.1.toNat]? =some y)(hc:y.kids[x.2.2.toNat]? =some c):0≤c∧c<x.1.length:=by
 have:=h.2.2.2.2 c;rw[Bn hy] at this;exact this hc
theorem a2g{x:List Nd×Int×Int}{y z:Nd}{c:Int}(h:Iw x)(hy:x.1[x.2.1.toNat]? =some y)(hc:y.kids[x.2.2.toNat]? =some c)(hz:x.1[c.toNat]? =some z)(hk:y.kind=10)(hz5:z.kind=5):∃h t,z.kids=h::t∧Bz x.1 h=true:=by
 have:=h.2.2.1;rw[Bn hy] at this
 have:=this hk c hc;rw[As,Bn hz] at this;exact this hz5
theorem a2h{x:List Nd×Int×Int}{y z:Nd}{c d:Int}(h:Iw x)(hy:x.1[x.2.1.toNat]? =some y)(hc:y.kids[x.2.2.toNat]? =some c)(hz:x.1[c.toNat]? =some z)(hk:y.kind=10)(hz5:z.kind=5)(hd:z.kids[0]? =some d):(0≤d∧d<x.1.length)∧z.kids.headD 0=d:=by
 obtain⟨a,t,e,ha⟩:=a2g h hy hc hz hk hz5
 rw[e] at hd ⊢;cases hd;exact⟨BV.1 ha,rfl⟩
theorem a2i{x:List Nd×Int×Int}{y z:Nd}{c:Int}(h:Iw x)(hy:x.1[x.2.1.toNat]? =some y)(hc:y.kids[x.2.2.toNat]? =some c)(hz:x.1[c.toNat]? =some z)(hk:y.kind=10)(hz5:z.kind=5):0<z.kids.length:=by
 obtain⟨a,t,e,ha⟩:=a2g h hy hc hz hk hz5
 rw[e];simp
def LP(x:List Nd×Int×Int):Bool:=Lz x.1 (ndAt x.1 x.2.1) x.2.2 ((ndAt x.1 x.2.1).kids.getD x.2.2.toNat 0)
theorem a2j{x:List Nd×Int×Int}{y z:Nd}{c:Int}(hy:x.1[x.2.1.toNat]? =some y)(hc:y.kids[x.2.2.toNat]? =some c)(hz:x.1[c.toNat]? =some z):
 LP x=(Hb y.kind y.kids.length x.2.2 z.kind&&(if y.kind=10∧0<x.2.2 then decide (As x.1 (z.kids.headD 0)=1) else true)):=by
 rw[LP,Bn hy,List.getD,hc,Option.getD_some,Lz,As,Bn hz]
def Dx:Sig:= {X:=List Nd×Int×Int,args:=fun x=>[nds x.1,.int .i64 x.2.1,.int .i64 x.2.2],pre:=fun x=>Iw x,Y:=Unit,post:=fun x y=>True,res:=fun x y=> .bool (LP x),outs:=fun x y=>[.top,.top,.top],keep:=false}
theorem b1F:Aj G Tryz.prog 130 Dx:=
 vcFun_okP [(158,0,Jc),(129,0,Jd)] [] false (fun x=>[]) Tryz.func130 rfl (by decide) ⟨b1D,a2e,trivial⟩ (fun(x:List Nd×Int×Int)=>(∀(y:Unit),True→True∧True∧True∧True∧True)∧((0:Int)≤x.2.1∧x.2.1<(↑(List.length x.1):Int))∧∀(e:Nd),x.1[Int.toNat x.2.1]? =some e→((0:Int)≤x.2.2∧x.2.2<(↑(List.length e.kids):Int))∧∀(e_1:Int),e.kids[Int.toNat x.2.2]? =some e_1→((0:Int)≤e_1∧e_1<(↑(List.length x.1):Int))∧∀(e_2:Nd),x.1[Int.toNat e_1]? =some e_2→Aa (e.kind==(9:Int)) (inR IntKind.i64 (x.2.2+(1:Int))∧Aa (decide (x.2.2+(1:Int)<(↑(List.length e.kids):Int))) (rA Dx x [.bool (e_2.kind==(1:Int)),.top,.top,.top]) (cA Jc [.int .i64 e_2.kind] fun x_1 y=>rA Dx x [.bool (BG x_1),.top,.top,.top])) (Aa (e.kind==(20:Int)) (inR IntKind.i64 (x.2.2+(1:Int))∧Aa (decide (x.2.2+(1:Int)<(↑(List.length e.kids):Int))) (rA Dx x [.bool (e_2.kind==(1:Int)),.top,.top,.top]) (rA Dx x [.bool (e_2.kind==(18:Int)),.top,.top,.top])) (Aa (e.kind==(10:Int)) (Aa (decide (x.2.2>(0:Int))) (Aa (e_2.kind==(5:Int)) (((0:Int)≤(0:Int)∧(0:Int)<(↑(List.length e_2.kids):Int))∧∀(e:Int),e_2.kids[(0:Nat)]? =some e→((0:Int)≤e∧e<(↑(List.length x.1):Int))∧∀(e_3:Nd),x.1[Int.toNat e]? =some e_3→rA Dx x [.bool (e_3.kind==(1:Int)),.top,.top,.top]) (rA Dx x [.bool false,.top,.top,.top])) (cA Jc [.int .i64 e_2.kind] fun x_1 y=>rA Dx x [.bool (BG x_1),.top,.top,.top])) (Aa (e.kind==(16:Int)) (Aa (decide (x.2.2>(0:Int))) (rA Dx x [.bool (e_2.kind==(18:Int)),.top,.top,.top]) (cA Jc [.int .i64 e_2.kind] fun x_1 y=>rA Dx x [.bool (BG x_1),.top,.top,.top])) (Aa (e.kind==(17:Int)) (Aa (decide (x.2.2>(0:Int))) (rA Dx x [.bool (e_2.kind==(18:Int)),.top,.top,.top]) (cA Jc [.int .i64 e_2.kind] fun x_1 y=>rA Dx x [.bool (BG x_1),.top,.top,.top])) (Aa (e.kind==(18:Int)) (cA Jd [.int .i64 e_2.kind] fun x_1 y=>rA Dx x [.bool (DT x_1),.top,.top,.top]) (Aa (e.kind==(21:Int)) (Aa (e_2.kind==(12:Int)) (rA Dx x [.bool true,.top,.top,.top]) (Aa (e_2.kind==(20:Int)) (rA Dx x [.bool true,.top,.top,.top]) (rA Dx x [.bool (e_2.kind==(19:Int)),.top,.top,.top]))) (Aa (e.kind==(22:Int)) (Aa (e_2.kind==(21:Int)) (rA Dx x [.bool true,.top,.top,.top]) (Aa (e_2.kind==(12:Int)) (rA Dx x [.bool true,.top,.top,.top]) (Aa (e_2.kind==(20:Int)) (rA Dx x [.bool true,.top,.top,.top]) (rA Dx x [.bool (e_2.kind==(19:Int)),.top,.top,.top])))) (cA Jc [.int .i64 e_2.kind] fun x_1 y=>rA Dx x [.bool (BG x_1),.top,.top,.top]))))))))) (fun x=>by kernel_rfl) fun(x:List Nd×Int×Int) (hx:Iw x)=>(by
 dsimp only[cA,Bu,nds,rA,Dx,Jd,Jc,Au,Az,mvL,lnL,mvE,lnE]
 have h:=hx;have h1:=h.1;have hl:=h1.1;have hn:=BV.1 h.2.1
 (repeat' first|(with_reducible first|rfl|exact True.intro|apply AK|apply And.intro|((first|apply AA|apply AI|apply AB|apply AJ)<;>intro _))|(apply Ax<;>intro _)|apply AH|refine Ae () ?_ ?_|((first|apply AO|apply AN|apply AM|apply AL|apply AG|apply AF|apply AE|apply AD|apply AC)<;>try dsimp only)|apply Ae|(refine Prod.forall.2 ?_;intro _;try dsimp only)|(intro _;try dsimp only))
 all_goals first
  |omega
  |exact(Wv h ‹_›).1
  |exact(Wv h ‹_›).2
  |exact(a2f h ‹_› ‹_›).1
  |exact(a2f h ‹_› ‹_›).2
  |exact a2i h ‹_› ‹_› ‹_› ‹_› ‹_›
  |(have:=a2i h ‹_› ‹_› ‹_› ‹_› ‹_›;omega)
  |(have:=(a2h h ‹_› ‹_› ‹_› ‹_› ‹_› ‹_›).1;omega)
  |(have hk:=(h1.2 _ (BO (show x.1[x.2.1.toNat]? =some _ by assumption))).2;have:=Wv h ‹_›;(try simp only[AQ]);omega)
  |(rw[a2j ‹_› ‹_› ‹_›];simp [Hb,EA,CU,Ez,FA,FY,Gx, *];done)
  |(rw[a2j ‹_› ‹_› ‹_›,(a2h h ‹_› ‹_› ‹_› ‹_› ‹_› ‹_›).2,As,Bn ‹_›];simp [Hb,FY,Gx, *];done)
  |skip)
def koI(ns:List Nd)(x:Nd)(i:Int):Prop:=0≤i∧i≤x.kids.length∧∀(j:Nat) c,(j:Int)<i→x.kids[j]? =some c→DY ns x j c=true
theorem b1G{ns:List Nd}{x:Nd}:koI ns x 0:=⟨by omega,by omega,fun j c h=>by omega⟩
theorem a2k{ns:List Nd}{x:Nd}{i c:Int}(h:koI ns x i)(hc:x.kids[i.toNat]? =some c)(hk:DY ns x i c=true):koI ns x (i+1):=by
 obtain⟨h1,h2,h3⟩:=h
 have:=(DK hc).1
 refine⟨by omega,by omega,fun j d hj hd=> ?_⟩
 by_cases e:(j:Int)<i
 ·exact h3 j d e hd
 ·obtain rfl:j=i.toNat:=by omega
  rw[hc] at hd;cases hd
  rwa [show((i.toNat:Nat):Int)=i by omega]
theorem b1H{ns:List Nd}{x:Nd}{i:Int}(h:koI ns x i)(hl:¬i<x.kids.length):BW (DY ns x) x.kids 0=true:=by
 rw[Wn];intro j c hc
 exact h.2.2 j c (by have:=(DK hc).1;omega) hc
theorem RX{ns:List Nd}{x:Nd}{i c:Int}(h0:0≤i)(hc:x.kids[i.toNat]? =some c)(hk:DY ns x i c=false):BW (DY ns x) x.kids 0=false:=by
 rw[Bool.eq_false_iff];intro h
 rw[Wn] at h
 have:=h _ _ hc
 rw[show((i.toNat:Nat):Int)=i by omega,hk] at this;cases this
theorem ko1{ns:List Nd}{x y:Nd}{i c:Int}(hy:ns[c.toNat]? =some y)(h:y.kind=5)(h0:(y.kids.length:Int)=0):DY ns x i c=false:=by
 have h0:=List.length_eq_zero_iff.1 (show y.kids.length=0 by omega)
 simp [DY,As,Bn hy,h,h0]
theorem JH{ns:List Nd}{d:Int}:inn d 0 (ns.length-1)=Bz ns d:=by
 rw[Bool.eq_iff_iff];simp only[inn,Bz,Bool.and_eq_true,decide_eq_true_eq];omega
theorem ko2{ns:List Nd}{x y:Nd}{i c d:Int}(hy:ns[c.toNat]? =some y)(h:y.kind=5)(h0:y.kids[0]? =some d)(hd:inn d 0 (ns.length-1)=false):DY ns x i c=false:=by
 rw[JH] at hd
 match hk:y.kids with
 |[]=>rw[hk] at h0;cases h0
 |e::t=>rw[hk] at h0;cases h0;simp [DY,As,Bn hy,h,hk,hd]
theorem ko3{ns:List Nd}{x y:Nd}{i c d:Int}(hy:ns[c.toNat]? =some y)(h:y.kind=5)(h0:y.kids[0]? =some d)(hd:inn d 0 (ns.length-1)=true):DY ns x i c=Lz ns x i c:=by
 rw[JH] at hd
 match hk:y.kids with
 |[]=>rw[hk] at h0;cases h0
 |e::t=>rw[hk] at h0;cases h0;simp [DY,As,Bn hy,h,hk,hd]
theorem ko4{ns:List Nd}{x y:Nd}{i c:Int}(hy:ns[c.toNat]? =some y)(h:y.kind≠5):DY ns x i c=Lz ns x i c:=by
 simp [DY,As,Bn hy,h]
theorem RY{ns:List Nd}{x:Nd}{k i c:Int}{b:Bool}(hx:ns[k.toNat]? =some x)(hc:x.kids[i.toNat]? =some c)(hb:LP (ns,k,i)=b):Lz ns x i c=b:=by
 rw[←hb,LP,Bn hx,List.getD,hc,Option.getD_some]
theorem b1I{ns:List Nd}{x y:Nd}{k i c d:Int}(h1:BM ns)(hn:Bz ns k=true)(hx:ns[k.toNat]? =some x)(hin:DE x.kids k=true)(hi:koI ns x i)(hc:x.kids[i.toNat]? =some c)(hy:ns[c.toNat]? =some y)(h0:y.kids[0]? =some d)(hd:inn d 0 (ns.length-1)=true):Iw (ns,k,i):=by
 have hk:=BV.1 hn
 have:=(DK hc).1
 unfold Iw;simp only[Bn hx]
 refine⟨h1,hn,fun h10 c' hc' h5=> ?_,⟨hi.1,by omega⟩,fun c' hc'=> ?_⟩
 ·rw[hc] at hc';cases hc'
  rw[Bn hy]
  match hkk:y.kids with
  |[]=>rw[hkk] at h0;cases h0
  |e::t=>rw[hkk] at h0;cases h0;exact⟨_,_,rfl,by rw[←JH];exact hd⟩
 ·simp only[DE,List.all_eq_true,Bool.and_eq_true,decide_eq_true_eq] at hin
  have:=hin c' (BO hc');omega
theorem b1J{ns:List Nd}{x y:Nd}{k i c:Int}(h1:BM ns)(hn:Bz ns k=true)(hx:ns[k.toNat]? =some x)(hin:DE x.kids k=true)(hi:koI ns x i)(hc:x.kids[i.toNat]? =some c)(hy:ns[c.toNat]? =some y)(h5:y.kind≠5):Iw (ns,k,i):=by
 have hk:=BV.1 hn
 have:=(DK hc).1
 unfold Iw;simp only[Bn hx]
 refine⟨h1,hn,fun h10 c' hc' h5'=> ?_,⟨hi.1,by omega⟩,fun c' hc'=> ?_⟩
 ·rw[hc] at hc';cases hc'
  rw[As,Bn hy] at h5';exact(h5 h5').elim
 ·simp only[DE,List.all_eq_true,Bool.and_eq_true,decide_eq_true_eq] at hin
  have:=hin c' (BO hc');omega
theorem a2l{k:Int}:HJ k=(DT k||(decide (k=20)||decide (k=21))):=by
 rw[Bool.eq_iff_iff]
 simp only[HJ,DT,Ez,JC,inn,Bool.or_eq_true,Bool.and_eq_true,decide_eq_true_eq];omega
theorem a2m{ns:List Nd}{k:Int}(h:inn k 0 (ns.length-1)=false):false=BH ns k:=by rw[JH] at h;exact a1I h
theorem PH{ns:List Nd}{k:Int}{x:Nd}(hx:ns[k.toNat]? =some x)(h:inn k 0 (ns.length-1)=true):BH ns k=(inn x.kind 1 22&&(inn x.kids.length (FE x.kind).1 (FE x.kind).2&&(Fg x.kind x.text&&((HJ x.kind|| !x.blank)&&((DE x.kids k&&decide x.kids.Nodup)&&BW (DY ns x) x.kids 0))))):=by
 rw[JH] at h;rw[NF hx h,b0C]
theorem b1K{ns:List Nd}{k:Int}{x:Nd}(hx:ns[k.toNat]? =some x)(h:inn k 0 (ns.length-1)=true)(h1:DE x.kids k=false):false=BH ns k:=by
 rw[PH hx h,h1];simp
theorem b1L{ns:List Nd}{k:Int}{x:Nd}(hx:ns[k.toNat]? =some x)(h:inn k 0 (ns.length-1)=true)(h1:¬x.kids.Nodup):false=BH ns k:=by
 rw[PH hx h,decide_eq_false h1];simp
theorem RZ{ns:List Nd}{k:Int}{x:Nd}(hx:ns[k.toNat]? =some x)(h:inn k 0 (ns.length-1)=true)(h1:BW (DY ns x) x.kids 0=false):false=BH ns k:=by
 rw[PH hx h,h1];simp
theorem b1M{ns:List Nd}{k:Int}{x:Nd}(hx:ns[k.toNat]? =some x)(h:inn k 0 (ns.length-1)=true)(h1:inn x.kind 1 22=true)(h2:inn x.kids.length (FE x.kind).1 (FE x.kind).2=true)(h3:Fg x.kind x.text=true)(h4:(HJ x.kind|| !x.blank)=true)
 (h5:DE x.kids k=true∧x.kids.Nodup) (h6:BW (DY ns x) x.kids 0=true):true=BH ns k:=by
 rw[PH hx h,h1,h2,h3,h4,h5.1,h6,decide_eq_true h5.2];rfl
theorem b1N{k c:Int}{l:List Int}{n:Nat}(hc:l[n]? =some c)(h:inn c 0 (k-1)=false):DE l k=false:=by
 rw[Bool.eq_false_iff];intro hh;simp only[DE,List.all_eq_true,Bool.and_eq_true,decide_eq_true_eq] at hh
 have:=hh c (BO hc)
 have:inn c 0 (k-1)=true:=KB.2 (by omega)
 rw[h] at this;cases this
def djI(l:List Int)(i j:Int):Prop:=0≤j∧j≤i∧∀c,l[i.toNat]? =some c→(l.take j.toNat).elem c=false
theorem b1O{l:List Int}{i:Int}(h:0≤i):djI l i 0:=⟨by omega,h,by simp⟩
theorem b1P{l:List Int}{i j c d:Int}(h:djI l i j)(hl:j<i)(hc:l[i.toNat]? =some c)(hd:l[j.toNat]? =some d)(hne:c≠d):djI l i (j+1):=by
 refine⟨by have:=h.1;omega,by omega,fun c' hc'=> ?_⟩
 have h3:=h.2.2 c' hc'
 rw[hc] at hc';cases hc'
 rw[Da h.1,Ey hd]
 simp at h3 ⊢
 exact⟨h3,hne⟩
theorem b1Q{l:List Int}{i j c d:Int}(h0:djI l i j)(hl:j<i)(hc:l[i.toNat]? =some c)(hd:l[j.toNat]? =some d)(he:c=d):¬l.Nodup:=by
 refine a1H hc ?_
 subst he
 rw[List.elem_iff]
 rw[List.mem_take_iff_getElem]
 obtain⟨hj,e⟩:=DK hd
 have:=h0.1
 exact⟨j.toNat,by omega,e⟩
theorem b1R{k:Int}{l:List Int}{i j c:Int}(h:nkI k l i)(hd:djI l i j)(hl:¬j<i)(hc:l[i.toNat]? =some c)(hin:inn c 0 (k-1)=true):nkI k l (i+1):=by
 have:=KB.1 hin
 have h3:=hd.2.2 c hc
 obtain rfl:j=i:=by have:=hd.2.1;omega
 exact a1G h hc (by omega) (by omega) h3
def Sa(x:List Nd×Int)(i:Int):LS:= {
 ι:=Int,inv:=djI (ndAt x.1 x.2).kids i,
 regs:=fun j=>[(0,nds x.1),(1,.int .i64 x.2),(5,.box 0 (ndA false (ndAt x.1 x.2))),(8,.int .i64 i),(9,.int .i64 j)],als:=[],meas:=fun j=>i.toNat-j.toNat}
def Sc(x:List Nd×Int):LS:= {
 ι:=Int,inv:=nkI x.2 (ndAt x.1 x.2).kids,
 regs:=fun i=>[(0,nds x.1),(1,.int .i64 x.2),(5,.box 0 (ndA false (ndAt x.1 x.2))),(8,.int .i64 i)],als:=[],meas:=fun i=>(ndAt x.1 x.2).kids.length-i.toNat,sub:=fun i=>[(15,Sa x i)]}
def PI(x:List Nd×Int):LS:= {
 ι:=Int,inv:=koI x.1 (ndAt x.1 x.2),
 regs:=fun i=>[(0,nds x.1),(1,.int .i64 x.2),(5,.box 0 (ndA false (ndAt x.1 x.2))),(10,.int .i64 i)],als:=[],meas:=fun i=>(ndAt x.1 x.2).kids.length-i.toNat}
def jI(x:Nd):Prop:=inn x.kind 1 22=true∧inn x.kids.length (FE x.kind).1 (FE x.kind).2=true∧Fg x.kind x.text=true∧(HJ x.kind|| !x.blank)=true
def NH(x:List Nd×Int):LS:= {
 ι:=Unit,inv:=fun _=>jI (ndAt x.1 x.2),
 regs:=fun _=>[(0,nds x.1),(1,.int .i64 x.2),(5,.box 0 (ndA false (ndAt x.1 x.2)))],als:=[],meas:=fun _=>0}
def Fi:Sig:= {X:=List Nd×Int,args:=fun x=>[nds x.1,.int .i64 x.2],pre:=fun x=>BM x.1,Y:=Unit,post:=fun x y=>True,res:=fun x y=> .bool (BH x.1 x.2),outs:=fun x y=>[.top,.top],keep:=false}
set_option maxHeartbeats 4000000 in
theorem b1S:Aj G Tryz.prog 101 Fi:=
 vcFun_okP [(46,0,CP),(127,0,DF),(128,0,FD),(129,0,Jd),(130,0,Dx)] [] false (fun x=>[(10,Sc x),(20,PI x),(200009,NH x)]) Tryz.func101 rfl (by decide) ⟨Kw,b1E,b0x,a2e,b1F,trivial⟩ (fun(x:List Nd×Int)=>(∀(y:Unit),True→True∧True∧True∧True)∧inR IntKind.i64 ((↑(List.length x.1):Int)-(1:Int))∧cA CP [.int .i64 x.2,.int .i64 (0:Int),.int .i64 ((↑(List.length x.1):Int)-(1:Int))] fun x_1 y=>Aa (!inn x_1.1 x_1.2.1 x_1.2.2) (rA Fi x [.bool false,.top,.top]) (((0:Int)≤x.2∧x.2<(↑(List.length x.1):Int))∧∀(e:Nd),x.1[Int.toNat x.2]? =some e→cA CP [.int .i64 e.kind,.int .i64 (1:Int),.int .i64 (22:Int)] fun x_2 y=>Aa (!inn x_2.1 x_2.2.1 x_2.2.2) (rA Fi x [.bool false,.top,.top]) (((0:Int)≤x.2∧x.2<(↑(List.length x.1):Int))∧∀(e:Nd),x.1[Int.toNat x.2]? =some e→cA DF [.int .i64 e.kind] fun x_3 y=>cA CP [.int .i64 (↑(List.length e.kids):Int),.int .i64 (FE x_3).1,.int .i64 (FE x_3).2] fun x_4 y=>Aa (!inn x_4.1 x_4.2.1 x_4.2.2) (rA Fi x [.bool false,.top,.top]) (cA FD [.int .i64 e.kind,.str e.text] fun x_5 y=>Aa (!Fg x_5.1 x_5.2) (rA Fi x [.bool false,.top,.top]) (Aa e.blank (cA Jd [.int .i64 e.kind] fun x_6 y=>Aa (!DT x_6) (Aa (e.kind != (20:Int)) (Aa (e.kind != (21:Int)) (rA Fi x [.bool false,.top,.top]) (eA (NH x) [nds x.1,.int .i64 x.2,.box 0 [.int .i64 e.kind,.str e.text,Af e.kids,.bool e.blank]])) (eA (NH x) [nds x.1,.int .i64 x.2,.box 0 [.int .i64 e.kind,.str e.text,Af e.kids,.bool e.blank]])) (eA (NH x) [nds x.1,.int .i64 x.2,.box 0 [.int .i64 e.kind,.str e.text,Af e.kids,.bool e.blank]])) (eA (NH x) [nds x.1,.int .i64 x.2,.box 0 [.int .i64 e.kind,.str e.text,Af e.kids,.bool e.blank]])∧∀(i:Unit),jI (ndAt x.1 x.2)→eA (Sc x) [nds x.1,.int .i64 x.2,.box 0 [.int .i64 (ndAt x.1 x.2).kind,.str (ndAt x.1 x.2).text,Af (ndAt x.1 x.2).kids,.bool (ndAt x.1 x.2).blank],.int .i64 (0:Int)]∧∀(i:Int),nkI x.2 (ndAt x.1 x.2).kids i→Aa (decide (i<(↑(List.length (ndAt x.1 x.2).kids):Int))) (((0:Int)≤i∧i<(↑(List.length (ndAt x.1 x.2).kids):Int))∧∀(e:Int),(ndAt x.1 x.2).kids[Int.toNat i]? =some e→inR IntKind.i64 (x.2-(1:Int))∧cA CP [.int .i64 e,.int .i64 (0:Int),.int .i64 (x.2-(1:Int))] fun x_6 y=>Aa (!inn x_6.1 x_6.2.1 x_6.2.2) (rA Fi x [.bool false,.top,.top]) (eA (Sa x i) [nds x.1,.int .i64 x.2,.box 0 [.int .i64 (ndAt x.1 x.2).kind,.str (ndAt x.1 x.2).text,Af (ndAt x.1 x.2).kids,.bool (ndAt x.1 x.2).blank],.int .i64 i,.int .i64 (0:Int)]∧∀(i_1:Int),djI (ndAt x.1 x.2).kids i i_1→Aa (decide (i_1<i)) (true=true∧true=true∧((0:Int)≤i∧i<(↑(List.length (ndAt x.1 x.2).kids):Int))∧∀(e:Int),(ndAt x.1 x.2).kids[Int.toNat i]? =some e→((0:Int)≤i_1∧i_1<(↑(List.length (ndAt x.1 x.2).kids):Int))∧∀(e_1:Int),(ndAt x.1 x.2).kids[Int.toNat i_1]? =some e_1→Aa (e==e_1) (rA Fi x [.bool false,.top,.top]) (inR IntKind.i64 (i_1+(1:Int))∧eN (Sa x i) i_1 [nds x.1,.int .i64 x.2,.box 0 [.int .i64 (ndAt x.1 x.2).kind,.str (ndAt x.1 x.2).text,Af (ndAt x.1 x.2).kids,.bool (ndAt x.1 x.2).blank],.int .i64 i,.int .i64 (i_1+(1:Int))])) (inR IntKind.i64 (i+(1:Int))∧eN (Sc x) i [nds x.1,.int .i64 x.2,.box 0 [.int .i64 (ndAt x.1 x.2).kind,.str (ndAt x.1 x.2).text,Af (ndAt x.1 x.2).kids,.bool (ndAt x.1 x.2).blank],.int .i64 (i+(1:Int))]))) (eA (PI x) [nds x.1,.int .i64 x.2,.box 0 [.int .i64 (ndAt x.1 x.2).kind,.str (ndAt x.1 x.2).text,Af (ndAt x.1 x.2).kids,.bool (ndAt x.1 x.2).blank],.int .i64 (0:Int)]∧∀(i:Int),koI x.1 (ndAt x.1 x.2) i→Aa (decide (i<(↑(List.length (ndAt x.1 x.2).kids):Int))) (((0:Int)≤i∧i<(↑(List.length (ndAt x.1 x.2).kids):Int))∧∀(e:Int),(ndAt x.1 x.2).kids[Int.toNat i]? =some e→((0:Int)≤e∧e<(↑(List.length x.1):Int))∧∀(e_1:Nd),x.1[Int.toNat e]? =some e_1→Aa (e_1.kind==(5:Int)) (Aa ((↑(List.length e_1.kids):Int)==(0:Int)) (rA Fi x [.bool false,.top,.top]) (((0:Int)≤(0:Int)∧(0:Int)<(↑(List.length e_1.kids):Int))∧∀(e:Int),e_1.kids[(0:Nat)]? =some e→inR IntKind.i64 ((↑(List.length x.1):Int)-(1:Int))∧cA CP [.int .i64 e,.int .i64 (0:Int),.int .i64 ((↑(List.length x.1):Int)-(1:Int))] fun x_6 y=>Aa (!inn x_6.1 x_6.2.1 x_6.2.2) (rA Fi x [.bool false,.top,.top]) (cA Dx [nds x.1,.int .i64 x.2,.int .i64 i] fun x_7 y=>Aa (!LP x_7) (rA Fi x [.bool false,.top,.top]) (inR IntKind.i64 (i+(1:Int))∧eN (PI x) i [nds x.1,.int .i64 x.2,.box 0 [.int .i64 (ndAt x.1 x.2).kind,.str (ndAt x.1 x.2).text,Af (ndAt x.1 x.2).kids,.bool (ndAt x.1 x.2).blank],.int .i64 (i+(1:Int))])))) (cA Dx [nds x.1,.int .i64 x.2,.int .i64 i] fun x_6 y=>Aa (!LP x_6) (rA Fi x [.bool false,.top,.top]) (inR IntKind.i64 (i+(1:Int))∧eN (PI x) i [nds x.1,.int .i64 x.2,.box 0 [.int .i64 (ndAt x.1 x.2).kind,.str (ndAt x.1 x.2).text,Af (ndAt x.1 x.2).kids,.bool (ndAt x.1 x.2).blank],.int .i64 (i+(1:Int))]))) (rA Fi x [.bool true,.top,.top]))))))) (fun x=>by kernel_rfl) fun(x:List Nd×Int) (hx:BM x.1)=>(by
 dsimp only[cA,eA,eN,Af,NH,Sc,Sa,PI,Bu,nds,rA,CP,DF,Dx,Jd,FD,Fi,Au,Az,mvL,lnL,mvE,lnE,Br]
 have h1:BM x.1:=hx;have hl:=h1.1
 by_cases hn:Bz x.1 x.2=true
 case neg=>
  (repeat' first|(with_reducible first|rfl|exact True.intro|apply AK|apply And.intro|((first|apply AA|apply AI|apply AB|apply AJ)<;>intro _))|(apply Ax<;>intro _)|apply AH|refine Ae () ?_ ?_|((first|apply AO|apply AN|apply AM|apply AL|apply AG|apply AF|apply AE|apply AD|apply AC)<;>try dsimp only)|apply Ae|(refine Prod.forall.2 ?_;intro _;try dsimp only)|(intro _;try dsimp only))
  all_goals first
   |exact a2m ‹_›
   |(have hh:=(show inn x.2 0 (x.1.length-1)=true by assumption);rw[JH] at hh;exact(hn hh).elim)
   |((try simp only[AQ]);omega)
 case pos=>
 have hr:=BV.1 hn
 obtain⟨z,hz⟩:∃z,x.1[x.2.toNat]? =some z:=⟨x.1[x.2.toNat],by simp⟩
 have hzo:=h1.2 _ (BO hz)
 have hi:inn x.2 0 (x.1.length-1)=true:=by rw[JH];exact hn
 simp only[hz,Option.some.injEq,forall_eq',Bn hz]
 (repeat' first|(with_reducible first|rfl|exact True.intro|apply AK|apply And.intro|((first|apply AA|apply AI|apply AB|apply AJ)<;>intro _))|(apply Ax<;>intro _)|apply AH|refine Ae () ?_ ?_|((first|apply AO|apply AN|apply AM|apply AL|apply AG|apply AF|apply AE|apply AD|apply AC)<;>try dsimp only)|apply Ae|(refine Prod.forall.2 ?_;intro _;try dsimp only)|(intro _;try dsimp only))
 all_goals first
  |rfl
  |assumption
  |exact a1F
  |exact b1G
  |exact b1O (‹nkI _ _ _›.1)
  |exact a2m ‹_›
  |exact⟨by assumption,by assumption,by assumption,by simp [a2l, *]⟩
  |exact b1K hz hi (b1N ‹_› ‹_›)
  |exact b1L hz hi (b1Q ‹_› ‹_› ‹_› ‹_› ‹_›)
  |exact b1P ‹_› ‹_› ‹_› ‹_› ‹_›
  |exact b1R ‹_› ‹_› ‹_› ‹_› ‹_›
  |exact RZ hz hi (RX (‹koI _ _ _›.1) ‹_› (ko1 ‹_› ‹_› ‹_›))
  |exact RZ hz hi (RX (‹koI _ _ _›.1) ‹_› (ko2 ‹_› ‹_› ‹_› ‹_›))
  |exact RZ hz hi (RX (‹koI _ _ _›.1) ‹_› ((ko4 ‹_› ‹_›).trans (RY hz ‹_› ‹_›)))
  |exact RZ hz hi (RX (‹koI _ _ _›.1) ‹_› ((ko3 ‹_› ‹_› ‹_› ‹_›).trans (RY hz ‹_› ‹_›)))
  |exact a2k ‹_› ‹_› ((ko4 ‹_› ‹_›).trans (RY hz ‹_› ‹_›))
  |exact a2k ‹_› ‹_› ((ko3 ‹_› ‹_› ‹_› ‹_›).trans (RY hz ‹_› ‹_›))
  |exact b1I h1 hn hz (PE ‹_› ‹_›).1 ‹_› ‹_› ‹_› ‹_› ‹_›
  |exact b1J h1 hn hz (PE ‹_› ‹_›).1 ‹_› ‹_› ‹_› ‹_›
  |exact b1M hz hi (‹jI _›.1) (‹jI _›.2.1) (‹jI _›.2.2.1) (‹jI _›.2.2.2) (PE ‹_› ‹_›) (b1H ‹_› ‹_›)
  |(rw[PH hz hi];simp [a2l, *];done)
  |exact hzo.1
  |(have:=Wt ‹_› ‹_› hr.2 (BO (show z.kids[_]? =some _ by assumption));omega)
  |((try simp only[AQ]);omega)
  |(have hko:=(show koI _ _ _ by assumption);have hk2:=hzo.2;have:=hko.1;have:=hko.2.1;(try simp only[AQ]);omega)
  |(have hko:=(show djI _ _ _ by assumption);have hk1:=(show nkI _ _ _ by assumption);have hk2:=hzo.2;have:=hko.1;have:=hko.2.1;have:=hk1.1;have:=hk1.2.1;(try simp only[AQ]);omega)
  |(have hk1:=(show nkI _ _ _ by assumption);have hk2:=hzo.2;have:=hk1.1;have:=hk1.2.1;(try simp only[AQ]);omega)
  |skip)
end Go.My
end
