/- joined -/
import Derived.Test.YtglbamflbnldhaaGreatDoorQE
set_option linter.unusedSimpArgs false
set_option linter.unusedVariables false
section
namespace Go.My
open Go.Eng Go.Proofs
variable {G:GInv}
theorem Gf{a b:Int}:(a==b)=decide (a=b):=by rw[Bool.eq_iff_iff];simp
theorem a8A{α:Type}{p:α→Bool}{x:List α}{n:Nat}{e:α}(he:x[n]? =some e)(hp:p e=true)(h:∀e∈x.take n,p e=true):∀e∈x.take (n+1),p e=true:=by
 rw[FZ he];intro d hd
 rcases List.mem_append.1 hd with hd|hd
 ·exact h d hd
 ·simp at hd;subst hd;exact hp
theorem a8B{α:Type}{p:α→Bool}{x:List α}{n:Nat}(h:∀e∈x.take n,p e=true)(hn:x.length≤n):x.all p=true:=by
 rw[List.take_of_length_le hn] at h;exact List.all_eq_true.2 h
theorem Ly{α:Type}{p:α→Bool}{x:List α}{n:Nat}{e:α}(he:x[n]? =some e)(hp:p e=false):x.all p=false:=by
 rw[Bool.eq_false_iff];intro h
 rw[List.all_eq_true.1 h e (List.mem_of_getElem? he)] at hp;cases hp
def Gg:Sig:= {X:=Int,args:=fun x=>[.int .i64 x],pre:=fun x=>True,Y:=Unit,post:=fun x y=>True,res:=fun x y=> .bool (BN x),outs:=fun x y=>[.top],keep:=false}
theorem Vz:Ai G Tryz.prog 142 Gg:=
 vcFun_okP [(66,0,Er)] [] false (fun x=>[]) Tryz.func142 rfl (by decide) ⟨Pe,trivial⟩ (fun(x:Int)=>(∀(y:Unit),True→True∧True∧True)∧cA Er [.int .i64 x,.int .i64 (1:Int),.int .i64 (11:Int)] fun x_1 y=>rA Gg x [.bool (inn x_1.1 x_1.2.1 x_1.2.2),.top]) (fun x=>by kernel_rfl) fun(x:Int) (hx:True)=>(by
 dsimp only[cA,rA,Er,Gg,Au,Az,mvL,lnL,mvE,lnE]
 (repeat' first|(with_reducible first|rfl|exact True.intro|apply AK|apply And.intro|((first|apply AA|apply AI|apply AB|apply AJ)<;>intro _))|(apply Ax<;>intro _)|apply AH|refine Ae () ?_ ?_|((first|apply AO|apply AN|apply AM|apply AL|apply AG|apply AF|apply AE|apply AD|apply AC)<;>try dsimp only)|apply Ae|(refine Prod.forall.2 ?_;intro _;try dsimp only)|(intro _;try dsimp only))<;>(try dsimp only at*)<;>(try simp only[AR,List.length_cons,List.length_nil])<;>(try omega)
 all_goals simp [BN,Gf, *])
def Jo:Sig:= {X:=Int,args:=fun x=>[.int .i64 x],pre:=fun x=>True,Y:=Unit,post:=fun x y=>True,res:=fun x y=> .bool (Ko x),outs:=fun x y=>[.top],keep:=false}
theorem a0n:Ai G Tryz.prog 114 Jo:=
 vcFun_okP [(66,0,Er)] [] false (fun x=>[]) Tryz.func114 rfl (by decide) ⟨Pe,trivial⟩ (fun(x:Int)=>(∀(y:Unit),True→True∧True∧True)∧cA Er [.int .i64 x,.int .i64 (12:Int),.int .i64 (17:Int)] fun x_1 y=>rA Jo x [.bool (inn x_1.1 x_1.2.1 x_1.2.2),.top]) (fun x=>by kernel_rfl) fun(x:Int) (hx:True)=>(by
 dsimp only[cA,rA,Er,Jo,Au,Az,mvL,lnL,mvE,lnE]
 (repeat' first|(with_reducible first|rfl|exact True.intro|apply AK|apply And.intro|((first|apply AA|apply AI|apply AB|apply AJ)<;>intro _))|(apply Ax<;>intro _)|apply AH|refine Ae () ?_ ?_|((first|apply AO|apply AN|apply AM|apply AL|apply AG|apply AF|apply AE|apply AD|apply AC)<;>try dsimp only)|apply Ae|(refine Prod.forall.2 ?_;intro _;try dsimp only)|(intro _;try dsimp only))<;>(try dsimp only at*)<;>(try simp only[AR,List.length_cons,List.length_nil])<;>(try omega)
 all_goals simp [Ko,Gf, *])
def Ht:Sig:= {X:=Int,args:=fun x=>[.int .i64 x],pre:=fun x=>True,Y:=Unit,post:=fun x y=>True,res:=fun x y=> .bool (Eh x),outs:=fun x y=>[.top],keep:=false}
theorem VA:Ai G Tryz.prog 145 Ht:=
 vcFun_okP [] [] false (fun x=>[]) Tryz.func145 rfl (by decide) trivial (fun(x:Int)=>(∀(y:Unit),True→True∧True∧True)∧rA Ht x [.bool (x==(18:Int)),.top]) (fun x=>by kernel_rfl) fun(x:Int) (hx:True)=>(by
 dsimp only[rA,Ht,Au,Az]
 (repeat' first|(with_reducible first|rfl|exact True.intro|apply AK|apply And.intro|((first|apply AA|apply AI|apply AB|apply AJ)<;>intro _))|(apply Ax<;>intro _)|apply AH|refine Ae () ?_ ?_|((first|apply AO|apply AN|apply AM|apply AL|apply AG|apply AF|apply AE|apply AD|apply AC)<;>try dsimp only)|apply Ae|(refine Prod.forall.2 ?_;intro _;try dsimp only)|(intro _;try dsimp only))<;>(try dsimp only at*)<;>(try simp only[AR,List.length_cons,List.length_nil])<;>(try omega)
 all_goals simp [Eh,Gf, *])
def Gh:Sig:= {X:=Int,args:=fun x=>[.int .i64 x],pre:=fun x=>True,Y:=Unit,post:=fun x y=>True,res:=fun x y=> .bool (EX x),outs:=fun x y=>[.top],keep:=false}
theorem VB:Ai G Tryz.prog 115 Gh:=
 vcFun_okP [] [] false (fun x=>[]) Tryz.func115 rfl (by decide) trivial (fun(x:Int)=>(∀(y:Unit),True→True∧True∧True)∧Aa (x==(12:Int)) (rA Gh x [.bool true,.top]) (Aa (x==(20:Int)) (rA Gh x [.bool true,.top]) (rA Gh x [.bool (x==(19:Int)),.top]))) (fun x=>by kernel_rfl) fun(x:Int) (hx:True)=>(by
 dsimp only[rA,Gh,Au,Az]
 (repeat' first|(with_reducible first|rfl|exact True.intro|apply AK|apply And.intro|((first|apply AA|apply AI|apply AB|apply AJ)<;>intro _))|(apply Ax<;>intro _)|apply AH|refine Ae () ?_ ?_|((first|apply AO|apply AN|apply AM|apply AL|apply AG|apply AF|apply AE|apply AD|apply AC)<;>try dsimp only)|apply Ae|(refine Prod.forall.2 ?_;intro _;try dsimp only)|(intro _;try dsimp only))<;>(try dsimp only at*)<;>(try simp only[AR,List.length_cons,List.length_nil])<;>(try omega)
 all_goals simp [EX,Gf, *])
def Ns:Sig:= {X:=Int,args:=fun x=>[.int .i64 x],pre:=fun x=>True,Y:=Unit,post:=fun x y=>True,res:=fun x y=> .bool (Ga x),outs:=fun x y=>[.top],keep:=false}
theorem a8C:Ai G Tryz.prog 144 Ns:=
 vcFun_okP [] [] false (fun x=>[]) Tryz.func144 rfl (by decide) trivial (fun(x:Int)=>(∀(y:Unit),True→True∧True∧True)∧rA Ns x [.bool (x==(5:Int)),.top]) (fun x=>by kernel_rfl) fun(x:Int) (hx:True)=>(by
 dsimp only[rA,Ns,Au,Az]
 (repeat' first|(with_reducible first|rfl|exact True.intro|apply AK|apply And.intro|((first|apply AA|apply AI|apply AB|apply AJ)<;>intro _))|(apply Ax<;>intro _)|apply AH|refine Ae () ?_ ?_|((first|apply AO|apply AN|apply AM|apply AL|apply AG|apply AF|apply AE|apply AD|apply AC)<;>try dsimp only)|apply Ae|(refine Prod.forall.2 ?_;intro _;try dsimp only)|(intro _;try dsimp only))<;>(try dsimp only at*)<;>(try simp only[AR,List.length_cons,List.length_nil])<;>(try omega)
 all_goals simp [Ga,Gf, *])
def Lz:Sig:= {X:=Int,args:=fun x=>[.int .i64 x],pre:=fun x=>True,Y:=Unit,post:=fun x y=>True,res:=fun x y=> .bool (EY x),outs:=fun x y=>[.top],keep:=false}
theorem a8D:Ai G Tryz.prog 146 Lz:=
 vcFun_okP [(114,0,Jo)] [] false (fun x=>[]) Tryz.func146 rfl (by decide) ⟨a0n,trivial⟩ (fun(x:Int)=>(∀(y:Unit),True→True∧True∧True)∧cA Jo [.int .i64 x] fun x_1 y=>Aa (Ko x_1) (rA Lz x [.bool true,.top]) (rA Lz x [.bool (x==(19:Int)),.top])) (fun x=>by kernel_rfl) fun(x:Int) (hx:True)=>(by
 dsimp only[cA,rA,Jo,Lz,Au,Az,mvL,lnL,mvE,lnE]
 (repeat' first|(with_reducible first|rfl|exact True.intro|apply AK|apply And.intro|((first|apply AA|apply AI|apply AB|apply AJ)<;>intro _))|(apply Ax<;>intro _)|apply AH|refine Ae () ?_ ?_|((first|apply AO|apply AN|apply AM|apply AL|apply AG|apply AF|apply AE|apply AD|apply AC)<;>try dsimp only)|apply Ae|(refine Prod.forall.2 ?_;intro _;try dsimp only)|(intro _;try dsimp only))<;>(try dsimp only at*)<;>(try simp only[AR,List.length_cons,List.length_nil])<;>(try omega)
 all_goals simp [EY,Gf, *])
def LA:Sig:= {X:=Int,args:=fun x=>[.int .i64 x],pre:=fun x=>True,Y:=Unit,post:=fun x y=>True,res:=fun x y=> .bool (Hp x),outs:=fun x y=>[.top],keep:=false}
theorem a8E:Ai G Tryz.prog 147 LA:=
 vcFun_okP [(115,0,Gh)] [] false (fun x=>[]) Tryz.func147 rfl (by decide) ⟨VB,trivial⟩ (fun(x:Int)=>(∀(y:Unit),True→True∧True∧True)∧cA Gh [.int .i64 x] fun x_1 y=>Aa (EX x_1) (rA LA x [.bool true,.top]) (rA LA x [.bool (x==(21:Int)),.top])) (fun x=>by kernel_rfl) fun(x:Int) (hx:True)=>(by
 dsimp only[cA,rA,Gh,LA,Au,Az,mvL,lnL,mvE,lnE]
 (repeat' first|(with_reducible first|rfl|exact True.intro|apply AK|apply And.intro|((first|apply AA|apply AI|apply AB|apply AJ)<;>intro _))|(apply Ax<;>intro _)|apply AH|refine Ae () ?_ ?_|((first|apply AO|apply AN|apply AM|apply AL|apply AG|apply AF|apply AE|apply AD|apply AC)<;>try dsimp only)|apply Ae|(refine Prod.forall.2 ?_;intro _;try dsimp only)|(intro _;try dsimp only))<;>(try dsimp only at*)<;>(try simp only[AR,List.length_cons,List.length_nil])<;>(try omega)
 all_goals simp [Hp,Gf, *])
def Nt:Sig:= {X:=Int,args:=fun x=>[.int .i64 x],pre:=fun x=>True,Y:=Unit,post:=fun x y=>True,res:=fun x y=> .bool (EK x),outs:=fun x y=>[.top],keep:=false}
theorem a8F:Ai G Tryz.prog 183 Nt:=
 vcFun_okP [] [] false (fun x=>[]) Tryz.func183 rfl (by decide) trivial (fun(x:Int)=>(∀(y:Unit),True→True∧True∧True)∧rA Nt x [.bool (x==(1:Int)),.top]) (fun x=>by kernel_rfl) fun(x:Int) (hx:True)=>(by
 dsimp only[rA,Nt,Au,Az]
 (repeat' first|(with_reducible first|rfl|exact True.intro|apply AK|apply And.intro|((first|apply AA|apply AI|apply AB|apply AJ)<;>intro _))|(apply Ax<;>intro _)|apply AH|refine Ae () ?_ ?_|((first|apply AO|apply AN|apply AM|apply AL|apply AG|apply AF|apply AE|apply AD|apply AC)<;>try dsimp only)|apply Ae|(refine Prod.forall.2 ?_;intro _;try dsimp only)|(intro _;try dsimp only))<;>(try dsimp only at*)<;>(try simp only[AR,List.length_cons,List.length_nil])<;>(try omega)
 all_goals simp [EK,Gf, *])
def Es(p:Int→Bool)(x:List Int)(i:Int):Prop:=0≤i∧i≤x.length∧∀e∈x.take i.toNat,p e=true
theorem LB{p:Int→Bool}{x:List Int}:Es p x 0:=⟨by omega,by omega,by simp⟩
theorem LC{p:Int→Bool}{x:List Int}{i:Int}{e:Int}(h:Es p x i)(he:x[i.toNat]? =some e)(hp:p e=true):Es p x (i+1):=by
 obtain⟨h1,h2,h3⟩:=h
 have:=(Fz he).1
 exact⟨by omega,by omega,by rw[DX h1];exact a8A he hp h3⟩
theorem LD{p:Int→Bool}{x:List Int}{i:Int}(h:Es p x i)(hl:¬i<x.length):true=x.all p:=(a8B h.2.2 (by omega)).symm
def Di(p:Int→Bool)(c:AV)(x:List Int):LS:= {
 ι:=Int,inv:=Es p x,regs:=fun i=>[(0,Aj x),(1,c),(7,Aj x),(8,.int .i64 x.length),(9,.int .i64 i)],als:=[],meas:=fun i=>x.length-i.toNat}
def LE:Sig:= {X:=List Int,args:=fun x=>[Aj x,.clo (.func 142) []],pre:=fun x=>x.length<2^62,Y:=Unit,post:=fun x y=>True,res:=fun x y=> .bool (x.all BN),outs:=fun x y=>[.top,.top],keep:=false}
theorem a8G:Ai G Tryz.prog 141 LE:=
 vcFun_okP [(142,0,Gg)] [] false (fun x=>[(2,Di BN (.clo (.func 142) []) x)]) Tryz.func141 rfl (by decide) ⟨Vz,trivial⟩ (fun(x:List Int)=>(∀(y:Unit),True→True∧True∧True∧True)∧eA (Di BN (AV.clo (.func 142) []) x) [Aj x,AV.clo (.func 142) [],Aj x,.int .i64 (↑(List.length x):Int),.int .i64 (0:Int)]∧∀(i:Int),Es BN x i→Aa (decide (i<(↑(List.length x):Int))) (((0:Int)≤i∧i<(↑(List.length x):Int))∧∀(e:Int),x[Int.toNat i]? =some e→cA Gg [.int .i64 e] fun x_1 y=>Aa (!BN x_1) (rA LE x [.bool false,.top,.top]) (inR IntKind.i64 (i+(1:Int))∧eN (Di BN (AV.clo (.func 142) []) x) i [Aj x,AV.clo (.func 142) [],Aj x,.int .i64 (↑(List.length x):Int),.int .i64 (i+(1:Int))])) (rA LE x [.bool true,.top,.top])) (fun x=>by kernel_rfl) fun(x:List Int) (hx:x.length<2^62)=>(by
 dsimp only[cA,eA,eN,Aj,Di,rA,LE,Gg,Au,Az,mvL,lnL,mvE,lnE,Bq]
 have hx:x.length<2^62:=hx
 (repeat' first|(with_reducible first|rfl|exact True.intro|apply AK|apply And.intro|((first|apply AA|apply AI|apply AB|apply AJ)<;>intro _))|(apply Ax<;>intro _)|apply AH|refine Ae () ?_ ?_|((first|apply AO|apply AN|apply AM|apply AL|apply AG|apply AF|apply AE|apply AD|apply AC)<;>try dsimp only)|apply Ae|(refine Prod.forall.2 ?_;intro _;try dsimp only)|(intro _;try dsimp only))
 all_goals first|exact LB|(rename_i i hi hl e he y _ hp;exact(Ly he hp).symm)|(rename_i i hi hl e he y _ hp;exact LC hi he hp)|(rename_i i hi hl;exact LD hi hl)|(obtain⟨_,_,_⟩:= ‹Es _ _ _›;(try simp only[AR] at*);omega)|skip)
def LF:Sig:= {X:=List Int,args:=fun x=>[Aj x,.clo (.func 145) []],pre:=fun x=>x.length<2^62,Y:=Unit,post:=fun x y=>True,res:=fun x y=> .bool (x.all Eh),outs:=fun x y=>[.top,.top],keep:=false}
theorem a8H:Ai G Tryz.prog 141 LF:=
 vcFun_okP [(145,0,Ht)] [] false (fun x=>[(2,Di Eh (.clo (.func 145) []) x)]) Tryz.func141 rfl (by decide) ⟨VA,trivial⟩ (fun(x:List Int)=>(∀(y:Unit),True→True∧True∧True∧True)∧eA (Di Eh (AV.clo (.func 145) []) x) [Aj x,AV.clo (.func 145) [],Aj x,.int .i64 (↑(List.length x):Int),.int .i64 (0:Int)]∧∀(i:Int),Es Eh x i→Aa (decide (i<(↑(List.length x):Int))) (((0:Int)≤i∧i<(↑(List.length x):Int))∧∀(e:Int),x[Int.toNat i]? =some e→cA Ht [.int .i64 e] fun x_1 y=>Aa (!Eh x_1) (rA LF x [.bool false,.top,.top]) (inR IntKind.i64 (i+(1:Int))∧eN (Di Eh (AV.clo (.func 145) []) x) i [Aj x,AV.clo (.func 145) [],Aj x,.int .i64 (↑(List.length x):Int),.int .i64 (i+(1:Int))])) (rA LF x [.bool true,.top,.top])) (fun x=>by kernel_rfl) fun(x:List Int) (hx:x.length<2^62)=>(by
 dsimp only[cA,eA,eN,Aj,Di,rA,LF,Ht,Au,Az,mvL,lnL,mvE,lnE,Bq]
 have hx:x.length<2^62:=hx
 (repeat' first|(with_reducible first|rfl|exact True.intro|apply AK|apply And.intro|((first|apply AA|apply AI|apply AB|apply AJ)<;>intro _))|(apply Ax<;>intro _)|apply AH|refine Ae () ?_ ?_|((first|apply AO|apply AN|apply AM|apply AL|apply AG|apply AF|apply AE|apply AD|apply AC)<;>try dsimp only)|apply Ae|(refine Prod.forall.2 ?_;intro _;try dsimp only)|(intro _;try dsimp only))
 all_goals first|exact LB|(rename_i i hi hl e he y _ hp;exact(Ly he hp).symm)|(rename_i i hi hl e he y _ hp;exact LC hi he hp)|(rename_i i hi hl;exact LD hi hl)|(obtain⟨_,_,_⟩:= ‹Es _ _ _›;(try simp only[AR] at*);omega)|skip)
def LG:Sig:= {X:=List Int,args:=fun x=>[Aj x,.clo (.func 115) []],pre:=fun x=>x.length<2^62,Y:=Unit,post:=fun x y=>True,res:=fun x y=> .bool (x.all EX),outs:=fun x y=>[.top,.top],keep:=false}
theorem a8I:Ai G Tryz.prog 141 LG:=
 vcFun_okP [(115,0,Gh)] [] false (fun x=>[(2,Di EX (.clo (.func 115) []) x)]) Tryz.func141 rfl (by decide) ⟨VB,trivial⟩ (fun(x:List Int)=>(∀(y:Unit),True→True∧True∧True∧True)∧eA (Di EX (AV.clo (.func 115) []) x) [Aj x,AV.clo (.func 115) [],Aj x,.int .i64 (↑(List.length x):Int),.int .i64 (0:Int)]∧∀(i:Int),Es EX x i→Aa (decide (i<(↑(List.length x):Int))) (((0:Int)≤i∧i<(↑(List.length x):Int))∧∀(e:Int),x[Int.toNat i]? =some e→cA Gh [.int .i64 e] fun x_1 y=>Aa (!EX x_1) (rA LG x [.bool false,.top,.top]) (inR IntKind.i64 (i+(1:Int))∧eN (Di EX (AV.clo (.func 115) []) x) i [Aj x,AV.clo (.func 115) [],Aj x,.int .i64 (↑(List.length x):Int),.int .i64 (i+(1:Int))])) (rA LG x [.bool true,.top,.top])) (fun x=>by kernel_rfl) fun(x:List Int) (hx:x.length<2^62)=>(by
 dsimp only[cA,eA,eN,Aj,Di,rA,LG,Gh,Au,Az,mvL,lnL,mvE,lnE,Bq]
 have hx:x.length<2^62:=hx
 (repeat' first|(with_reducible first|rfl|exact True.intro|apply AK|apply And.intro|((first|apply AA|apply AI|apply AB|apply AJ)<;>intro _))|(apply Ax<;>intro _)|apply AH|refine Ae () ?_ ?_|((first|apply AO|apply AN|apply AM|apply AL|apply AG|apply AF|apply AE|apply AD|apply AC)<;>try dsimp only)|apply Ae|(refine Prod.forall.2 ?_;intro _;try dsimp only)|(intro _;try dsimp only))
 all_goals first|exact LB|(rename_i i hi hl e he y _ hp;exact(Ly he hp).symm)|(rename_i i hi hl e he y _ hp;exact LC hi he hp)|(rename_i i hi hl;exact LD hi hl)|(obtain⟨_,_,_⟩:= ‹Es _ _ _›;(try simp only[AR] at*);omega)|skip)
def LH:Sig:= {X:=List Int,args:=fun x=>[Aj x,.clo (.func 144) []],pre:=fun x=>x.length<2^62,Y:=Unit,post:=fun x y=>True,res:=fun x y=> .bool (x.all Ga),outs:=fun x y=>[.top,.top],keep:=false}
theorem a8J:Ai G Tryz.prog 141 LH:=
 vcFun_okP [(144,0,Ns)] [] false (fun x=>[(2,Di Ga (.clo (.func 144) []) x)]) Tryz.func141 rfl (by decide) ⟨a8C,trivial⟩ (fun(x:List Int)=>(∀(y:Unit),True→True∧True∧True∧True)∧eA (Di Ga (AV.clo (.func 144) []) x) [Aj x,AV.clo (.func 144) [],Aj x,.int .i64 (↑(List.length x):Int),.int .i64 (0:Int)]∧∀(i:Int),Es Ga x i→Aa (decide (i<(↑(List.length x):Int))) (((0:Int)≤i∧i<(↑(List.length x):Int))∧∀(e:Int),x[Int.toNat i]? =some e→cA Ns [.int .i64 e] fun x_1 y=>Aa (!Ga x_1) (rA LH x [.bool false,.top,.top]) (inR IntKind.i64 (i+(1:Int))∧eN (Di Ga (AV.clo (.func 144) []) x) i [Aj x,AV.clo (.func 144) [],Aj x,.int .i64 (↑(List.length x):Int),.int .i64 (i+(1:Int))])) (rA LH x [.bool true,.top,.top])) (fun x=>by kernel_rfl) fun(x:List Int) (hx:x.length<2^62)=>(by
 dsimp only[cA,eA,eN,Aj,Di,rA,LH,Ns,Au,Az,mvL,lnL,mvE,lnE,Bq]
 have hx:x.length<2^62:=hx
 (repeat' first|(with_reducible first|rfl|exact True.intro|apply AK|apply And.intro|((first|apply AA|apply AI|apply AB|apply AJ)<;>intro _))|(apply Ax<;>intro _)|apply AH|refine Ae () ?_ ?_|((first|apply AO|apply AN|apply AM|apply AL|apply AG|apply AF|apply AE|apply AD|apply AC)<;>try dsimp only)|apply Ae|(refine Prod.forall.2 ?_;intro _;try dsimp only)|(intro _;try dsimp only))
 all_goals first|exact LB|(rename_i i hi hl e he y _ hp;exact(Ly he hp).symm)|(rename_i i hi hl e he y _ hp;exact LC hi he hp)|(rename_i i hi hl;exact LD hi hl)|(obtain⟨_,_,_⟩:= ‹Es _ _ _›;(try simp only[AR] at*);omega)|skip)
def LI:Sig:= {X:=List Int,args:=fun x=>[Aj x,.clo (.func 146) []],pre:=fun x=>x.length<2^62,Y:=Unit,post:=fun x y=>True,res:=fun x y=> .bool (x.all EY),outs:=fun x y=>[.top,.top],keep:=false}
theorem a8K:Ai G Tryz.prog 141 LI:=
 vcFun_okP [(146,0,Lz)] [] false (fun x=>[(2,Di EY (.clo (.func 146) []) x)]) Tryz.func141 rfl (by decide) ⟨a8D,trivial⟩ (fun(x:List Int)=>(∀(y:Unit),True→True∧True∧True∧True)∧eA (Di EY (AV.clo (.func 146) []) x) [Aj x,AV.clo (.func 146) [],Aj x,.int .i64 (↑(List.length x):Int),.int .i64 (0:Int)]∧∀(i:Int),Es EY x i→Aa (decide (i<(↑(List.length x):Int))) (((0:Int)≤i∧i<(↑(List.length x):Int))∧∀(e:Int),x[Int.toNat i]? =some e→cA Lz [.int .i64 e] fun x_1 y=>Aa (!EY x_1) (rA LI x [.bool false,.top,.top]) (inR IntKind.i64 (i+(1:Int))∧eN (Di EY (AV.clo (.func 146) []) x) i [Aj x,AV.clo (.func 146) [],Aj x,.int .i64 (↑(List.length x):Int),.int .i64 (i+(1:Int))])) (rA LI x [.bool true,.top,.top])) (fun x=>by kernel_rfl) fun(x:List Int) (hx:x.length<2^62)=>(by
 dsimp only[cA,eA,eN,Aj,Di,rA,LI,Lz,Au,Az,mvL,lnL,mvE,lnE,Bq]
 have hx:x.length<2^62:=hx
 (repeat' first|(with_reducible first|rfl|exact True.intro|apply AK|apply And.intro|((first|apply AA|apply AI|apply AB|apply AJ)<;>intro _))|(apply Ax<;>intro _)|apply AH|refine Ae () ?_ ?_|((first|apply AO|apply AN|apply AM|apply AL|apply AG|apply AF|apply AE|apply AD|apply AC)<;>try dsimp only)|apply Ae|(refine Prod.forall.2 ?_;intro _;try dsimp only)|(intro _;try dsimp only))
 all_goals first|exact LB|(rename_i i hi hl e he y _ hp;exact(Ly he hp).symm)|(rename_i i hi hl e he y _ hp;exact LC hi he hp)|(rename_i i hi hl;exact LD hi hl)|(obtain⟨_,_,_⟩:= ‹Es _ _ _›;(try simp only[AR] at*);omega)|skip)
def LJ:Sig:= {X:=List Int,args:=fun x=>[Aj x,.clo (.func 147) []],pre:=fun x=>x.length<2^62,Y:=Unit,post:=fun x y=>True,res:=fun x y=> .bool (x.all Hp),outs:=fun x y=>[.top,.top],keep:=false}
theorem a8L:Ai G Tryz.prog 141 LJ:=
 vcFun_okP [(147,0,LA)] [] false (fun x=>[(2,Di Hp (.clo (.func 147) []) x)]) Tryz.func141 rfl (by decide) ⟨a8E,trivial⟩ (fun(x:List Int)=>(∀(y:Unit),True→True∧True∧True∧True)∧eA (Di Hp (AV.clo (.func 147) []) x) [Aj x,AV.clo (.func 147) [],Aj x,.int .i64 (↑(List.length x):Int),.int .i64 (0:Int)]∧∀(i:Int),Es Hp x i→Aa (decide (i<(↑(List.length x):Int))) (((0:Int)≤i∧i<(↑(List.length x):Int))∧∀(e:Int),x[Int.toNat i]? =some e→cA LA [.int .i64 e] fun x_1 y=>Aa (!Hp x_1) (rA LJ x [.bool false,.top,.top]) (inR IntKind.i64 (i+(1:Int))∧eN (Di Hp (AV.clo (.func 147) []) x) i [Aj x,AV.clo (.func 147) [],Aj x,.int .i64 (↑(List.length x):Int),.int .i64 (i+(1:Int))])) (rA LJ x [.bool true,.top,.top])) (fun x=>by kernel_rfl) fun(x:List Int) (hx:x.length<2^62)=>(by
 dsimp only[cA,eA,eN,Aj,Di,rA,LJ,LA,Au,Az,mvL,lnL,mvE,lnE,Bq]
 have hx:x.length<2^62:=hx
 (repeat' first|(with_reducible first|rfl|exact True.intro|apply AK|apply And.intro|((first|apply AA|apply AI|apply AB|apply AJ)<;>intro _))|(apply Ax<;>intro _)|apply AH|refine Ae () ?_ ?_|((first|apply AO|apply AN|apply AM|apply AL|apply AG|apply AF|apply AE|apply AD|apply AC)<;>try dsimp only)|apply Ae|(refine Prod.forall.2 ?_;intro _;try dsimp only)|(intro _;try dsimp only))
 all_goals first|exact LB|(rename_i i hi hl e he y _ hp;exact(Ly he hp).symm)|(rename_i i hi hl e he y _ hp;exact LC hi he hp)|(rename_i i hi hl;exact LD hi hl)|(obtain⟨_,_,_⟩:= ‹Es _ _ _›;(try simp only[AR] at*);omega)|skip)
def IM:Sig:= {X:=List Int,args:=fun x=>[Aj x,.clo (.func 183) []],pre:=fun x=>x.length<2^62,Y:=Unit,post:=fun x y=>True,res:=fun x y=> .bool (x.all EK),outs:=fun x y=>[.top,.top],keep:=false}
theorem a0o:Ai G Tryz.prog 141 IM:=
 vcFun_okP [(183,0,Nt)] [] false (fun x=>[(2,Di EK (.clo (.func 183) []) x)]) Tryz.func141 rfl (by decide) ⟨a8F,trivial⟩ (fun(x:List Int)=>(∀(y:Unit),True→True∧True∧True∧True)∧eA (Di EK (AV.clo (.func 183) []) x) [Aj x,AV.clo (.func 183) [],Aj x,.int .i64 (↑(List.length x):Int),.int .i64 (0:Int)]∧∀(i:Int),Es EK x i→Aa (decide (i<(↑(List.length x):Int))) (((0:Int)≤i∧i<(↑(List.length x):Int))∧∀(e:Int),x[Int.toNat i]? =some e→cA Nt [.int .i64 e] fun x_1 y=>Aa (!EK x_1) (rA IM x [.bool false,.top,.top]) (inR IntKind.i64 (i+(1:Int))∧eN (Di EK (AV.clo (.func 183) []) x) i [Aj x,AV.clo (.func 183) [],Aj x,.int .i64 (↑(List.length x):Int),.int .i64 (i+(1:Int))])) (rA IM x [.bool true,.top,.top])) (fun x=>by kernel_rfl) fun(x:List Int) (hx:x.length<2^62)=>(by
 dsimp only[cA,eA,eN,Aj,Di,rA,IM,Nt,Au,Az,mvL,lnL,mvE,lnE,Bq]
 have hx:x.length<2^62:=hx
 (repeat' first|(with_reducible first|rfl|exact True.intro|apply AK|apply And.intro|((first|apply AA|apply AI|apply AB|apply AJ)<;>intro _))|(apply Ax<;>intro _)|apply AH|refine Ae () ?_ ?_|((first|apply AO|apply AN|apply AM|apply AL|apply AG|apply AF|apply AE|apply AD|apply AC)<;>try dsimp only)|apply Ae|(refine Prod.forall.2 ?_;intro _;try dsimp only)|(intro _;try dsimp only))
 all_goals first|exact LB|(rename_i i hi hl e he y _ hp;exact(Ly he hp).symm)|(rename_i i hi hl e he y _ hp;exact LC hi he hp)|(rename_i i hi hl;exact LD hi hl)|(obtain⟨_,_,_⟩:= ‹Es _ _ _›;(try simp only[AR] at*);omega)|skip)
theorem a0p{p:Int→Bool}{x:List Int}(h:¬(0:Int)<x.length):false=Hq p x:=by
 obtain rfl:x=[]:=List.length_eq_zero_iff.1 (by omega)
 rfl
theorem a0q{p:Int→Bool}{x:List Int}{e:Int}(he:x[(x.length-1:Int).toNat]? =some e):Hq p x=(p e&&(x.take (x.length-1:Int).toNat).all EK):=by
 have e1:(x.length-1:Int).toNat=x.length-1:=by omega
 rw[e1] at he ⊢
 unfold Hq
 rw[List.getLast?_eq_getElem?,he,List.dropLast_eq_take]
def Ks:Sig:= {X:=List Int,args:=fun x=>[Aj x,.clo (.func 142) []],pre:=fun x=>x.length<2^62,Y:=Unit,post:=fun x y=>True,res:=fun x y=> .bool (Hq BN x),outs:=fun x y=>[.top,.top],keep:=false}
theorem a8M:Ai G Tryz.prog 143 Ks:=
 vcFun_okP [(142,0,Gg),(141,183+1,IM)] [] false (fun x=>[]) Tryz.func143 rfl (by decide) ⟨Vz,a0o,trivial⟩ (fun(x:List Int)=>(∀(y:Unit),True→True∧True∧True∧True)∧Aa (decide ((↑(List.length x):Int)>(0:Int))) (inR IntKind.i64 ((↑(List.length x):Int)-(1:Int))∧((0:Int)≤(↑(List.length x):Int)-(1:Int)∧(↑(List.length x):Int)-(1:Int)<(↑(List.length x):Int))∧∀(e:Int),x[Int.toNat ((↑(List.length x):Int)-(1:Int))]? =some e→cA Gg [.int .i64 e] fun x_1 y=>Aa (BN x_1) (inR IntKind.i64 ((↑(List.length x):Int)-(1:Int))∧((0:Int)≤(0:Int)∧(0:Int)≤(↑(List.length x):Int)-(1:Int)∧(↑(List.length x):Int)-(1:Int)≤(↑(List.length x):Int))∧cA IM [Aj (List.take (Int.toNat ((↑(List.length x):Int)-(1:Int))) x),AV.clo (Fn.func (161:Nat)) []] fun x_2 y=>rA Ks x [.bool (List.all x_2 EK),.top,.top]) (rA Ks x [.bool false,.top,.top])) (rA Ks x [.bool false,.top,.top])) (fun x=>by kernel_rfl) fun(x:List Int) (hx:x.length<2^62)=>(by
 dsimp only[cA,Aj,rA,IM,Gg,Ks,Au,Az,mvL,lnL,mvE,lnE]
 have hx:x.length<2^62:=hx
 (repeat' first|(with_reducible first|rfl|exact True.intro|apply AK|apply And.intro|((first|apply AA|apply AI|apply AB|apply AJ)<;>intro _))|(apply Ax<;>intro _)|apply AH|refine Ae () ?_ ?_|((first|apply AO|apply AN|apply AM|apply AL|apply AG|apply AF|apply AE|apply AD|apply AC)<;>try dsimp only)|apply Ae|(refine Prod.forall.2 ?_;intro _;try dsimp only)|(intro _;try dsimp only))<;>(try dsimp only at*)<;>(try simp only[AR,List.length_cons,List.length_nil])<;>(try omega)
 all_goals first|exact a0p (by omega)|(rw[a0q ‹_›];simp [*];done)|(rw[List.length_take];omega)|skip)
def Kt:Sig:= {X:=List Int,args:=fun x=>[Aj x,.clo (.func 145) []],pre:=fun x=>x.length<2^62,Y:=Unit,post:=fun x y=>True,res:=fun x y=> .bool (Hq Eh x),outs:=fun x y=>[.top,.top],keep:=false}
theorem a8N:Ai G Tryz.prog 143 Kt:=
 vcFun_okP [(145,0,Ht),(141,183+1,IM)] [] false (fun x=>[]) Tryz.func143 rfl (by decide) ⟨VA,a0o,trivial⟩ (fun(x:List Int)=>(∀(y:Unit),True→True∧True∧True∧True)∧Aa (decide ((↑(List.length x):Int)>(0:Int))) (inR IntKind.i64 ((↑(List.length x):Int)-(1:Int))∧((0:Int)≤(↑(List.length x):Int)-(1:Int)∧(↑(List.length x):Int)-(1:Int)<(↑(List.length x):Int))∧∀(e:Int),x[Int.toNat ((↑(List.length x):Int)-(1:Int))]? =some e→cA Ht [.int .i64 e] fun x_1 y=>Aa (Eh x_1) (inR IntKind.i64 ((↑(List.length x):Int)-(1:Int))∧((0:Int)≤(0:Int)∧(0:Int)≤(↑(List.length x):Int)-(1:Int)∧(↑(List.length x):Int)-(1:Int)≤(↑(List.length x):Int))∧cA IM [Aj (List.take (Int.toNat ((↑(List.length x):Int)-(1:Int))) x),AV.clo (Fn.func (161:Nat)) []] fun x_2 y=>rA Kt x [.bool (List.all x_2 EK),.top,.top]) (rA Kt x [.bool false,.top,.top])) (rA Kt x [.bool false,.top,.top])) (fun x=>by kernel_rfl) fun(x:List Int) (hx:x.length<2^62)=>(by
 dsimp only[cA,Aj,rA,IM,Ht,Kt,Au,Az,mvL,lnL,mvE,lnE]
 have hx:x.length<2^62:=hx
 (repeat' first|(with_reducible first|rfl|exact True.intro|apply AK|apply And.intro|((first|apply AA|apply AI|apply AB|apply AJ)<;>intro _))|(apply Ax<;>intro _)|apply AH|refine Ae () ?_ ?_|((first|apply AO|apply AN|apply AM|apply AL|apply AG|apply AF|apply AE|apply AD|apply AC)<;>try dsimp only)|apply Ae|(refine Prod.forall.2 ?_;intro _;try dsimp only)|(intro _;try dsimp only))<;>(try dsimp only at*)<;>(try simp only[AR,List.length_cons,List.length_nil])<;>(try omega)
 all_goals first|exact a0p (by omega)|(rw[a0q ‹_›];simp [*];done)|(rw[List.length_take];omega)|skip)
def BW:Sig:= {X:=Int×List Int,args:=fun x=>[.int .i64 x.1,Aj x.2],pre:=fun x=>x.2.length<2^62,Y:=Unit,post:=fun x y=>True,res:=fun x y=> .bool (Dv x.1 x.2),outs:=fun x y=>[.top,.top],keep:=false}
theorem a8O:Ai G Tryz.prog 116 BW:=
 vcFun_okP [(142,0,Gg),(145,0,Ht),(66,0,Er),(141,142+1,LE),(141,145+1,LF),(141,115+1,LG),(141,144+1,LH),(141,146+1,LI),(141,147+1,LJ),(143,142+1,Ks),(143,145+1,Kt)] [] false (fun x=>[]) Tryz.func116 rfl (by decide) ⟨Vz,VA,Pe,a8G,a8H,a8I,a8J,a8K,a8L,a8M,a8N,trivial⟩ (fun(x:Int×List Int)=>(∀(y:Unit),True→True∧True∧True∧True)∧cA LE [Aj x.2,AV.clo (Fn.func (126:Nat)) []] fun x_1 y=>Aa (x.1==(1:Int)) (rA BW x [.bool ((↑(List.length x.2):Int)==(0:Int)),.top,.top]) (Aa (x.1==(2:Int)) (rA BW x [.bool ((↑(List.length x.2):Int)==(0:Int)),.top,.top]) (Aa (x.1==(3:Int)) (rA BW x [.bool ((↑(List.length x.2):Int)==(0:Int)),.top,.top]) (Aa (x.1==(19:Int)) (rA BW x [.bool ((↑(List.length x.2):Int)==(0:Int)),.top,.top]) (Aa (x.1==(4:Int)) (rA BW x [.bool (List.all x_1 BN),.top,.top]) (Aa (x.1==(5:Int)) (Aa (decide ((↑(List.length x.2):Int)≥(1:Int))) (rA BW x [.bool (List.all x_1 BN),.top,.top]) (rA BW x [.bool false,.top,.top])) (Aa (x.1==(7:Int)) (Aa (decide ((↑(List.length x.2):Int)≥(2:Int))) (rA BW x [.bool (List.all x_1 BN),.top,.top]) (rA BW x [.bool false,.top,.top])) (Aa (x.1==(8:Int)) (Aa ((↑(List.length x.2):Int)==(3:Int)) (rA BW x [.bool (List.all x_1 BN),.top,.top]) (rA BW x [.bool false,.top,.top])) (Aa (x.1==(6:Int)) (Aa ((↑(List.length x.2):Int)==(1:Int)) (rA BW x [.bool (List.all x_1 BN),.top,.top]) (rA BW x [.bool false,.top,.top])) (Aa (x.1==(11:Int)) (Aa ((↑(List.length x.2):Int)==(1:Int)) (rA BW x [.bool (List.all x_1 BN),.top,.top]) (rA BW x [.bool false,.top,.top])) (Aa (x.1==(13:Int)) (Aa ((↑(List.length x.2):Int)==(1:Int)) (rA BW x [.bool (List.all x_1 BN),.top,.top]) (rA BW x [.bool false,.top,.top])) (Aa (x.1==(14:Int)) (Aa ((↑(List.length x.2):Int)==(1:Int)) (rA BW x [.bool (List.all x_1 BN),.top,.top]) (rA BW x [.bool false,.top,.top])) (Aa (x.1==(12:Int)) (Aa (decide ((↑(List.length x.2):Int)≤(1:Int))) (rA BW x [.bool (List.all x_1 BN),.top,.top]) (rA BW x [.bool false,.top,.top])) (Aa (x.1==(15:Int)) (Aa (decide ((↑(List.length x.2):Int)≤(1:Int))) (rA BW x [.bool (List.all x_1 BN),.top,.top]) (rA BW x [.bool false,.top,.top])) (Aa (x.1==(9:Int)) (cA Ks [Aj x.2,AV.clo (Fn.func (126:Nat)) []] fun x_2 y=>rA BW x [.bool (Hq BN x_2),.top,.top]) (Aa (x.1==(10:Int)) (Aa (decide ((↑(List.length x.2):Int)≥(2:Int))) (((0:Int)≤(0:Int)∧(0:Int)<(↑(List.length x.2):Int))∧∀(e:Int),x.2[(0:Nat)]? =some e→cA Gg [.int .i64 e] fun x_2 y=>Aa (BN x_2) (((0:Int)≤(1:Int)∧(1:Int)≤(↑(List.length x.2):Int)∧(↑(List.length x.2):Int)≤(↑(List.length x.2):Int))∧cA LH [Aj (List.drop (1:Nat) x.2),AV.clo (Fn.func (128:Nat)) []] fun x_3 y=>rA BW x [.bool (List.all x_3 Ga),.top,.top]) (rA BW x [.bool false,.top,.top])) (rA BW x [.bool false,.top,.top])) (Aa (x.1==(16:Int)) (cA Er [.int .i64 (↑(List.length x.2):Int),.int .i64 (2:Int),.int .i64 (3:Int)] fun x_2 y=>Aa (inn x_2.1 x_2.2.1 x_2.2.2) (((0:Int)≤(0:Int)∧(0:Int)<(↑(List.length x.2):Int))∧∀(e:Int),x.2[(0:Nat)]? =some e→cA Gg [.int .i64 e] fun x_3 y=>Aa (BN x_3) (((0:Int)≤(1:Int)∧(1:Int)≤(↑(List.length x.2):Int)∧(↑(List.length x.2):Int)≤(↑(List.length x.2):Int))∧cA LF [Aj (List.drop (1:Nat) x.2),AV.clo (Fn.func (129:Nat)) []] fun x_4 y=>rA BW x [.bool (List.all x_4 Eh),.top,.top]) (rA BW x [.bool false,.top,.top])) (rA BW x [.bool false,.top,.top])) (Aa (x.1==(17:Int)) (Aa ((↑(List.length x.2):Int)==(2:Int)) (((0:Int)≤(0:Int)∧(0:Int)<(↑(List.length x.2):Int))∧∀(e:Int),x.2[(0:Nat)]? =some e→cA Gg [.int .i64 e] fun x_2 y=>Aa (BN x_2) (((0:Int)≤(1:Int)∧(1:Int)<(↑(List.length x.2):Int))∧∀(e:Int),x.2[(1:Nat)]? =some e→cA Ht [.int .i64 e] fun x_3 y=>rA BW x [.bool (Eh x_3),.top,.top]) (rA BW x [.bool false,.top,.top])) (rA BW x [.bool false,.top,.top])) (Aa (x.1==(18:Int)) (cA LI [Aj x.2,AV.clo (Fn.func (130:Nat)) []] fun x_2 y=>rA BW x [.bool (List.all x_2 EY),.top,.top]) (Aa (x.1==(20:Int)) (cA Kt [Aj x.2,AV.clo (Fn.func (129:Nat)) []] fun x_2 y=>rA BW x [.bool (Hq Eh x_2),.top,.top]) (Aa (x.1==(21:Int)) (cA LG [Aj x.2,AV.clo (Fn.func (99:Nat)) []] fun x_2 y=>rA BW x [.bool (List.all x_2 EX),.top,.top]) (Aa (x.1==(22:Int)) (cA LJ [Aj x.2,AV.clo (Fn.func (131:Nat)) []] fun x_2 y=>rA BW x [.bool (List.all x_2 Hp),.top,.top]) (rA BW x [.bool false,.top,.top]))))))))))))))))))))))) (fun x=>by kernel_rfl) fun(x:Int×List Int) (hx:x.2.length<2^62)=>(by
 dsimp only[cA,Aj,rA,LF,LH,LG,LI,LJ,LE,Er,Ht,Gg,BW,Kt,Ks,Au,Az,mvL,lnL,mvE,lnE]
 have hx:x.2.length<2^62:=hx
 obtain⟨k,l⟩:=x
 (repeat' first|(with_reducible first|rfl|exact True.intro|apply AK|apply And.intro|((first|apply AA|apply AI|apply AB|apply AJ)<;>intro _))|(apply Ax<;>intro _)|apply AH|refine Ae () ?_ ?_|((first|apply AO|apply AN|apply AM|apply AL|apply AG|apply AF|apply AE|apply AD|apply AC)<;>try dsimp only)|apply Ae|(refine Prod.forall.2 ?_;intro _;try dsimp only)|(intro _;try dsimp only))<;>(try dsimp only at*)<;>(try simp only[AR,List.length_cons,List.length_nil])<;>(try omega)
 all_goals try(simp only[List.length_drop];omega)
 all_goals try(simp [Dv,Gf, *]<;>omega)
 all_goals(match l with
  |[]=>simp_all [Dv,inn]<;>omega
  |[a]=>simp_all [Dv,inn]<;>omega
  |[a,b]=>simp_all [Dv,inn]<;>omega
  |[a,b,c]=>simp_all [Dv,inn]<;>omega
  |a::b::c::d::m=>simp_all [Dv,inn]<;>omega))
def GN:Sig:= {X:=List Nd×Int,args:=fun x=>[nds x.1,.int .i64 x.2],pre:=fun x=>x.1.length<2^62,Y:=Unit,post:=fun x y=>True,res:=fun x y=> .bool (BM x.1 x.2),outs:=fun x y=>[.top,.top],keep:=false}
theorem VC:Ai G Tryz.prog 93 GN:=
 vcFun_okP [] [] false (fun x=>[]) Tryz.func93 rfl (by decide) trivial (fun(x:List Nd×Int)=>(∀(y:Unit),True→True∧True∧True∧True)∧Aa (decide (x.2≥(0:Int))) (rA GN x [.bool (decide (x.2<(↑(List.length x.1):Int))),.top,.top]) (rA GN x [.bool false,.top,.top])) (fun x=>by kernel_rfl) fun(x:List Nd×Int) (hx:x.1.length<2^62)=>(by
 dsimp only[Bc,nds,rA,GN,Au,Az]
 have hx:x.1.length<2^62:=hx
 (repeat' first|(with_reducible first|rfl|exact True.intro|apply AK|apply And.intro|((first|apply AA|apply AI|apply AB|apply AJ)<;>intro _))|(apply Ax<;>intro _)|apply AH|refine Ae () ?_ ?_|((first|apply AO|apply AN|apply AM|apply AL|apply AG|apply AF|apply AE|apply AD|apply AC)<;>try dsimp only)|apply Ae|(refine Prod.forall.2 ?_;intro _;try dsimp only)|(intro _;try dsimp only))<;>(try dsimp only at*)<;>(try simp only[AR,List.length_cons,List.length_nil])<;>(try omega)
 all_goals simp [BM, *])
def Ra(x:Nd):Prop:=x.text.length<2^62∧x.kids.length<2^62
def Cy(l:List Nd):Prop:=l.length<2^62∧∀x∈l,Ra x
theorem a8P{l:List Nd}{n:Nat}{x:Nd}(hx:l[n]? =some x)(h:Cy l):Ra x:=h.2 x (Ca hx)
def Hu(v:Int):List Int→Int→Int
 |[],_=> -1
 |c::l,i=>if v=c then i else Hu v l (i+1)
theorem a0r{v:Int}:∀ {l:List Int} {i:Int},0≤i→(0≤Hu v l i↔v∈l)
 |[],i,h=>by simp [Hu]
 |c::l,i,h=>by
  unfold Hu
  by_cases e:v=c
  ·simp [e,h]
  ·rw[if_neg e,a0r (by omega)];simp [e]
def LK:Sig:= {X:=List Int×Int,args:=fun x=>[Aj x.1,.int .i64 x.2],pre:=fun x=>x.1.length<2^62,Y:=Unit,post:=fun x y=>True,res:=fun x y=> .int .i64 (Hu x.2 x.1 0),outs:=fun x y=>[.top,.top],keep:=false}
def Rb(x:List Int×Int):LS:= {ι:=Int,inv:=fun i=>(0≤i∧i≤x.1.length)∧Hu x.2 (x.1.drop i.toNat) i=Hu x.2 x.1 0,regs:=fun i=>[(0,Aj x.1),(1,.int .i64 x.2),(7,.int .i64 x.1.length),(8,.int .i64 i)],als:=[],meas:=fun i=>x.1.length-i.toNat}
theorem a8Q:Ai G Tryz.prog 140 LK:=
 vcFun_okP [] [] false (fun x=>[(2,Rb x)]) Tryz.func140 rfl (by decide) trivial (fun(x:List Int×Int)=>(∀(y:Unit),True→True∧True∧True∧True)∧eA (Rb x) [Aj x.1,.int .i64 x.2,.int .i64 (↑(List.length x.1):Int),.int .i64 (0:Int)]∧∀(i:Int),((0:Int)≤i∧i≤(↑(List.length x.1):Int))∧Hu x.2 (List.drop (Int.toNat i) x.1) i=Hu x.2 x.1 (0:Int)→Aa (decide (i<(↑(List.length x.1):Int))) (((0:Int)≤i∧i<(↑(List.length x.1):Int))∧∀(e:Int),x.1[Int.toNat i]? =some e→Aa (x.2==e) (rA LK x [.int .i64 i,.top,.top]) (inR IntKind.i64 (i+(1:Int))∧eN (Rb x) i [Aj x.1,.int .i64 x.2,.int .i64 (↑(List.length x.1):Int),.int .i64 (i+(1:Int))])) (rA LK x [.int .i64 (-1:Int),.top,.top])) (fun x=>by kernel_rfl) fun(x:List Int×Int) (hx:x.1.length<2^62)=>(by
 dsimp only[eA,eN,Rb,Aj,rA,LK,Au,Az,Bq]
 have hx:x.1.length<2^62:=hx
 (repeat' first|(with_reducible first|rfl|exact True.intro|apply AK|apply And.intro|((first|apply AA|apply AI|apply AB|apply AJ)<;>intro _))|(apply Ax<;>intro _)|apply AH|refine Ae () ?_ ?_|((first|apply AO|apply AN|apply AM|apply AL|apply AG|apply AF|apply AE|apply AD|apply AC)<;>try dsimp only)|apply Ae|(refine Prod.forall.2 ?_;intro _;try dsimp only)|(intro _;try dsimp only))<;>(try dsimp only at*)<;>(try simp only[AR,List.length_cons,List.length_nil])<;>(try omega)
 all_goals first
  |(rename_i i hi hl e he h;rw[←hi.2,Nj he];simp [Hu,h];done)
  |(rename_i i hi hl e he h;rw[←hi.2,Nj he,DX hi.1.1];simp [Hu,h];done)
  |rfl
  |(rename_i i hi hl;rw[←hi.2,List.drop_eq_nil_of_le (by omega)];rfl)
  |skip)
def Nu:Sig:= {X:=List Int×Int,args:=fun x=>[Aj x.1,.int .i64 x.2],pre:=fun x=>x.1.length<2^62,Y:=Unit,post:=fun x y=>True,res:=fun x y=> .bool (x.1.elem x.2),outs:=fun x y=>[.top,.top],keep:=false}
theorem a8R:Ai G Tryz.prog 113 Nu:=
 vcFun_okP [(140,0,LK)] [] false (fun x=>[]) Tryz.func113 rfl (by decide) ⟨a8Q,trivial⟩ (fun(x:List Int×Int)=>(∀(y:Unit),True→True∧True∧True∧True)∧cA LK [Aj x.1,.int .i64 x.2] fun x_1 y=>rA Nu x [.bool (decide (Hu x_1.2 x_1.1 (0:Int)≥(0:Int))),.top,.top]) (fun x=>by kernel_rfl) fun(x:List Int×Int) (hx:x.1.length<2^62)=>(by
 dsimp only[cA,Aj,rA,Nu,LK,Au,Az,mvL,lnL,mvE,lnE]
 have hx:x.1.length<2^62:=hx
 (repeat' first|(with_reducible first|rfl|exact True.intro|apply AK|apply And.intro|((first|apply AA|apply AI|apply AB|apply AJ)<;>intro _))|(apply Ax<;>intro _)|apply AH|refine Ae () ?_ ?_|((first|apply AO|apply AN|apply AM|apply AL|apply AG|apply AF|apply AE|apply AD|apply AC)<;>try dsimp only)|apply Ae|(refine Prod.forall.2 ?_;intro _;try dsimp only)|(intro _;try dsimp only))<;>(try dsimp only at*)<;>(try simp only[AR,List.length_cons,List.length_nil])<;>(try omega)
 all_goals first|(rw[Bool.eq_iff_iff,decide_eq_true_iff,List.elem_iff];exact a0r (by omega))|skip)
theorem a0s{ns:List Nd}{x:Nd}:Fk ns x=true↔∀(j:Nat) c,x.kids[j]? =some c→Da ns x j c=true:=by
 have e:Fk ns x=BV (fun i c=>Da ns x i.toNat c) x.kids 0:=by
  unfold Fk
  have:(fun p:Int×Nat=>Da ns x p.2 p.1)=fun p:Int×Nat=>(fun(i c:Int)=>Da ns x i.toNat c) p.2 p.1:=by funext p;simp
  rw[this];exact Vx (f:=fun i c=>Da ns x i.toNat c) (i:=0)
 rw[e,Vy];simp
def cfI(ns:List Nd)(x:Nd)(i:Int):Prop:=0≤i∧i≤x.kids.length∧∀(j:Nat) c,(j:Int)<i→x.kids[j]? =some c→Da ns x j c=true
theorem a8S{ns:List Nd}{x:Nd}:cfI ns x 0:=⟨by omega,by omega,fun j c h=>by omega⟩
theorem Rc{ns:List Nd}{x:Nd}{i c:Int}(h:cfI ns x i)(hc:x.kids[i.toNat]? =some c)(hk:Da ns x i.toNat c=true):cfI ns x (i+1):=by
 obtain⟨h1,h2,h3⟩:=h
 have:=(Fz hc).1
 refine⟨by omega,by omega,fun j d hj hd=> ?_⟩
 by_cases e:(j:Int)<i
 ·exact h3 j d e hd
 ·obtain rfl:j=i.toNat:=by omega
  rw[hc] at hd;cases hd;exact hk
theorem a8T{ns:List Nd}{x:Nd}{i:Int}(h:cfI ns x i)(hl:¬i<x.kids.length):true=Fk ns x:=by
 symm;rw[a0s];intro j c hc
 exact h.2.2 j c (by have:=(Fz hc).1;omega) hc
theorem VD{ns:List Nd}{x:Nd}{i c:Int}(hc:x.kids[i.toNat]? =some c)(hk:Da ns x i.toNat c=false):false=Fk ns x:=by
 symm;rw[Bool.eq_false_iff];intro h
 rw[a0s.1 h _ _ hc] at hk;cases hk
theorem a8U{ns:List Nd}{x y:Nd}{i c:Int}(hy:ns[c.toNat]? =some y)(h:y.kind≠5):Da ns x i.toNat c=true:=by
 simp [Da,Bw hy,h]
theorem a8V{ns:List Nd}{x y:Nd}{i c:Int}(hy:ns[c.toNat]? =some y)(h:y.kind=5)(h0:(y.kids.length:Int)=0):Da ns x i.toNat c=false:=by
 have h0:=List.length_eq_zero_iff.1 (show y.kids.length=0 by omega)
 simp [Da,Bw hy,h,h0]
theorem a8W{ns:List Nd}{x y:Nd}{i c d:Int}(hy:ns[c.toNat]? =some y)(h:y.kind=5)(hd:BM ns d=false)(h0:y.kids[0]? =some d):Da ns x i.toNat c=false:=by
 match hk:y.kids with
 |[]=>rw[hk] at h0;cases h0
 |e::t=>rw[hk] at h0;cases h0;simp [Da,Bw hy,h,hk,hd]
theorem a8X{ns:List Nd}{x y z:Nd}{i c d d':Int}(hy:ns[c.toNat]? =some y)(h:y.kind=5)(hd:BM ns d=true)(h0:y.kids[0]? =some d)(hz:ns[d'.toNat]? =some z)(h0':y.kids[0]? =some d')(h10:x.kind=10)(hi:i>0)(h1:z.kind≠1):Da ns x i.toNat c=false:=by
 match hk:y.kids with
 |[]=>rw[hk] at h0;cases h0
 |e::t=>rw[hk] at h0 h0';cases h0;cases h0';simp [Da,Bw hy,h,hk,hd,h10,Bt,Bw hz,h1];omega
theorem a8Y{ns:List Nd}{x y z:Nd}{i c d d':Int}(hy:ns[c.toNat]? =some y)(h:y.kind=5)(hd:BM ns d=true)(h0:y.kids[0]? =some d)(hz:ns[d'.toNat]? =some z)(h0':y.kids[0]? =some d')(h1:z.kind=1):Da ns x i.toNat c=true:=by
 match hk:y.kids with
 |[]=>rw[hk] at h0;cases h0
 |e::t=>rw[hk] at h0 h0';cases h0;cases h0';simp [Da,Bw hy,h,hk,hd,Bt,Bw hz,h1]
theorem a8Z{ns:List Nd}{x y:Nd}{i c d:Int}(hy:ns[c.toNat]? =some y)(h:y.kind=5)(hd:BM ns d=true)(h0:y.kids[0]? =some d)(h1:x.kind≠10):Da ns x i.toNat c=true:=by
 match hk:y.kids with
 |[]=>rw[hk] at h0;cases h0
 |e::t=>rw[hk] at h0;cases h0;simp [Da,Bw hy,h,hk,hd,h1]
theorem a9a{ns:List Nd}{x y:Nd}{i c d:Int}(hy:ns[c.toNat]? =some y)(h:y.kind=5)(hd:BM ns d=true)(h0:y.kids[0]? =some d)(h1:¬i>0):Da ns x i.toNat c=true:=by
 have:i.toNat=0:=by omega
 match hk:y.kids with
 |[]=>rw[hk] at h0;cases h0
 |e::t=>rw[hk] at h0;cases h0;simp [Da,Bw hy,h,hk,hd,this]
theorem ndB{ns:List Nd}{l:List Int}{d d':Int}(hd:BM ns d=true)(h0:l[0]? =some d)(h0':l[0]? =some d'):0≤d'∧d'<ns.length:=by
 rw[h0] at h0';cases h0';exact DS.1 hd
def HV:Sig:= {X:=List Nd×Nd,args:=fun x=>[nds x.1,.agg (ndA false x.2)],pre:=fun x=>Cy x.1∧Ra x.2∧∀c∈x.2.kids,0≤c∧c<x.1.length,Y:=Unit,post:=fun x y=>True,res:=fun x y=> .bool (Fk x.1 x.2),outs:=fun x y=>[.top,.top],keep:=false}
def LL(x:List Nd×Nd):LS:= {ι:=Int,inv:=cfI x.1 x.2,regs:=fun i=>[(0,nds x.1),(3,.box 0 (ndA false x.2)),(9,Aj x.2.kids),(10,.int .i64 x.2.kids.length),(11,.int .i64 i)],als:=[],meas:=fun i=>x.2.kids.length-i.toNat}
theorem a9b:Ai G Tryz.prog 117 HV:=
 vcFun_okP [(93,0,GN)] [] false (fun x=>[(2,LL x)]) Tryz.func117 rfl (by decide) ⟨VC,trivial⟩ (fun(x:List Nd×Nd)=>(∀(y:Unit),True→True∧True∧True∧True)∧eA (LL x) [nds x.1,.box 0 [.int .i64 x.2.kind,.str x.2.text,Aj x.2.kids,.bool x.2.blank],Aj x.2.kids,.int .i64 (↑(List.length x.2.kids):Int),.int .i64 (0:Int)]∧∀(i:Int),cfI x.1 x.2 i→Aa (decide (i<(↑(List.length x.2.kids):Int))) (((0:Int)≤i∧i<(↑(List.length x.2.kids):Int))∧∀(e:Int),x.2.kids[Int.toNat i]? =some e→((0:Int)≤e∧e<(↑(List.length x.1):Int))∧∀(e_1:Nd),x.1[Int.toNat e]? =some e_1→Aa (e_1.kind != (5:Int)) (inR IntKind.i64 (i+(1:Int))∧eN (LL x) i [nds x.1,.box 0 [.int .i64 x.2.kind,.str x.2.text,Aj x.2.kids,.bool x.2.blank],Aj x.2.kids,.int .i64 (↑(List.length x.2.kids):Int),.int .i64 (i+(1:Int))]) (Aa ((↑(List.length e_1.kids):Int)==(0:Int)) (rA HV x [.bool false,.top,.top]) (((0:Int)≤(0:Int)∧(0:Int)<(↑(List.length e_1.kids):Int))∧∀(e:Int),e_1.kids[(0:Nat)]? =some e→cA GN [nds x.1,.int .i64 e] fun x_1 y=>Aa (!BM x_1.1 x_1.2) (rA HV x [.bool false,.top,.top]) (Aa (x.2.kind==(10:Int)) (Aa (decide (i>(0:Int))) (((0:Int)≤(0:Int)∧(0:Int)<(↑(List.length e_1.kids):Int))∧∀(e:Int),e_1.kids[(0:Nat)]? =some e→((0:Int)≤e∧e<(↑(List.length x.1):Int))∧∀(e_2:Nd),x.1[Int.toNat e]? =some e_2→Aa (e_2.kind != (1:Int)) (rA HV x [.bool false,.top,.top]) (inR IntKind.i64 (i+(1:Int))∧eN (LL x) i [nds x.1,.box 0 [.int .i64 x.2.kind,.str x.2.text,Aj x.2.kids,.bool x.2.blank],Aj x.2.kids,.int .i64 (↑(List.length x.2.kids):Int),.int .i64 (i+(1:Int))])) (inR IntKind.i64 (i+(1:Int))∧eN (LL x) i [nds x.1,.box 0 [.int .i64 x.2.kind,.str x.2.text,Aj x.2.kids,.bool x.2.blank],Aj x.2.kids,.int .i64 (↑(List.length x.2.kids):Int),.int .i64 (i+(1:Int))])) (inR IntKind.i64 (i+(1:Int))∧eN (LL x) i [nds x.1,.box 0 [.int .i64 x.2.kind,.str x.2.text,Aj x.2.kids,.bool x.2.blank],Aj x.2.kids,.int .i64 (↑(List.length x.2.kids):Int),.int .i64 (i+(1:Int))]))))) (rA HV x [.bool true,.top,.top])) (fun x=>by kernel_rfl) fun(x:List Nd×Nd) (hx:Cy x.1∧Ra x.2∧∀c∈x.2.kids,0≤c∧c<x.1.length)=>(by
 dsimp only[cA,eA,eN,LL,Aj,Bc,nds,rA,HV,GN,Au,Az,mvL,lnL,mvE,lnE,Bq]
 obtain⟨h1,h2,h3⟩:=hx;have hl:=h1.1;have hk:=h2.2
 (repeat' first|(with_reducible first|rfl|exact True.intro|apply AK|apply And.intro|((first|apply AA|apply AI|apply AB|apply AJ)<;>intro _))|(apply Ax<;>intro _)|apply AH|refine Ae () ?_ ?_|((first|apply AO|apply AN|apply AM|apply AL|apply AG|apply AF|apply AE|apply AD|apply AC)<;>try dsimp only)|apply Ae|(refine Prod.forall.2 ?_;intro _;try dsimp only)|(intro _;try dsimp only))
 all_goals first
  |exact a8S
  |exact a8T ‹_› ‹_›
  |exact Rc ‹_› ‹_› (a8U ‹_› ‹_›)
  |exact Rc ‹_› ‹_› (a9a ‹_› ‹_› ‹_› ‹_› ‹_›)
  |exact Rc ‹_› ‹_› (a8Z ‹_› ‹_› ‹_› ‹_› ‹_›)
  |exact Rc ‹_› ‹_› (a8Y ‹_› ‹_› ‹_› ‹_› ‹_› ‹_› ‹_›)
  |exact VD ‹_› (a8V ‹_› ‹_› ‹_›)
  |exact VD ‹_› (a8W ‹_› ‹_› ‹_› ‹_›)
  |exact VD ‹_› (a8X ‹_› ‹_› ‹_› ‹_› ‹_› ‹_› ‹_› ‹_› ‹_›)
  |exact(h3 _ (Ca ‹_›)).1
  |exact(h3 _ (Ca ‹_›)).2
  |exact(ndB ‹_› ‹_› ‹_›).1
  |exact(ndB ‹_› ‹_› ‹_›).2
  |(obtain⟨_,_,_⟩:= ‹cfI _ _ _›;(try simp only[AR] at*);omega)
  |skip)
def nkI(k:Int)(l:List Int)(i:Int):Prop:=0≤i∧i≤l.length∧(∀c∈l.take i.toNat,0≤c∧c<k)∧(l.take i.toNat).Nodup
theorem a0t{k:Int}{l:List Int}:nkI k l 0:=⟨by omega,by omega,by simp,by simp⟩
theorem a0u{k:Int}{l:List Int}{i c:Int}(h:nkI k l i)(hc:l[i.toNat]? =some c)(h1:¬c<0)(h2:¬c≥k)(h3:(l.take i.toNat).elem c=false):nkI k l (i+1):=by
 obtain⟨ha,hb,hd,he⟩:=h
 have:=(Fz hc).1
 refine⟨by omega,by omega,?_,?_⟩
 ·rw[DX ha,FZ hc];intro d hd'
  rcases List.mem_append.1 hd' with hd'|hd'
  ·exact hd d hd'
  ·simp at hd';subst hd';omega
 ·rw[DX ha,FZ hc,List.nodup_append]
  refine⟨he,by simp,?_⟩
  intro a ha' b hb' hab
  simp at hb';subst hb';subst hab
  simp at h3;exact h3 ha'
theorem Ph{k:Int}{l:List Int}{i:Int}(h:nkI k l i)(hl:¬i<l.length):Ea l k=true∧l.Nodup:=by
 obtain⟨ha,hb,hd,he⟩:=h
 rw[List.take_of_length_le (by omega)] at hd he
 exact⟨by simpa [Ea] using hd,he⟩
theorem a9c{k:Int}{l:List Int}{n:Nat}{c:Int}(hc:l[n]? =some c)(h1:c<0):Ea l k=false:=by
 rw[Bool.eq_false_iff];intro h;simp only[Ea,List.all_eq_true,Bool.and_eq_true,decide_eq_true_eq] at h
 have:=h c (Ca hc);omega
theorem a9d{k:Int}{l:List Int}{n:Nat}{c:Int}(hc:l[n]? =some c)(h1:c≥k):Ea l k=false:=by
 rw[Bool.eq_false_iff];intro h;simp only[Ea,List.all_eq_true,Bool.and_eq_true,decide_eq_true_eq] at h
 have:=h c (Ca hc);omega
theorem a0v{l:List Int}{n:Nat}{c:Int}(hc:l[n]? =some c)(h1:(l.take n).elem c=true):¬l.Nodup:=by
 intro h
 have e:l=l.take n++l.drop n:=(List.take_append_drop n l).symm
 rw[e,Nj hc,List.nodup_append] at h
 exact h.2.2 c (by simpa using h1) c (by simp) rfl
theorem a0w{ns:List Nd}{k:Int}(h:BM ns k=false):false=Ci ns k:=by simp [Ci,h]
theorem Nv{ns:List Nd}{k:Int}{x:Nd}(hx:ns[k.toNat]? =some x)(h:BM ns k=true):Ci ns k=IJ ns k x:=by rw[Ci,h,Bw hx];rfl
theorem a9e{ns:List Nd}{k:Int}{x:Nd}(hx:ns[k.toNat]? =some x)(h:BM ns k=true)(h1:(x.kids.length:Int)>12):false=Ci ns k:=by
 rw[Nv hx h,IJ,decide_eq_false (by omega)];rfl
theorem a9f{ns:List Nd}{k:Int}{x:Nd}(hx:ns[k.toNat]? =some x)(h:BM ns k=true)(h1:Fj x.kind x.text=false):false=Ci ns k:=by
 rw[Nv hx h,IJ,h1];simp
theorem a0x{ns:List Nd}{k:Int}{x:Nd}(hx:ns[k.toNat]? =some x)(h:BM ns k=true)(h1:Ea x.kids k=false):false=Ci ns k:=by
 rw[Nv hx h,IJ,h1];simp
theorem a9g{ns:List Nd}{k:Int}{x:Nd}(hx:ns[k.toNat]? =some x)(h:BM ns k=true)(h1:¬x.kids.Nodup):false=Ci ns k:=by
 rw[Nv hx h,IJ,decide_eq_false h1];simp
theorem a0y{ns:List Nd}{k i:Int}{x:Nd}(hx:ns[k.toNat]? =some x)(h:BM ns k=true)(h1:(x.kids.length:Int)≤12)(h2:Fj x.kind x.text=true)(h3:nkI k x.kids i)(hl:¬i<x.kids.length):
 Ci ns k=(Dv x.kind ((x.kids.take i.toNat).map (Bt ns))&&(Fk ns x&&(HQ x.kind|| !x.blank))):=by
 obtain⟨ha,hb⟩:=Ph h3 hl
 rw[List.take_of_length_le (by have:=h3.1;omega),Nv hx h,IJ,h2,ha,decide_eq_true hb,decide_eq_true (by omega)];simp
theorem VE{k:Int}{l:List Int}{i c n:Int}(h:nkI k l i)(hl:¬i<l.length)(hk:k<n)(hc:c∈l):0≤c∧c<n:=by
 have:=(Ph h hl).1
 simp only[Ea,List.all_eq_true,Bool.and_eq_true,decide_eq_true_eq] at this
 have:=this c hc;omega
theorem a9h{ns:List Nd}{l:List Int}{i c:Int}{y:Nd}(h0:0≤i)(hc:l[i.toNat]? =some c)(hy:ns[c.toNat]? =some y):(l.take i.toNat).map (Bt ns)++[y.kind]=(l.take (i+1).toNat).map (Bt ns):=by
 rw[DX h0,FZ hc,List.map_append];simp [Bt,Bw hy]
def Rd(x:List Nd×Int):LS:= {
 ι:=Int,inv:=nkI x.2 (Af x.1 x.2).kids,
 regs:=fun i=>[(0,nds x.1),(1,.int .i64 x.2),(5,.box 0 (ndA false (Af x.1 x.2))),(6,Ab (((Af x.1 x.2).kids.take i.toNat).map (Bt x.1))),(28,Aj (Af x.1 x.2).kids),(29,.int .i64 (Af x.1 x.2).kids.length),(30,.int .i64 i)],als:=[],meas:=fun i=>(Af x.1 x.2).kids.length-i.toNat}
def Ec:Sig:= {X:=List Nd×Int,args:=fun x=>[nds x.1,.int .i64 x.2],pre:=fun x=>Cy x.1,Y:=Unit,post:=fun x y=>True,res:=fun x y=> .bool (Ci x.1 x.2),outs:=fun x y=>[.top,.top],keep:=false}
theorem a9i:Ai G Tryz.prog 94 Ec:=
 vcFun_okP [(93,0,GN),(112,0,DM),(113,0,Nu),(114,0,Jo),(115,0,Gh),(116,0,BW),(117,0,HV)] [(25,⟨Int,AZ⟩)] false (fun x=>[(8,Rd x)]) Tryz.func94 rfl (by decide) ⟨VC,a8o,a8R,a0n,VB,a8O,a9b,trivial⟩ (fun(x:List Nd×Int)=>(∀(y:Unit),True→True∧True∧True∧True)∧cA GN [nds x.1,.int .i64 x.2] fun x_1 y=>Aa (!BM x_1.1 x_1.2) (rA Ec x [.bool false,.top,.top]) (((0:Int)≤x.2∧x.2<(↑(List.length x.1):Int))∧∀(e:Nd),x.1[Int.toNat x.2]? =some e→Aa (decide ((↑(List.length e.kids):Int)>(12:Int))) (rA Ec x [.bool false,.top,.top]) (cA DM [.agg [.int .i64 e.kind,.str e.text,Aj e.kids,.bool e.blank]] fun x_2 y=>Aa (!Fj x_2.kind x_2.text) (rA Ec x [.bool false,.top,.top]) (eA (Rd x) [nds x.1,.int .i64 x.2,.box 0 [.int .i64 e.kind,.str e.text,Aj e.kids,.bool e.blank],.nil,Aj e.kids,.int .i64 (↑(List.length e.kids):Int),.int .i64 (0:Int)]∧∀(i:Int),nkI x.2 (Af x.1 x.2).kids i→Aa (decide (i<(↑(List.length (Af x.1 x.2).kids):Int))) (((0:Int)≤i∧i<(↑(List.length (Af x.1 x.2).kids):Int))∧∀(e:Int),(Af x.1 x.2).kids[Int.toNat i]? =some e→Aa (decide (e<(0:Int))) (rA Ec x [.bool false,.top,.top]) (Aa (decide (e≥x.2)) (rA Ec x [.bool false,.top,.top]) (((0:Int)≤(0:Int)∧(0:Int)≤i∧i≤(↑(List.length (Af x.1 x.2).kids):Int))∧cA Nu [Aj (List.take (Int.toNat i) (Af x.1 x.2).kids),.int .i64 e] fun x_3 y=>Aa (List.elem x_3.2 x_3.1) (rA Ec x [.bool false,.top,.top]) (((0:Int)≤e∧e<(↑(List.length x.1):Int))∧∀(e_1:Nd),x.1[Int.toNat e]? =some e_1→∃(x_4:Int),e_1.kind=x_4∧∃(zs:List Int),Ab [x_4]=Ab zs∧Bj AZ∧AW (List.length (List.map (Bt x.1) (List.take (Int.toNat i) (Af x.1 x.2).kids))+List.length zs) (8:Nat)∧inR IntKind.i64 (i+(1:Int))∧eN (Rd x) i [nds x.1,.int .i64 x.2,.box 0 [.int .i64 (Af x.1 x.2).kind,.str (Af x.1 x.2).text,Aj (Af x.1 x.2).kids,.bool (Af x.1 x.2).blank],Ab (List.map (Bt x.1) (List.take (Int.toNat i) (Af x.1 x.2).kids)++zs),Aj (Af x.1 x.2).kids,.int .i64 (↑(List.length (Af x.1 x.2).kids):Int),.int .i64 (i+(1:Int))])))) (cA Jo [.int .i64 (Af x.1 x.2).kind] fun x_3 y=>Aa (Ko x_3) (cA BW [.int .i64 (Af x.1 x.2).kind,Ab (List.map (Bt x.1) (List.take (Int.toNat i) (Af x.1 x.2).kids))] fun x_4 y=>Aa (Dv x_4.1 x_4.2) (cA HV [nds x.1,.agg [.int .i64 (Af x.1 x.2).kind,.str (Af x.1 x.2).text,Aj (Af x.1 x.2).kids,.bool (Af x.1 x.2).blank]] fun x_5 y=>Aa (Fk x_5.1 x_5.2) (rA Ec x [.bool true,.top,.top]) (rA Ec x [.bool false,.top,.top])) (rA Ec x [.bool false,.top,.top])) (cA Gh [.int .i64 (Af x.1 x.2).kind] fun x_4 y=>Aa (EX x_4) (cA BW [.int .i64 (Af x.1 x.2).kind,Ab (List.map (Bt x.1) (List.take (Int.toNat i) (Af x.1 x.2).kids))] fun x_5 y=>Aa (Dv x_5.1 x_5.2) (cA HV [nds x.1,.agg [.int .i64 (Af x.1 x.2).kind,.str (Af x.1 x.2).text,Aj (Af x.1 x.2).kids,.bool (Af x.1 x.2).blank]] fun x_6 y=>Aa (Fk x_6.1 x_6.2) (rA Ec x [.bool true,.top,.top]) (rA Ec x [.bool false,.top,.top])) (rA Ec x [.bool false,.top,.top])) (cA BW [.int .i64 (Af x.1 x.2).kind,Ab (List.map (Bt x.1) (List.take (Int.toNat i) (Af x.1 x.2).kids))] fun x_5 y=>Aa (Dv x_5.1 x_5.2) (cA HV [nds x.1,.agg [.int .i64 (Af x.1 x.2).kind,.str (Af x.1 x.2).text,Aj (Af x.1 x.2).kids,.bool (Af x.1 x.2).blank]] fun x_6 y=>Aa (Fk x_6.1 x_6.2) (Aa ((Af x.1 x.2).kind==(21:Int)) (rA Ec x [.bool true,.top,.top]) (rA Ec x [.bool !(Af x.1 x.2).blank,.top,.top])) (rA Ec x [.bool false,.top,.top])) (rA Ec x [.bool false,.top,.top])))))))) (fun x=>by kernel_rfl) fun(x:List Nd×Int) (hx:Cy x.1)=>(by
 dsimp only[cA,eA,eN,Aj,Rd,Bc,nds,Ab,rA,HV,Nu,Ec,Gh,GN,Jo,BW,DM,Au,Az,mvL,lnL,mvE,lnE,Bq]
 have h1:Cy x.1:=hx;have hl:=h1.1
 (repeat' first|(with_reducible first|rfl|exact True.intro|apply AK|apply And.intro|((first|apply AA|apply AI|apply AB|apply AJ)<;>intro _))|(apply Ax<;>intro _)|apply AH|refine Ae () ?_ ?_|((first|apply AO|apply AN|apply AM|apply AL|apply AG|apply AF|apply AE|apply AD|apply AC)<;>try dsimp only)|apply Ae|(refine Prod.forall.2 ?_;intro _;try dsimp only)|(intro _;try dsimp only))
 all_goals try(simp only[Bw (show x.1[x.2.toNat]? =some _ by assumption)] at*)
 all_goals first
  |rfl
  |exact a0t
  |exact(h1.2 _ (Ca ‹_›)).1
  |exact(h1.2 _ (Ca ‹_›)).2
  |exact a8P ‹_› h1
  |exact(VE ‹_› ‹_› (DS.1 ‹BM _ _=true›).2 ‹_›).1
  |exact(VE ‹_› ‹_› (DS.1 ‹BM _ _=true›).2 ‹_›).2
  |exact a0w ‹_›
  |exact a9e ‹_› ‹_› ‹_›
  |exact a9f ‹_› ‹_› ‹_›
  |exact a0x ‹_› ‹_› (a9c ‹_› ‹_›)
  |exact a0x ‹_› ‹_› (a9d ‹_› ‹_›)
  |exact a9g ‹_› ‹_› (a0v ‹_› ‹_›)
  |exact a0u ‹_› ‹_› ‹_› ‹_› ‹_›
  |exact a9h (‹nkI _ _ _›.1) ‹_› ‹_›
  |(refine Eq.trans ?_ (a0y (show x.1[x.2.toNat]? =some _ by assumption) ‹_› (by omega) ‹_› ‹_› ‹_›).symm;simp [-List.map_take,HQ,Gf, *];done)
  |omega
  |(have:=DS.1 ‹BM _ _=true›;omega)
  |(have:=DS.1 ‹BM _ _=true›;obtain⟨_,_,_⟩:= ‹nkI _ _ _›;(try simp only[AR,AW,List.length_take,List.length_map,List.length_append,List.length_cons,List.length_nil] at*);omega)
  |(refine Eq.trans ?_ (a0y (show x.1[x.2.toNat]? =some _ by assumption) ‹_› (by omega) ‹_› ‹_› ‹_›).symm;rw[‹Dv _ _=true›,‹Fk _ _=true›];simp [HQ, *]))
def dl(k i:Int)(ds:List Int):List Int:=ds++List.replicate (k+1-i).toNat 0
def dI(ns:List Nd)(k i:Int)(ds:List Int):Prop:=BM ns k=true∧0≤i∧i≤k+1∧CS ns i.toNat=some ds
def dJ(ns:List Nd)(k i:Int)(ds:List Int)(j d:Int):Prop:=dI ns k i ds∧i≤k∧Ci ns i=true∧0≤j∧j≤(Af ns i).kids.length∧0≤d∧d≤14∧mx ds ((Af ns i).kids.drop j.toNat) d=mx ds (Af ns i).kids 0
theorem a9j{ns:List Nd}{k:Int}(h:BM ns k=true):dI ns k 0 []:=⟨h,by omega,by have:=DS.1 h;omega,rfl⟩
theorem a9k{k:Int}:List.replicate (k+1).toNat 0=dl k 0 []:=by simp [dl]
theorem a0z{ns:List Nd}{k i:Int}{ds:List Int}(h:dI ns k i ds):((dl k i ds).length:Int)=k+1:=by
 obtain⟨h0,h1,h2,h3⟩:=h
 have:=Kp h3
 rw[dl,List.length_append,List.length_replicate];omega
theorem a9l{ns:List Nd}{k i:Int}{ds:List Int}(h:dI ns k i ds)(hl:i<k+1)(hn:Ci ns i=false):0=BE ns k:=by
 obtain⟨h0,h1,h2,h3⟩:=h
 have:CS ns (i.toNat+1)=none:=by
  unfold CS;rw[h3];simp only
  rw[show((i.toNat:Nat):Int)=i by omega,hn];rfl
 unfold BE;rw[if_pos h0,ZH this (by omega)]
theorem a9m{ns:List Nd}{k i:Int}{ds:List Int}(h:dI ns k i ds)(hl:i<k+1)(hn:Ci ns i=true):dJ ns k i ds 0 0:=
 ⟨h,by omega,hn,by omega,by omega,by omega,by omega,by simp⟩
theorem a0A{ns:List Nd}{k i:Int}{ds:List Int}{j d c:Int}(h:dJ ns k i ds j d)(hc:(Af ns i).kids[j.toNat]? =some c):0≤c∧c<i:=by
 exact(HR h.2.2.1).2.2.2.1 c (Ca hc)
theorem VF{ns:List Nd}{k i:Int}{ds:List Int}{j d c:Int}(h:dJ ns k i ds j d)(hc:(Af ns i).kids[j.toNat]? =some c):0≤c∧c<(dl k i ds).length:=by
 have:=a0A h hc;have:=a0z h.1;have:=h.1.2.2;omega
theorem a9n{ns:List Nd}{k i:Int}{ds:List Int}{j d c v:Int}(h:dJ ns k i ds j d)(hc:(Af ns i).kids[j.toNat]? =some c)(hv:(dl k i ds)[c.toNat]? =some v):ds.getD c.toNat 0=v∧1≤v∧v≤14:=by
 have h1:=a0A h hc
 have h2:=Kp h.1.2.2.2
 rw[dl,List.getElem?_append_left (by omega)] at hv
 refine⟨by simp [List.getD,hv],?_⟩
 exact Pc h.1.2.2.2 v (Ca hv)
theorem a9o{ns:List Nd}{k i:Int}{ds:List Int}{j d c v:Int}(h:dJ ns k i ds j d)(hc:(Af ns i).kids[j.toNat]? =some c)(hv:(dl k i ds)[c.toNat]? =some v):dJ ns k i ds (j+1) (max d v):=by
 obtain⟨hv1,hv2,hv3⟩:=a9n h hc hv
 obtain⟨h1,h2,h3,h4,h5,h6,h7,h8⟩:=h
 have:=(Fz hc).1
 refine⟨h1,h2,h3,by omega,by omega,by omega,by omega,?_⟩
 rw[←h8,Nj hc,DX h4];simp only[mx,hv1]
theorem a0B{ns:List Nd}{k i:Int}{ds:List Int}{j d:Int}(h:dJ ns k i ds j d)(hl:¬j<(Af ns i).kids.length):d=mx ds (Af ns i).kids 0:=by
 obtain⟨h1,h2,h3,h4,h5,h6,h7,h8⟩:=h
 rw[List.drop_eq_nil_of_le (by omega)] at h8;exact h8
theorem a9p{ns:List Nd}{k i:Int}{ds:List Int}{j d:Int}(h:dJ ns k i ds j d)(hl:¬j<(Af ns i).kids.length)(hd:d≥14):0=BE ns k:=by
 have hm:=a0B h hl
 obtain⟨⟨ha,hb,he,hf⟩,h2,h3,_⟩:=h
 have e:((i.toNat:Nat):Int)=i:=by omega
 have:CS ns (i.toNat+1)=none:=by
  unfold CS;rw[hf];simp only
  rw[e,h3,if_pos rfl,if_pos (by omega)]
 unfold BE;rw[if_pos ha,ZH this (by omega)]
theorem a9q{ns:List Nd}{k i:Int}{ds:List Int}{j d:Int}(h:dJ ns k i ds j d)(hl:¬j<(Af ns i).kids.length)(hd:¬d≥14):dI ns k (i+1) (ds++[d+1]):=by
 have hm:=a0B h hl
 obtain⟨⟨ha,hb,he,hf⟩,h2,h3,_⟩:=h
 have e:((i.toNat:Nat):Int)=i:=by omega
 refine⟨ha,by omega,by omega,?_⟩
 rw[DX hb];unfold CS;rw[hf];simp only
 rw[e,h3,if_pos rfl,if_neg (by omega),←hm]
theorem a9r{ns:List Nd}{k i:Int}{ds:List Int}{j d:Int}(h:dJ ns k i ds j d):(dl k i ds).set i.toNat (d+1)=dl k (i+1) (ds++[d+1]):=by
 obtain⟨⟨ha,hb,he,hf⟩,h2,h3,_⟩:=h
 have hl:=Kp hf
 have e:(k+1-i).toNat=(k+1-(i+1)).toNat+1:=by omega
 unfold dl;rw[List.set_append_right _ _ (by omega),e,hl];simp [List.replicate_succ]
theorem a9s{ns:List Nd}{k i v:Int}{ds:List Int}(h:dI ns k i ds)(hl:¬i<k+1)(hv:(dl k i ds)[k.toNat]? =some v):v=BE ns k:=by
 obtain⟨h0,h1,h2,h3⟩:=h
 obtain rfl:i=k+1:=by omega
 have:=DS.1 h0
 rw[show(k+1).toNat=k.toNat+1 by omega] at h3
 unfold BE;rw[if_pos h0,h3]
 simp [dl] at hv
 simp [List.getD,hv]
theorem a0C{ns:List Nd}{k:Int}(h:BM ns k=false):0=BE ns k:=by simp [BE,h]
theorem a9t{ns:List Nd}{k i:Int}{ds:List Int}{j d:Int}(h:dJ ns k i ds j d):((Af ns i).kids.length:Int)≤12:=by
 have:=(HR h.2.2.1).2.1;omega
def Re(x:List Nd×Int)(o:Int×List Int):LS:= {
 ι:=Int×Int,inv:=fun i=>dJ x.1 x.2 o.1 o.2 i.1 i.2,
 regs:=fun i=>[(0,nds x.1),(1,.int .i64 x.2),(5,Ab (dl x.2 o.1 o.2)),(18,.int .i64 (x.2+1)),(19,.int .i64 o.1),(6,.int .i64 o.1),(7,.int .i64 i.2),(30,Aj (Af x.1 o.1).kids),(31,.int .i64 (Af x.1 o.1).kids.length),(32,.int .i64 i.1)],als:=[],meas:=fun i=>(Af x.1 o.1).kids.length-i.1.toNat}
def Rf(x:List Nd×Int):LS:= {
 ι:=Int×List Int,inv:=fun i=>dI x.1 x.2 i.1 i.2,
 regs:=fun i=>[(0,nds x.1),(1,.int .i64 x.2),(5,Ab (dl x.2 i.1 i.2)),(18,.int .i64 (x.2+1)),(19,.int .i64 i.1)],als:=[],meas:=fun i=>x.2.toNat+1-i.1.toNat,
 sub:=fun i=>[(11,Re x i)]}
def Jp:Sig:= {X:=List Nd×Int,args:=fun x=>[nds x.1,.int .i64 x.2],pre:=fun x=>Cy x.1∧x.1.length≤2^30,Y:=Unit,post:=fun x y=>True,res:=fun x y=> .int .i64 (BE x.1 x.2),outs:=fun x y=>[.top,.top],keep:=false}
theorem a9u:Ai G Tryz.prog 67 Jp:=
 vcFun_okP [(93,0,GN),(94,0,Ec)] [(25,⟨Int,AZ⟩)] false (fun x=>[(5,Rf x)]) Tryz.func67 rfl (by decide) ⟨VC,a9i,trivial⟩ (fun(x:List Nd×Int)=>(∀(y:Unit),True→True∧True∧True∧True)∧cA GN [nds x.1,.int .i64 x.2] fun x_1 y=>Aa (!BM x_1.1 x_1.2) (rA Jp x [.int .i64 (0:Int),.top,.top]) (inR IntKind.i64 (x.2+(1:Int))∧((0:Int)≤x.2+(1:Int)∧x.2+(1:Int)≤x.2+(1:Int)∧(↑(8:Nat):Int)*(x.2+(1:Int))≤(2:Int)^(46:Nat)∧x.2+(1:Int)≤(2:Int)^(46:Nat))∧∃(x_2:Int),(0:Int)=x_2∧eA (Rf x) [nds x.1,.int .i64 x.2,Ab (List.replicate (Int.toNat (x.2+(1:Int))) x_2),.int .i64 (↑(List.length (List.replicate (Int.toNat (x.2+(1:Int))) x_2)):Int),.int .i64 (0:Int)]∧∀(i:Int×List Int),dI x.1 x.2 i.1 i.2→Aa (decide (i.1<x.2+(1:Int))) (cA Ec [nds x.1,.int .i64 i.1] fun x_3 y=>Aa (!Ci x_3.1 x_3.2) (rA Jp x [.int .i64 (0:Int),.top,.top]) (((0:Int)≤i.1∧i.1<(↑(List.length x.1):Int))∧∀(e:Nd),x.1[Int.toNat i.1]? =some e→eA (Re x i) [nds x.1,.int .i64 x.2,Ab (dl x.2 i.1 i.2),.int .i64 (x.2+(1:Int)),.int .i64 i.1,.int .i64 i.1,.int .i64 (0:Int),Aj e.kids,.int .i64 (↑(List.length e.kids):Int),.int .i64 (0:Int)]∧∀(i_1:Int×Int),dJ x.1 x.2 i.1 i.2 i_1.1 i_1.2→Aa (decide (i_1.1<(↑(List.length (Af x.1 i.1).kids):Int))) (((0:Int)≤i_1.1∧i_1.1<(↑(List.length (Af x.1 i.1).kids):Int))∧∀(e:Int),(Af x.1 i.1).kids[Int.toNat i_1.1]? =some e→((0:Int)≤e∧e<(↑(List.length (dl x.2 i.1 i.2)):Int))∧Int.toNat e<List.length (dl x.2 i.1 i.2)∧∀(x_4:Int),(dl x.2 i.1 i.2)[Int.toNat e]? =some x_4→inR IntKind.i64 (i_1.1+(1:Int))∧eN (Re x i) i_1 [nds x.1,.int .i64 x.2,Ab (dl x.2 i.1 i.2),.int .i64 (x.2+(1:Int)),.int .i64 i.1,.int .i64 i.1,.int .i64 (max i_1.2 x_4),Aj (Af x.1 i.1).kids,.int .i64 (↑(List.length (Af x.1 i.1).kids):Int),.int .i64 (i_1.1+(1:Int))]) (Aa (decide (i_1.2≥(14:Int))) (rA Jp x [.int .i64 (0:Int),.top,.top]) (inR IntKind.i64 (i_1.2+(1:Int))∧((0:Int)≤i.1∧i.1<(↑(List.length (dl x.2 i.1 i.2)):Int))∧Int.toNat i.1<List.length (dl x.2 i.1 i.2)∧∀(x_4:Int),(dl x.2 i.1 i.2)[Int.toNat i.1]? =some x_4→∃(x':Int),((@List.nil AV)=[]∧(@List.nil AV)=[])∧i_1.2+(1:Int)=x'∧inR IntKind.i64 (i.1+(1:Int))∧eN (Rf x) i [nds x.1,.int .i64 x.2,Ab (List.set (dl x.2 i.1 i.2) (Int.toNat i.1) x'),.int .i64 (x.2+(1:Int)),.int .i64 (i.1+(1:Int))])))) (((0:Int)≤x.2∧x.2<(↑(List.length (dl x.2 i.1 i.2)):Int))∧Int.toNat x.2<List.length (dl x.2 i.1 i.2)∧∀(x_3:Int),(dl x.2 i.1 i.2)[Int.toNat x.2]? =some x_3→rA Jp x [.int .i64 x_3,.top,.top]))) (fun x=>by kernel_rfl) fun(x:List Nd×Int) (hx:Cy x.1∧x.1.length≤2^30)=>(by
 dsimp only[cA,eA,eN,Aj,Rf,Re,Bc,nds,Ab,rA,Jp,Ec,GN,Au,Az,mvL,lnL,mvE,lnE,Bq]
 obtain⟨h1,h2⟩:=hx;have hl:=h1.1
 (repeat' first|(with_reducible first|rfl|exact True.intro|apply AK|apply And.intro|((first|apply AA|apply AI|apply AB|apply AJ)<;>intro _))|(apply Ax<;>intro _)|apply AH|refine Ae () ?_ ?_|((first|apply AO|apply AN|apply AM|apply AL|apply AG|apply AF|apply AE|apply AD|apply AC)<;>try dsimp only)|apply Ae|(refine Prod.forall.2 ?_;intro _;try dsimp only)|(intro _;try dsimp only))
 all_goals try(have nd0:=DS.1 (show BM x.1 x.2=true by assumption))
 all_goals first
  |rfl
  |exact a0C ‹_›
  |exact a9j ‹_›
  |exact a9k
  |exact a9l ‹_› ‹_› ‹_›
  |exact a9m ‹_› ‹_› ‹_›
  |exact(VF ‹_› ‹_›).1
  |exact(VF ‹_› ‹_›).2
  |exact a9o ‹_› ‹_› ‹_›
  |exact a9p ‹_› ‹_› ‹_›
  |exact a9q ‹_› ‹_› ‹_›
  |exact a9r ‹_›
  |exact a9s ‹_› ‹_› ‹_›
  |(rw[Bw ‹_›];done)
  |(rw[List.length_replicate];omega)
  |(have:=a9t ‹_›;obtain⟨⟨_,_,_,_⟩,_,_,_,_,_,_,_⟩:= ‹dJ _ _ _ _ _ _›;(try simp only[AR,AW] at*);omega)
  |(have:=a0z ‹_›;obtain⟨_,_,_,_⟩:= ‹dI _ _ _ _›;(try simp only[AR,AW] at*);omega)
  |(have:=VF ‹_› ‹_›;omega)
  |((try simp only[AR,AW] at*);omega)
  |skip)
def cnt(n:Nat)(l:List Int):List Int:=(List.range n).map fun(c:Nat)=>(l.count (c:Int):Int)
theorem GP{n:Nat}{l:List Int}:(cnt n l).length=n:=by simp [cnt]
theorem LM{n:Nat}{l:List Int}{c:Nat}(h:c<n):(cnt n l)[c]? =some (l.count (c:Int):Int):=by
 simp [cnt,List.getElem?_map,List.getElem?_range,h]
theorem a0D{n:Nat}:List.replicate n 0=cnt n []:=by
 apply List.ext_getElem?
 intro c
 by_cases h:c<n
 ·rw[LM h];simp [h]
 ·rw[List.getElem?_eq_none (by simp;omega),List.getElem?_eq_none (by simp [cnt];omega)]
theorem a0E{n:Nat}{l:List Int}{c v:Int}(h0:0≤c)(h1:c<n)(hv:(cnt n l)[c.toNat]? =some v):(cnt n l).set c.toNat (v+1)=cnt n (l++[c]):=by
 apply List.ext_getElem?
 intro d
 rw[List.getElem?_set]
 by_cases hd:d<n
 ·rw[LM hd,LM hd,List.count_append]
  rw[LM (by omega)] at hv
  by_cases e:c.toNat=d
  ·subst e
   rw[if_pos rfl,if_pos (by rw[GP];omega)]
   have e2:((c.toNat:Nat):Int)=c:=by omega
   rw[e2] at hv ⊢
   simp at hv ⊢;omega
  ·rw[if_neg e]
   have:¬c=(d:Int):=by omega
   simp [List.count_cons,this]
 ·rw[if_neg (by omega),List.getElem?_eq_none (by rw[GP];omega),List.getElem?_eq_none (by rw[GP];omega)]
def tk(ns:List Nd)(i j:Int):List Int:=Cq (ns.take i.toNat)++(Af ns i).kids.take j.toNat
def tI(ns:List Nd):Prop:=1≤ns.length∧ns.length≤300∧Bt ns (ns.length-1)=22∧BE ns (ns.length-1)≠0
theorem a9v{ns:List Nd}{n:Nat}{y:Nd}(h:tI ns)(hy:ns[n]? =some y):Ci ns n=true:=by
 exact(Pd h.2.2.2).2.2 n (by have:=(Fz hy).1;omega)
theorem Pi{ns:List Nd}{n:Nat}{y:Nd}(h:tI ns)(hy:ns[n]? =some y):y.kids.length≤12∧∀c∈y.kids,0≤c∧c<ns.length:=by
 obtain⟨h1,h2,h3,h4,h5⟩:=HR (a9v h hy)
 rw[Bw (by simpa using hy)] at h2 h4
 exact⟨h2,fun c hc=>by have:=h4 c hc;omega⟩
theorem a9w{l:List Nd}(h:∀y∈l,y.kids.length≤12):(Cq l).length≤12*l.length:=by
 induction l with
 |nil=>simp [Cq]
 |cons y l ih=>
  have h1:=h y (by simp)
  have h2:=ih fun z hz=>h z (by simp [hz])
  simp only[Cq,List.flatMap_cons,List.length_append,List.length_cons] at h2 ⊢;omega
theorem a9x{ns:List Nd}{i j:Int}(h:tI ns):(Cq (ns.take i.toNat)).length≤3600:=by
 have h1:∀y∈ns.take i.toNat,y.kids.length≤12:=by
  intro y hy
  obtain⟨n,hn⟩:=List.mem_iff_getElem?.1 (List.mem_of_mem_take hy)
  exact(Pi h hn).1
 have:=a9w h1
 have h2:(ns.take i.toNat).length≤300:=by have:=h.2.1;simp;omega
 omega
theorem a9y{n:Nat}{l:List Int}{c:Nat}{v:Int}(hv:(cnt n l)[c]? =some v):0≤v∧v≤l.length:=by
 have h:c<n:=by have:=(Fz hv).1;rwa [GP] at this
 rw[LM h] at hv;cases hv
 have:=List.count_le_length (a:=(c:Int)) (l:=l)
 omega
theorem a0F{ns:List Nd}{i:Int}:tk ns i 0=Cq (ns.take i.toNat):=by simp [tk]
theorem a0G{ns:List Nd}{i j c:Int}(h0:0≤j)(hc:(Af ns i).kids[j.toNat]? =some c):tk ns i (j+1)=tk ns i j++[c]:=by
 rw[tk,DX h0,FZ hc,tk,List.append_assoc]
theorem a0H{ns:List Nd}{i j:Int}{y:Nd}(h0:0≤i)(hy:ns[i.toNat]? =some y)(hl:¬j<(Af ns i).kids.length):tk ns i j=Cq (ns.take (i+1).toNat):=by
 rw[tk,List.take_of_length_le (l:=(Af ns i).kids) (by omega),DX h0,FZ hy,Bw hy];simp [Cq]
def tE(ns:List Nd)(i:Int):Prop:=0≤i∧i≤ns.length-1∧∀c:Nat,(c:Int)<i→(Cq ns).count (c:Int)=1
theorem a0I{ns:List Nd}{i v:Int}(hv:(((cnt ns.length (Cq ns)).take (ns.length-1:Int).toNat)[i.toNat]?)=some v)(h0:0≤i)(hl:i<(ns.length-1:Int)):((Cq ns).count i:Int)=v:=by
 rw[List.getElem?_take_of_lt (by omega),LM (by omega)] at hv
 have e2:((i.toNat:Nat):Int)=i:=by omega
 rw[e2] at hv;exact Option.some.inj hv
theorem a0J{ns:List Nd}{i:Int}(h:tI ns)(he:tE ns i)(hl:¬i<(ns.length-1:Int)):true=CB ns:=by
 symm;unfold CB
 have h1:decide (1≤ns.length)=true:=decide_eq_true h.1
 have h2:decide (ns.length≤300)=true:=decide_eq_true h.2.1
 have h3:decide (Bt ns (ns.length-1)=22)=true:=decide_eq_true h.2.2.1
 have h4:decide (BE ns (ns.length-1)=0)=false:=decide_eq_false h.2.2.2
 rw[h1,h2,h3,h4]
 simp only[Bool.and_true,Bool.not_false,Bool.true_and,List.all_eq_true,decide_eq_true_eq,List.mem_range]
 exact fun c hc=>he.2.2 c (by omega)
theorem a0K{ns:List Nd}{i v:Int}(hv:(Cq ns).count i=v)(h0:0≤i)(hl:i<(ns.length-1:Int))(hne:v≠1):false=CB ns:=by
 symm;rw[Bool.eq_false_iff];intro h
 unfold CB at h
 simp only[Bool.and_eq_true,List.all_eq_true,decide_eq_true_eq,List.mem_range] at h
 have:=h.2.2.2 i.toNat (by omega)
 have e2:((i.toNat:Nat):Int)=i:=by omega
 rw[e2] at this;omega
theorem Nw{ns:List Nd}(h:¬tI ns):false=CB ns:=by
 symm;rw[Bool.eq_false_iff];intro hh
 unfold CB at hh
 simp only[Bool.and_eq_true,decide_eq_true_eq,Bool.not_eq_true',decide_eq_false_iff_not] at hh
 exact h ⟨hh.1.1,hh.1.2,hh.2.1,hh.2.2.1⟩
theorem Pj{ns:List Nd}{i j c:Int}{y:Nd}(h:tI ns)(hc:(Af ns i).kids[j.toNat]? =some c)(hy:ns[i.toNat]? =some y):0≤c∧c<ns.length:=by
 rw[Bw hy] at hc;exact(Pi h hy).2 c (Ca hc)
theorem a0L{ns:List Nd}{i:Int}{y:Nd}(h:tI ns)(hy:ns[i.toNat]? =some y):(Af ns i).kids.length≤12:=by
 rw[Bw hy];exact(Pi h hy).1
theorem a9z{ns:List Nd}{i j:Int}{y:Nd}(h:tI ns)(hy:ns[i.toNat]? =some y):(tk ns i j).length≤3612:=by
 have h1:= @a9x ns i j h;have h2:=a0L h hy
 rw[tk,List.length_append,List.length_take];omega
theorem a0M{ns:List Nd}{i j v:Int}{c:Nat}{y:Nd}(h:tI ns)(hv:(cnt ns.length (tk ns i j))[c]? =some v)(hy:ns[i.toNat]? =some y):0≤v∧v≤3612:=by
 have h1:=a9y hv;have h2:= @a9z ns i j y h hy;omega
theorem Ku{x a b:Int}:inn x a b=true↔a≤x∧x≤b:=by simp [inn]
theorem a0N{ns:List Nd}{y:Nd}(h:inn ns.length 1 300=true)(hy:ns[(ns.length-1:Int).toNat]? =some y)(hk:y.kind=22)(hd:BE ns (ns.length-1)≠0):tI ns:=by
 have:=Ku.1 h
 exact⟨by omega,by omega,by rw[Bt,Bw hy,hk],hd⟩
theorem a0O{ns:List Nd}(h:inn ns.length 1 300=false):¬tI ns:=by
 intro hh;have:inn ns.length 1 300=true:=Ku.2 ⟨by have:=hh.1;omega,by have:=hh.2.1;omega⟩
 rw[h] at this;cases this
theorem a0P{ns:List Nd}{y:Nd}(hy:ns[(ns.length-1:Int).toNat]? =some y)(hk:y.kind≠22):¬tI ns:=by
 intro hh;have:=hh.2.2.1;rw[Bt,Bw hy] at this;exact hk this
theorem a0Q{ns:List Nd}{i:Int}(hl:¬i<ns.length):Cq (ns.take i.toNat)=Cq ns:=by rw[List.take_of_length_le (by omega)]
theorem a9A{ns:List Nd}{i v:Int}(h:tE ns i)(hl:i<(ns.length-1:Int))(hv:(((cnt ns.length (Cq ns)).take (ns.length-1:Int).toNat)[i.toNat]?)=some v)(h1:v=1):tE ns (i+1):=by
 have:=a0I hv h.1 hl
 refine⟨by have:=h.1;omega,by omega,fun c hc=> ?_⟩
 by_cases e:(c:Int)<i
 ·exact h.2.2 c e
 ·have:=h.1
  obtain rfl:i=(c:Int):=by omega
  omega
def Rg(x:List Nd)(o:Int):LS:= {
 ι:=Int,inv:=fun j=>0≤j∧j≤(Af x o).kids.length,
 regs:=fun j=>[(0,nds x),(3,.int .i64 x.length),(4,Ab (cnt x.length (tk x o j))),(34,nds x),(35,.int .i64 x.length),(36,.int .i64 o),(41,Aj (Af x o).kids),(42,.int .i64 (Af x o).kids.length),(43,.int .i64 j)],als:=[],meas:=fun j=>(Af x o).kids.length-j.toNat}
def Rh(x:List Nd):LS:= {
 ι:=Int,inv:=fun i=>0≤i∧i≤x.length,
 regs:=fun i=>[(0,nds x),(3,.int .i64 x.length),(4,Ab (cnt x.length (Cq (x.take i.toNat)))),(34,nds x),(35,.int .i64 x.length),(36,.int .i64 i)],als:=[],meas:=fun i=>x.length-i.toNat,
 sub:=fun i=>[(9,Rg x i)]}
def Ri(x:List Nd):LS:= {
 ι:=Int,inv:=tE x,
 regs:=fun i=>[(58,Ab ((cnt x.length (Cq x)).take (x.length-1:Int).toNat)),(59,.int .i64 (x.length-1)),(60,.int .i64 i)],als:=[],meas:=fun i=>x.length-1-i.toNat}
def Gi:Sig:= {X:=List Nd,args:=fun x=>[nds x],pre:=fun x=>Cy x∧x.length≤2^30,Y:=Unit,post:=fun x y=>True,res:=fun x y=> .bool (CB x),outs:=fun x y=>[.top],keep:=false}
theorem a0R:Ai G Tryz.prog 37 Gi:=
 vcFun_okP [(66,0,Er),(67,0,Jp)] [(25,⟨Int,AZ⟩)] false (fun x=>[(6,Rh x),(15,Ri x)]) Tryz.func37 rfl (by decide) ⟨Pe,a9u,trivial⟩ (fun(x:List Nd)=>(∀(y:Unit),True→True∧True∧True)∧cA Er [.int .i64 (↑(List.length x):Int),.int .i64 (1:Int),.int .i64 (300:Int)] fun x_1 y=>Aa (!inn x_1.1 x_1.2.1 x_1.2.2) (rA Gi x [.bool false,.top]) (inR IntKind.i64 ((↑(List.length x):Int)-(1:Int))∧((0:Int)≤(↑(List.length x):Int)-(1:Int)∧(↑(List.length x):Int)-(1:Int)<(↑(List.length x):Int))∧∀(e:Nd),x[Int.toNat ((↑(List.length x):Int)-(1:Int))]? =some e→Aa (e.kind != (22:Int)) (rA Gi x [.bool false,.top]) (inR IntKind.i64 ((↑(List.length x):Int)-(1:Int))∧cA Jp [nds x,.int .i64 ((↑(List.length x):Int)-(1:Int))] fun x_2 y=>Aa (BE x_2.1 x_2.2==(0:Int)) (rA Gi x [.bool false,.top]) (((0:Int)≤(↑(List.length x):Int)∧(↑(List.length x):Int)≤(↑(List.length x):Int)∧(↑(8:Nat):Int)*(↑(List.length x):Int)≤(2:Int)^(46:Nat)∧(↑(List.length x):Int)≤(2:Int)^(46:Nat))∧∃(x_3:Int),(0:Int)=x_3∧eA (Rh x) [nds x,.int .i64 (↑(List.length x):Int),Ab (List.replicate (Int.toNat (↑(List.length x):Int)) x_3),nds x,.int .i64 (↑(List.length x):Int),.int .i64 (0:Int)]∧∀(i:Int),(0:Int)≤i∧i≤(↑(List.length x):Int)→Aa (decide (i<(↑(List.length x):Int))) (((0:Int)≤i∧i<(↑(List.length x):Int))∧∀(e:Nd),x[Int.toNat i]? =some e→eA (Rg x i) [nds x,.int .i64 (↑(List.length x):Int),Ab (cnt (List.length x) (Cq (List.take (Int.toNat i) x))),nds x,.int .i64 (↑(List.length x):Int),.int .i64 i,Aj e.kids,.int .i64 (↑(List.length e.kids):Int),.int .i64 (0:Int)]∧∀(i_1:Int),(0:Int)≤i_1∧i_1≤(↑(List.length (Af x i).kids):Int)→Aa (decide (i_1<(↑(List.length (Af x i).kids):Int))) (((0:Int)≤i_1∧i_1<(↑(List.length (Af x i).kids):Int))∧∀(e:Int),(Af x i).kids[Int.toNat i_1]? =some e→((0:Int)≤e∧e<(↑(List.length (cnt (List.length x) (tk x i i_1))):Int))∧Int.toNat e<List.length (cnt (List.length x) (tk x i i_1))∧∀(x_4:Int),(cnt (List.length x) (tk x i i_1))[Int.toNat e]? =some x_4→inR IntKind.i64 (x_4+(1:Int))∧((0:Int)≤e∧e<(↑(List.length (cnt (List.length x) (tk x i i_1))):Int))∧Int.toNat e<List.length (cnt (List.length x) (tk x i i_1))∧∀(x_5:Int),(cnt (List.length x) (tk x i i_1))[Int.toNat e]? =some x_5→∃(x':Int),((@List.nil AV)=[]∧(@List.nil AV)=[])∧x_4+(1:Int)=x'∧inR IntKind.i64 (i_1+(1:Int))∧eN (Rg x i) i_1 [nds x,.int .i64 (↑(List.length x):Int),Ab (List.set (cnt (List.length x) (tk x i i_1)) (Int.toNat e) x'),nds x,.int .i64 (↑(List.length x):Int),.int .i64 i,Aj (Af x i).kids,.int .i64 (↑(List.length (Af x i).kids):Int),.int .i64 (i_1+(1:Int))]) (inR IntKind.i64 (i+(1:Int))∧eN (Rh x) i [nds x,.int .i64 (↑(List.length x):Int),Ab (cnt (List.length x) (tk x i i_1)),nds x,.int .i64 (↑(List.length x):Int),.int .i64 (i+(1:Int))])) (inR IntKind.i64 ((↑(List.length x):Int)-(1:Int))∧((0:Int)≤(0:Int)∧(0:Int)≤(↑(List.length x):Int)-(1:Int)∧(↑(List.length x):Int)-(1:Int)≤(↑(List.length (cnt (List.length x) (Cq (List.take (Int.toNat i) x)))):Int))∧eA (Ri x) [Ab (List.take (Int.toNat ((↑(List.length x):Int)-(1:Int))) (cnt (List.length x) (Cq (List.take (Int.toNat i) x)))),.int .i64 (↑(List.length (List.take (Int.toNat ((↑(List.length x):Int)-(1:Int))) (cnt (List.length x) (Cq (List.take (Int.toNat i) x))))):Int),.int .i64 (0:Int)]∧∀(i:Int),tE x i→Aa (decide (i<(↑(List.length x):Int)-(1:Int))) (((0:Int)≤i∧i<(↑(List.length (List.take (Int.toNat ((↑(List.length x):Int)-(1:Int))) (cnt (List.length x) (Cq x)))):Int))∧Int.toNat i<List.length (List.take (Int.toNat ((↑(List.length x):Int)-(1:Int))) (cnt (List.length x) (Cq x)))∧∀(x_4:Int),(List.take (Int.toNat ((↑(List.length x):Int)-(1:Int))) (cnt (List.length x) (Cq x)))[Int.toNat i]? =some x_4→Aa (x_4 != (1:Int)) (rA Gi x [.bool false,.top]) (inR IntKind.i64 (i+(1:Int))∧eN (Ri x) i [Ab (List.take (Int.toNat ((↑(List.length x):Int)-(1:Int))) (cnt (List.length x) (Cq x))),.int .i64 ((↑(List.length x):Int)-(1:Int)),.int .i64 (i+(1:Int))])) (rA Gi x [.bool true,.top])))))) (fun x=>by kernel_rfl) fun(x:List Nd) (hx:Cy x∧x.length≤2^30)=>(by
 dsimp only[cA,eA,eN,Aj,Rh,Rg,Ri,Bc,nds,Ab,rA,Jp,Gi,Er,Au,Az,mvL,lnL,mvE,lnE,Bq]
 obtain⟨h1,h2⟩:=hx;have hl:=h1.1
 (repeat' first|(with_reducible first|rfl|exact True.intro|apply AK|apply And.intro|((first|apply AA|apply AI|apply AB|apply AJ)<;>intro _))|(apply Ax<;>intro _)|apply AH|refine Ae () ?_ ?_|((first|apply AO|apply AN|apply AM|apply AL|apply AG|apply AF|apply AE|apply AD|apply AC)<;>try dsimp only)|apply Ae|(refine Prod.forall.2 ?_;intro _;try dsimp only)|(intro _;try dsimp only))
 all_goals try(have t1:=Ku.1 (show inn x.length 1 300=true by assumption))
 all_goals try(have t0:=a0N ‹_› ‹_› ‹_› ‹_›)
 all_goals first
  |rfl
  |exact Nw (a0O ‹_›)
  |exact Nw (a0P ‹_› ‹_›)
  |exact Nw (fun h=>h.2.2.2 ‹_›)
  |exact a0D
  |(rw[a0F];done)
  |(rw[Bw ‹_›];done)
  |exact(Pj ‹_› ‹_› ‹_›).1
  |(rw[GP];exact(Pj ‹_› ‹_› ‹_›).2)
  |(have:=Pj ‹_› (show(Af x _).kids[_]? =some _ by assumption) ‹_›;rw[GP];omega)
  |(rw[a0G (by omega) ‹_›];exact a0E (Pj ‹_› ‹_› ‹_›).1 (Pj ‹_› ‹_› ‹_›).2 ‹_›)
  |(rw[a0H (by omega) ‹_› ‹_›];done)
  |(rw[a0Q ‹_›];done)
  |(have:=a0M ‹_› ‹_› ‹_›;omega)
  |(have:=a0L ‹_› ‹_›;(try simp only[AR] at*);omega)
  |exact a0J ‹_› ‹_› ‹_›
  |exact a0K (a0I ‹_› (‹tE _ _›.1) ‹_›) (‹tE _ _›.1) ‹_› ‹_›
  |exact a9A ‹_› ‹_› ‹_› ‹_›
  |exact⟨by omega,by omega,fun c hc=>by omega⟩
  |(rw[List.length_take,GP];omega)
  |((try simp only[AR,AW,List.length_replicate,GP] at*);omega)
  |(obtain⟨_,_,_⟩:= ‹tE _ _›;(try rw[List.length_take,GP]);(try simp only[AR] at*);omega)
  |skip)
def IP:Sig:= {X:=Int,args:=fun x=>[.int .i64 x],pre:=fun x=>True,Y:=Unit,post:=fun x y=>True,res:=fun x y=> .bool (BN x),outs:=fun x y=>[.top],keep:=false}
theorem a9B:Ai G Tryz.prog 158 IP:=
 vcFun_okP [(46,0,Db)] [] false (fun x=>[]) Tryz.func158 rfl (by decide) ⟨Lo,trivial⟩ (fun(x:Int)=>(∀(y:Unit),True→True∧True∧True)∧cA Db [.int .i64 x,.int .i64 (1:Int),.int .i64 (11:Int)] fun x_1 y=>rA IP x [.bool (inn x_1.1 x_1.2.1 x_1.2.2),.top]) (fun x=>by kernel_rfl) fun(x:Int) (hx:True)=>(by
 dsimp only[cA,rA,Db,IP,Au,Az,mvL,lnL,mvE,lnE]
 (repeat' first|(with_reducible first|rfl|exact True.intro|apply AK|apply And.intro|((first|apply AA|apply AI|apply AB|apply AJ)<;>intro _))|(apply Ax<;>intro _)|apply AH|refine Ae () ?_ ?_|((first|apply AO|apply AN|apply AM|apply AL|apply AG|apply AF|apply AE|apply AD|apply AC)<;>try dsimp only)|apply Ae|(refine Prod.forall.2 ?_;intro _;try dsimp only)|(intro _;try dsimp only))<;>(try dsimp only at*)<;>(try simp only[AR,List.length_cons,List.length_nil])<;>(try omega)
 all_goals simp [BN,Gf, *])
def IQ:Sig:= {X:=Int,args:=fun x=>[.int .i64 x],pre:=fun x=>True,Y:=Unit,post:=fun x y=>True,res:=fun x y=> .bool (EY x),outs:=fun x y=>[.top],keep:=false}
theorem a0S:Ai G Tryz.prog 129 IQ:=
 vcFun_okP [(46,0,Db)] [] false (fun x=>[]) Tryz.func129 rfl (by decide) ⟨Lo,trivial⟩ (fun(x:Int)=>(∀(y:Unit),True→True∧True∧True)∧cA Db [.int .i64 x,.int .i64 (12:Int),.int .i64 (17:Int)] fun x_1 y=>Aa (inn x_1.1 x_1.2.1 x_1.2.2) (rA IQ x [.bool true,.top]) (rA IQ x [.bool (x==(19:Int)),.top])) (fun x=>by kernel_rfl) fun(x:Int) (hx:True)=>(by
 dsimp only[cA,rA,Db,IQ,Au,Az,mvL,lnL,mvE,lnE]
 (repeat' first|(with_reducible first|rfl|exact True.intro|apply AK|apply And.intro|((first|apply AA|apply AI|apply AB|apply AJ)<;>intro _))|(apply Ax<;>intro _)|apply AH|refine Ae () ?_ ?_|((first|apply AO|apply AN|apply AM|apply AL|apply AG|apply AF|apply AE|apply AD|apply AC)<;>try dsimp only)|apply Ae|(refine Prod.forall.2 ?_;intro _;try dsimp only)|(intro _;try dsimp only))<;>(try dsimp only at*)<;>(try simp only[AR,List.length_cons,List.length_nil])<;>(try omega)
 all_goals simp [EY,Ko,Gf, *])
def DH:Sig:= {X:=Int,args:=fun x=>[.int .i64 x],pre:=fun x=>True,Y:=Unit,post:=fun x y=>True,res:=fun x y=> .tup [.int .i64 (Fm x).1,.int .i64 (Fm x).2],outs:=fun x y=>[.top],keep:=false}
theorem a9C:Ai G Tryz.prog 127 DH:=
 vcFun_okP [] [] false (fun x=>[]) Tryz.func127 rfl (by decide) trivial (fun(x:Int)=>(∀(y:Unit),True→(True∧True∧True)∧True∧True)∧Aa (x==(4:Int)) (rA DH x [.tup [.int .i64 (0:Int),.int .i64 (12:Int)],.top]) (Aa (x==(18:Int)) (rA DH x [.tup [.int .i64 (0:Int),.int .i64 (12:Int)],.top]) (Aa (x==(21:Int)) (rA DH x [.tup [.int .i64 (0:Int),.int .i64 (12:Int)],.top]) (Aa (x==(22:Int)) (rA DH x [.tup [.int .i64 (0:Int),.int .i64 (12:Int)],.top]) (Aa (x==(5:Int)) (rA DH x [.tup [.int .i64 (1:Int),.int .i64 (12:Int)],.top]) (Aa (x==(9:Int)) (rA DH x [.tup [.int .i64 (1:Int),.int .i64 (12:Int)],.top]) (Aa (x==(20:Int)) (rA DH x [.tup [.int .i64 (1:Int),.int .i64 (12:Int)],.top]) (Aa (x==(6:Int)) (rA DH x [.tup [.int .i64 (1:Int),.int .i64 (1:Int)],.top]) (Aa (x==(11:Int)) (rA DH x [.tup [.int .i64 (1:Int),.int .i64 (1:Int)],.top]) (Aa (x==(13:Int)) (rA DH x [.tup [.int .i64 (1:Int),.int .i64 (1:Int)],.top]) (Aa (x==(14:Int)) (rA DH x [.tup [.int .i64 (1:Int),.int .i64 (1:Int)],.top]) (Aa (x==(7:Int)) (rA DH x [.tup [.int .i64 (2:Int),.int .i64 (12:Int)],.top]) (Aa (x==(10:Int)) (rA DH x [.tup [.int .i64 (2:Int),.int .i64 (12:Int)],.top]) (Aa (x==(8:Int)) (rA DH x [.tup [.int .i64 (3:Int),.int .i64 (3:Int)],.top]) (Aa (x==(12:Int)) (rA DH x [.tup [.int .i64 (0:Int),.int .i64 (1:Int)],.top]) (Aa (x==(15:Int)) (rA DH x [.tup [.int .i64 (0:Int),.int .i64 (1:Int)],.top]) (Aa (x==(16:Int)) (rA DH x [.tup [.int .i64 (2:Int),.int .i64 (3:Int)],.top]) (Aa (x==(17:Int)) (rA DH x [.tup [.int .i64 (2:Int),.int .i64 (2:Int)],.top]) (rA DH x [.tup [.int .i64 (0:Int),.int .i64 (0:Int)],.top]))))))))))))))))))) (fun x=>by kernel_rfl) fun(x:Int) (hx:True)=>(by
 dsimp only[rA,DH,Au,Az]
 (repeat' first|(with_reducible first|rfl|exact True.intro|apply AK|apply And.intro|((first|apply AA|apply AI|apply AB|apply AJ)<;>intro _))|(apply Ax<;>intro _)|apply AH|refine Ae () ?_ ?_|((first|apply AO|apply AN|apply AM|apply AL|apply AG|apply AF|apply AE|apply AD|apply AC)<;>try dsimp only)|apply Ae|(refine Prod.forall.2 ?_;intro _;try dsimp only)|(intro _;try dsimp only))<;>(try dsimp only at*)<;>(try simp only[AR,List.length_cons,List.length_nil])<;>(try omega)
 all_goals simp [Fm, *])
def HW(x:List Nd×Int×Int):Prop:=Cy x.1∧BM x.1 x.2.1=true∧((Af x.1 x.2.1).kind=10→∀c,(Af x.1 x.2.1).kids[x.2.2.toNat]? =some c→Bt x.1 c=5→∃h t,(Af x.1 c).kids=h::t∧BM x.1 h=true)∧
 (0≤x.2.2∧x.2.2<(Af x.1 x.2.1).kids.length)∧∀c,(Af x.1 x.2.1).kids[x.2.2.toNat]? =some c→0≤c∧c<x.1.length
theorem VG{x:List Nd×Int×Int}{y:Nd}(h:HW x)(hy:x.1[x.2.1.toNat]? =some y):0≤x.2.2∧x.2.2<y.kids.length:=by
 have:=h.2.2.2.1;rwa [Bw hy] at this
theorem a0T{x:List Nd×Int×Int}{y:Nd}{c:Int}(h:HW x)(hy:x.1[x.2.1.toNat]? =some y)(hc:y.kids[x.2.2.toNat]? =some c):0≤c∧c<x.1.length:=by
 have:=h.2.2.2.2 c;rw[Bw hy] at this;exact this hc
theorem a0U{x:List Nd×Int×Int}{y z:Nd}{c:Int}(h:HW x)(hy:x.1[x.2.1.toNat]? =some y)(hc:y.kids[x.2.2.toNat]? =some c)(hz:x.1[c.toNat]? =some z)(hk:y.kind=10)(hz5:z.kind=5):∃h t,z.kids=h::t∧BM x.1 h=true:=by
 have:=h.2.2.1;rw[Bw hy] at this
 have:=this hk c hc;rw[Bt,Bw hz] at this;exact this hz5
theorem a0V{x:List Nd×Int×Int}{y z:Nd}{c d:Int}(h:HW x)(hy:x.1[x.2.1.toNat]? =some y)(hc:y.kids[x.2.2.toNat]? =some c)(hz:x.1[c.toNat]? =some z)(hk:y.kind=10)(hz5:z.kind=5)(hd:z.kids[0]? =some d):(0≤d∧d<x.1.length)∧z.kids.headD 0=d:=by
 obtain⟨a,t,e,ha⟩:=a0U h hy hc hz hk hz5
 rw[e] at hd ⊢;cases hd;exact⟨DS.1 ha,rfl⟩
theorem a0W{x:List Nd×Int×Int}{y z:Nd}{c:Int}(h:HW x)(hy:x.1[x.2.1.toNat]? =some y)(hc:y.kids[x.2.2.toNat]? =some c)(hz:x.1[c.toNat]? =some z)(hk:y.kind=10)(hz5:z.kind=5):0<z.kids.length:=by
 obtain⟨a,t,e,ha⟩:=a0U h hy hc hz hk hz5
 rw[e];simp
def LN(x:List Nd×Int×Int):Bool:=Lx x.1 (Af x.1 x.2.1) x.2.2 ((Af x.1 x.2.1).kids.getD x.2.2.toNat 0)
theorem a0X{x:List Nd×Int×Int}{y z:Nd}{c:Int}(hy:x.1[x.2.1.toNat]? =some y)(hc:y.kids[x.2.2.toNat]? =some c)(hz:x.1[c.toNat]? =some z):
 LN x=(GM y.kind y.kids.length x.2.2 z.kind&&(if y.kind=10∧0<x.2.2 then decide (Bt x.1 (z.kids.headD 0)=1) else true)):=by
 rw[LN,Bw hy,List.getD,hc,Option.getD_some,Lx,Bt,Bw hz]
def Dw:Sig:= {X:=List Nd×Int×Int,args:=fun x=>[nds x.1,.int .i64 x.2.1,.int .i64 x.2.2],pre:=fun x=>HW x,Y:=Unit,post:=fun x y=>True,res:=fun x y=> .bool (LN x),outs:=fun x y=>[.top,.top,.top],keep:=false}
theorem a9D:Ai G Tryz.prog 130 Dw:=
 vcFun_okP [(158,0,IP),(129,0,IQ)] [] false (fun x=>[]) Tryz.func130 rfl (by decide) ⟨a9B,a0S,trivial⟩ (fun(x:List Nd×Int×Int)=>(∀(y:Unit),True→True∧True∧True∧True∧True)∧((0:Int)≤x.2.1∧x.2.1<(↑(List.length x.1):Int))∧∀(e:Nd),x.1[Int.toNat x.2.1]? =some e→((0:Int)≤x.2.2∧x.2.2<(↑(List.length e.kids):Int))∧∀(e_1:Int),e.kids[Int.toNat x.2.2]? =some e_1→((0:Int)≤e_1∧e_1<(↑(List.length x.1):Int))∧∀(e_2:Nd),x.1[Int.toNat e_1]? =some e_2→Aa (e.kind==(9:Int)) (inR IntKind.i64 (x.2.2+(1:Int))∧Aa (decide (x.2.2+(1:Int)<(↑(List.length e.kids):Int))) (rA Dw x [.bool (e_2.kind==(1:Int)),.top,.top,.top]) (cA IP [.int .i64 e_2.kind] fun x_1 y=>rA Dw x [.bool (BN x_1),.top,.top,.top])) (Aa (e.kind==(20:Int)) (inR IntKind.i64 (x.2.2+(1:Int))∧Aa (decide (x.2.2+(1:Int)<(↑(List.length e.kids):Int))) (rA Dw x [.bool (e_2.kind==(1:Int)),.top,.top,.top]) (rA Dw x [.bool (e_2.kind==(18:Int)),.top,.top,.top])) (Aa (e.kind==(10:Int)) (Aa (decide (x.2.2>(0:Int))) (Aa (e_2.kind==(5:Int)) (((0:Int)≤(0:Int)∧(0:Int)<(↑(List.length e_2.kids):Int))∧∀(e:Int),e_2.kids[(0:Nat)]? =some e→((0:Int)≤e∧e<(↑(List.length x.1):Int))∧∀(e_3:Nd),x.1[Int.toNat e]? =some e_3→rA Dw x [.bool (e_3.kind==(1:Int)),.top,.top,.top]) (rA Dw x [.bool false,.top,.top,.top])) (cA IP [.int .i64 e_2.kind] fun x_1 y=>rA Dw x [.bool (BN x_1),.top,.top,.top])) (Aa (e.kind==(16:Int)) (Aa (decide (x.2.2>(0:Int))) (rA Dw x [.bool (e_2.kind==(18:Int)),.top,.top,.top]) (cA IP [.int .i64 e_2.kind] fun x_1 y=>rA Dw x [.bool (BN x_1),.top,.top,.top])) (Aa (e.kind==(17:Int)) (Aa (decide (x.2.2>(0:Int))) (rA Dw x [.bool (e_2.kind==(18:Int)),.top,.top,.top]) (cA IP [.int .i64 e_2.kind] fun x_1 y=>rA Dw x [.bool (BN x_1),.top,.top,.top])) (Aa (e.kind==(18:Int)) (cA IQ [.int .i64 e_2.kind] fun x_1 y=>rA Dw x [.bool (EY x_1),.top,.top,.top]) (Aa (e.kind==(21:Int)) (Aa (e_2.kind==(12:Int)) (rA Dw x [.bool true,.top,.top,.top]) (Aa (e_2.kind==(20:Int)) (rA Dw x [.bool true,.top,.top,.top]) (rA Dw x [.bool (e_2.kind==(19:Int)),.top,.top,.top]))) (Aa (e.kind==(22:Int)) (Aa (e_2.kind==(21:Int)) (rA Dw x [.bool true,.top,.top,.top]) (Aa (e_2.kind==(12:Int)) (rA Dw x [.bool true,.top,.top,.top]) (Aa (e_2.kind==(20:Int)) (rA Dw x [.bool true,.top,.top,.top]) (rA Dw x [.bool (e_2.kind==(19:Int)),.top,.top,.top])))) (cA IP [.int .i64 e_2.kind] fun x_1 y=>rA Dw x [.bool (BN x_1),.top,.top,.top]))))))))) (fun x=>by kernel_rfl) fun(x:List Nd×Int×Int) (hx:HW x)=>(by
 dsimp only[cA,Bc,nds,rA,Dw,IQ,IP,Au,Az,mvL,lnL,mvE,lnE]
 have h:=hx;have h1:=h.1;have hl:=h1.1;have hn:=DS.1 h.2.1
 (repeat' first|(with_reducible first|rfl|exact True.intro|apply AK|apply And.intro|((first|apply AA|apply AI|apply AB|apply AJ)<;>intro _))|(apply Ax<;>intro _)|apply AH|refine Ae () ?_ ?_|((first|apply AO|apply AN|apply AM|apply AL|apply AG|apply AF|apply AE|apply AD|apply AC)<;>try dsimp only)|apply Ae|(refine Prod.forall.2 ?_;intro _;try dsimp only)|(intro _;try dsimp only))
 all_goals first
  |omega
  |exact(VG h ‹_›).1
  |exact(VG h ‹_›).2
  |exact(a0T h ‹_› ‹_›).1
  |exact(a0T h ‹_› ‹_›).2
  |exact a0W h ‹_› ‹_› ‹_› ‹_› ‹_›
  |(have:=a0W h ‹_› ‹_› ‹_› ‹_› ‹_›;omega)
  |(have:=(a0V h ‹_› ‹_› ‹_› ‹_› ‹_› ‹_›).1;omega)
  |(have hk:=(h1.2 _ (Ca (show x.1[x.2.1.toNat]? =some _ by assumption))).2;have:=VG h ‹_›;(try simp only[AR]);omega)
  |(rw[a0X ‹_› ‹_› ‹_›];simp [GM,EK,Eh,EX,Hp,Ga,Gf, *];done)
  |(rw[a0X ‹_› ‹_› ‹_›,(a0V h ‹_› ‹_› ‹_› ‹_› ‹_› ‹_›).2,Bt,Bw ‹_›];simp [GM,Ga,Gf, *];done)
  |skip)
def koI(ns:List Nd)(x:Nd)(i:Int):Prop:=0≤i∧i≤x.kids.length∧∀(j:Nat) c,(j:Int)<i→x.kids[j]? =some c→Eb ns x j c=true
theorem a9E{ns:List Nd}{x:Nd}:koI ns x 0:=⟨by omega,by omega,fun j c h=>by omega⟩
theorem a0Y{ns:List Nd}{x:Nd}{i c:Int}(h:koI ns x i)(hc:x.kids[i.toNat]? =some c)(hk:Eb ns x i c=true):koI ns x (i+1):=by
 obtain⟨h1,h2,h3⟩:=h
 have:=(Fz hc).1
 refine⟨by omega,by omega,fun j d hj hd=> ?_⟩
 by_cases e:(j:Int)<i
 ·exact h3 j d e hd
 ·obtain rfl:j=i.toNat:=by omega
  rw[hc] at hd;cases hd
  rwa [show((i.toNat:Nat):Int)=i by omega]
theorem a9F{ns:List Nd}{x:Nd}{i:Int}(h:koI ns x i)(hl:¬i<x.kids.length):BV (Eb ns x) x.kids 0=true:=by
 rw[Vy];intro j c hc
 exact h.2.2 j c (by have:=(Fz hc).1;omega) hc
theorem Rj{ns:List Nd}{x:Nd}{i c:Int}(h0:0≤i)(hc:x.kids[i.toNat]? =some c)(hk:Eb ns x i c=false):BV (Eb ns x) x.kids 0=false:=by
 rw[Bool.eq_false_iff];intro h
 rw[Vy] at h
 have:=h _ _ hc
 rw[show((i.toNat:Nat):Int)=i by omega,hk] at this;cases this
theorem ko1{ns:List Nd}{x y:Nd}{i c:Int}(hy:ns[c.toNat]? =some y)(h:y.kind=5)(h0:(y.kids.length:Int)=0):Eb ns x i c=false:=by
 have h0:=List.length_eq_zero_iff.1 (show y.kids.length=0 by omega)
 simp [Eb,Bt,Bw hy,h,h0]
theorem Jq{ns:List Nd}{d:Int}:inn d 0 (ns.length-1)=BM ns d:=by
 rw[Bool.eq_iff_iff];simp only[inn,BM,Bool.and_eq_true,decide_eq_true_eq];omega
theorem ko2{ns:List Nd}{x y:Nd}{i c d:Int}(hy:ns[c.toNat]? =some y)(h:y.kind=5)(h0:y.kids[0]? =some d)(hd:inn d 0 (ns.length-1)=false):Eb ns x i c=false:=by
 rw[Jq] at hd
 match hk:y.kids with
 |[]=>rw[hk] at h0;cases h0
 |e::t=>rw[hk] at h0;cases h0;simp [Eb,Bt,Bw hy,h,hk,hd]
theorem ko3{ns:List Nd}{x y:Nd}{i c d:Int}(hy:ns[c.toNat]? =some y)(h:y.kind=5)(h0:y.kids[0]? =some d)(hd:inn d 0 (ns.length-1)=true):Eb ns x i c=Lx ns x i c:=by
 rw[Jq] at hd
 match hk:y.kids with
 |[]=>rw[hk] at h0;cases h0
 |e::t=>rw[hk] at h0;cases h0;simp [Eb,Bt,Bw hy,h,hk,hd]
theorem ko4{ns:List Nd}{x y:Nd}{i c:Int}(hy:ns[c.toNat]? =some y)(h:y.kind≠5):Eb ns x i c=Lx ns x i c:=by
 simp [Eb,Bt,Bw hy,h]
theorem Rk{ns:List Nd}{x:Nd}{k i c:Int}{b:Bool}(hx:ns[k.toNat]? =some x)(hc:x.kids[i.toNat]? =some c)(hb:LN (ns,k,i)=b):Lx ns x i c=b:=by
 rw[←hb,LN,Bw hx,List.getD,hc,Option.getD_some]
theorem a9G{ns:List Nd}{x y:Nd}{k i c d:Int}(h1:Cy ns)(hn:BM ns k=true)(hx:ns[k.toNat]? =some x)(hin:Ea x.kids k=true)(hi:koI ns x i)(hc:x.kids[i.toNat]? =some c)(hy:ns[c.toNat]? =some y)(h0:y.kids[0]? =some d)(hd:inn d 0 (ns.length-1)=true):HW (ns,k,i):=by
 have hk:=DS.1 hn
 have:=(Fz hc).1
 unfold HW;simp only[Bw hx]
 refine⟨h1,hn,fun h10 c' hc' h5=> ?_,⟨hi.1,by omega⟩,fun c' hc'=> ?_⟩
 ·rw[hc] at hc';cases hc'
  rw[Bw hy]
  match hkk:y.kids with
  |[]=>rw[hkk] at h0;cases h0
  |e::t=>rw[hkk] at h0;cases h0;exact⟨_,_,rfl,by rw[←Jq];exact hd⟩
 ·simp only[Ea,List.all_eq_true,Bool.and_eq_true,decide_eq_true_eq] at hin
  have:=hin c' (Ca hc');omega
theorem a9H{ns:List Nd}{x y:Nd}{k i c:Int}(h1:Cy ns)(hn:BM ns k=true)(hx:ns[k.toNat]? =some x)(hin:Ea x.kids k=true)(hi:koI ns x i)(hc:x.kids[i.toNat]? =some c)(hy:ns[c.toNat]? =some y)(h5:y.kind≠5):HW (ns,k,i):=by
 have hk:=DS.1 hn
 have:=(Fz hc).1
 unfold HW;simp only[Bw hx]
 refine⟨h1,hn,fun h10 c' hc' h5'=> ?_,⟨hi.1,by omega⟩,fun c' hc'=> ?_⟩
 ·rw[hc] at hc';cases hc'
  rw[Bt,Bw hy] at h5';exact(h5 h5').elim
 ·simp only[Ea,List.all_eq_true,Bool.and_eq_true,decide_eq_true_eq] at hin
  have:=hin c' (Ca hc');omega
theorem a0Z{k:Int}:HQ k=(EY k||(decide (k=20)||decide (k=21))):=by
 rw[Bool.eq_iff_iff]
 simp only[HQ,EY,EX,Ko,inn,Bool.or_eq_true,Bool.and_eq_true,decide_eq_true_eq];omega
theorem a1a{ns:List Nd}{k:Int}(h:inn k 0 (ns.length-1)=false):false=Ci ns k:=by rw[Jq] at h;exact a0w h
theorem Pk{ns:List Nd}{k:Int}{x:Nd}(hx:ns[k.toNat]? =some x)(h:inn k 0 (ns.length-1)=true):Ci ns k=(inn x.kind 1 22&&(inn x.kids.length (Fm x.kind).1 (Fm x.kind).2&&(Fj x.kind x.text&&((HQ x.kind|| !x.blank)&&((Ea x.kids k&&decide x.kids.Nodup)&&BV (Eb ns x) x.kids 0))))):=by
 rw[Jq] at h;rw[Nv hx h,a8z]
theorem a9I{ns:List Nd}{k:Int}{x:Nd}(hx:ns[k.toNat]? =some x)(h:inn k 0 (ns.length-1)=true)(h1:Ea x.kids k=false):false=Ci ns k:=by
 rw[Pk hx h,h1];simp
theorem a9J{ns:List Nd}{k:Int}{x:Nd}(hx:ns[k.toNat]? =some x)(h:inn k 0 (ns.length-1)=true)(h1:¬x.kids.Nodup):false=Ci ns k:=by
 rw[Pk hx h,decide_eq_false h1];simp
theorem Rl{ns:List Nd}{k:Int}{x:Nd}(hx:ns[k.toNat]? =some x)(h:inn k 0 (ns.length-1)=true)(h1:BV (Eb ns x) x.kids 0=false):false=Ci ns k:=by
 rw[Pk hx h,h1];simp
theorem a9K{ns:List Nd}{k:Int}{x:Nd}(hx:ns[k.toNat]? =some x)(h:inn k 0 (ns.length-1)=true)(h1:inn x.kind 1 22=true)(h2:inn x.kids.length (Fm x.kind).1 (Fm x.kind).2=true)(h3:Fj x.kind x.text=true)(h4:(HQ x.kind|| !x.blank)=true)
 (h5:Ea x.kids k=true∧x.kids.Nodup) (h6:BV (Eb ns x) x.kids 0=true):true=Ci ns k:=by
 rw[Pk hx h,h1,h2,h3,h4,h5.1,h6,decide_eq_true h5.2];rfl
theorem a9L{k c:Int}{l:List Int}{n:Nat}(hc:l[n]? =some c)(h:inn c 0 (k-1)=false):Ea l k=false:=by
 rw[Bool.eq_false_iff];intro hh;simp only[Ea,List.all_eq_true,Bool.and_eq_true,decide_eq_true_eq] at hh
 have:=hh c (Ca hc)
 have:inn c 0 (k-1)=true:=Ku.2 (by omega)
 rw[h] at this;cases this
def djI(l:List Int)(i j:Int):Prop:=0≤j∧j≤i∧∀c,l[i.toNat]? =some c→(l.take j.toNat).elem c=false
theorem a9M{l:List Int}{i:Int}(h:0≤i):djI l i 0:=⟨by omega,h,by simp⟩
theorem a9N{l:List Int}{i j c d:Int}(h:djI l i j)(hl:j<i)(hc:l[i.toNat]? =some c)(hd:l[j.toNat]? =some d)(hne:c≠d):djI l i (j+1):=by
 refine⟨by have:=h.1;omega,by omega,fun c' hc'=> ?_⟩
 have h3:=h.2.2 c' hc'
 rw[hc] at hc';cases hc'
 rw[DX h.1,FZ hd]
 simp at h3 ⊢
 exact⟨h3,hne⟩
theorem a9O{l:List Int}{i j c d:Int}(h0:djI l i j)(hl:j<i)(hc:l[i.toNat]? =some c)(hd:l[j.toNat]? =some d)(he:c=d):¬l.Nodup:=by
 refine a0v hc ?_
 subst he
 rw[List.elem_iff]
 rw[List.mem_take_iff_getElem]
 obtain⟨hj,e⟩:=Fz hd
 have:=h0.1
 exact⟨j.toNat,by omega,e⟩
theorem a9P{k:Int}{l:List Int}{i j c:Int}(h:nkI k l i)(hd:djI l i j)(hl:¬j<i)(hc:l[i.toNat]? =some c)(hin:inn c 0 (k-1)=true):nkI k l (i+1):=by
 have:=Ku.1 hin
 have h3:=hd.2.2 c hc
 obtain rfl:j=i:=by have:=hd.2.1;omega
 exact a0u h hc (by omega) (by omega) h3
def Rm(x:List Nd×Int)(i:Int):LS:= {
 ι:=Int,inv:=djI (Af x.1 x.2).kids i,
 regs:=fun j=>[(0,nds x.1),(1,.int .i64 x.2),(5,.box 0 (ndA false (Af x.1 x.2))),(8,.int .i64 i),(9,.int .i64 j)],als:=[],meas:=fun j=>i.toNat-j.toNat}
def Rn(x:List Nd×Int):LS:= {
 ι:=Int,inv:=nkI x.2 (Af x.1 x.2).kids,
 regs:=fun i=>[(0,nds x.1),(1,.int .i64 x.2),(5,.box 0 (ndA false (Af x.1 x.2))),(8,.int .i64 i)],als:=[],meas:=fun i=>(Af x.1 x.2).kids.length-i.toNat,sub:=fun i=>[(15,Rm x i)]}
def Pl(x:List Nd×Int):LS:= {
 ι:=Int,inv:=koI x.1 (Af x.1 x.2),
 regs:=fun i=>[(0,nds x.1),(1,.int .i64 x.2),(5,.box 0 (ndA false (Af x.1 x.2))),(10,.int .i64 i)],als:=[],meas:=fun i=>(Af x.1 x.2).kids.length-i.toNat}
def jI(x:Nd):Prop:=inn x.kind 1 22=true∧inn x.kids.length (Fm x.kind).1 (Fm x.kind).2=true∧Fj x.kind x.text=true∧(HQ x.kind|| !x.blank)=true
def Nx(x:List Nd×Int):LS:= {
 ι:=Unit,inv:=fun _=>jI (Af x.1 x.2),
 regs:=fun _=>[(0,nds x.1),(1,.int .i64 x.2),(5,.box 0 (ndA false (Af x.1 x.2)))],als:=[],meas:=fun _=>0}
def Fa:Sig:= {X:=List Nd×Int,args:=fun x=>[nds x.1,.int .i64 x.2],pre:=fun x=>Cy x.1,Y:=Unit,post:=fun x y=>True,res:=fun x y=> .bool (Ci x.1 x.2),outs:=fun x y=>[.top,.top],keep:=false}
set_option maxHeartbeats 4000000 in
theorem a9Q:Ai G Tryz.prog 101 Fa:=
 vcFun_okP [(46,0,Db),(127,0,DH),(128,0,Fl),(129,0,IQ),(130,0,Dw)] [] false (fun x=>[(10,Rn x),(20,Pl x),(200009,Nx x)]) Tryz.func101 rfl (by decide) ⟨Lo,a9C,a8u,a0S,a9D,trivial⟩ (fun(x:List Nd×Int)=>(∀(y:Unit),True→True∧True∧True∧True)∧inR IntKind.i64 ((↑(List.length x.1):Int)-(1:Int))∧cA Db [.int .i64 x.2,.int .i64 (0:Int),.int .i64 ((↑(List.length x.1):Int)-(1:Int))] fun x_1 y=>Aa (!inn x_1.1 x_1.2.1 x_1.2.2) (rA Fa x [.bool false,.top,.top]) (((0:Int)≤x.2∧x.2<(↑(List.length x.1):Int))∧∀(e:Nd),x.1[Int.toNat x.2]? =some e→cA Db [.int .i64 e.kind,.int .i64 (1:Int),.int .i64 (22:Int)] fun x_2 y=>Aa (!inn x_2.1 x_2.2.1 x_2.2.2) (rA Fa x [.bool false,.top,.top]) (((0:Int)≤x.2∧x.2<(↑(List.length x.1):Int))∧∀(e:Nd),x.1[Int.toNat x.2]? =some e→cA DH [.int .i64 e.kind] fun x_3 y=>cA Db [.int .i64 (↑(List.length e.kids):Int),.int .i64 (Fm x_3).1,.int .i64 (Fm x_3).2] fun x_4 y=>Aa (!inn x_4.1 x_4.2.1 x_4.2.2) (rA Fa x [.bool false,.top,.top]) (cA Fl [.int .i64 e.kind,.str e.text] fun x_5 y=>Aa (!Fj x_5.1 x_5.2) (rA Fa x [.bool false,.top,.top]) (Aa e.blank (cA IQ [.int .i64 e.kind] fun x_6 y=>Aa (!EY x_6) (Aa (e.kind != (20:Int)) (Aa (e.kind != (21:Int)) (rA Fa x [.bool false,.top,.top]) (eA (Nx x) [nds x.1,.int .i64 x.2,.box 0 [.int .i64 e.kind,.str e.text,Aj e.kids,.bool e.blank]])) (eA (Nx x) [nds x.1,.int .i64 x.2,.box 0 [.int .i64 e.kind,.str e.text,Aj e.kids,.bool e.blank]])) (eA (Nx x) [nds x.1,.int .i64 x.2,.box 0 [.int .i64 e.kind,.str e.text,Aj e.kids,.bool e.blank]])) (eA (Nx x) [nds x.1,.int .i64 x.2,.box 0 [.int .i64 e.kind,.str e.text,Aj e.kids,.bool e.blank]])∧∀(i:Unit),jI (Af x.1 x.2)→eA (Rn x) [nds x.1,.int .i64 x.2,.box 0 [.int .i64 (Af x.1 x.2).kind,.str (Af x.1 x.2).text,Aj (Af x.1 x.2).kids,.bool (Af x.1 x.2).blank],.int .i64 (0:Int)]∧∀(i:Int),nkI x.2 (Af x.1 x.2).kids i→Aa (decide (i<(↑(List.length (Af x.1 x.2).kids):Int))) (((0:Int)≤i∧i<(↑(List.length (Af x.1 x.2).kids):Int))∧∀(e:Int),(Af x.1 x.2).kids[Int.toNat i]? =some e→inR IntKind.i64 (x.2-(1:Int))∧cA Db [.int .i64 e,.int .i64 (0:Int),.int .i64 (x.2-(1:Int))] fun x_6 y=>Aa (!inn x_6.1 x_6.2.1 x_6.2.2) (rA Fa x [.bool false,.top,.top]) (eA (Rm x i) [nds x.1,.int .i64 x.2,.box 0 [.int .i64 (Af x.1 x.2).kind,.str (Af x.1 x.2).text,Aj (Af x.1 x.2).kids,.bool (Af x.1 x.2).blank],.int .i64 i,.int .i64 (0:Int)]∧∀(i_1:Int),djI (Af x.1 x.2).kids i i_1→Aa (decide (i_1<i)) (true=true∧true=true∧((0:Int)≤i∧i<(↑(List.length (Af x.1 x.2).kids):Int))∧∀(e:Int),(Af x.1 x.2).kids[Int.toNat i]? =some e→((0:Int)≤i_1∧i_1<(↑(List.length (Af x.1 x.2).kids):Int))∧∀(e_1:Int),(Af x.1 x.2).kids[Int.toNat i_1]? =some e_1→Aa (e==e_1) (rA Fa x [.bool false,.top,.top]) (inR IntKind.i64 (i_1+(1:Int))∧eN (Rm x i) i_1 [nds x.1,.int .i64 x.2,.box 0 [.int .i64 (Af x.1 x.2).kind,.str (Af x.1 x.2).text,Aj (Af x.1 x.2).kids,.bool (Af x.1 x.2).blank],.int .i64 i,.int .i64 (i_1+(1:Int))])) (inR IntKind.i64 (i+(1:Int))∧eN (Rn x) i [nds x.1,.int .i64 x.2,.box 0 [.int .i64 (Af x.1 x.2).kind,.str (Af x.1 x.2).text,Aj (Af x.1 x.2).kids,.bool (Af x.1 x.2).blank],.int .i64 (i+(1:Int))]))) (eA (Pl x) [nds x.1,.int .i64 x.2,.box 0 [.int .i64 (Af x.1 x.2).kind,.str (Af x.1 x.2).text,Aj (Af x.1 x.2).kids,.bool (Af x.1 x.2).blank],.int .i64 (0:Int)]∧∀(i:Int),koI x.1 (Af x.1 x.2) i→Aa (decide (i<(↑(List.length (Af x.1 x.2).kids):Int))) (((0:Int)≤i∧i<(↑(List.length (Af x.1 x.2).kids):Int))∧∀(e:Int),(Af x.1 x.2).kids[Int.toNat i]? =some e→((0:Int)≤e∧e<(↑(List.length x.1):Int))∧∀(e_1:Nd),x.1[Int.toNat e]? =some e_1→Aa (e_1.kind==(5:Int)) (Aa ((↑(List.length e_1.kids):Int)==(0:Int)) (rA Fa x [.bool false,.top,.top]) (((0:Int)≤(0:Int)∧(0:Int)<(↑(List.length e_1.kids):Int))∧∀(e:Int),e_1.kids[(0:Nat)]? =some e→inR IntKind.i64 ((↑(List.length x.1):Int)-(1:Int))∧cA Db [.int .i64 e,.int .i64 (0:Int),.int .i64 ((↑(List.length x.1):Int)-(1:Int))] fun x_6 y=>Aa (!inn x_6.1 x_6.2.1 x_6.2.2) (rA Fa x [.bool false,.top,.top]) (cA Dw [nds x.1,.int .i64 x.2,.int .i64 i] fun x_7 y=>Aa (!LN x_7) (rA Fa x [.bool false,.top,.top]) (inR IntKind.i64 (i+(1:Int))∧eN (Pl x) i [nds x.1,.int .i64 x.2,.box 0 [.int .i64 (Af x.1 x.2).kind,.str (Af x.1 x.2).text,Aj (Af x.1 x.2).kids,.bool (Af x.1 x.2).blank],.int .i64 (i+(1:Int))])))) (cA Dw [nds x.1,.int .i64 x.2,.int .i64 i] fun x_6 y=>Aa (!LN x_6) (rA Fa x [.bool false,.top,.top]) (inR IntKind.i64 (i+(1:Int))∧eN (Pl x) i [nds x.1,.int .i64 x.2,.box 0 [.int .i64 (Af x.1 x.2).kind,.str (Af x.1 x.2).text,Aj (Af x.1 x.2).kids,.bool (Af x.1 x.2).blank],.int .i64 (i+(1:Int))]))) (rA Fa x [.bool true,.top,.top]))))))) (fun x=>by kernel_rfl) fun(x:List Nd×Int) (hx:Cy x.1)=>(by
 dsimp only[cA,eA,eN,Aj,Nx,Rn,Rm,Pl,Bc,nds,rA,Db,DH,Dw,IQ,Fl,Fa,Au,Az,mvL,lnL,mvE,lnE,Bq]
 have h1:Cy x.1:=hx;have hl:=h1.1
 by_cases hn:BM x.1 x.2=true
 case neg=>
  (repeat' first|(with_reducible first|rfl|exact True.intro|apply AK|apply And.intro|((first|apply AA|apply AI|apply AB|apply AJ)<;>intro _))|(apply Ax<;>intro _)|apply AH|refine Ae () ?_ ?_|((first|apply AO|apply AN|apply AM|apply AL|apply AG|apply AF|apply AE|apply AD|apply AC)<;>try dsimp only)|apply Ae|(refine Prod.forall.2 ?_;intro _;try dsimp only)|(intro _;try dsimp only))
  all_goals first
   |exact a1a ‹_›
   |(have hh:=(show inn x.2 0 (x.1.length-1)=true by assumption);rw[Jq] at hh;exact(hn hh).elim)
   |((try simp only[AR]);omega)
 case pos=>
 have hr:=DS.1 hn
 obtain⟨z,hz⟩:∃z,x.1[x.2.toNat]? =some z:=⟨x.1[x.2.toNat],by simp⟩
 have hzo:=h1.2 _ (Ca hz)
 have hi:inn x.2 0 (x.1.length-1)=true:=by rw[Jq];exact hn
 simp only[hz,Option.some.injEq,forall_eq',Bw hz]
 (repeat' first|(with_reducible first|rfl|exact True.intro|apply AK|apply And.intro|((first|apply AA|apply AI|apply AB|apply AJ)<;>intro _))|(apply Ax<;>intro _)|apply AH|refine Ae () ?_ ?_|((first|apply AO|apply AN|apply AM|apply AL|apply AG|apply AF|apply AE|apply AD|apply AC)<;>try dsimp only)|apply Ae|(refine Prod.forall.2 ?_;intro _;try dsimp only)|(intro _;try dsimp only))
 all_goals first
  |rfl
  |assumption
  |exact a0t
  |exact a9E
  |exact a9M (‹nkI _ _ _›.1)
  |exact a1a ‹_›
  |exact⟨by assumption,by assumption,by assumption,by simp [a0Z, *]⟩
  |exact a9I hz hi (a9L ‹_› ‹_›)
  |exact a9J hz hi (a9O ‹_› ‹_› ‹_› ‹_› ‹_›)
  |exact a9N ‹_› ‹_› ‹_› ‹_› ‹_›
  |exact a9P ‹_› ‹_› ‹_› ‹_› ‹_›
  |exact Rl hz hi (Rj (‹koI _ _ _›.1) ‹_› (ko1 ‹_› ‹_› ‹_›))
  |exact Rl hz hi (Rj (‹koI _ _ _›.1) ‹_› (ko2 ‹_› ‹_› ‹_› ‹_›))
  |exact Rl hz hi (Rj (‹koI _ _ _›.1) ‹_› ((ko4 ‹_› ‹_›).trans (Rk hz ‹_› ‹_›)))
  |exact Rl hz hi (Rj (‹koI _ _ _›.1) ‹_› ((ko3 ‹_› ‹_› ‹_› ‹_›).trans (Rk hz ‹_› ‹_›)))
  |exact a0Y ‹_› ‹_› ((ko4 ‹_› ‹_›).trans (Rk hz ‹_› ‹_›))
  |exact a0Y ‹_› ‹_› ((ko3 ‹_› ‹_› ‹_› ‹_›).trans (Rk hz ‹_› ‹_›))
  |exact a9G h1 hn hz (Ph ‹_› ‹_›).1 ‹_› ‹_› ‹_› ‹_› ‹_›
  |exact a9H h1 hn hz (Ph ‹_› ‹_›).1 ‹_› ‹_› ‹_› ‹_›
  |exact a9K hz hi (‹jI _›.1) (‹jI _›.2.1) (‹jI _›.2.2.1) (‹jI _›.2.2.2) (Ph ‹_› ‹_›) (a9F ‹_› ‹_›)
  |(rw[Pk hz hi];simp [a0Z, *];done)
  |exact hzo.1
  |(have:=VE ‹_› ‹_› hr.2 (Ca (show z.kids[_]? =some _ by assumption));omega)
  |((try simp only[AR]);omega)
  |(have hko:=(show koI _ _ _ by assumption);have hk2:=hzo.2;have:=hko.1;have:=hko.2.1;(try simp only[AR]);omega)
  |(have hko:=(show djI _ _ _ by assumption);have hk1:=(show nkI _ _ _ by assumption);have hk2:=hzo.2;have:=hko.1;have:=hko.2.1;have:=hk1.1;have:=hk1.2.1;(try simp only[AR]);omega)
  |(have hk1:=(show nkI _ _ _ by assumption);have hk2:=hzo.2;have:=hk1.1;have:=hk1.2.1;(try simp only[AR]);omega)
  |skip)
end Go.My
end
