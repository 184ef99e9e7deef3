/- A part of the proof: the engine and the contracts, joined. -/
import Derived.Test.YtjmoahjpdapjkaaGreatDoorQE
section
set_option linter.unusedVariables false
set_option linter.unusedSimpArgs false
namespace Go.My
open Go.Eng Go.Proofs
variable {G:GInv}
theorem FH{a b:Int}:(a==b)=decide (a=b):=by rw[Bool.eq_iff_iff];simp
theorem a5F{α:Type}{p:α→Bool}{x:List α}{n:Nat}{e:α}(he:x[n]? =some e)(hp:p e=true)(h:∀e∈x.take n,p e=true):∀e∈x.take (n+1),p e=true:=by
 rw[Fg he];intro d hd
 rcases List.mem_append.1 hd with hd|hd
 ·exact h d hd
 ·simp at hd;subst hd;exact hp
theorem a5G{α:Type}{p:α→Bool}{x:List α}{n:Nat}(h:∀e∈x.take n,p e=true)(hn:x.length≤n):x.all p=true:=by
 rw[List.take_of_length_le hn] at h;exact List.all_eq_true.2 h
theorem Kv{α:Type}{p:α→Bool}{x:List α}{n:Nat}{e:α}(he:x[n]? =some e)(hp:p e=false):x.all p=false:=by
 rw[Bool.eq_false_iff];intro h
 rw[List.all_eq_true.1 h e (List.mem_of_getElem? he)] at hp;cases hp
def FI:Sig:= {X:=Int,args:=fun x=>[.int .i64 x],pre:=fun x=>True,Y:=Unit,post:=fun x y=>True,res:=fun x y=> .bool (BK x),outs:=fun x y=>[.top],keep:=false}
theorem Tg:Aq G Tryz.prog 126 FI:=
 vcFun_okP [(58,0,ET)] [] false (fun x=>[]) Tryz.func126 rfl (by decide) ⟨Pc,trivial⟩ (fun(x:Int)=>(∀(y:Unit),True→True∧True∧True)∧cA ET [.int .i64 x,.int .i64 (1:Int),.int .i64 (11:Int)] fun x_1 y=>rA FI x [.bool (inn x_1.1 x_1.2.1 x_1.2.2),.top]) (fun x=>by kernel_rfl) fun(x:Int) (hx:True)=>(by
 dsimp only[cA,rA,ET,FI,Av,Az,mvL,lnL,mvE,lnE]
 (repeat' first|(with_reducible first|rfl|exact True.intro|apply AK|apply And.intro|((first|apply AA|apply AI|apply AB|apply AJ)<;>intro _))|(apply Ax<;>intro _)|apply AH|refine Af () ?_ ?_|((first|apply AO|apply AN|apply AM|apply AL|apply AG|apply AF|apply AE|apply AD|apply AC)<;>try dsimp only)|apply Af|(refine Prod.forall.2 ?_;intro _;try dsimp only)|(intro _;try dsimp only))<;>(try dsimp only at*)<;>(try simp only[AR,List.length_cons,List.length_nil])<;>(try omega)
 all_goals simp [BK,FH, *])
def Gf:Sig:= {X:=Int,args:=fun x=>[.int .i64 x],pre:=fun x=>True,Y:=Unit,post:=fun x y=>True,res:=fun x y=> .bool (FD x),outs:=fun x y=>[.top],keep:=false}
theorem Th:Aq G Tryz.prog 34 Gf:=
 vcFun_okP [(58,0,ET)] [] false (fun x=>[]) Tryz.func34 rfl (by decide) ⟨Pc,trivial⟩ (fun(x:Int)=>(∀(y:Unit),True→True∧True∧True)∧cA ET [.int .i64 x,.int .i64 (12:Int),.int .i64 (17:Int)] fun x_1 y=>rA Gf x [.bool (inn x_1.1 x_1.2.1 x_1.2.2),.top]) (fun x=>by kernel_rfl) fun(x:Int) (hx:True)=>(by
 dsimp only[cA,rA,ET,Gf,Av,Az,mvL,lnL,mvE,lnE]
 (repeat' first|(with_reducible first|rfl|exact True.intro|apply AK|apply And.intro|((first|apply AA|apply AI|apply AB|apply AJ)<;>intro _))|(apply Ax<;>intro _)|apply AH|refine Af () ?_ ?_|((first|apply AO|apply AN|apply AM|apply AL|apply AG|apply AF|apply AE|apply AD|apply AC)<;>try dsimp only)|apply Af|(refine Prod.forall.2 ?_;intro _;try dsimp only)|(intro _;try dsimp only))<;>(try dsimp only at*)<;>(try simp only[AR,List.length_cons,List.length_nil])<;>(try omega)
 all_goals simp [FD,FH, *])
def GI:Sig:= {X:=Int,args:=fun x=>[.int .i64 x],pre:=fun x=>True,Y:=Unit,post:=fun x y=>True,res:=fun x y=> .bool (DT x),outs:=fun x y=>[.top],keep:=false}
theorem Ti:Aq G Tryz.prog 129 GI:=
 vcFun_okP [] [] false (fun x=>[]) Tryz.func129 rfl (by decide) trivial (fun(x:Int)=>(∀(y:Unit),True→True∧True∧True)∧rA GI x [.bool (x==(18:Int)),.top]) (fun x=>by kernel_rfl) fun(x:Int) (hx:True)=>(by
 dsimp only[rA,GI,Av,Az]
 (repeat' first|(with_reducible first|rfl|exact True.intro|apply AK|apply And.intro|((first|apply AA|apply AI|apply AB|apply AJ)<;>intro _))|(apply Ax<;>intro _)|apply AH|refine Af () ?_ ?_|((first|apply AO|apply AN|apply AM|apply AL|apply AG|apply AF|apply AE|apply AD|apply AC)<;>try dsimp only)|apply Af|(refine Prod.forall.2 ?_;intro _;try dsimp only)|(intro _;try dsimp only))<;>(try dsimp only at*)<;>(try simp only[AR,List.length_cons,List.length_nil])<;>(try omega)
 all_goals simp [DT,FH, *])
def FJ:Sig:= {X:=Int,args:=fun x=>[.int .i64 x],pre:=fun x=>True,Y:=Unit,post:=fun x y=>True,res:=fun x y=> .bool (EG x),outs:=fun x y=>[.top],keep:=false}
theorem Tj:Aq G Tryz.prog 99 FJ:=
 vcFun_okP [] [] false (fun x=>[]) Tryz.func99 rfl (by decide) trivial (fun(x:Int)=>(∀(y:Unit),True→True∧True∧True)∧Aa (x==(12:Int)) (rA FJ x [.bool true,.top]) (Aa (x==(20:Int)) (rA FJ x [.bool true,.top]) (rA FJ x [.bool (x==(19:Int)),.top]))) (fun x=>by kernel_rfl) fun(x:Int) (hx:True)=>(by
 dsimp only[rA,FJ,Av,Az]
 (repeat' first|(with_reducible first|rfl|exact True.intro|apply AK|apply And.intro|((first|apply AA|apply AI|apply AB|apply AJ)<;>intro _))|(apply Ax<;>intro _)|apply AH|refine Af () ?_ ?_|((first|apply AO|apply AN|apply AM|apply AL|apply AG|apply AF|apply AE|apply AD|apply AC)<;>try dsimp only)|apply Af|(refine Prod.forall.2 ?_;intro _;try dsimp only)|(intro _;try dsimp only))<;>(try dsimp only at*)<;>(try simp only[AR,List.length_cons,List.length_nil])<;>(try omega)
 all_goals simp [EG,FH, *])
def LX:Sig:= {X:=Int,args:=fun x=>[.int .i64 x],pre:=fun x=>True,Y:=Unit,post:=fun x y=>True,res:=fun x y=> .bool (FE x),outs:=fun x y=>[.top],keep:=false}
theorem a5H:Aq G Tryz.prog 128 LX:=
 vcFun_okP [] [] false (fun x=>[]) Tryz.func128 rfl (by decide) trivial (fun(x:Int)=>(∀(y:Unit),True→True∧True∧True)∧rA LX x [.bool (x==(5:Int)),.top]) (fun x=>by kernel_rfl) fun(x:Int) (hx:True)=>(by
 dsimp only[rA,LX,Av,Az]
 (repeat' first|(with_reducible first|rfl|exact True.intro|apply AK|apply And.intro|((first|apply AA|apply AI|apply AB|apply AJ)<;>intro _))|(apply Ax<;>intro _)|apply AH|refine Af () ?_ ?_|((first|apply AO|apply AN|apply AM|apply AL|apply AG|apply AF|apply AE|apply AD|apply AC)<;>try dsimp only)|apply Af|(refine Prod.forall.2 ?_;intro _;try dsimp only)|(intro _;try dsimp only))<;>(try dsimp only at*)<;>(try simp only[AR,List.length_cons,List.length_nil])<;>(try omega)
 all_goals simp [FE,FH, *])
def Kw:Sig:= {X:=Int,args:=fun x=>[.int .i64 x],pre:=fun x=>True,Y:=Unit,post:=fun x y=>True,res:=fun x y=> .bool (Ec x),outs:=fun x y=>[.top],keep:=false}
theorem a5I:Aq G Tryz.prog 130 Kw:=
 vcFun_okP [(34,0,Gf)] [] false (fun x=>[]) Tryz.func130 rfl (by decide) ⟨Th,trivial⟩ (fun(x:Int)=>(∀(y:Unit),True→True∧True∧True)∧cA Gf [.int .i64 x] fun x_1 y=>Aa (FD x_1) (rA Kw x [.bool true,.top]) (rA Kw x [.bool (x==(19:Int)),.top])) (fun x=>by kernel_rfl) fun(x:Int) (hx:True)=>(by
 dsimp only[cA,rA,Gf,Kw,Av,Az,mvL,lnL,mvE,lnE]
 (repeat' first|(with_reducible first|rfl|exact True.intro|apply AK|apply And.intro|((first|apply AA|apply AI|apply AB|apply AJ)<;>intro _))|(apply Ax<;>intro _)|apply AH|refine Af () ?_ ?_|((first|apply AO|apply AN|apply AM|apply AL|apply AG|apply AF|apply AE|apply AD|apply AC)<;>try dsimp only)|apply Af|(refine Prod.forall.2 ?_;intro _;try dsimp only)|(intro _;try dsimp only))<;>(try dsimp only at*)<;>(try simp only[AR,List.length_cons,List.length_nil])<;>(try omega)
 all_goals simp [Ec,FH, *])
def Kx:Sig:= {X:=Int,args:=fun x=>[.int .i64 x],pre:=fun x=>True,Y:=Unit,post:=fun x y=>True,res:=fun x y=> .bool (GF x),outs:=fun x y=>[.top],keep:=false}
theorem a5J:Aq G Tryz.prog 131 Kx:=
 vcFun_okP [(99,0,FJ)] [] false (fun x=>[]) Tryz.func131 rfl (by decide) ⟨Tj,trivial⟩ (fun(x:Int)=>(∀(y:Unit),True→True∧True∧True)∧cA FJ [.int .i64 x] fun x_1 y=>Aa (EG x_1) (rA Kx x [.bool true,.top]) (rA Kx x [.bool (x==(21:Int)),.top])) (fun x=>by kernel_rfl) fun(x:Int) (hx:True)=>(by
 dsimp only[cA,rA,FJ,Kx,Av,Az,mvL,lnL,mvE,lnE]
 (repeat' first|(with_reducible first|rfl|exact True.intro|apply AK|apply And.intro|((first|apply AA|apply AI|apply AB|apply AJ)<;>intro _))|(apply Ax<;>intro _)|apply AH|refine Af () ?_ ?_|((first|apply AO|apply AN|apply AM|apply AL|apply AG|apply AF|apply AE|apply AD|apply AC)<;>try dsimp only)|apply Af|(refine Prod.forall.2 ?_;intro _;try dsimp only)|(intro _;try dsimp only))<;>(try dsimp only at*)<;>(try simp only[AR,List.length_cons,List.length_nil])<;>(try omega)
 all_goals simp [GF,FH, *])
def LY:Sig:= {X:=Int,args:=fun x=>[.int .i64 x],pre:=fun x=>True,Y:=Unit,post:=fun x y=>True,res:=fun x y=> .bool (Ev x),outs:=fun x y=>[.top],keep:=false}
theorem a5K:Aq G Tryz.prog 161 LY:=
 vcFun_okP [] [] false (fun x=>[]) Tryz.func161 rfl (by decide) trivial (fun(x:Int)=>(∀(y:Unit),True→True∧True∧True)∧rA LY x [.bool (x==(1:Int)),.top]) (fun x=>by kernel_rfl) fun(x:Int) (hx:True)=>(by
 dsimp only[rA,LY,Av,Az]
 (repeat' first|(with_reducible first|rfl|exact True.intro|apply AK|apply And.intro|((first|apply AA|apply AI|apply AB|apply AJ)<;>intro _))|(apply Ax<;>intro _)|apply AH|refine Af () ?_ ?_|((first|apply AO|apply AN|apply AM|apply AL|apply AG|apply AF|apply AE|apply AD|apply AC)<;>try dsimp only)|apply Af|(refine Prod.forall.2 ?_;intro _;try dsimp only)|(intro _;try dsimp only))<;>(try dsimp only at*)<;>(try simp only[AR,List.length_cons,List.length_nil])<;>(try omega)
 all_goals simp [Ev,FH, *])
def Ee(p:Int→Bool)(x:List Int)(i:Int):Prop:=0≤i∧i≤x.length∧∀e∈x.take i.toNat,p e=true
theorem Ky{p:Int→Bool}{x:List Int}:Ee p x 0:=⟨by omega,by omega,by simp⟩
theorem Kz{p:Int→Bool}{x:List Int}{i:Int}{e:Int}(h:Ee p x i)(he:x[i.toNat]? =some e)(hp:p e=true):Ee p x (i+1):=by
 obtain⟨h1,h2,h3⟩:=h
 have:=(DS he).1
 exact⟨by omega,by omega,by rw[Db h1];exact a5F he hp h3⟩
theorem KA{p:Int→Bool}{x:List Int}{i:Int}(h:Ee p x i)(hl:¬i<x.length):true=x.all p:=(a5G h.2.2 (by omega)).symm
def CX(p:Int→Bool)(c:AV)(x:List Int):LS:= {
 ι:=Int,inv:=Ee p x,regs:=fun i=>[(0,AU x),(1,c),(7,AU x),(8,.int .i64 x.length),(9,.int .i64 i)],als:=[],meas:=fun i=>x.length-i.toNat}
def KB:Sig:= {X:=List Int,args:=fun x=>[AU x,.clo (.func 126) []],pre:=fun x=>x.length<2^62,Y:=Unit,post:=fun x y=>True,res:=fun x y=> .bool (x.all BK),outs:=fun x y=>[.top,.top],keep:=false}
theorem a5L:Aq G Tryz.prog 125 KB:=
 vcFun_okP [(126,0,FI)] [] false (fun x=>[(2,CX BK (.clo (.func 126) []) x)]) Tryz.func125 rfl (by decide) ⟨Tg,trivial⟩ (fun(x:List Int)=>(∀(y:Unit),True→True∧True∧True∧True)∧eA (CX BK (AV.clo (.func 126) []) x) [AU x,AV.clo (.func 126) [],AU x,.int .i64 (↑(List.length x):Int),.int .i64 (0:Int)]∧∀(i:Int),Ee BK x i→Aa (decide (i<(↑(List.length x):Int))) (((0:Int)≤i∧i<(↑(List.length x):Int))∧∀(e:Int),x[Int.toNat i]? =some e→cA FI [.int .i64 e] fun x_1 y=>Aa (!BK x_1) (rA KB x [.bool false,.top,.top]) (inR IntKind.i64 (i+(1:Int))∧eN (CX BK (AV.clo (.func 126) []) x) i [AU x,AV.clo (.func 126) [],AU x,.int .i64 (↑(List.length x):Int),.int .i64 (i+(1:Int))])) (rA KB x [.bool true,.top,.top])) (fun x=>by kernel_rfl) fun(x:List Int) (hx:x.length<2^62)=>(by
 dsimp only[cA,eA,eN,AU,CX,rA,KB,FI,Av,Az,mvL,lnL,mvE,lnE,BA]
 have hx:x.length<2^62:=hx
 (repeat' first|(with_reducible first|rfl|exact True.intro|apply AK|apply And.intro|((first|apply AA|apply AI|apply AB|apply AJ)<;>intro _))|(apply Ax<;>intro _)|apply AH|refine Af () ?_ ?_|((first|apply AO|apply AN|apply AM|apply AL|apply AG|apply AF|apply AE|apply AD|apply AC)<;>try dsimp only)|apply Af|(refine Prod.forall.2 ?_;intro _;try dsimp only)|(intro _;try dsimp only))
 all_goals first|exact Ky|(rename_i i hi hl e he y _ hp;exact(Kv he hp).symm)|(rename_i i hi hl e he y _ hp;exact Kz hi he hp)|(rename_i i hi hl;exact KA hi hl)|(obtain⟨_,_,_⟩:= ‹Ee _ _ _›;(try simp only[AR] at*);omega)|skip)
def KC:Sig:= {X:=List Int,args:=fun x=>[AU x,.clo (.func 129) []],pre:=fun x=>x.length<2^62,Y:=Unit,post:=fun x y=>True,res:=fun x y=> .bool (x.all DT),outs:=fun x y=>[.top,.top],keep:=false}
theorem a5M:Aq G Tryz.prog 125 KC:=
 vcFun_okP [(129,0,GI)] [] false (fun x=>[(2,CX DT (.clo (.func 129) []) x)]) Tryz.func125 rfl (by decide) ⟨Ti,trivial⟩ (fun(x:List Int)=>(∀(y:Unit),True→True∧True∧True∧True)∧eA (CX DT (AV.clo (.func 129) []) x) [AU x,AV.clo (.func 129) [],AU x,.int .i64 (↑(List.length x):Int),.int .i64 (0:Int)]∧∀(i:Int),Ee DT x i→Aa (decide (i<(↑(List.length x):Int))) (((0:Int)≤i∧i<(↑(List.length x):Int))∧∀(e:Int),x[Int.toNat i]? =some e→cA GI [.int .i64 e] fun x_1 y=>Aa (!DT x_1) (rA KC x [.bool false,.top,.top]) (inR IntKind.i64 (i+(1:Int))∧eN (CX DT (AV.clo (.func 129) []) x) i [AU x,AV.clo (.func 129) [],AU x,.int .i64 (↑(List.length x):Int),.int .i64 (i+(1:Int))])) (rA KC x [.bool true,.top,.top])) (fun x=>by kernel_rfl) fun(x:List Int) (hx:x.length<2^62)=>(by
 dsimp only[cA,eA,eN,AU,CX,rA,KC,GI,Av,Az,mvL,lnL,mvE,lnE,BA]
 have hx:x.length<2^62:=hx
 (repeat' first|(with_reducible first|rfl|exact True.intro|apply AK|apply And.intro|((first|apply AA|apply AI|apply AB|apply AJ)<;>intro _))|(apply Ax<;>intro _)|apply AH|refine Af () ?_ ?_|((first|apply AO|apply AN|apply AM|apply AL|apply AG|apply AF|apply AE|apply AD|apply AC)<;>try dsimp only)|apply Af|(refine Prod.forall.2 ?_;intro _;try dsimp only)|(intro _;try dsimp only))
 all_goals first|exact Ky|(rename_i i hi hl e he y _ hp;exact(Kv he hp).symm)|(rename_i i hi hl e he y _ hp;exact Kz hi he hp)|(rename_i i hi hl;exact KA hi hl)|(obtain⟨_,_,_⟩:= ‹Ee _ _ _›;(try simp only[AR] at*);omega)|skip)
def KD:Sig:= {X:=List Int,args:=fun x=>[AU x,.clo (.func 99) []],pre:=fun x=>x.length<2^62,Y:=Unit,post:=fun x y=>True,res:=fun x y=> .bool (x.all EG),outs:=fun x y=>[.top,.top],keep:=false}
theorem a5N:Aq G Tryz.prog 125 KD:=
 vcFun_okP [(99,0,FJ)] [] false (fun x=>[(2,CX EG (.clo (.func 99) []) x)]) Tryz.func125 rfl (by decide) ⟨Tj,trivial⟩ (fun(x:List Int)=>(∀(y:Unit),True→True∧True∧True∧True)∧eA (CX EG (AV.clo (.func 99) []) x) [AU x,AV.clo (.func 99) [],AU x,.int .i64 (↑(List.length x):Int),.int .i64 (0:Int)]∧∀(i:Int),Ee EG x i→Aa (decide (i<(↑(List.length x):Int))) (((0:Int)≤i∧i<(↑(List.length x):Int))∧∀(e:Int),x[Int.toNat i]? =some e→cA FJ [.int .i64 e] fun x_1 y=>Aa (!EG x_1) (rA KD x [.bool false,.top,.top]) (inR IntKind.i64 (i+(1:Int))∧eN (CX EG (AV.clo (.func 99) []) x) i [AU x,AV.clo (.func 99) [],AU x,.int .i64 (↑(List.length x):Int),.int .i64 (i+(1:Int))])) (rA KD x [.bool true,.top,.top])) (fun x=>by kernel_rfl) fun(x:List Int) (hx:x.length<2^62)=>(by
 dsimp only[cA,eA,eN,AU,CX,rA,KD,FJ,Av,Az,mvL,lnL,mvE,lnE,BA]
 have hx:x.length<2^62:=hx
 (repeat' first|(with_reducible first|rfl|exact True.intro|apply AK|apply And.intro|((first|apply AA|apply AI|apply AB|apply AJ)<;>intro _))|(apply Ax<;>intro _)|apply AH|refine Af () ?_ ?_|((first|apply AO|apply AN|apply AM|apply AL|apply AG|apply AF|apply AE|apply AD|apply AC)<;>try dsimp only)|apply Af|(refine Prod.forall.2 ?_;intro _;try dsimp only)|(intro _;try dsimp only))
 all_goals first|exact Ky|(rename_i i hi hl e he y _ hp;exact(Kv he hp).symm)|(rename_i i hi hl e he y _ hp;exact Kz hi he hp)|(rename_i i hi hl;exact KA hi hl)|(obtain⟨_,_,_⟩:= ‹Ee _ _ _›;(try simp only[AR] at*);omega)|skip)
def KE:Sig:= {X:=List Int,args:=fun x=>[AU x,.clo (.func 128) []],pre:=fun x=>x.length<2^62,Y:=Unit,post:=fun x y=>True,res:=fun x y=> .bool (x.all FE),outs:=fun x y=>[.top,.top],keep:=false}
theorem a5O:Aq G Tryz.prog 125 KE:=
 vcFun_okP [(128,0,LX)] [] false (fun x=>[(2,CX FE (.clo (.func 128) []) x)]) Tryz.func125 rfl (by decide) ⟨a5H,trivial⟩ (fun(x:List Int)=>(∀(y:Unit),True→True∧True∧True∧True)∧eA (CX FE (AV.clo (.func 128) []) x) [AU x,AV.clo (.func 128) [],AU x,.int .i64 (↑(List.length x):Int),.int .i64 (0:Int)]∧∀(i:Int),Ee FE x i→Aa (decide (i<(↑(List.length x):Int))) (((0:Int)≤i∧i<(↑(List.length x):Int))∧∀(e:Int),x[Int.toNat i]? =some e→cA LX [.int .i64 e] fun x_1 y=>Aa (!FE x_1) (rA KE x [.bool false,.top,.top]) (inR IntKind.i64 (i+(1:Int))∧eN (CX FE (AV.clo (.func 128) []) x) i [AU x,AV.clo (.func 128) [],AU x,.int .i64 (↑(List.length x):Int),.int .i64 (i+(1:Int))])) (rA KE x [.bool true,.top,.top])) (fun x=>by kernel_rfl) fun(x:List Int) (hx:x.length<2^62)=>(by
 dsimp only[cA,eA,eN,AU,CX,rA,KE,LX,Av,Az,mvL,lnL,mvE,lnE,BA]
 have hx:x.length<2^62:=hx
 (repeat' first|(with_reducible first|rfl|exact True.intro|apply AK|apply And.intro|((first|apply AA|apply AI|apply AB|apply AJ)<;>intro _))|(apply Ax<;>intro _)|apply AH|refine Af () ?_ ?_|((first|apply AO|apply AN|apply AM|apply AL|apply AG|apply AF|apply AE|apply AD|apply AC)<;>try dsimp only)|apply Af|(refine Prod.forall.2 ?_;intro _;try dsimp only)|(intro _;try dsimp only))
 all_goals first|exact Ky|(rename_i i hi hl e he y _ hp;exact(Kv he hp).symm)|(rename_i i hi hl e he y _ hp;exact Kz hi he hp)|(rename_i i hi hl;exact KA hi hl)|(obtain⟨_,_,_⟩:= ‹Ee _ _ _›;(try simp only[AR] at*);omega)|skip)
def KF:Sig:= {X:=List Int,args:=fun x=>[AU x,.clo (.func 130) []],pre:=fun x=>x.length<2^62,Y:=Unit,post:=fun x y=>True,res:=fun x y=> .bool (x.all Ec),outs:=fun x y=>[.top,.top],keep:=false}
theorem a5P:Aq G Tryz.prog 125 KF:=
 vcFun_okP [(130,0,Kw)] [] false (fun x=>[(2,CX Ec (.clo (.func 130) []) x)]) Tryz.func125 rfl (by decide) ⟨a5I,trivial⟩ (fun(x:List Int)=>(∀(y:Unit),True→True∧True∧True∧True)∧eA (CX Ec (AV.clo (.func 130) []) x) [AU x,AV.clo (.func 130) [],AU x,.int .i64 (↑(List.length x):Int),.int .i64 (0:Int)]∧∀(i:Int),Ee Ec x i→Aa (decide (i<(↑(List.length x):Int))) (((0:Int)≤i∧i<(↑(List.length x):Int))∧∀(e:Int),x[Int.toNat i]? =some e→cA Kw [.int .i64 e] fun x_1 y=>Aa (!Ec x_1) (rA KF x [.bool false,.top,.top]) (inR IntKind.i64 (i+(1:Int))∧eN (CX Ec (AV.clo (.func 130) []) x) i [AU x,AV.clo (.func 130) [],AU x,.int .i64 (↑(List.length x):Int),.int .i64 (i+(1:Int))])) (rA KF x [.bool true,.top,.top])) (fun x=>by kernel_rfl) fun(x:List Int) (hx:x.length<2^62)=>(by
 dsimp only[cA,eA,eN,AU,CX,rA,KF,Kw,Av,Az,mvL,lnL,mvE,lnE,BA]
 have hx:x.length<2^62:=hx
 (repeat' first|(with_reducible first|rfl|exact True.intro|apply AK|apply And.intro|((first|apply AA|apply AI|apply AB|apply AJ)<;>intro _))|(apply Ax<;>intro _)|apply AH|refine Af () ?_ ?_|((first|apply AO|apply AN|apply AM|apply AL|apply AG|apply AF|apply AE|apply AD|apply AC)<;>try dsimp only)|apply Af|(refine Prod.forall.2 ?_;intro _;try dsimp only)|(intro _;try dsimp only))
 all_goals first|exact Ky|(rename_i i hi hl e he y _ hp;exact(Kv he hp).symm)|(rename_i i hi hl e he y _ hp;exact Kz hi he hp)|(rename_i i hi hl;exact KA hi hl)|(obtain⟨_,_,_⟩:= ‹Ee _ _ _›;(try simp only[AR] at*);omega)|skip)
def KG:Sig:= {X:=List Int,args:=fun x=>[AU x,.clo (.func 131) []],pre:=fun x=>x.length<2^62,Y:=Unit,post:=fun x y=>True,res:=fun x y=> .bool (x.all GF),outs:=fun x y=>[.top,.top],keep:=false}
theorem a5Q:Aq G Tryz.prog 125 KG:=
 vcFun_okP [(131,0,Kx)] [] false (fun x=>[(2,CX GF (.clo (.func 131) []) x)]) Tryz.func125 rfl (by decide) ⟨a5J,trivial⟩ (fun(x:List Int)=>(∀(y:Unit),True→True∧True∧True∧True)∧eA (CX GF (AV.clo (.func 131) []) x) [AU x,AV.clo (.func 131) [],AU x,.int .i64 (↑(List.length x):Int),.int .i64 (0:Int)]∧∀(i:Int),Ee GF x i→Aa (decide (i<(↑(List.length x):Int))) (((0:Int)≤i∧i<(↑(List.length x):Int))∧∀(e:Int),x[Int.toNat i]? =some e→cA Kx [.int .i64 e] fun x_1 y=>Aa (!GF x_1) (rA KG x [.bool false,.top,.top]) (inR IntKind.i64 (i+(1:Int))∧eN (CX GF (AV.clo (.func 131) []) x) i [AU x,AV.clo (.func 131) [],AU x,.int .i64 (↑(List.length x):Int),.int .i64 (i+(1:Int))])) (rA KG x [.bool true,.top,.top])) (fun x=>by kernel_rfl) fun(x:List Int) (hx:x.length<2^62)=>(by
 dsimp only[cA,eA,eN,AU,CX,rA,KG,Kx,Av,Az,mvL,lnL,mvE,lnE,BA]
 have hx:x.length<2^62:=hx
 (repeat' first|(with_reducible first|rfl|exact True.intro|apply AK|apply And.intro|((first|apply AA|apply AI|apply AB|apply AJ)<;>intro _))|(apply Ax<;>intro _)|apply AH|refine Af () ?_ ?_|((first|apply AO|apply AN|apply AM|apply AL|apply AG|apply AF|apply AE|apply AD|apply AC)<;>try dsimp only)|apply Af|(refine Prod.forall.2 ?_;intro _;try dsimp only)|(intro _;try dsimp only))
 all_goals first|exact Ky|(rename_i i hi hl e he y _ hp;exact(Kv he hp).symm)|(rename_i i hi hl e he y _ hp;exact Kz hi he hp)|(rename_i i hi hl;exact KA hi hl)|(obtain⟨_,_,_⟩:= ‹Ee _ _ _›;(try simp only[AR] at*);omega)|skip)
def HX:Sig:= {X:=List Int,args:=fun x=>[AU x,.clo (.func 161) []],pre:=fun x=>x.length<2^62,Y:=Unit,post:=fun x y=>True,res:=fun x y=> .bool (x.all Ev),outs:=fun x y=>[.top,.top],keep:=false}
theorem XR:Aq G Tryz.prog 125 HX:=
 vcFun_okP [(161,0,LY)] [] false (fun x=>[(2,CX Ev (.clo (.func 161) []) x)]) Tryz.func125 rfl (by decide) ⟨a5K,trivial⟩ (fun(x:List Int)=>(∀(y:Unit),True→True∧True∧True∧True)∧eA (CX Ev (AV.clo (.func 161) []) x) [AU x,AV.clo (.func 161) [],AU x,.int .i64 (↑(List.length x):Int),.int .i64 (0:Int)]∧∀(i:Int),Ee Ev x i→Aa (decide (i<(↑(List.length x):Int))) (((0:Int)≤i∧i<(↑(List.length x):Int))∧∀(e:Int),x[Int.toNat i]? =some e→cA LY [.int .i64 e] fun x_1 y=>Aa (!Ev x_1) (rA HX x [.bool false,.top,.top]) (inR IntKind.i64 (i+(1:Int))∧eN (CX Ev (AV.clo (.func 161) []) x) i [AU x,AV.clo (.func 161) [],AU x,.int .i64 (↑(List.length x):Int),.int .i64 (i+(1:Int))])) (rA HX x [.bool true,.top,.top])) (fun x=>by kernel_rfl) fun(x:List Int) (hx:x.length<2^62)=>(by
 dsimp only[cA,eA,eN,AU,CX,rA,HX,LY,Av,Az,mvL,lnL,mvE,lnE,BA]
 have hx:x.length<2^62:=hx
 (repeat' first|(with_reducible first|rfl|exact True.intro|apply AK|apply And.intro|((first|apply AA|apply AI|apply AB|apply AJ)<;>intro _))|(apply Ax<;>intro _)|apply AH|refine Af () ?_ ?_|((first|apply AO|apply AN|apply AM|apply AL|apply AG|apply AF|apply AE|apply AD|apply AC)<;>try dsimp only)|apply Af|(refine Prod.forall.2 ?_;intro _;try dsimp only)|(intro _;try dsimp only))
 all_goals first|exact Ky|(rename_i i hi hl e he y _ hp;exact(Kv he hp).symm)|(rename_i i hi hl e he y _ hp;exact Kz hi he hp)|(rename_i i hi hl;exact KA hi hl)|(obtain⟨_,_,_⟩:= ‹Ee _ _ _›;(try simp only[AR] at*);omega)|skip)
theorem XS{p:Int→Bool}{x:List Int}(h:¬(0:Int)<x.length):false=Hf p x:=by
 obtain rfl:x=[]:=List.length_eq_zero_iff.1 (by omega)
 rfl
theorem XT{p:Int→Bool}{x:List Int}{e:Int}(he:x[(x.length-1:Int).toNat]? =some e):Hf p x=(p e&&(x.take (x.length-1:Int).toNat).all Ev):=by
 have e1:(x.length-1:Int).toNat=x.length-1:=by omega
 rw[e1] at he ⊢
 unfold Hf
 rw[List.getLast?_eq_getElem?,he,List.dropLast_eq_take]
def Jv:Sig:= {X:=List Int,args:=fun x=>[AU x,.clo (.func 126) []],pre:=fun x=>x.length<2^62,Y:=Unit,post:=fun x y=>True,res:=fun x y=> .bool (Hf BK x),outs:=fun x y=>[.top,.top],keep:=false}
theorem a5R:Aq G Tryz.prog 127 Jv:=
 vcFun_okP [(126,0,FI),(125,161+1,HX)] [] false (fun x=>[]) Tryz.func127 rfl (by decide) ⟨Tg,XR,trivial⟩ (fun(x:List Int)=>(∀(y:Unit),True→True∧True∧True∧True)∧Aa (decide ((↑(List.length x):Int)>(0:Int))) (inR IntKind.i64 ((↑(List.length x):Int)-(1:Int))∧((0:Int)≤(↑(List.length x):Int)-(1:Int)∧(↑(List.length x):Int)-(1:Int)<(↑(List.length x):Int))∧∀(e:Int),x[Int.toNat ((↑(List.length x):Int)-(1:Int))]? =some e→cA FI [.int .i64 e] fun x_1 y=>Aa (BK x_1) (inR IntKind.i64 ((↑(List.length x):Int)-(1:Int))∧((0:Int)≤(0:Int)∧(0:Int)≤(↑(List.length x):Int)-(1:Int)∧(↑(List.length x):Int)-(1:Int)≤(↑(List.length x):Int))∧cA HX [AU (List.take (Int.toNat ((↑(List.length x):Int)-(1:Int))) x),AV.clo (Fn.func (161:Nat)) []] fun x_2 y=>rA Jv x [.bool (List.all x_2 Ev),.top,.top]) (rA Jv x [.bool false,.top,.top])) (rA Jv x [.bool false,.top,.top])) (fun x=>by kernel_rfl) fun(x:List Int) (hx:x.length<2^62)=>(by
 dsimp only[cA,AU,rA,HX,FI,Jv,Av,Az,mvL,lnL,mvE,lnE]
 have hx:x.length<2^62:=hx
 (repeat' first|(with_reducible first|rfl|exact True.intro|apply AK|apply And.intro|((first|apply AA|apply AI|apply AB|apply AJ)<;>intro _))|(apply Ax<;>intro _)|apply AH|refine Af () ?_ ?_|((first|apply AO|apply AN|apply AM|apply AL|apply AG|apply AF|apply AE|apply AD|apply AC)<;>try dsimp only)|apply Af|(refine Prod.forall.2 ?_;intro _;try dsimp only)|(intro _;try dsimp only))<;>(try dsimp only at*)<;>(try simp only[AR,List.length_cons,List.length_nil])<;>(try omega)
 all_goals first|exact XS (by omega)|(rw[XT ‹_›];simp [*];done)|(rw[List.length_take];omega)|skip)
def Jw:Sig:= {X:=List Int,args:=fun x=>[AU x,.clo (.func 129) []],pre:=fun x=>x.length<2^62,Y:=Unit,post:=fun x y=>True,res:=fun x y=> .bool (Hf DT x),outs:=fun x y=>[.top,.top],keep:=false}
theorem a5S:Aq G Tryz.prog 127 Jw:=
 vcFun_okP [(129,0,GI),(125,161+1,HX)] [] false (fun x=>[]) Tryz.func127 rfl (by decide) ⟨Ti,XR,trivial⟩ (fun(x:List Int)=>(∀(y:Unit),True→True∧True∧True∧True)∧Aa (decide ((↑(List.length x):Int)>(0:Int))) (inR IntKind.i64 ((↑(List.length x):Int)-(1:Int))∧((0:Int)≤(↑(List.length x):Int)-(1:Int)∧(↑(List.length x):Int)-(1:Int)<(↑(List.length x):Int))∧∀(e:Int),x[Int.toNat ((↑(List.length x):Int)-(1:Int))]? =some e→cA GI [.int .i64 e] fun x_1 y=>Aa (DT x_1) (inR IntKind.i64 ((↑(List.length x):Int)-(1:Int))∧((0:Int)≤(0:Int)∧(0:Int)≤(↑(List.length x):Int)-(1:Int)∧(↑(List.length x):Int)-(1:Int)≤(↑(List.length x):Int))∧cA HX [AU (List.take (Int.toNat ((↑(List.length x):Int)-(1:Int))) x),AV.clo (Fn.func (161:Nat)) []] fun x_2 y=>rA Jw x [.bool (List.all x_2 Ev),.top,.top]) (rA Jw x [.bool false,.top,.top])) (rA Jw x [.bool false,.top,.top])) (fun x=>by kernel_rfl) fun(x:List Int) (hx:x.length<2^62)=>(by
 dsimp only[cA,AU,rA,HX,GI,Jw,Av,Az,mvL,lnL,mvE,lnE]
 have hx:x.length<2^62:=hx
 (repeat' first|(with_reducible first|rfl|exact True.intro|apply AK|apply And.intro|((first|apply AA|apply AI|apply AB|apply AJ)<;>intro _))|(apply Ax<;>intro _)|apply AH|refine Af () ?_ ?_|((first|apply AO|apply AN|apply AM|apply AL|apply AG|apply AF|apply AE|apply AD|apply AC)<;>try dsimp only)|apply Af|(refine Prod.forall.2 ?_;intro _;try dsimp only)|(intro _;try dsimp only))<;>(try dsimp only at*)<;>(try simp only[AR,List.length_cons,List.length_nil])<;>(try omega)
 all_goals first|exact XS (by omega)|(rw[XT ‹_›];simp [*];done)|(rw[List.length_take];omega)|skip)
def BU:Sig:= {X:=Int×List Int,args:=fun x=>[.int .i64 x.1,AU x.2],pre:=fun x=>x.2.length<2^62,Y:=Unit,post:=fun x y=>True,res:=fun x y=> .bool (Ed x.1 x.2),outs:=fun x y=>[.top,.top],keep:=false}
theorem a5T:Aq G Tryz.prog 100 BU:=
 vcFun_okP [(126,0,FI),(129,0,GI),(58,0,ET),(125,126+1,KB),(125,129+1,KC),(125,99+1,KD),(125,128+1,KE),(125,130+1,KF),(125,131+1,KG),(127,126+1,Jv),(127,129+1,Jw)] [] false (fun x=>[]) Tryz.func100 rfl (by decide) ⟨Tg,Ti,Pc,a5L,a5M,a5N,a5O,a5P,a5Q,a5R,a5S,trivial⟩ (fun(x:Int×List Int)=>(∀(y:Unit),True→True∧True∧True∧True)∧cA KB [AU x.2,AV.clo (Fn.func (126:Nat)) []] fun x_1 y=>Aa (x.1==(1:Int)) (rA BU x [.bool ((↑(List.length x.2):Int)==(0:Int)),.top,.top]) (Aa (x.1==(2:Int)) (rA BU x [.bool ((↑(List.length x.2):Int)==(0:Int)),.top,.top]) (Aa (x.1==(3:Int)) (rA BU x [.bool ((↑(List.length x.2):Int)==(0:Int)),.top,.top]) (Aa (x.1==(19:Int)) (rA BU x [.bool ((↑(List.length x.2):Int)==(0:Int)),.top,.top]) (Aa (x.1==(4:Int)) (rA BU x [.bool (List.all x_1 BK),.top,.top]) (Aa (x.1==(5:Int)) (Aa (decide ((↑(List.length x.2):Int)≥(1:Int))) (rA BU x [.bool (List.all x_1 BK),.top,.top]) (rA BU x [.bool false,.top,.top])) (Aa (x.1==(7:Int)) (Aa (decide ((↑(List.length x.2):Int)≥(2:Int))) (rA BU x [.bool (List.all x_1 BK),.top,.top]) (rA BU x [.bool false,.top,.top])) (Aa (x.1==(8:Int)) (Aa ((↑(List.length x.2):Int)==(3:Int)) (rA BU x [.bool (List.all x_1 BK),.top,.top]) (rA BU x [.bool false,.top,.top])) (Aa (x.1==(6:Int)) (Aa ((↑(List.length x.2):Int)==(1:Int)) (rA BU x [.bool (List.all x_1 BK),.top,.top]) (rA BU x [.bool false,.top,.top])) (Aa (x.1==(11:Int)) (Aa ((↑(List.length x.2):Int)==(1:Int)) (rA BU x [.bool (List.all x_1 BK),.top,.top]) (rA BU x [.bool false,.top,.top])) (Aa (x.1==(13:Int)) (Aa ((↑(List.length x.2):Int)==(1:Int)) (rA BU x [.bool (List.all x_1 BK),.top,.top]) (rA BU x [.bool false,.top,.top])) (Aa (x.1==(14:Int)) (Aa ((↑(List.length x.2):Int)==(1:Int)) (rA BU x [.bool (List.all x_1 BK),.top,.top]) (rA BU x [.bool false,.top,.top])) (Aa (x.1==(12:Int)) (Aa (decide ((↑(List.length x.2):Int)≤(1:Int))) (rA BU x [.bool (List.all x_1 BK),.top,.top]) (rA BU x [.bool false,.top,.top])) (Aa (x.1==(15:Int)) (Aa (decide ((↑(List.length x.2):Int)≤(1:Int))) (rA BU x [.bool (List.all x_1 BK),.top,.top]) (rA BU x [.bool false,.top,.top])) (Aa (x.1==(9:Int)) (cA Jv [AU x.2,AV.clo (Fn.func (126:Nat)) []] fun x_2 y=>rA BU x [.bool (Hf BK x_2),.top,.top]) (Aa (x.1==(10:Int)) (Aa (decide ((↑(List.length x.2):Int)≥(2:Int))) (((0:Int)≤(0:Int)∧(0:Int)<(↑(List.length x.2):Int))∧∀(e:Int),x.2[(0:Nat)]? =some e→cA FI [.int .i64 e] fun x_2 y=>Aa (BK x_2) (((0:Int)≤(1:Int)∧(1:Int)≤(↑(List.length x.2):Int)∧(↑(List.length x.2):Int)≤(↑(List.length x.2):Int))∧cA KE [AU (List.drop (1:Nat) x.2),AV.clo (Fn.func (128:Nat)) []] fun x_3 y=>rA BU x [.bool (List.all x_3 FE),.top,.top]) (rA BU x [.bool false,.top,.top])) (rA BU x [.bool false,.top,.top])) (Aa (x.1==(16:Int)) (cA ET [.int .i64 (↑(List.length x.2):Int),.int .i64 (2:Int),.int .i64 (3:Int)] fun x_2 y=>Aa (inn x_2.1 x_2.2.1 x_2.2.2) (((0:Int)≤(0:Int)∧(0:Int)<(↑(List.length x.2):Int))∧∀(e:Int),x.2[(0:Nat)]? =some e→cA FI [.int .i64 e] fun x_3 y=>Aa (BK x_3) (((0:Int)≤(1:Int)∧(1:Int)≤(↑(List.length x.2):Int)∧(↑(List.length x.2):Int)≤(↑(List.length x.2):Int))∧cA KC [AU (List.drop (1:Nat) x.2),AV.clo (Fn.func (129:Nat)) []] fun x_4 y=>rA BU x [.bool (List.all x_4 DT),.top,.top]) (rA BU x [.bool false,.top,.top])) (rA BU x [.bool false,.top,.top])) (Aa (x.1==(17:Int)) (Aa ((↑(List.length x.2):Int)==(2:Int)) (((0:Int)≤(0:Int)∧(0:Int)<(↑(List.length x.2):Int))∧∀(e:Int),x.2[(0:Nat)]? =some e→cA FI [.int .i64 e] fun x_2 y=>Aa (BK x_2) (((0:Int)≤(1:Int)∧(1:Int)<(↑(List.length x.2):Int))∧∀(e:Int),x.2[(1:Nat)]? =some e→cA GI [.int .i64 e] fun x_3 y=>rA BU x [.bool (DT x_3),.top,.top]) (rA BU x [.bool false,.top,.top])) (rA BU x [.bool false,.top,.top])) (Aa (x.1==(18:Int)) (cA KF [AU x.2,AV.clo (Fn.func (130:Nat)) []] fun x_2 y=>rA BU x [.bool (List.all x_2 Ec),.top,.top]) (Aa (x.1==(20:Int)) (cA Jw [AU x.2,AV.clo (Fn.func (129:Nat)) []] fun x_2 y=>rA BU x [.bool (Hf DT x_2),.top,.top]) (Aa (x.1==(21:Int)) (cA KD [AU x.2,AV.clo (Fn.func (99:Nat)) []] fun x_2 y=>rA BU x [.bool (List.all x_2 EG),.top,.top]) (Aa (x.1==(22:Int)) (cA KG [AU x.2,AV.clo (Fn.func (131:Nat)) []] fun x_2 y=>rA BU x [.bool (List.all x_2 GF),.top,.top]) (rA BU x [.bool false,.top,.top]))))))))))))))))))))))) (fun x=>by kernel_rfl) fun(x:Int×List Int) (hx:x.2.length<2^62)=>(by
 dsimp only[cA,AU,rA,KC,KE,KD,KF,KG,KB,ET,GI,FI,BU,Jw,Jv,Av,Az,mvL,lnL,mvE,lnE]
 have hx:x.2.length<2^62:=hx
 obtain⟨k,l⟩:=x
 (repeat' first|(with_reducible first|rfl|exact True.intro|apply AK|apply And.intro|((first|apply AA|apply AI|apply AB|apply AJ)<;>intro _))|(apply Ax<;>intro _)|apply AH|refine Af () ?_ ?_|((first|apply AO|apply AN|apply AM|apply AL|apply AG|apply AF|apply AE|apply AD|apply AC)<;>try dsimp only)|apply Af|(refine Prod.forall.2 ?_;intro _;try dsimp only)|(intro _;try dsimp only))<;>(try dsimp only at*)<;>(try simp only[AR,List.length_cons,List.length_nil])<;>(try omega)
 all_goals try(simp only[List.length_drop];omega)
 all_goals try(simp [Ed,FH, *]<;>omega)
 all_goals(match l with
  |[]=>simp_all [Ed,inn]<;>omega
  |[a]=>simp_all [Ed,inn]<;>omega
  |[a,b]=>simp_all [Ed,inn]<;>omega
  |[a,b,c]=>simp_all [Ed,inn]<;>omega
  |a::b::c::d::m=>simp_all [Ed,inn]<;>omega))
def Gg:Sig:= {X:=List Nd×Int,args:=fun x=>[nds x.1,.int .i64 x.2],pre:=fun x=>x.1.length<2^62,Y:=Unit,post:=fun x y=>True,res:=fun x y=> .bool (BO x.1 x.2),outs:=fun x y=>[.top,.top],keep:=false}
theorem Tk:Aq G Tryz.prog 56 Gg:=
 vcFun_okP [] [] false (fun x=>[]) Tryz.func56 rfl (by decide) trivial (fun(x:List Nd×Int)=>(∀(y:Unit),True→True∧True∧True∧True)∧Aa (decide (x.2≥(0:Int))) (rA Gg x [.bool (decide (x.2<(↑(List.length x.1):Int))),.top,.top]) (rA Gg x [.bool false,.top,.top])) (fun x=>by kernel_rfl) fun(x:List Nd×Int) (hx:x.1.length<2^62)=>(by
 dsimp only[Bf,nds,rA,Gg,Av,Az]
 have hx:x.1.length<2^62:=hx
 (repeat' first|(with_reducible first|rfl|exact True.intro|apply AK|apply And.intro|((first|apply AA|apply AI|apply AB|apply AJ)<;>intro _))|(apply Ax<;>intro _)|apply AH|refine Af () ?_ ?_|((first|apply AO|apply AN|apply AM|apply AL|apply AG|apply AF|apply AE|apply AD|apply AC)<;>try dsimp only)|apply Af|(refine Prod.forall.2 ?_;intro _;try dsimp only)|(intro _;try dsimp only))<;>(try dsimp only at*)<;>(try simp only[AR,List.length_cons,List.length_nil])<;>(try omega)
 all_goals simp [BO, *])
end Go.My
end
section
set_option linter.unusedVariables false
set_option linter.unusedSimpArgs false
namespace Go.My
open Go.Eng Go.Proofs
variable {G:GInv}
def Pl(x:Nd):Prop:=x.text.length<2^62∧x.kids.length<2^62
def Cy(l:List Nd):Prop:=l.length<2^62∧∀x∈l,Pl x
theorem a5U{l:List Nd}{n:Nat}{x:Nd}(hx:l[n]? =some x)(h:Cy l):Pl x:=h.2 x (Dl hx)
def GJ(v:Int):List Int→Int→Int
 |[],_=> -1
 |c::l,i=>if v=c then i else GJ v l (i+1)
theorem XU{v:Int}:∀ {l:List Int} {i:Int},0≤i→(0≤GJ v l i↔v∈l)
 |[],i,h=>by simp [GJ]
 |c::l,i,h=>by
  unfold GJ
  by_cases e:v=c
  ·simp [e,h]
  ·rw[if_neg e,XU (by omega)];simp [e]
def KH:Sig:= {X:=List Int×Int,args:=fun x=>[AU x.1,.int .i64 x.2],pre:=fun x=>x.1.length<2^62,Y:=Unit,post:=fun x y=>True,res:=fun x y=> .int .i64 (GJ x.2 x.1 0),outs:=fun x y=>[.top,.top],keep:=false}
def Pm(x:List Int×Int):LS:= {ι:=Int,inv:=fun i=>(0≤i∧i≤x.1.length)∧GJ x.2 (x.1.drop i.toNat) i=GJ x.2 x.1 0,regs:=fun i=>[(0,AU x.1),(1,.int .i64 x.2),(7,.int .i64 x.1.length),(8,.int .i64 i)],als:=[],meas:=fun i=>x.1.length-i.toNat}
theorem a5V:Aq G Tryz.prog 124 KH:=
 vcFun_okP [] [] false (fun x=>[(2,Pm x)]) Tryz.func124 rfl (by decide) trivial (fun(x:List Int×Int)=>(∀(y:Unit),True→True∧True∧True∧True)∧eA (Pm x) [AU x.1,.int .i64 x.2,.int .i64 (↑(List.length x.1):Int),.int .i64 (0:Int)]∧∀(i:Int),((0:Int)≤i∧i≤(↑(List.length x.1):Int))∧GJ x.2 (List.drop (Int.toNat i) x.1) i=GJ x.2 x.1 (0:Int)→Aa (decide (i<(↑(List.length x.1):Int))) (((0:Int)≤i∧i<(↑(List.length x.1):Int))∧∀(e:Int),x.1[Int.toNat i]? =some e→Aa (x.2==e) (rA KH x [.int .i64 i,.top,.top]) (inR IntKind.i64 (i+(1:Int))∧eN (Pm x) i [AU x.1,.int .i64 x.2,.int .i64 (↑(List.length x.1):Int),.int .i64 (i+(1:Int))])) (rA KH x [.int .i64 (-1:Int),.top,.top])) (fun x=>by kernel_rfl) fun(x:List Int×Int) (hx:x.1.length<2^62)=>(by
 dsimp only[eA,eN,Pm,AU,rA,KH,Av,Az,BA]
 have hx:x.1.length<2^62:=hx
 (repeat' first|(with_reducible first|rfl|exact True.intro|apply AK|apply And.intro|((first|apply AA|apply AI|apply AB|apply AJ)<;>intro _))|(apply Ax<;>intro _)|apply AH|refine Af () ?_ ?_|((first|apply AO|apply AN|apply AM|apply AL|apply AG|apply AF|apply AE|apply AD|apply AC)<;>try dsimp only)|apply Af|(refine Prod.forall.2 ?_;intro _;try dsimp only)|(intro _;try dsimp only))<;>(try dsimp only at*)<;>(try simp only[AR,List.length_cons,List.length_nil])<;>(try omega)
 all_goals first
  |(rename_i i hi hl e he h;rw[←hi.2,Js he];simp [GJ,h];done)
  |(rename_i i hi hl e he h;rw[←hi.2,Js he,Db hi.1.1];simp [GJ,h];done)
  |rfl
  |(rename_i i hi hl;rw[←hi.2,List.drop_eq_nil_of_le (by omega)];rfl)
  |skip)
def LZ:Sig:= {X:=List Int×Int,args:=fun x=>[AU x.1,.int .i64 x.2],pre:=fun x=>x.1.length<2^62,Y:=Unit,post:=fun x y=>True,res:=fun x y=> .bool (x.1.elem x.2),outs:=fun x y=>[.top,.top],keep:=false}
theorem a5W:Aq G Tryz.prog 98 LZ:=
 vcFun_okP [(124,0,KH)] [] false (fun x=>[]) Tryz.func98 rfl (by decide) ⟨a5V,trivial⟩ (fun(x:List Int×Int)=>(∀(y:Unit),True→True∧True∧True∧True)∧cA KH [AU x.1,.int .i64 x.2] fun x_1 y=>rA LZ x [.bool (decide (GJ x_1.2 x_1.1 (0:Int)≥(0:Int))),.top,.top]) (fun x=>by kernel_rfl) fun(x:List Int×Int) (hx:x.1.length<2^62)=>(by
 dsimp only[cA,AU,rA,LZ,KH,Av,Az,mvL,lnL,mvE,lnE]
 have hx:x.1.length<2^62:=hx
 (repeat' first|(with_reducible first|rfl|exact True.intro|apply AK|apply And.intro|((first|apply AA|apply AI|apply AB|apply AJ)<;>intro _))|(apply Ax<;>intro _)|apply AH|refine Af () ?_ ?_|((first|apply AO|apply AN|apply AM|apply AL|apply AG|apply AF|apply AE|apply AD|apply AC)<;>try dsimp only)|apply Af|(refine Prod.forall.2 ?_;intro _;try dsimp only)|(intro _;try dsimp only))<;>(try dsimp only at*)<;>(try simp only[AR,List.length_cons,List.length_nil])<;>(try omega)
 all_goals first|(rw[Bool.eq_iff_iff,decide_eq_true_iff,List.elem_iff];exact XU (by omega))|skip)
theorem XV{ns:List Nd}{x:Nd}:ER ns x=true↔∀(j:Nat) c,x.kids[j]? =some c→CP ns x j c=true:=by
 have e:ER ns x=BT (fun i c=>CP ns x i.toNat c) x.kids 0:=by
  unfold ER
  have:(fun p:Int×Nat=>CP ns x p.2 p.1)=fun p:Int×Nat=>(fun(i c:Int)=>CP ns x i.toNat c) p.2 p.1:=by funext p;simp
  rw[this];exact Te (f:=fun i c=>CP ns x i.toNat c) (i:=0)
 rw[e,Tf];simp
def cfI(ns:List Nd)(x:Nd)(i:Int):Prop:=0≤i∧i≤x.kids.length∧∀(j:Nat) c,(j:Int)<i→x.kids[j]? =some c→CP ns x j c=true
theorem a5X{ns:List Nd}{x:Nd}:cfI ns x 0:=⟨by omega,by omega,fun j c h=>by omega⟩
theorem Pn{ns:List Nd}{x:Nd}{i c:Int}(h:cfI ns x i)(hc:x.kids[i.toNat]? =some c)(hk:CP ns x i.toNat c=true):cfI ns x (i+1):=by
 obtain⟨h1,h2,h3⟩:=h
 have:=(DS hc).1
 refine⟨by omega,by omega,fun j d hj hd=> ?_⟩
 by_cases e:(j:Int)<i
 ·exact h3 j d e hd
 ·obtain rfl:j=i.toNat:=by omega
  rw[hc] at hd;cases hd;exact hk
theorem a5Y{ns:List Nd}{x:Nd}{i:Int}(h:cfI ns x i)(hl:¬i<x.kids.length):true=ER ns x:=by
 symm;rw[XV];intro j c hc
 exact h.2.2 j c (by have:=(DS hc).1;omega) hc
theorem Tl{ns:List Nd}{x:Nd}{i c:Int}(hc:x.kids[i.toNat]? =some c)(hk:CP ns x i.toNat c=false):false=ER ns x:=by
 symm;rw[Bool.eq_false_iff];intro h
 rw[XV.1 h _ _ hc] at hk;cases hk
theorem a5Z{ns:List Nd}{x y:Nd}{i c:Int}(hy:ns[c.toNat]? =some y)(h:y.kind≠5):CP ns x i.toNat c=true:=by
 simp [CP,BH hy,h]
theorem a6a{ns:List Nd}{x y:Nd}{i c:Int}(hy:ns[c.toNat]? =some y)(h:y.kind=5)(h0:(y.kids.length:Int)=0):CP ns x i.toNat c=false:=by
 have h0:=List.length_eq_zero_iff.1 (show y.kids.length=0 by omega)
 simp [CP,BH hy,h,h0]
theorem a6b{ns:List Nd}{x y:Nd}{i c d:Int}(hy:ns[c.toNat]? =some y)(h:y.kind=5)(hd:BO ns d=false)(h0:y.kids[0]? =some d):CP ns x i.toNat c=false:=by
 match hk:y.kids with
 |[]=>rw[hk] at h0;cases h0
 |e::t=>rw[hk] at h0;cases h0;simp [CP,BH hy,h,hk,hd]
theorem a6c{ns:List Nd}{x y z:Nd}{i c d d':Int}(hy:ns[c.toNat]? =some y)(h:y.kind=5)(hd:BO ns d=true)(h0:y.kids[0]? =some d)(hz:ns[d'.toNat]? =some z)(h0':y.kids[0]? =some d')(h10:x.kind=10)(hi:i>0)(h1:z.kind≠1):CP ns x i.toNat c=false:=by
 match hk:y.kids with
 |[]=>rw[hk] at h0;cases h0
 |e::t=>rw[hk] at h0 h0';cases h0;cases h0';simp [CP,BH hy,h,hk,hd,h10,BG,BH hz,h1];omega
theorem a6d{ns:List Nd}{x y z:Nd}{i c d d':Int}(hy:ns[c.toNat]? =some y)(h:y.kind=5)(hd:BO ns d=true)(h0:y.kids[0]? =some d)(hz:ns[d'.toNat]? =some z)(h0':y.kids[0]? =some d')(h1:z.kind=1):CP ns x i.toNat c=true:=by
 match hk:y.kids with
 |[]=>rw[hk] at h0;cases h0
 |e::t=>rw[hk] at h0 h0';cases h0;cases h0';simp [CP,BH hy,h,hk,hd,BG,BH hz,h1]
theorem a6e{ns:List Nd}{x y:Nd}{i c d:Int}(hy:ns[c.toNat]? =some y)(h:y.kind=5)(hd:BO ns d=true)(h0:y.kids[0]? =some d)(h1:x.kind≠10):CP ns x i.toNat c=true:=by
 match hk:y.kids with
 |[]=>rw[hk] at h0;cases h0
 |e::t=>rw[hk] at h0;cases h0;simp [CP,BH hy,h,hk,hd,h1]
theorem a6f{ns:List Nd}{x y:Nd}{i c d:Int}(hy:ns[c.toNat]? =some y)(h:y.kind=5)(hd:BO ns d=true)(h0:y.kids[0]? =some d)(h1:¬i>0):CP ns x i.toNat c=true:=by
 have:i.toNat=0:=by omega
 match hk:y.kids with
 |[]=>rw[hk] at h0;cases h0
 |e::t=>rw[hk] at h0;cases h0;simp [CP,BH hy,h,hk,hd,this]
theorem ndB{ns:List Nd}{l:List Int}{d d':Int}(hd:BO ns d=true)(h0:l[0]? =some d)(h0':l[0]? =some d'):0≤d'∧d'<ns.length:=by
 rw[h0] at h0';cases h0';exact Dv.1 hd
def Hk:Sig:= {X:=List Nd×Nd,args:=fun x=>[nds x.1,.agg (ndA false x.2)],pre:=fun x=>Cy x.1∧Pl x.2∧∀c∈x.2.kids,0≤c∧c<x.1.length,Y:=Unit,post:=fun x y=>True,res:=fun x y=> .bool (ER x.1 x.2),outs:=fun x y=>[.top,.top],keep:=false}
def KI(x:List Nd×Nd):LS:= {ι:=Int,inv:=cfI x.1 x.2,regs:=fun i=>[(0,nds x.1),(3,.box 0 (ndA false x.2)),(9,AU x.2.kids),(10,.int .i64 x.2.kids.length),(11,.int .i64 i)],als:=[],meas:=fun i=>x.2.kids.length-i.toNat}
theorem a6g:Aq G Tryz.prog 101 Hk:=
 vcFun_okP [(56,0,Gg)] [] false (fun x=>[(2,KI x)]) Tryz.func101 rfl (by decide) ⟨Tk,trivial⟩ (fun(x:List Nd×Nd)=>(∀(y:Unit),True→True∧True∧True∧True)∧eA (KI x) [nds x.1,.box 0 [.int .i64 x.2.kind,.str x.2.text,AU x.2.kids,.bool x.2.blank],AU x.2.kids,.int .i64 (↑(List.length x.2.kids):Int),.int .i64 (0:Int)]∧∀(i:Int),cfI x.1 x.2 i→Aa (decide (i<(↑(List.length x.2.kids):Int))) (((0:Int)≤i∧i<(↑(List.length x.2.kids):Int))∧∀(e:Int),x.2.kids[Int.toNat i]? =some e→((0:Int)≤e∧e<(↑(List.length x.1):Int))∧∀(e_1:Nd),x.1[Int.toNat e]? =some e_1→Aa (e_1.kind != (5:Int)) (inR IntKind.i64 (i+(1:Int))∧eN (KI x) i [nds x.1,.box 0 [.int .i64 x.2.kind,.str x.2.text,AU x.2.kids,.bool x.2.blank],AU x.2.kids,.int .i64 (↑(List.length x.2.kids):Int),.int .i64 (i+(1:Int))]) (Aa ((↑(List.length e_1.kids):Int)==(0:Int)) (rA Hk x [.bool false,.top,.top]) (((0:Int)≤(0:Int)∧(0:Int)<(↑(List.length e_1.kids):Int))∧∀(e:Int),e_1.kids[(0:Nat)]? =some e→cA Gg [nds x.1,.int .i64 e] fun x_1 y=>Aa (!BO x_1.1 x_1.2) (rA Hk x [.bool false,.top,.top]) (Aa (x.2.kind==(10:Int)) (Aa (decide (i>(0:Int))) (((0:Int)≤(0:Int)∧(0:Int)<(↑(List.length e_1.kids):Int))∧∀(e:Int),e_1.kids[(0:Nat)]? =some e→((0:Int)≤e∧e<(↑(List.length x.1):Int))∧∀(e_2:Nd),x.1[Int.toNat e]? =some e_2→Aa (e_2.kind != (1:Int)) (rA Hk x [.bool false,.top,.top]) (inR IntKind.i64 (i+(1:Int))∧eN (KI x) i [nds x.1,.box 0 [.int .i64 x.2.kind,.str x.2.text,AU x.2.kids,.bool x.2.blank],AU x.2.kids,.int .i64 (↑(List.length x.2.kids):Int),.int .i64 (i+(1:Int))])) (inR IntKind.i64 (i+(1:Int))∧eN (KI x) i [nds x.1,.box 0 [.int .i64 x.2.kind,.str x.2.text,AU x.2.kids,.bool x.2.blank],AU x.2.kids,.int .i64 (↑(List.length x.2.kids):Int),.int .i64 (i+(1:Int))])) (inR IntKind.i64 (i+(1:Int))∧eN (KI x) i [nds x.1,.box 0 [.int .i64 x.2.kind,.str x.2.text,AU x.2.kids,.bool x.2.blank],AU x.2.kids,.int .i64 (↑(List.length x.2.kids):Int),.int .i64 (i+(1:Int))]))))) (rA Hk x [.bool true,.top,.top])) (fun x=>by kernel_rfl) fun(x:List Nd×Nd) (hx:Cy x.1∧Pl x.2∧∀c∈x.2.kids,0≤c∧c<x.1.length)=>(by
 dsimp only[cA,eA,eN,KI,AU,Bf,nds,rA,Hk,Gg,Av,Az,mvL,lnL,mvE,lnE,BA]
 obtain⟨h1,h2,h3⟩:=hx;have hl:=h1.1;have hk:=h2.2
 (repeat' first|(with_reducible first|rfl|exact True.intro|apply AK|apply And.intro|((first|apply AA|apply AI|apply AB|apply AJ)<;>intro _))|(apply Ax<;>intro _)|apply AH|refine Af () ?_ ?_|((first|apply AO|apply AN|apply AM|apply AL|apply AG|apply AF|apply AE|apply AD|apply AC)<;>try dsimp only)|apply Af|(refine Prod.forall.2 ?_;intro _;try dsimp only)|(intro _;try dsimp only))
 all_goals first
  |exact a5X
  |exact a5Y ‹_› ‹_›
  |exact Pn ‹_› ‹_› (a5Z ‹_› ‹_›)
  |exact Pn ‹_› ‹_› (a6f ‹_› ‹_› ‹_› ‹_› ‹_›)
  |exact Pn ‹_› ‹_› (a6e ‹_› ‹_› ‹_› ‹_› ‹_›)
  |exact Pn ‹_› ‹_› (a6d ‹_› ‹_› ‹_› ‹_› ‹_› ‹_› ‹_›)
  |exact Tl ‹_› (a6a ‹_› ‹_› ‹_›)
  |exact Tl ‹_› (a6b ‹_› ‹_› ‹_› ‹_›)
  |exact Tl ‹_› (a6c ‹_› ‹_› ‹_› ‹_› ‹_› ‹_› ‹_› ‹_› ‹_›)
  |exact(h3 _ (Dl ‹_›)).1
  |exact(h3 _ (Dl ‹_›)).2
  |exact(ndB ‹_› ‹_› ‹_›).1
  |exact(ndB ‹_› ‹_› ‹_›).2
  |(obtain⟨_,_,_⟩:= ‹cfI _ _ _›;(try simp only[AR] at*);omega)
  |skip)
end Go.My
end
section
set_option linter.unusedVariables false
set_option linter.unusedSimpArgs false
namespace Go.My
open Go.Eng Go.Proofs
variable {G:GInv}
def nkI(k:Int)(l:List Int)(i:Int):Prop:=0≤i∧i≤l.length∧(∀c∈l.take i.toNat,0≤c∧c<k)∧(l.take i.toNat).Nodup
theorem XW{k:Int}{l:List Int}:nkI k l 0:=⟨by omega,by omega,by simp,by simp⟩
theorem XX{k:Int}{l:List Int}{i c:Int}(h:nkI k l i)(hc:l[i.toNat]? =some c)(h1:¬c<0)(h2:¬c≥k)(h3:(l.take i.toNat).elem c=false):nkI k l (i+1):=by
 obtain⟨ha,hb,hd,he⟩:=h
 have:=(DS hc).1
 refine⟨by omega,by omega,?_,?_⟩
 ·rw[Db ha,Fg hc];intro d hd'
  rcases List.mem_append.1 hd' with hd'|hd'
  ·exact hd d hd'
  ·simp at hd';subst hd';omega
 ·rw[Db ha,Fg hc,List.nodup_append]
  refine⟨he,by simp,?_⟩
  intro a ha' b hb' hab
  simp at hb';subst hb';subst hab
  simp at h3;exact h3 ha'
theorem Nr{k:Int}{l:List Int}{i:Int}(h:nkI k l i)(hl:¬i<l.length):DI l k=true∧l.Nodup:=by
 obtain⟨ha,hb,hd,he⟩:=h
 rw[List.take_of_length_le (by omega)] at hd he
 exact⟨by simpa [DI] using hd,he⟩
theorem a6h{k:Int}{l:List Int}{n:Nat}{c:Int}(hc:l[n]? =some c)(h1:c<0):DI l k=false:=by
 rw[Bool.eq_false_iff];intro h;simp only[DI,List.all_eq_true,Bool.and_eq_true,decide_eq_true_eq] at h
 have:=h c (Dl hc);omega
theorem a6i{k:Int}{l:List Int}{n:Nat}{c:Int}(hc:l[n]? =some c)(h1:c≥k):DI l k=false:=by
 rw[Bool.eq_false_iff];intro h;simp only[DI,List.all_eq_true,Bool.and_eq_true,decide_eq_true_eq] at h
 have:=h c (Dl hc);omega
theorem XY{l:List Int}{n:Nat}{c:Int}(hc:l[n]? =some c)(h1:(l.take n).elem c=true):¬l.Nodup:=by
 intro h
 have e:l=l.take n++l.drop n:=(List.take_append_drop n l).symm
 rw[e,Js hc,List.nodup_append] at h
 exact h.2.2 c (by simpa using h1) c (by simp) rfl
theorem XZ{ns:List Nd}{k:Int}(h:BO ns k=false):false=Ch ns k:=by simp [Ch,h]
theorem Ma{ns:List Nd}{k:Int}{x:Nd}(hx:ns[k.toNat]? =some x)(h:BO ns k=true):Ch ns k=HT ns k x:=by rw[Ch,h,BH hx];rfl
theorem a6j{ns:List Nd}{k:Int}{x:Nd}(hx:ns[k.toNat]? =some x)(h:BO ns k=true)(h1:(x.kids.length:Int)>12):false=Ch ns k:=by
 rw[Ma hx h,HT,decide_eq_false (by omega)];rfl
theorem a6k{ns:List Nd}{k:Int}{x:Nd}(hx:ns[k.toNat]? =some x)(h:BO ns k=true)(h1:Fh x.kind x.text=false):false=Ch ns k:=by
 rw[Ma hx h,HT,h1];simp
theorem Ya{ns:List Nd}{k:Int}{x:Nd}(hx:ns[k.toNat]? =some x)(h:BO ns k=true)(h1:DI x.kids k=false):false=Ch ns k:=by
 rw[Ma hx h,HT,h1];simp
theorem a6l{ns:List Nd}{k:Int}{x:Nd}(hx:ns[k.toNat]? =some x)(h:BO ns k=true)(h1:¬x.kids.Nodup):false=Ch ns k:=by
 rw[Ma hx h,HT,decide_eq_false h1];simp
theorem Yb{ns:List Nd}{k i:Int}{x:Nd}(hx:ns[k.toNat]? =some x)(h:BO ns k=true)(h1:(x.kids.length:Int)≤12)(h2:Fh x.kind x.text=true)(h3:nkI k x.kids i)(hl:¬i<x.kids.length):
 Ch ns k=(Ed x.kind ((x.kids.take i.toNat).map (BG ns))&&(ER ns x&&(Hg x.kind|| !x.blank))):=by
 obtain⟨ha,hb⟩:=Nr h3 hl
 rw[List.take_of_length_le (by have:=h3.1;omega),Ma hx h,HT,h2,ha,decide_eq_true hb,decide_eq_true (by omega)];simp
theorem Tm{k:Int}{l:List Int}{i c n:Int}(h:nkI k l i)(hl:¬i<l.length)(hk:k<n)(hc:c∈l):0≤c∧c<n:=by
 have:=(Nr h hl).1
 simp only[DI,List.all_eq_true,Bool.and_eq_true,decide_eq_true_eq] at this
 have:=this c hc;omega
theorem a6m{ns:List Nd}{l:List Int}{i c:Int}{y:Nd}(h0:0≤i)(hc:l[i.toNat]? =some c)(hy:ns[c.toNat]? =some y):(l.take i.toNat).map (BG ns)++[y.kind]=(l.take (i+1).toNat).map (BG ns):=by
 rw[Db h0,Fg hc,List.map_append];simp [BG,BH hy]
def Po(x:List Nd×Int):LS:= {
 ι:=Int,inv:=nkI x.2 (Ag x.1 x.2).kids,
 regs:=fun i=>[(0,nds x.1),(1,.int .i64 x.2),(5,.box 0 (ndA false (Ag x.1 x.2))),(6,Ad (((Ag x.1 x.2).kids.take i.toNat).map (BG x.1))),(28,AU (Ag x.1 x.2).kids),(29,.int .i64 (Ag x.1 x.2).kids.length),(30,.int .i64 i)],als:=[],meas:=fun i=>(Ag x.1 x.2).kids.length-i.toNat}
def DK:Sig:= {X:=List Nd×Int,args:=fun x=>[nds x.1,.int .i64 x.2],pre:=fun x=>Cy x.1,Y:=Unit,post:=fun x y=>True,res:=fun x y=> .bool (Ch x.1 x.2),outs:=fun x y=>[.top,.top],keep:=false}
theorem a6n:Aq G Tryz.prog 57 DK:=
 vcFun_okP [(56,0,Gg),(97,0,Dw),(98,0,LZ),(34,0,Gf),(99,0,FJ),(100,0,BU),(101,0,Hk)] [(45,⟨Int,Ba⟩)] false (fun x=>[(8,Po x)]) Tryz.func57 rfl (by decide) ⟨Tk,a5v,a5W,Th,Tj,a5T,a6g,trivial⟩ (fun(x:List Nd×Int)=>(∀(y:Unit),True→True∧True∧True∧True)∧cA Gg [nds x.1,.int .i64 x.2] fun x_1 y=>Aa (!BO x_1.1 x_1.2) (rA DK x [.bool false,.top,.top]) (((0:Int)≤x.2∧x.2<(↑(List.length x.1):Int))∧∀(e:Nd),x.1[Int.toNat x.2]? =some e→Aa (decide ((↑(List.length e.kids):Int)>(12:Int))) (rA DK x [.bool false,.top,.top]) (cA Dw [.agg [.int .i64 e.kind,.str e.text,AU e.kids,.bool e.blank]] fun x_2 y=>Aa (!Fh x_2.kind x_2.text) (rA DK x [.bool false,.top,.top]) (eA (Po x) [nds x.1,.int .i64 x.2,.box 0 [.int .i64 e.kind,.str e.text,AU e.kids,.bool e.blank],.nil,AU e.kids,.int .i64 (↑(List.length e.kids):Int),.int .i64 (0:Int)]∧∀(i:Int),nkI x.2 (Ag x.1 x.2).kids i→Aa (decide (i<(↑(List.length (Ag x.1 x.2).kids):Int))) (((0:Int)≤i∧i<(↑(List.length (Ag x.1 x.2).kids):Int))∧∀(e:Int),(Ag x.1 x.2).kids[Int.toNat i]? =some e→Aa (decide (e<(0:Int))) (rA DK x [.bool false,.top,.top]) (Aa (decide (e≥x.2)) (rA DK x [.bool false,.top,.top]) (((0:Int)≤(0:Int)∧(0:Int)≤i∧i≤(↑(List.length (Ag x.1 x.2).kids):Int))∧cA LZ [AU (List.take (Int.toNat i) (Ag x.1 x.2).kids),.int .i64 e] fun x_3 y=>Aa (List.elem x_3.2 x_3.1) (rA DK x [.bool false,.top,.top]) (((0:Int)≤e∧e<(↑(List.length x.1):Int))∧∀(e_1:Nd),x.1[Int.toNat e]? =some e_1→∃(x_4:Int),e_1.kind=x_4∧∃(zs:List Int),Ad [x_4]=Ad zs∧Bt Ba∧AW (List.length (List.map (BG x.1) (List.take (Int.toNat i) (Ag x.1 x.2).kids))+List.length zs) (8:Nat)∧inR IntKind.i64 (i+(1:Int))∧eN (Po x) i [nds x.1,.int .i64 x.2,.box 0 [.int .i64 (Ag x.1 x.2).kind,.str (Ag x.1 x.2).text,AU (Ag x.1 x.2).kids,.bool (Ag x.1 x.2).blank],Ad (List.map (BG x.1) (List.take (Int.toNat i) (Ag x.1 x.2).kids)++zs),AU (Ag x.1 x.2).kids,.int .i64 (↑(List.length (Ag x.1 x.2).kids):Int),.int .i64 (i+(1:Int))])))) (cA Gf [.int .i64 (Ag x.1 x.2).kind] fun x_3 y=>Aa (FD x_3) (cA BU [.int .i64 (Ag x.1 x.2).kind,Ad (List.map (BG x.1) (List.take (Int.toNat i) (Ag x.1 x.2).kids))] fun x_4 y=>Aa (Ed x_4.1 x_4.2) (cA Hk [nds x.1,.agg [.int .i64 (Ag x.1 x.2).kind,.str (Ag x.1 x.2).text,AU (Ag x.1 x.2).kids,.bool (Ag x.1 x.2).blank]] fun x_5 y=>Aa (ER x_5.1 x_5.2) (rA DK x [.bool true,.top,.top]) (rA DK x [.bool false,.top,.top])) (rA DK x [.bool false,.top,.top])) (cA FJ [.int .i64 (Ag x.1 x.2).kind] fun x_4 y=>Aa (EG x_4) (cA BU [.int .i64 (Ag x.1 x.2).kind,Ad (List.map (BG x.1) (List.take (Int.toNat i) (Ag x.1 x.2).kids))] fun x_5 y=>Aa (Ed x_5.1 x_5.2) (cA Hk [nds x.1,.agg [.int .i64 (Ag x.1 x.2).kind,.str (Ag x.1 x.2).text,AU (Ag x.1 x.2).kids,.bool (Ag x.1 x.2).blank]] fun x_6 y=>Aa (ER x_6.1 x_6.2) (rA DK x [.bool true,.top,.top]) (rA DK x [.bool false,.top,.top])) (rA DK x [.bool false,.top,.top])) (cA BU [.int .i64 (Ag x.1 x.2).kind,Ad (List.map (BG x.1) (List.take (Int.toNat i) (Ag x.1 x.2).kids))] fun x_5 y=>Aa (Ed x_5.1 x_5.2) (cA Hk [nds x.1,.agg [.int .i64 (Ag x.1 x.2).kind,.str (Ag x.1 x.2).text,AU (Ag x.1 x.2).kids,.bool (Ag x.1 x.2).blank]] fun x_6 y=>Aa (ER x_6.1 x_6.2) (Aa ((Ag x.1 x.2).kind==(21:Int)) (rA DK x [.bool true,.top,.top]) (rA DK x [.bool !(Ag x.1 x.2).blank,.top,.top])) (rA DK x [.bool false,.top,.top])) (rA DK x [.bool false,.top,.top])))))))) (fun x=>by kernel_rfl) fun(x:List Nd×Int) (hx:Cy x.1)=>(by
 dsimp only[cA,eA,eN,AU,Po,Bf,nds,Ad,rA,Hk,LZ,DK,FJ,Gg,Gf,BU,Dw,Av,Az,mvL,lnL,mvE,lnE,BA]
 have h1:Cy x.1:=hx;have hl:=h1.1
 (repeat' first|(with_reducible first|rfl|exact True.intro|apply AK|apply And.intro|((first|apply AA|apply AI|apply AB|apply AJ)<;>intro _))|(apply Ax<;>intro _)|apply AH|refine Af () ?_ ?_|((first|apply AO|apply AN|apply AM|apply AL|apply AG|apply AF|apply AE|apply AD|apply AC)<;>try dsimp only)|apply Af|(refine Prod.forall.2 ?_;intro _;try dsimp only)|(intro _;try dsimp only))
 all_goals try(simp only[BH (show x.1[x.2.toNat]? =some _ by assumption)] at*)
 all_goals first
  |rfl
  |exact XW
  |exact(h1.2 _ (Dl ‹_›)).1
  |exact(h1.2 _ (Dl ‹_›)).2
  |exact a5U ‹_› h1
  |exact(Tm ‹_› ‹_› (Dv.1 ‹BO _ _=true›).2 ‹_›).1
  |exact(Tm ‹_› ‹_› (Dv.1 ‹BO _ _=true›).2 ‹_›).2
  |exact XZ ‹_›
  |exact a6j ‹_› ‹_› ‹_›
  |exact a6k ‹_› ‹_› ‹_›
  |exact Ya ‹_› ‹_› (a6h ‹_› ‹_›)
  |exact Ya ‹_› ‹_› (a6i ‹_› ‹_›)
  |exact a6l ‹_› ‹_› (XY ‹_› ‹_›)
  |exact XX ‹_› ‹_› ‹_› ‹_› ‹_›
  |exact a6m (‹nkI _ _ _›.1) ‹_› ‹_›
  |(refine Eq.trans ?_ (Yb (show x.1[x.2.toNat]? =some _ by assumption) ‹_› (by omega) ‹_› ‹_› ‹_›).symm;simp [-List.map_take,Hg,FH, *];done)
  |omega
  |(have:=Dv.1 ‹BO _ _=true›;omega)
  |(have:=Dv.1 ‹BO _ _=true›;obtain⟨_,_,_⟩:= ‹nkI _ _ _›;(try simp only[AR,AW,List.length_take,List.length_map,List.length_append,List.length_cons,List.length_nil] at*);omega)
  |(refine Eq.trans ?_ (Yb (show x.1[x.2.toNat]? =some _ by assumption) ‹_› (by omega) ‹_› ‹_› ‹_›).symm;rw[‹Ed _ _=true›,‹ER _ _=true›];simp [Hg, *]))
end Go.My
end
section
set_option linter.unusedVariables false
set_option linter.unusedSimpArgs false
namespace Go.My
open Go.Eng Go.Proofs
variable {G:GInv}
def dl(k i:Int)(ds:List Int):List Int:=ds++List.replicate (k+1-i).toNat 0
def dI(ns:List Nd)(k i:Int)(ds:List Int):Prop:=BO ns k=true∧0≤i∧i≤k+1∧Du ns i.toNat=some ds
def dJ(ns:List Nd)(k i:Int)(ds:List Int)(j d:Int):Prop:=dI ns k i ds∧i≤k∧Ch ns i=true∧0≤j∧j≤(Ag ns i).kids.length∧0≤d∧d≤14∧mx ds ((Ag ns i).kids.drop j.toNat) d=mx ds (Ag ns i).kids 0
theorem a6o{ns:List Nd}{k:Int}(h:BO ns k=true):dI ns k 0 []:=⟨h,by omega,by have:=Dv.1 h;omega,rfl⟩
theorem a6p{k:Int}:List.replicate (k+1).toNat 0=dl k 0 []:=by simp [dl]
theorem Yc{ns:List Nd}{k i:Int}{ds:List Int}(h:dI ns k i ds):((dl k i ds).length:Int)=k+1:=by
 obtain⟨h0,h1,h2,h3⟩:=h
 have:=No h3
 rw[dl,List.length_append,List.length_replicate];omega
theorem a6q{ns:List Nd}{k i:Int}{ds:List Int}(h:dI ns k i ds)(hl:i<k+1)(hn:Ch ns i=false):0=Bi ns k:=by
 obtain⟨h0,h1,h2,h3⟩:=h
 have:Du ns (i.toNat+1)=none:=by
  unfold Du;rw[h3];simp only
  rw[show((i.toNat:Nat):Int)=i by omega,hn];rfl
 unfold Bi;rw[if_pos h0,Xl this (by omega)]
theorem a6r{ns:List Nd}{k i:Int}{ds:List Int}(h:dI ns k i ds)(hl:i<k+1)(hn:Ch ns i=true):dJ ns k i ds 0 0:=
 ⟨h,by omega,hn,by omega,by omega,by omega,by omega,by simp⟩
theorem Yd{ns:List Nd}{k i:Int}{ds:List Int}{j d c:Int}(h:dJ ns k i ds j d)(hc:(Ag ns i).kids[j.toNat]? =some c):0≤c∧c<i:=by
 exact(HU h.2.2.1).2.2.2.1 c (Dl hc)
theorem Tn{ns:List Nd}{k i:Int}{ds:List Int}{j d c:Int}(h:dJ ns k i ds j d)(hc:(Ag ns i).kids[j.toNat]? =some c):0≤c∧c<(dl k i ds).length:=by
 have:=Yd h hc;have:=Yc h.1;have:=h.1.2.2;omega
theorem a6s{ns:List Nd}{k i:Int}{ds:List Int}{j d c v:Int}(h:dJ ns k i ds j d)(hc:(Ag ns i).kids[j.toNat]? =some c)(hv:(dl k i ds)[c.toNat]? =some v):ds.getD c.toNat 0=v∧1≤v∧v≤14:=by
 have h1:=Yd h hc
 have h2:=No h.1.2.2.2
 rw[dl,List.getElem?_append_left (by omega)] at hv
 refine⟨by simp [List.getD,hv],?_⟩
 exact SQ h.1.2.2.2 v (Dl hv)
theorem a6t{ns:List Nd}{k i:Int}{ds:List Int}{j d c v:Int}(h:dJ ns k i ds j d)(hc:(Ag ns i).kids[j.toNat]? =some c)(hv:(dl k i ds)[c.toNat]? =some v):dJ ns k i ds (j+1) (max d v):=by
 obtain⟨hv1,hv2,hv3⟩:=a6s h hc hv
 obtain⟨h1,h2,h3,h4,h5,h6,h7,h8⟩:=h
 have:=(DS hc).1
 refine⟨h1,h2,h3,by omega,by omega,by omega,by omega,?_⟩
 rw[←h8,Js hc,Db h4];simp only[mx,hv1]
theorem Ye{ns:List Nd}{k i:Int}{ds:List Int}{j d:Int}(h:dJ ns k i ds j d)(hl:¬j<(Ag ns i).kids.length):d=mx ds (Ag ns i).kids 0:=by
 obtain⟨h1,h2,h3,h4,h5,h6,h7,h8⟩:=h
 rw[List.drop_eq_nil_of_le (by omega)] at h8;exact h8
theorem a6u{ns:List Nd}{k i:Int}{ds:List Int}{j d:Int}(h:dJ ns k i ds j d)(hl:¬j<(Ag ns i).kids.length)(hd:d≥14):0=Bi ns k:=by
 have hm:=Ye h hl
 obtain⟨⟨ha,hb,he,hf⟩,h2,h3,_⟩:=h
 have e:((i.toNat:Nat):Int)=i:=by omega
 have:Du ns (i.toNat+1)=none:=by
  unfold Du;rw[hf];simp only
  rw[e,h3,if_pos rfl,if_pos (by omega)]
 unfold Bi;rw[if_pos ha,Xl this (by omega)]
theorem a6v{ns:List Nd}{k i:Int}{ds:List Int}{j d:Int}(h:dJ ns k i ds j d)(hl:¬j<(Ag ns i).kids.length)(hd:¬d≥14):dI ns k (i+1) (ds++[d+1]):=by
 have hm:=Ye h hl
 obtain⟨⟨ha,hb,he,hf⟩,h2,h3,_⟩:=h
 have e:((i.toNat:Nat):Int)=i:=by omega
 refine⟨ha,by omega,by omega,?_⟩
 rw[Db hb];unfold Du;rw[hf];simp only
 rw[e,h3,if_pos rfl,if_neg (by omega),←hm]
theorem a6w{ns:List Nd}{k i:Int}{ds:List Int}{j d:Int}(h:dJ ns k i ds j d):(dl k i ds).set i.toNat (d+1)=dl k (i+1) (ds++[d+1]):=by
 obtain⟨⟨ha,hb,he,hf⟩,h2,h3,_⟩:=h
 have hl:=No hf
 have e:(k+1-i).toNat=(k+1-(i+1)).toNat+1:=by omega
 unfold dl;rw[List.set_append_right _ _ (by omega),e,hl];simp [List.replicate_succ]
theorem a6x{ns:List Nd}{k i v:Int}{ds:List Int}(h:dI ns k i ds)(hl:¬i<k+1)(hv:(dl k i ds)[k.toNat]? =some v):v=Bi ns k:=by
 obtain⟨h0,h1,h2,h3⟩:=h
 obtain rfl:i=k+1:=by omega
 have:=Dv.1 h0
 rw[show(k+1).toNat=k.toNat+1 by omega] at h3
 unfold Bi;rw[if_pos h0,h3]
 simp [dl] at hv
 simp [List.getD,hv]
theorem Yf{ns:List Nd}{k:Int}(h:BO ns k=false):0=Bi ns k:=by simp [Bi,h]
theorem a6y{ns:List Nd}{k i:Int}{ds:List Int}{j d:Int}(h:dJ ns k i ds j d):((Ag ns i).kids.length:Int)≤12:=by
 have:=(HU h.2.2.1).2.1;omega
def Pp(x:List Nd×Int)(o:Int×List Int):LS:= {
 ι:=Int×Int,inv:=fun i=>dJ x.1 x.2 o.1 o.2 i.1 i.2,
 regs:=fun i=>[(0,nds x.1),(1,.int .i64 x.2),(5,Ad (dl x.2 o.1 o.2)),(18,.int .i64 (x.2+1)),(19,.int .i64 o.1),(6,.int .i64 o.1),(7,.int .i64 i.2),(30,AU (Ag x.1 o.1).kids),(31,.int .i64 (Ag x.1 o.1).kids.length),(32,.int .i64 i.1)],als:=[],meas:=fun i=>(Ag x.1 o.1).kids.length-i.1.toNat}
def Pq(x:List Nd×Int):LS:= {
 ι:=Int×List Int,inv:=fun i=>dI x.1 x.2 i.1 i.2,
 regs:=fun i=>[(0,nds x.1),(1,.int .i64 x.2),(5,Ad (dl x.2 i.1 i.2)),(18,.int .i64 (x.2+1)),(19,.int .i64 i.1)],als:=[],meas:=fun i=>x.2.toNat+1-i.1.toNat,
 sub:=fun i=>[(11,Pp x i)]}
def Fo:Sig:= {X:=List Nd×Int,args:=fun x=>[nds x.1,.int .i64 x.2],pre:=fun x=>Cy x.1∧x.1.length≤2^30,Y:=Unit,post:=fun x y=>True,res:=fun x y=> .int .i64 (Bi x.1 x.2),outs:=fun x y=>[.top,.top],keep:=false}
theorem Yg:Aq G Tryz.prog 33 Fo:=
 vcFun_okP [(56,0,Gg),(57,0,DK)] [(45,⟨Int,Ba⟩)] false (fun x=>[(5,Pq x)]) Tryz.func33 rfl (by decide) ⟨Tk,a6n,trivial⟩ (fun(x:List Nd×Int)=>(∀(y:Unit),True→True∧True∧True∧True)∧cA Gg [nds x.1,.int .i64 x.2] fun x_1 y=>Aa (!BO x_1.1 x_1.2) (rA Fo x [.int .i64 (0:Int),.top,.top]) (inR IntKind.i64 (x.2+(1:Int))∧((0:Int)≤x.2+(1:Int)∧x.2+(1:Int)≤x.2+(1:Int)∧(↑(8:Nat):Int)*(x.2+(1:Int))≤(2:Int)^(46:Nat)∧x.2+(1:Int)≤(2:Int)^(46:Nat))∧∃(x_2:Int),(0:Int)=x_2∧eA (Pq x) [nds x.1,.int .i64 x.2,Ad (List.replicate (Int.toNat (x.2+(1:Int))) x_2),.int .i64 (↑(List.length (List.replicate (Int.toNat (x.2+(1:Int))) x_2)):Int),.int .i64 (0:Int)]∧∀(i:Int×List Int),dI x.1 x.2 i.1 i.2→Aa (decide (i.1<x.2+(1:Int))) (cA DK [nds x.1,.int .i64 i.1] fun x_3 y=>Aa (!Ch x_3.1 x_3.2) (rA Fo x [.int .i64 (0:Int),.top,.top]) (((0:Int)≤i.1∧i.1<(↑(List.length x.1):Int))∧∀(e:Nd),x.1[Int.toNat i.1]? =some e→eA (Pp x i) [nds x.1,.int .i64 x.2,Ad (dl x.2 i.1 i.2),.int .i64 (x.2+(1:Int)),.int .i64 i.1,.int .i64 i.1,.int .i64 (0:Int),AU e.kids,.int .i64 (↑(List.length e.kids):Int),.int .i64 (0:Int)]∧∀(i_1:Int×Int),dJ x.1 x.2 i.1 i.2 i_1.1 i_1.2→Aa (decide (i_1.1<(↑(List.length (Ag x.1 i.1).kids):Int))) (((0:Int)≤i_1.1∧i_1.1<(↑(List.length (Ag x.1 i.1).kids):Int))∧∀(e:Int),(Ag x.1 i.1).kids[Int.toNat i_1.1]? =some e→((0:Int)≤e∧e<(↑(List.length (dl x.2 i.1 i.2)):Int))∧Int.toNat e<List.length (dl x.2 i.1 i.2)∧∀(x_4:Int),(dl x.2 i.1 i.2)[Int.toNat e]? =some x_4→inR IntKind.i64 (i_1.1+(1:Int))∧eN (Pp x i) i_1 [nds x.1,.int .i64 x.2,Ad (dl x.2 i.1 i.2),.int .i64 (x.2+(1:Int)),.int .i64 i.1,.int .i64 i.1,.int .i64 (max i_1.2 x_4),AU (Ag x.1 i.1).kids,.int .i64 (↑(List.length (Ag x.1 i.1).kids):Int),.int .i64 (i_1.1+(1:Int))]) (Aa (decide (i_1.2≥(14:Int))) (rA Fo x [.int .i64 (0:Int),.top,.top]) (inR IntKind.i64 (i_1.2+(1:Int))∧((0:Int)≤i.1∧i.1<(↑(List.length (dl x.2 i.1 i.2)):Int))∧Int.toNat i.1<List.length (dl x.2 i.1 i.2)∧∀(x_4:Int),(dl x.2 i.1 i.2)[Int.toNat i.1]? =some x_4→∃(x':Int),((@List.nil AV)=[]∧(@List.nil AV)=[])∧i_1.2+(1:Int)=x'∧inR IntKind.i64 (i.1+(1:Int))∧eN (Pq x) i [nds x.1,.int .i64 x.2,Ad (List.set (dl x.2 i.1 i.2) (Int.toNat i.1) x'),.int .i64 (x.2+(1:Int)),.int .i64 (i.1+(1:Int))])))) (((0:Int)≤x.2∧x.2<(↑(List.length (dl x.2 i.1 i.2)):Int))∧Int.toNat x.2<List.length (dl x.2 i.1 i.2)∧∀(x_3:Int),(dl x.2 i.1 i.2)[Int.toNat x.2]? =some x_3→rA Fo x [.int .i64 x_3,.top,.top]))) (fun x=>by kernel_rfl) fun(x:List Nd×Int) (hx:Cy x.1∧x.1.length≤2^30)=>(by
 dsimp only[cA,eA,eN,AU,Pq,Pp,Bf,nds,Ad,rA,Fo,DK,Gg,Av,Az,mvL,lnL,mvE,lnE,BA]
 obtain⟨h1,h2⟩:=hx;have hl:=h1.1
 (repeat' first|(with_reducible first|rfl|exact True.intro|apply AK|apply And.intro|((first|apply AA|apply AI|apply AB|apply AJ)<;>intro _))|(apply Ax<;>intro _)|apply AH|refine Af () ?_ ?_|((first|apply AO|apply AN|apply AM|apply AL|apply AG|apply AF|apply AE|apply AD|apply AC)<;>try dsimp only)|apply Af|(refine Prod.forall.2 ?_;intro _;try dsimp only)|(intro _;try dsimp only))
 all_goals try(have nd0:=Dv.1 (show BO x.1 x.2=true by assumption))
 all_goals first
  |rfl
  |exact Yf ‹_›
  |exact a6o ‹_›
  |exact a6p
  |exact a6q ‹_› ‹_› ‹_›
  |exact a6r ‹_› ‹_› ‹_›
  |exact(Tn ‹_› ‹_›).1
  |exact(Tn ‹_› ‹_›).2
  |exact a6t ‹_› ‹_› ‹_›
  |exact a6u ‹_› ‹_› ‹_›
  |exact a6v ‹_› ‹_› ‹_›
  |exact a6w ‹_›
  |exact a6x ‹_› ‹_› ‹_›
  |(rw[BH ‹_›];done)
  |(rw[List.length_replicate];omega)
  |(have:=a6y ‹_›;obtain⟨⟨_,_,_,_⟩,_,_,_,_,_,_,_⟩:= ‹dJ _ _ _ _ _ _›;(try simp only[AR,AW] at*);omega)
  |(have:=Yc ‹_›;obtain⟨_,_,_,_⟩:= ‹dI _ _ _ _›;(try simp only[AR,AW] at*);omega)
  |(have:=Tn ‹_› ‹_›;omega)
  |((try simp only[AR,AW] at*);omega)
  |skip)
end Go.My
end
section
set_option linter.unusedVariables false
set_option linter.unusedSimpArgs false
namespace Go.My
open Go.Eng Go.Proofs
variable {G:GInv}
def cnt(n:Nat)(l:List Int):List Int:=(List.range n).map fun(c:Nat)=>(l.count (c:Int):Int)
theorem Gh{n:Nat}{l:List Int}:(cnt n l).length=n:=by simp [cnt]
theorem KJ{n:Nat}{l:List Int}{c:Nat}(h:c<n):(cnt n l)[c]? =some (l.count (c:Int):Int):=by
 simp [cnt,List.getElem?_map,List.getElem?_range,h]
theorem Yh{n:Nat}:List.replicate n 0=cnt n []:=by
 apply List.ext_getElem?
 intro c
 by_cases h:c<n
 ·rw[KJ h];simp [h]
 ·rw[List.getElem?_eq_none (by simp;omega),List.getElem?_eq_none (by simp [cnt];omega)]
theorem Yi{n:Nat}{l:List Int}{c v:Int}(h0:0≤c)(h1:c<n)(hv:(cnt n l)[c.toNat]? =some v):(cnt n l).set c.toNat (v+1)=cnt n (l++[c]):=by
 apply List.ext_getElem?
 intro d
 rw[List.getElem?_set]
 by_cases hd:d<n
 ·rw[KJ hd,KJ hd,List.count_append]
  rw[KJ (by omega)] at hv
  by_cases e:c.toNat=d
  ·subst e
   rw[if_pos rfl,if_pos (by rw[Gh];omega)]
   have e2:((c.toNat:Nat):Int)=c:=by omega
   rw[e2] at hv ⊢
   simp at hv ⊢;omega
  ·rw[if_neg e]
   have:¬c=(d:Int):=by omega
   simp [List.count_cons,this]
 ·rw[if_neg (by omega),List.getElem?_eq_none (by rw[Gh];omega),List.getElem?_eq_none (by rw[Gh];omega)]
def tk(ns:List Nd)(i j:Int):List Int:=Cl (ns.take i.toNat)++(Ag ns i).kids.take j.toNat
def tI(ns:List Nd):Prop:=1≤ns.length∧ns.length≤300∧BG ns (ns.length-1)=22∧Bi ns (ns.length-1)≠0
theorem a6z{ns:List Nd}{n:Nat}{y:Nd}(h:tI ns)(hy:ns[n]? =some y):Ch ns n=true:=by
 exact(SR h.2.2.2).2.2 n (by have:=(DS hy).1;omega)
theorem Ns{ns:List Nd}{n:Nat}{y:Nd}(h:tI ns)(hy:ns[n]? =some y):y.kids.length≤12∧∀c∈y.kids,0≤c∧c<ns.length:=by
 obtain⟨h1,h2,h3,h4,h5⟩:=HU (a6z h hy)
 rw[BH (by simpa using hy)] at h2 h4
 exact⟨h2,fun c hc=>by have:=h4 c hc;omega⟩
theorem a6A{l:List Nd}(h:∀y∈l,y.kids.length≤12):(Cl l).length≤12*l.length:=by
 induction l with
 |nil=>simp [Cl]
 |cons y l ih=>
  have h1:=h y (by simp)
  have h2:=ih fun z hz=>h z (by simp [hz])
  simp only[Cl,List.flatMap_cons,List.length_append,List.length_cons] at h2 ⊢;omega
theorem a6B{ns:List Nd}{i j:Int}(h:tI ns):(Cl (ns.take i.toNat)).length≤3600:=by
 have h1:∀y∈ns.take i.toNat,y.kids.length≤12:=by
  intro y hy
  obtain⟨n,hn⟩:=List.mem_iff_getElem?.1 (List.mem_of_mem_take hy)
  exact(Ns h hn).1
 have:=a6A h1
 have h2:(ns.take i.toNat).length≤300:=by have:=h.2.1;simp;omega
 omega
theorem a6C{n:Nat}{l:List Int}{c:Nat}{v:Int}(hv:(cnt n l)[c]? =some v):0≤v∧v≤l.length:=by
 have h:c<n:=by have:=(DS hv).1;rwa [Gh] at this
 rw[KJ h] at hv;cases hv
 have:=List.count_le_length (a:=(c:Int)) (l:=l)
 omega
theorem Yj{ns:List Nd}{i:Int}:tk ns i 0=Cl (ns.take i.toNat):=by simp [tk]
theorem Yk{ns:List Nd}{i j c:Int}(h0:0≤j)(hc:(Ag ns i).kids[j.toNat]? =some c):tk ns i (j+1)=tk ns i j++[c]:=by
 rw[tk,Db h0,Fg hc,tk,List.append_assoc]
theorem Yl{ns:List Nd}{i j:Int}{y:Nd}(h0:0≤i)(hy:ns[i.toNat]? =some y)(hl:¬j<(Ag ns i).kids.length):tk ns i j=Cl (ns.take (i+1).toNat):=by
 rw[tk,List.take_of_length_le (l:=(Ag ns i).kids) (by omega),Db h0,Fg hy,BH hy];simp [Cl]
def tE(ns:List Nd)(i:Int):Prop:=0≤i∧i≤ns.length-1∧∀c:Nat,(c:Int)<i→(Cl ns).count (c:Int)=1
theorem Ym{ns:List Nd}{i v:Int}(hv:(((cnt ns.length (Cl ns)).take (ns.length-1:Int).toNat)[i.toNat]?)=some v)(h0:0≤i)(hl:i<(ns.length-1:Int)):((Cl ns).count i:Int)=v:=by
 rw[List.getElem?_take_of_lt (by omega),KJ (by omega)] at hv
 have e2:((i.toNat:Nat):Int)=i:=by omega
 rw[e2] at hv;exact Option.some.inj hv
theorem Yn{ns:List Nd}{i:Int}(h:tI ns)(he:tE ns i)(hl:¬i<(ns.length-1:Int)):true=Dn ns:=by
 symm;unfold Dn
 have h1:decide (1≤ns.length)=true:=decide_eq_true h.1
 have h2:decide (ns.length≤300)=true:=decide_eq_true h.2.1
 have h3:decide (BG ns (ns.length-1)=22)=true:=decide_eq_true h.2.2.1
 have h4:decide (Bi ns (ns.length-1)=0)=false:=decide_eq_false h.2.2.2
 rw[h1,h2,h3,h4]
 simp only[Bool.and_true,Bool.not_false,Bool.true_and,List.all_eq_true,decide_eq_true_eq,List.mem_range]
 exact fun c hc=>he.2.2 c (by omega)
theorem Yo{ns:List Nd}{i v:Int}(hv:(Cl ns).count i=v)(h0:0≤i)(hl:i<(ns.length-1:Int))(hne:v≠1):false=Dn ns:=by
 symm;rw[Bool.eq_false_iff];intro h
 unfold Dn at h
 simp only[Bool.and_eq_true,List.all_eq_true,decide_eq_true_eq,List.mem_range] at h
 have:=h.2.2.2 i.toNat (by omega)
 have e2:((i.toNat:Nat):Int)=i:=by omega
 rw[e2] at this;omega
theorem Mb{ns:List Nd}(h:¬tI ns):false=Dn ns:=by
 symm;rw[Bool.eq_false_iff];intro hh
 unfold Dn at hh
 simp only[Bool.and_eq_true,decide_eq_true_eq,Bool.not_eq_true',decide_eq_false_iff_not] at hh
 exact h ⟨hh.1.1,hh.1.2,hh.2.1,hh.2.2.1⟩
theorem Nt{ns:List Nd}{i j c:Int}{y:Nd}(h:tI ns)(hc:(Ag ns i).kids[j.toNat]? =some c)(hy:ns[i.toNat]? =some y):0≤c∧c<ns.length:=by
 rw[BH hy] at hc;exact(Ns h hy).2 c (Dl hc)
theorem Yp{ns:List Nd}{i:Int}{y:Nd}(h:tI ns)(hy:ns[i.toNat]? =some y):(Ag ns i).kids.length≤12:=by
 rw[BH hy];exact(Ns h hy).1
theorem a6D{ns:List Nd}{i j:Int}{y:Nd}(h:tI ns)(hy:ns[i.toNat]? =some y):(tk ns i j).length≤3612:=by
 have h1:= @a6B ns i j h;have h2:=Yp h hy
 rw[tk,List.length_append,List.length_take];omega
theorem Yq{ns:List Nd}{i j v:Int}{c:Nat}{y:Nd}(h:tI ns)(hv:(cnt ns.length (tk ns i j))[c]? =some v)(hy:ns[i.toNat]? =some y):0≤v∧v≤3612:=by
 have h1:=a6C hv;have h2:= @a6D ns i j y h hy;omega
theorem Jx{x a b:Int}:inn x a b=true↔a≤x∧x≤b:=by simp [inn]
theorem Yr{ns:List Nd}{y:Nd}(h:inn ns.length 1 300=true)(hy:ns[(ns.length-1:Int).toNat]? =some y)(hk:y.kind=22)(hd:Bi ns (ns.length-1)≠0):tI ns:=by
 have:=Jx.1 h
 exact⟨by omega,by omega,by rw[BG,BH hy,hk],hd⟩
theorem Ys{ns:List Nd}(h:inn ns.length 1 300=false):¬tI ns:=by
 intro hh;have:inn ns.length 1 300=true:=Jx.2 ⟨by have:=hh.1;omega,by have:=hh.2.1;omega⟩
 rw[h] at this;cases this
theorem Yt{ns:List Nd}{y:Nd}(hy:ns[(ns.length-1:Int).toNat]? =some y)(hk:y.kind≠22):¬tI ns:=by
 intro hh;have:=hh.2.2.1;rw[BG,BH hy] at this;exact hk this
theorem Yu{ns:List Nd}{i:Int}(hl:¬i<ns.length):Cl (ns.take i.toNat)=Cl ns:=by rw[List.take_of_length_le (by omega)]
theorem a6E{ns:List Nd}{i v:Int}(h:tE ns i)(hl:i<(ns.length-1:Int))(hv:(((cnt ns.length (Cl ns)).take (ns.length-1:Int).toNat)[i.toNat]?)=some v)(h1:v=1):tE ns (i+1):=by
 have:=Ym hv h.1 hl
 refine⟨by have:=h.1;omega,by omega,fun c hc=> ?_⟩
 by_cases e:(c:Int)<i
 ·exact h.2.2 c e
 ·have:=h.1
  obtain rfl:i=(c:Int):=by omega
  omega
def Pr(x:List Nd)(o:Int):LS:= {
 ι:=Int,inv:=fun j=>0≤j∧j≤(Ag x o).kids.length,
 regs:=fun j=>[(0,nds x),(3,.int .i64 x.length),(4,Ad (cnt x.length (tk x o j))),(34,nds x),(35,.int .i64 x.length),(36,.int .i64 o),(41,AU (Ag x o).kids),(42,.int .i64 (Ag x o).kids.length),(43,.int .i64 j)],als:=[],meas:=fun j=>(Ag x o).kids.length-j.toNat}
def Pt(x:List Nd):LS:= {
 ι:=Int,inv:=fun i=>0≤i∧i≤x.length,
 regs:=fun i=>[(0,nds x),(3,.int .i64 x.length),(4,Ad (cnt x.length (Cl (x.take i.toNat)))),(34,nds x),(35,.int .i64 x.length),(36,.int .i64 i)],als:=[],meas:=fun i=>x.length-i.toNat,
 sub:=fun i=>[(9,Pr x i)]}
def Pu(x:List Nd):LS:= {
 ι:=Int,inv:=tE x,
 regs:=fun i=>[(58,Ad ((cnt x.length (Cl x)).take (x.length-1:Int).toNat)),(59,.int .i64 (x.length-1)),(60,.int .i64 i)],als:=[],meas:=fun i=>x.length-1-i.toNat}
def Hl:Sig:= {X:=List Nd,args:=fun x=>[nds x],pre:=fun x=>Cy x∧x.length≤2^30,Y:=Unit,post:=fun x y=>True,res:=fun x y=> .bool (Dn x),outs:=fun x y=>[.top],keep:=false}
theorem a6F:Aq G Tryz.prog 67 Hl:=
 vcFun_okP [(58,0,ET),(33,0,Fo)] [(45,⟨Int,Ba⟩)] false (fun x=>[(6,Pt x),(15,Pu x)]) Tryz.func67 rfl (by decide) ⟨Pc,Yg,trivial⟩ (fun(x:List Nd)=>(∀(y:Unit),True→True∧True∧True)∧cA ET [.int .i64 (↑(List.length x):Int),.int .i64 (1:Int),.int .i64 (300:Int)] fun x_1 y=>Aa (!inn x_1.1 x_1.2.1 x_1.2.2) (rA Hl x [.bool false,.top]) (inR IntKind.i64 ((↑(List.length x):Int)-(1:Int))∧((0:Int)≤(↑(List.length x):Int)-(1:Int)∧(↑(List.length x):Int)-(1:Int)<(↑(List.length x):Int))∧∀(e:Nd),x[Int.toNat ((↑(List.length x):Int)-(1:Int))]? =some e→Aa (e.kind != (22:Int)) (rA Hl x [.bool false,.top]) (inR IntKind.i64 ((↑(List.length x):Int)-(1:Int))∧cA Fo [nds x,.int .i64 ((↑(List.length x):Int)-(1:Int))] fun x_2 y=>Aa (Bi x_2.1 x_2.2==(0:Int)) (rA Hl x [.bool false,.top]) (((0:Int)≤(↑(List.length x):Int)∧(↑(List.length x):Int)≤(↑(List.length x):Int)∧(↑(8:Nat):Int)*(↑(List.length x):Int)≤(2:Int)^(46:Nat)∧(↑(List.length x):Int)≤(2:Int)^(46:Nat))∧∃(x_3:Int),(0:Int)=x_3∧eA (Pt x) [nds x,.int .i64 (↑(List.length x):Int),Ad (List.replicate (Int.toNat (↑(List.length x):Int)) x_3),nds x,.int .i64 (↑(List.length x):Int),.int .i64 (0:Int)]∧∀(i:Int),(0:Int)≤i∧i≤(↑(List.length x):Int)→Aa (decide (i<(↑(List.length x):Int))) (((0:Int)≤i∧i<(↑(List.length x):Int))∧∀(e:Nd),x[Int.toNat i]? =some e→eA (Pr x i) [nds x,.int .i64 (↑(List.length x):Int),Ad (cnt (List.length x) (Cl (List.take (Int.toNat i) x))),nds x,.int .i64 (↑(List.length x):Int),.int .i64 i,AU e.kids,.int .i64 (↑(List.length e.kids):Int),.int .i64 (0:Int)]∧∀(i_1:Int),(0:Int)≤i_1∧i_1≤(↑(List.length (Ag x i).kids):Int)→Aa (decide (i_1<(↑(List.length (Ag x i).kids):Int))) (((0:Int)≤i_1∧i_1<(↑(List.length (Ag x i).kids):Int))∧∀(e:Int),(Ag x i).kids[Int.toNat i_1]? =some e→((0:Int)≤e∧e<(↑(List.length (cnt (List.length x) (tk x i i_1))):Int))∧Int.toNat e<List.length (cnt (List.length x) (tk x i i_1))∧∀(x_4:Int),(cnt (List.length x) (tk x i i_1))[Int.toNat e]? =some x_4→inR IntKind.i64 (x_4+(1:Int))∧((0:Int)≤e∧e<(↑(List.length (cnt (List.length x) (tk x i i_1))):Int))∧Int.toNat e<List.length (cnt (List.length x) (tk x i i_1))∧∀(x_5:Int),(cnt (List.length x) (tk x i i_1))[Int.toNat e]? =some x_5→∃(x':Int),((@List.nil AV)=[]∧(@List.nil AV)=[])∧x_4+(1:Int)=x'∧inR IntKind.i64 (i_1+(1:Int))∧eN (Pr x i) i_1 [nds x,.int .i64 (↑(List.length x):Int),Ad (List.set (cnt (List.length x) (tk x i i_1)) (Int.toNat e) x'),nds x,.int .i64 (↑(List.length x):Int),.int .i64 i,AU (Ag x i).kids,.int .i64 (↑(List.length (Ag x i).kids):Int),.int .i64 (i_1+(1:Int))]) (inR IntKind.i64 (i+(1:Int))∧eN (Pt x) i [nds x,.int .i64 (↑(List.length x):Int),Ad (cnt (List.length x) (tk x i i_1)),nds x,.int .i64 (↑(List.length x):Int),.int .i64 (i+(1:Int))])) (inR IntKind.i64 ((↑(List.length x):Int)-(1:Int))∧((0:Int)≤(0:Int)∧(0:Int)≤(↑(List.length x):Int)-(1:Int)∧(↑(List.length x):Int)-(1:Int)≤(↑(List.length (cnt (List.length x) (Cl (List.take (Int.toNat i) x)))):Int))∧eA (Pu x) [Ad (List.take (Int.toNat ((↑(List.length x):Int)-(1:Int))) (cnt (List.length x) (Cl (List.take (Int.toNat i) x)))),.int .i64 (↑(List.length (List.take (Int.toNat ((↑(List.length x):Int)-(1:Int))) (cnt (List.length x) (Cl (List.take (Int.toNat i) x))))):Int),.int .i64 (0:Int)]∧∀(i:Int),tE x i→Aa (decide (i<(↑(List.length x):Int)-(1:Int))) (((0:Int)≤i∧i<(↑(List.length (List.take (Int.toNat ((↑(List.length x):Int)-(1:Int))) (cnt (List.length x) (Cl x)))):Int))∧Int.toNat i<List.length (List.take (Int.toNat ((↑(List.length x):Int)-(1:Int))) (cnt (List.length x) (Cl x)))∧∀(x_4:Int),(List.take (Int.toNat ((↑(List.length x):Int)-(1:Int))) (cnt (List.length x) (Cl x)))[Int.toNat i]? =some x_4→Aa (x_4 != (1:Int)) (rA Hl x [.bool false,.top]) (inR IntKind.i64 (i+(1:Int))∧eN (Pu x) i [Ad (List.take (Int.toNat ((↑(List.length x):Int)-(1:Int))) (cnt (List.length x) (Cl x))),.int .i64 ((↑(List.length x):Int)-(1:Int)),.int .i64 (i+(1:Int))])) (rA Hl x [.bool true,.top])))))) (fun x=>by kernel_rfl) fun(x:List Nd) (hx:Cy x∧x.length≤2^30)=>(by
 dsimp only[cA,eA,eN,AU,Pt,Pr,Pu,Bf,nds,Ad,rA,Fo,Hl,ET,Av,Az,mvL,lnL,mvE,lnE,BA]
 obtain⟨h1,h2⟩:=hx;have hl:=h1.1
 (repeat' first|(with_reducible first|rfl|exact True.intro|apply AK|apply And.intro|((first|apply AA|apply AI|apply AB|apply AJ)<;>intro _))|(apply Ax<;>intro _)|apply AH|refine Af () ?_ ?_|((first|apply AO|apply AN|apply AM|apply AL|apply AG|apply AF|apply AE|apply AD|apply AC)<;>try dsimp only)|apply Af|(refine Prod.forall.2 ?_;intro _;try dsimp only)|(intro _;try dsimp only))
 all_goals try(have t1:=Jx.1 (show inn x.length 1 300=true by assumption))
 all_goals try(have t0:=Yr ‹_› ‹_› ‹_› ‹_›)
 all_goals first
  |rfl
  |exact Mb (Ys ‹_›)
  |exact Mb (Yt ‹_› ‹_›)
  |exact Mb (fun h=>h.2.2.2 ‹_›)
  |exact Yh
  |(rw[Yj];done)
  |(rw[BH ‹_›];done)
  |exact(Nt ‹_› ‹_› ‹_›).1
  |(rw[Gh];exact(Nt ‹_› ‹_› ‹_›).2)
  |(have:=Nt ‹_› (show(Ag x _).kids[_]? =some _ by assumption) ‹_›;rw[Gh];omega)
  |(rw[Yk (by omega) ‹_›];exact Yi (Nt ‹_› ‹_› ‹_›).1 (Nt ‹_› ‹_› ‹_›).2 ‹_›)
  |(rw[Yl (by omega) ‹_› ‹_›];done)
  |(rw[Yu ‹_›];done)
  |(have:=Yq ‹_› ‹_› ‹_›;omega)
  |(have:=Yp ‹_› ‹_›;(try simp only[AR] at*);omega)
  |exact Yn ‹_› ‹_› ‹_›
  |exact Yo (Ym ‹_› (‹tE _ _›.1) ‹_›) (‹tE _ _›.1) ‹_› ‹_›
  |exact a6E ‹_› ‹_› ‹_› ‹_›
  |exact⟨by omega,by omega,fun c hc=>by omega⟩
  |(rw[List.length_take,Gh];omega)
  |((try simp only[AR,AW,List.length_replicate,Gh] at*);omega)
  |(obtain⟨_,_,_⟩:= ‹tE _ _›;(try rw[List.length_take,Gh]);(try simp only[AR] at*);omega)
  |skip)
end Go.My
end
section
set_option linter.unusedVariables false
set_option linter.unusedSimpArgs false
namespace Go.My
open Go.Eng Go.Proofs
variable {G:GInv}
def HY:Sig:= {X:=Int,args:=fun x=>[.int .i64 x],pre:=fun x=>True,Y:=Unit,post:=fun x y=>True,res:=fun x y=> .bool (BK x),outs:=fun x y=>[.top],keep:=false}
theorem a6G:Aq G Tryz.prog 155 HY:=
 vcFun_okP [(53,0,CQ)] [] false (fun x=>[]) Tryz.func155 rfl (by decide) ⟨Kl,trivial⟩ (fun(x:Int)=>(∀(y:Unit),True→True∧True∧True)∧cA CQ [.int .i64 x,.int .i64 (1:Int),.int .i64 (11:Int)] fun x_1 y=>rA HY x [.bool (inn x_1.1 x_1.2.1 x_1.2.2),.top]) (fun x=>by kernel_rfl) fun(x:Int) (hx:True)=>(by
 dsimp only[cA,rA,CQ,HY,Av,Az,mvL,lnL,mvE,lnE]
 (repeat' first|(with_reducible first|rfl|exact True.intro|apply AK|apply And.intro|((first|apply AA|apply AI|apply AB|apply AJ)<;>intro _))|(apply Ax<;>intro _)|apply AH|refine Af () ?_ ?_|((first|apply AO|apply AN|apply AM|apply AL|apply AG|apply AF|apply AE|apply AD|apply AC)<;>try dsimp only)|apply Af|(refine Prod.forall.2 ?_;intro _;try dsimp only)|(intro _;try dsimp only))<;>(try dsimp only at*)<;>(try simp only[AR,List.length_cons,List.length_nil])<;>(try omega)
 all_goals simp [BK,FH, *])
def HZ:Sig:= {X:=Int,args:=fun x=>[.int .i64 x],pre:=fun x=>True,Y:=Unit,post:=fun x y=>True,res:=fun x y=> .bool (Ec x),outs:=fun x y=>[.top],keep:=false}
theorem Yv:Aq G Tryz.prog 117 HZ:=
 vcFun_okP [(53,0,CQ)] [] false (fun x=>[]) Tryz.func117 rfl (by decide) ⟨Kl,trivial⟩ (fun(x:Int)=>(∀(y:Unit),True→True∧True∧True)∧cA CQ [.int .i64 x,.int .i64 (12:Int),.int .i64 (17:Int)] fun x_1 y=>Aa (inn x_1.1 x_1.2.1 x_1.2.2) (rA HZ x [.bool true,.top]) (rA HZ x [.bool (x==(19:Int)),.top])) (fun x=>by kernel_rfl) fun(x:Int) (hx:True)=>(by
 dsimp only[cA,rA,CQ,HZ,Av,Az,mvL,lnL,mvE,lnE]
 (repeat' first|(with_reducible first|rfl|exact True.intro|apply AK|apply And.intro|((first|apply AA|apply AI|apply AB|apply AJ)<;>intro _))|(apply Ax<;>intro _)|apply AH|refine Af () ?_ ?_|((first|apply AO|apply AN|apply AM|apply AL|apply AG|apply AF|apply AE|apply AD|apply AC)<;>try dsimp only)|apply Af|(refine Prod.forall.2 ?_;intro _;try dsimp only)|(intro _;try dsimp only))<;>(try dsimp only at*)<;>(try simp only[AR,List.length_cons,List.length_nil])<;>(try omega)
 all_goals simp [Ec,FD,FH, *])
def Dp:Sig:= {X:=Int,args:=fun x=>[.int .i64 x],pre:=fun x=>True,Y:=Unit,post:=fun x y=>True,res:=fun x y=> .tup [.int .i64 (DB x).1,.int .i64 (DB x).2],outs:=fun x y=>[.top],keep:=false}
theorem a6H:Aq G Tryz.prog 115 Dp:=
 vcFun_okP [] [] false (fun x=>[]) Tryz.func115 rfl (by decide) trivial (fun(x:Int)=>(∀(y:Unit),True→(True∧True∧True)∧True∧True)∧Aa (x==(4:Int)) (rA Dp x [.tup [.int .i64 (0:Int),.int .i64 (12:Int)],.top]) (Aa (x==(18:Int)) (rA Dp x [.tup [.int .i64 (0:Int),.int .i64 (12:Int)],.top]) (Aa (x==(21:Int)) (rA Dp x [.tup [.int .i64 (0:Int),.int .i64 (12:Int)],.top]) (Aa (x==(22:Int)) (rA Dp x [.tup [.int .i64 (0:Int),.int .i64 (12:Int)],.top]) (Aa (x==(5:Int)) (rA Dp x [.tup [.int .i64 (1:Int),.int .i64 (12:Int)],.top]) (Aa (x==(9:Int)) (rA Dp x [.tup [.int .i64 (1:Int),.int .i64 (12:Int)],.top]) (Aa (x==(20:Int)) (rA Dp x [.tup [.int .i64 (1:Int),.int .i64 (12:Int)],.top]) (Aa (x==(6:Int)) (rA Dp x [.tup [.int .i64 (1:Int),.int .i64 (1:Int)],.top]) (Aa (x==(11:Int)) (rA Dp x [.tup [.int .i64 (1:Int),.int .i64 (1:Int)],.top]) (Aa (x==(13:Int)) (rA Dp x [.tup [.int .i64 (1:Int),.int .i64 (1:Int)],.top]) (Aa (x==(14:Int)) (rA Dp x [.tup [.int .i64 (1:Int),.int .i64 (1:Int)],.top]) (Aa (x==(7:Int)) (rA Dp x [.tup [.int .i64 (2:Int),.int .i64 (12:Int)],.top]) (Aa (x==(10:Int)) (rA Dp x [.tup [.int .i64 (2:Int),.int .i64 (12:Int)],.top]) (Aa (x==(8:Int)) (rA Dp x [.tup [.int .i64 (3:Int),.int .i64 (3:Int)],.top]) (Aa (x==(12:Int)) (rA Dp x [.tup [.int .i64 (0:Int),.int .i64 (1:Int)],.top]) (Aa (x==(15:Int)) (rA Dp x [.tup [.int .i64 (0:Int),.int .i64 (1:Int)],.top]) (Aa (x==(16:Int)) (rA Dp x [.tup [.int .i64 (2:Int),.int .i64 (3:Int)],.top]) (Aa (x==(17:Int)) (rA Dp x [.tup [.int .i64 (2:Int),.int .i64 (2:Int)],.top]) (rA Dp x [.tup [.int .i64 (0:Int),.int .i64 (0:Int)],.top]))))))))))))))))))) (fun x=>by kernel_rfl) fun(x:Int) (hx:True)=>(by
 dsimp only[rA,Dp,Av,Az]
 (repeat' first|(with_reducible first|rfl|exact True.intro|apply AK|apply And.intro|((first|apply AA|apply AI|apply AB|apply AJ)<;>intro _))|(apply Ax<;>intro _)|apply AH|refine Af () ?_ ?_|((first|apply AO|apply AN|apply AM|apply AL|apply AG|apply AF|apply AE|apply AD|apply AC)<;>try dsimp only)|apply Af|(refine Prod.forall.2 ?_;intro _;try dsimp only)|(intro _;try dsimp only))<;>(try dsimp only at*)<;>(try simp only[AR,List.length_cons,List.length_nil])<;>(try omega)
 all_goals simp [DB, *])
def Hm(x:List Nd×Int×Int):Prop:=Cy x.1∧BO x.1 x.2.1=true∧((Ag x.1 x.2.1).kind=10→∀c,(Ag x.1 x.2.1).kids[x.2.2.toNat]? =some c→BG x.1 c=5→∃h t,(Ag x.1 c).kids=h::t∧BO x.1 h=true)∧
 (0≤x.2.2∧x.2.2<(Ag x.1 x.2.1).kids.length)∧∀c,(Ag x.1 x.2.1).kids[x.2.2.toNat]? =some c→0≤c∧c<x.1.length
theorem To{x:List Nd×Int×Int}{y:Nd}(h:Hm x)(hy:x.1[x.2.1.toNat]? =some y):0≤x.2.2∧x.2.2<y.kids.length:=by
 have:=h.2.2.2.1;rwa [BH hy] at this
theorem Yw{x:List Nd×Int×Int}{y:Nd}{c:Int}(h:Hm x)(hy:x.1[x.2.1.toNat]? =some y)(hc:y.kids[x.2.2.toNat]? =some c):0≤c∧c<x.1.length:=by
 have:=h.2.2.2.2 c;rw[BH hy] at this;exact this hc
theorem Yx{x:List Nd×Int×Int}{y z:Nd}{c:Int}(h:Hm x)(hy:x.1[x.2.1.toNat]? =some y)(hc:y.kids[x.2.2.toNat]? =some c)(hz:x.1[c.toNat]? =some z)(hk:y.kind=10)(hz5:z.kind=5):∃h t,z.kids=h::t∧BO x.1 h=true:=by
 have:=h.2.2.1;rw[BH hy] at this
 have:=this hk c hc;rw[BG,BH hz] at this;exact this hz5
theorem Yy{x:List Nd×Int×Int}{y z:Nd}{c d:Int}(h:Hm x)(hy:x.1[x.2.1.toNat]? =some y)(hc:y.kids[x.2.2.toNat]? =some c)(hz:x.1[c.toNat]? =some z)(hk:y.kind=10)(hz5:z.kind=5)(hd:z.kids[0]? =some d):(0≤d∧d<x.1.length)∧z.kids.headD 0=d:=by
 obtain⟨a,t,e,ha⟩:=Yx h hy hc hz hk hz5
 rw[e] at hd ⊢;cases hd;exact⟨Dv.1 ha,rfl⟩
theorem Yz{x:List Nd×Int×Int}{y z:Nd}{c:Int}(h:Hm x)(hy:x.1[x.2.1.toNat]? =some y)(hc:y.kids[x.2.2.toNat]? =some c)(hz:x.1[c.toNat]? =some z)(hk:y.kind=10)(hz5:z.kind=5):0<z.kids.length:=by
 obtain⟨a,t,e,ha⟩:=Yx h hy hc hz hk hz5
 rw[e];simp
def KK(x:List Nd×Int×Int):Bool:=Ku x.1 (Ag x.1 x.2.1) x.2.2 ((Ag x.1 x.2.1).kids.getD x.2.2.toNat 0)
theorem YA{x:List Nd×Int×Int}{y z:Nd}{c:Int}(hy:x.1[x.2.1.toNat]? =some y)(hc:y.kids[x.2.2.toNat]? =some c)(hz:x.1[c.toNat]? =some z):
 KK x=(Ge y.kind y.kids.length x.2.2 z.kind&&(if y.kind=10∧0<x.2.2 then decide (BG x.1 (z.kids.headD 0)=1) else true)):=by
 rw[KK,BH hy,List.getD,hc,Option.getD_some,Ku,BG,BH hz]
def Dh:Sig:= {X:=List Nd×Int×Int,args:=fun x=>[nds x.1,.int .i64 x.2.1,.int .i64 x.2.2],pre:=fun x=>Hm x,Y:=Unit,post:=fun x y=>True,res:=fun x y=> .bool (KK x),outs:=fun x y=>[.top,.top,.top],keep:=false}
theorem a6I:Aq G Tryz.prog 118 Dh:=
 vcFun_okP [(155,0,HY),(117,0,HZ)] [] false (fun x=>[]) Tryz.func118 rfl (by decide) ⟨a6G,Yv,trivial⟩ (fun(x:List Nd×Int×Int)=>(∀(y:Unit),True→True∧True∧True∧True∧True)∧((0:Int)≤x.2.1∧x.2.1<(↑(List.length x.1):Int))∧∀(e:Nd),x.1[Int.toNat x.2.1]? =some e→((0:Int)≤x.2.2∧x.2.2<(↑(List.length e.kids):Int))∧∀(e_1:Int),e.kids[Int.toNat x.2.2]? =some e_1→((0:Int)≤e_1∧e_1<(↑(List.length x.1):Int))∧∀(e_2:Nd),x.1[Int.toNat e_1]? =some e_2→Aa (e.kind==(9:Int)) (inR IntKind.i64 (x.2.2+(1:Int))∧Aa (decide (x.2.2+(1:Int)<(↑(List.length e.kids):Int))) (rA Dh x [.bool (e_2.kind==(1:Int)),.top,.top,.top]) (cA HY [.int .i64 e_2.kind] fun x_1 y=>rA Dh x [.bool (BK x_1),.top,.top,.top])) (Aa (e.kind==(20:Int)) (inR IntKind.i64 (x.2.2+(1:Int))∧Aa (decide (x.2.2+(1:Int)<(↑(List.length e.kids):Int))) (rA Dh x [.bool (e_2.kind==(1:Int)),.top,.top,.top]) (rA Dh x [.bool (e_2.kind==(18:Int)),.top,.top,.top])) (Aa (e.kind==(10:Int)) (Aa (decide (x.2.2>(0:Int))) (Aa (e_2.kind==(5:Int)) (((0:Int)≤(0:Int)∧(0:Int)<(↑(List.length e_2.kids):Int))∧∀(e:Int),e_2.kids[(0:Nat)]? =some e→((0:Int)≤e∧e<(↑(List.length x.1):Int))∧∀(e_3:Nd),x.1[Int.toNat e]? =some e_3→rA Dh x [.bool (e_3.kind==(1:Int)),.top,.top,.top]) (rA Dh x [.bool false,.top,.top,.top])) (cA HY [.int .i64 e_2.kind] fun x_1 y=>rA Dh x [.bool (BK x_1),.top,.top,.top])) (Aa (e.kind==(16:Int)) (Aa (decide (x.2.2>(0:Int))) (rA Dh x [.bool (e_2.kind==(18:Int)),.top,.top,.top]) (cA HY [.int .i64 e_2.kind] fun x_1 y=>rA Dh x [.bool (BK x_1),.top,.top,.top])) (Aa (e.kind==(17:Int)) (Aa (decide (x.2.2>(0:Int))) (rA Dh x [.bool (e_2.kind==(18:Int)),.top,.top,.top]) (cA HY [.int .i64 e_2.kind] fun x_1 y=>rA Dh x [.bool (BK x_1),.top,.top,.top])) (Aa (e.kind==(18:Int)) (cA HZ [.int .i64 e_2.kind] fun x_1 y=>rA Dh x [.bool (Ec x_1),.top,.top,.top]) (Aa (e.kind==(21:Int)) (Aa (e_2.kind==(12:Int)) (rA Dh x [.bool true,.top,.top,.top]) (Aa (e_2.kind==(20:Int)) (rA Dh x [.bool true,.top,.top,.top]) (rA Dh x [.bool (e_2.kind==(19:Int)),.top,.top,.top]))) (Aa (e.kind==(22:Int)) (Aa (e_2.kind==(21:Int)) (rA Dh x [.bool true,.top,.top,.top]) (Aa (e_2.kind==(12:Int)) (rA Dh x [.bool true,.top,.top,.top]) (Aa (e_2.kind==(20:Int)) (rA Dh x [.bool true,.top,.top,.top]) (rA Dh x [.bool (e_2.kind==(19:Int)),.top,.top,.top])))) (cA HY [.int .i64 e_2.kind] fun x_1 y=>rA Dh x [.bool (BK x_1),.top,.top,.top]))))))))) (fun x=>by kernel_rfl) fun(x:List Nd×Int×Int) (hx:Hm x)=>(by
 dsimp only[cA,Bf,nds,rA,Dh,HZ,HY,Av,Az,mvL,lnL,mvE,lnE]
 have h:=hx;have h1:=h.1;have hl:=h1.1;have hn:=Dv.1 h.2.1
 (repeat' first|(with_reducible first|rfl|exact True.intro|apply AK|apply And.intro|((first|apply AA|apply AI|apply AB|apply AJ)<;>intro _))|(apply Ax<;>intro _)|apply AH|refine Af () ?_ ?_|((first|apply AO|apply AN|apply AM|apply AL|apply AG|apply AF|apply AE|apply AD|apply AC)<;>try dsimp only)|apply Af|(refine Prod.forall.2 ?_;intro _;try dsimp only)|(intro _;try dsimp only))
 all_goals first
  |omega
  |exact(To h ‹_›).1
  |exact(To h ‹_›).2
  |exact(Yw h ‹_› ‹_›).1
  |exact(Yw h ‹_› ‹_›).2
  |exact Yz h ‹_› ‹_› ‹_› ‹_› ‹_›
  |(have:=Yz h ‹_› ‹_› ‹_› ‹_› ‹_›;omega)
  |(have:=(Yy h ‹_› ‹_› ‹_› ‹_› ‹_› ‹_›).1;omega)
  |(have hk:=(h1.2 _ (Dl (show x.1[x.2.1.toNat]? =some _ by assumption))).2;have:=To h ‹_›;(try simp only[AR]);omega)
  |(rw[YA ‹_› ‹_› ‹_›];simp [Ge,Ev,DT,EG,GF,FE,FH, *];done)
  |(rw[YA ‹_› ‹_› ‹_›,(Yy h ‹_› ‹_› ‹_› ‹_› ‹_› ‹_›).2,BG,BH ‹_›];simp [Ge,FE,FH, *];done)
  |skip)
end Go.My
end
section
set_option linter.unusedVariables false
set_option linter.unusedSimpArgs false
namespace Go.My
open Go.Eng Go.Proofs
variable {G:GInv}
def koI(ns:List Nd)(x:Nd)(i:Int):Prop:=0≤i∧i≤x.kids.length∧∀(j:Nat) c,(j:Int)<i→x.kids[j]? =some c→DJ ns x j c=true
theorem a6J{ns:List Nd}{x:Nd}:koI ns x 0:=⟨by omega,by omega,fun j c h=>by omega⟩
theorem YB{ns:List Nd}{x:Nd}{i c:Int}(h:koI ns x i)(hc:x.kids[i.toNat]? =some c)(hk:DJ ns x i c=true):koI ns x (i+1):=by
 obtain⟨h1,h2,h3⟩:=h
 have:=(DS hc).1
 refine⟨by omega,by omega,fun j d hj hd=> ?_⟩
 by_cases e:(j:Int)<i
 ·exact h3 j d e hd
 ·obtain rfl:j=i.toNat:=by omega
  rw[hc] at hd;cases hd
  rwa [show((i.toNat:Nat):Int)=i by omega]
theorem a6K{ns:List Nd}{x:Nd}{i:Int}(h:koI ns x i)(hl:¬i<x.kids.length):BT (DJ ns x) x.kids 0=true:=by
 rw[Tf];intro j c hc
 exact h.2.2 j c (by have:=(DS hc).1;omega) hc
theorem Pv{ns:List Nd}{x:Nd}{i c:Int}(h0:0≤i)(hc:x.kids[i.toNat]? =some c)(hk:DJ ns x i c=false):BT (DJ ns x) x.kids 0=false:=by
 rw[Bool.eq_false_iff];intro h
 rw[Tf] at h
 have:=h _ _ hc
 rw[show((i.toNat:Nat):Int)=i by omega,hk] at this;cases this
theorem ko1{ns:List Nd}{x y:Nd}{i c:Int}(hy:ns[c.toNat]? =some y)(h:y.kind=5)(h0:(y.kids.length:Int)=0):DJ ns x i c=false:=by
 have h0:=List.length_eq_zero_iff.1 (show y.kids.length=0 by omega)
 simp [DJ,BG,BH hy,h,h0]
theorem Iy{ns:List Nd}{d:Int}:inn d 0 (ns.length-1)=BO ns d:=by
 rw[Bool.eq_iff_iff];simp only[inn,BO,Bool.and_eq_true,decide_eq_true_eq];omega
theorem ko2{ns:List Nd}{x y:Nd}{i c d:Int}(hy:ns[c.toNat]? =some y)(h:y.kind=5)(h0:y.kids[0]? =some d)(hd:inn d 0 (ns.length-1)=false):DJ ns x i c=false:=by
 rw[Iy] at hd
 match hk:y.kids with
 |[]=>rw[hk] at h0;cases h0
 |e::t=>rw[hk] at h0;cases h0;simp [DJ,BG,BH hy,h,hk,hd]
theorem ko3{ns:List Nd}{x y:Nd}{i c d:Int}(hy:ns[c.toNat]? =some y)(h:y.kind=5)(h0:y.kids[0]? =some d)(hd:inn d 0 (ns.length-1)=true):DJ ns x i c=Ku ns x i c:=by
 rw[Iy] at hd
 match hk:y.kids with
 |[]=>rw[hk] at h0;cases h0
 |e::t=>rw[hk] at h0;cases h0;simp [DJ,BG,BH hy,h,hk,hd]
theorem ko4{ns:List Nd}{x y:Nd}{i c:Int}(hy:ns[c.toNat]? =some y)(h:y.kind≠5):DJ ns x i c=Ku ns x i c:=by
 simp [DJ,BG,BH hy,h]
theorem Pw{ns:List Nd}{x:Nd}{k i c:Int}{b:Bool}(hx:ns[k.toNat]? =some x)(hc:x.kids[i.toNat]? =some c)(hb:KK (ns,k,i)=b):Ku ns x i c=b:=by
 rw[←hb,KK,BH hx,List.getD,hc,Option.getD_some]
theorem a6L{ns:List Nd}{x y:Nd}{k i c d:Int}(h1:Cy ns)(hn:BO ns k=true)(hx:ns[k.toNat]? =some x)(hin:DI x.kids k=true)(hi:koI ns x i)(hc:x.kids[i.toNat]? =some c)(hy:ns[c.toNat]? =some y)(h0:y.kids[0]? =some d)(hd:inn d 0 (ns.length-1)=true):Hm (ns,k,i):=by
 have hk:=Dv.1 hn
 have:=(DS hc).1
 unfold Hm;simp only[BH hx]
 refine⟨h1,hn,fun h10 c' hc' h5=> ?_,⟨hi.1,by omega⟩,fun c' hc'=> ?_⟩
 ·rw[hc] at hc';cases hc'
  rw[BH hy]
  match hkk:y.kids with
  |[]=>rw[hkk] at h0;cases h0
  |e::t=>rw[hkk] at h0;cases h0;exact⟨_,_,rfl,by rw[←Iy];exact hd⟩
 ·simp only[DI,List.all_eq_true,Bool.and_eq_true,decide_eq_true_eq] at hin
  have:=hin c' (Dl hc');omega
theorem a6M{ns:List Nd}{x y:Nd}{k i c:Int}(h1:Cy ns)(hn:BO ns k=true)(hx:ns[k.toNat]? =some x)(hin:DI x.kids k=true)(hi:koI ns x i)(hc:x.kids[i.toNat]? =some c)(hy:ns[c.toNat]? =some y)(h5:y.kind≠5):Hm (ns,k,i):=by
 have hk:=Dv.1 hn
 have:=(DS hc).1
 unfold Hm;simp only[BH hx]
 refine⟨h1,hn,fun h10 c' hc' h5'=> ?_,⟨hi.1,by omega⟩,fun c' hc'=> ?_⟩
 ·rw[hc] at hc';cases hc'
  rw[BG,BH hy] at h5';exact(h5 h5').elim
 ·simp only[DI,List.all_eq_true,Bool.and_eq_true,decide_eq_true_eq] at hin
  have:=hin c' (Dl hc');omega
theorem YC{k:Int}:Hg k=(Ec k||(decide (k=20)||decide (k=21))):=by
 rw[Bool.eq_iff_iff]
 simp only[Hg,Ec,EG,FD,inn,Bool.or_eq_true,Bool.and_eq_true,decide_eq_true_eq];omega
theorem YD{ns:List Nd}{k:Int}(h:inn k 0 (ns.length-1)=false):false=Ch ns k:=by rw[Iy] at h;exact XZ h
theorem Nu{ns:List Nd}{k:Int}{x:Nd}(hx:ns[k.toNat]? =some x)(h:inn k 0 (ns.length-1)=true):Ch ns k=(inn x.kind 1 22&&(inn x.kids.length (DB x.kind).1 (DB x.kind).2&&(Fh x.kind x.text&&((Hg x.kind|| !x.blank)&&((DI x.kids k&&decide x.kids.Nodup)&&BT (DJ ns x) x.kids 0))))):=by
 rw[Iy] at h;rw[Ma hx h,a5E]
theorem a6N{ns:List Nd}{k:Int}{x:Nd}(hx:ns[k.toNat]? =some x)(h:inn k 0 (ns.length-1)=true)(h1:DI x.kids k=false):false=Ch ns k:=by
 rw[Nu hx h,h1];simp
theorem a6O{ns:List Nd}{k:Int}{x:Nd}(hx:ns[k.toNat]? =some x)(h:inn k 0 (ns.length-1)=true)(h1:¬x.kids.Nodup):false=Ch ns k:=by
 rw[Nu hx h,decide_eq_false h1];simp
theorem Px{ns:List Nd}{k:Int}{x:Nd}(hx:ns[k.toNat]? =some x)(h:inn k 0 (ns.length-1)=true)(h1:BT (DJ ns x) x.kids 0=false):false=Ch ns k:=by
 rw[Nu hx h,h1];simp
theorem a6P{ns:List Nd}{k:Int}{x:Nd}(hx:ns[k.toNat]? =some x)(h:inn k 0 (ns.length-1)=true)(h1:inn x.kind 1 22=true)(h2:inn x.kids.length (DB x.kind).1 (DB x.kind).2=true)(h3:Fh x.kind x.text=true)(h4:(Hg x.kind|| !x.blank)=true)
 (h5:DI x.kids k=true∧x.kids.Nodup) (h6:BT (DJ ns x) x.kids 0=true):true=Ch ns k:=by
 rw[Nu hx h,h1,h2,h3,h4,h5.1,h6,decide_eq_true h5.2];rfl
theorem a6Q{k c:Int}{l:List Int}{n:Nat}(hc:l[n]? =some c)(h:inn c 0 (k-1)=false):DI l k=false:=by
 rw[Bool.eq_false_iff];intro hh;simp only[DI,List.all_eq_true,Bool.and_eq_true,decide_eq_true_eq] at hh
 have:=hh c (Dl hc)
 have:inn c 0 (k-1)=true:=Jx.2 (by omega)
 rw[h] at this;cases this
def djI(l:List Int)(i j:Int):Prop:=0≤j∧j≤i∧∀c,l[i.toNat]? =some c→(l.take j.toNat).elem c=false
theorem a6R{l:List Int}{i:Int}(h:0≤i):djI l i 0:=⟨by omega,h,by simp⟩
theorem a6S{l:List Int}{i j c d:Int}(h:djI l i j)(hl:j<i)(hc:l[i.toNat]? =some c)(hd:l[j.toNat]? =some d)(hne:c≠d):djI l i (j+1):=by
 refine⟨by have:=h.1;omega,by omega,fun c' hc'=> ?_⟩
 have h3:=h.2.2 c' hc'
 rw[hc] at hc';cases hc'
 rw[Db h.1,Fg hd]
 simp at h3 ⊢
 exact⟨h3,hne⟩
theorem a6T{l:List Int}{i j c d:Int}(h0:djI l i j)(hl:j<i)(hc:l[i.toNat]? =some c)(hd:l[j.toNat]? =some d)(he:c=d):¬l.Nodup:=by
 refine XY hc ?_
 subst he
 rw[List.elem_iff]
 rw[List.mem_take_iff_getElem]
 obtain⟨hj,e⟩:=DS hd
 have:=h0.1
 exact⟨j.toNat,by omega,e⟩
theorem a6U{k:Int}{l:List Int}{i j c:Int}(h:nkI k l i)(hd:djI l i j)(hl:¬j<i)(hc:l[i.toNat]? =some c)(hin:inn c 0 (k-1)=true):nkI k l (i+1):=by
 have:=Jx.1 hin
 have h3:=hd.2.2 c hc
 obtain rfl:j=i:=by have:=hd.2.1;omega
 exact XX h hc (by omega) (by omega) h3
def Py(x:List Nd×Int)(i:Int):LS:= {
 ι:=Int,inv:=djI (Ag x.1 x.2).kids i,
 regs:=fun j=>[(0,nds x.1),(1,.int .i64 x.2),(5,.box 0 (ndA false (Ag x.1 x.2))),(8,.int .i64 i),(9,.int .i64 j)],als:=[],meas:=fun j=>i.toNat-j.toNat}
def Pz(x:List Nd×Int):LS:= {
 ι:=Int,inv:=nkI x.2 (Ag x.1 x.2).kids,
 regs:=fun i=>[(0,nds x.1),(1,.int .i64 x.2),(5,.box 0 (ndA false (Ag x.1 x.2))),(8,.int .i64 i)],als:=[],meas:=fun i=>(Ag x.1 x.2).kids.length-i.toNat,sub:=fun i=>[(15,Py x i)]}
def Nv(x:List Nd×Int):LS:= {
 ι:=Int,inv:=koI x.1 (Ag x.1 x.2),
 regs:=fun i=>[(0,nds x.1),(1,.int .i64 x.2),(5,.box 0 (ndA false (Ag x.1 x.2))),(10,.int .i64 i)],als:=[],meas:=fun i=>(Ag x.1 x.2).kids.length-i.toNat}
def jI(x:Nd):Prop:=inn x.kind 1 22=true∧inn x.kids.length (DB x.kind).1 (DB x.kind).2=true∧Fh x.kind x.text=true∧(Hg x.kind|| !x.blank)=true
def Mc(x:List Nd×Int):LS:= {
 ι:=Unit,inv:=fun _=>jI (Ag x.1 x.2),
 regs:=fun _=>[(0,nds x.1),(1,.int .i64 x.2),(5,.box 0 (ndA false (Ag x.1 x.2)))],als:=[],meas:=fun _=>0}
def EI:Sig:= {X:=List Nd×Int,args:=fun x=>[nds x.1,.int .i64 x.2],pre:=fun x=>Cy x.1,Y:=Unit,post:=fun x y=>True,res:=fun x y=> .bool (Ch x.1 x.2),outs:=fun x y=>[.top,.top],keep:=false}
set_option maxHeartbeats 4000000 in
theorem a6V:Aq G Tryz.prog 95 EI:=
 vcFun_okP [(53,0,CQ),(115,0,Dp),(116,0,EU),(117,0,HZ),(118,0,Dh)] [] false (fun x=>[(10,Pz x),(20,Nv x),(200009,Mc x)]) Tryz.func95 rfl (by decide) ⟨Kl,a6H,a5B,Yv,a6I,trivial⟩ (fun(x:List Nd×Int)=>(∀(y:Unit),True→True∧True∧True∧True)∧inR IntKind.i64 ((↑(List.length x.1):Int)-(1:Int))∧cA CQ [.int .i64 x.2,.int .i64 (0:Int),.int .i64 ((↑(List.length x.1):Int)-(1:Int))] fun x_1 y=>Aa (!inn x_1.1 x_1.2.1 x_1.2.2) (rA EI x [.bool false,.top,.top]) (((0:Int)≤x.2∧x.2<(↑(List.length x.1):Int))∧∀(e:Nd),x.1[Int.toNat x.2]? =some e→cA CQ [.int .i64 e.kind,.int .i64 (1:Int),.int .i64 (22:Int)] fun x_2 y=>Aa (!inn x_2.1 x_2.2.1 x_2.2.2) (rA EI x [.bool false,.top,.top]) (((0:Int)≤x.2∧x.2<(↑(List.length x.1):Int))∧∀(e:Nd),x.1[Int.toNat x.2]? =some e→cA Dp [.int .i64 e.kind] fun x_3 y=>cA CQ [.int .i64 (↑(List.length e.kids):Int),.int .i64 (DB x_3).1,.int .i64 (DB x_3).2] fun x_4 y=>Aa (!inn x_4.1 x_4.2.1 x_4.2.2) (rA EI x [.bool false,.top,.top]) (cA EU [.int .i64 e.kind,.str e.text] fun x_5 y=>Aa (!Fh x_5.1 x_5.2) (rA EI x [.bool false,.top,.top]) (Aa e.blank (cA HZ [.int .i64 e.kind] fun x_6 y=>Aa (!Ec x_6) (Aa (e.kind != (20:Int)) (Aa (e.kind != (21:Int)) (rA EI x [.bool false,.top,.top]) (eA (Mc x) [nds x.1,.int .i64 x.2,.box 0 [.int .i64 e.kind,.str e.text,AU e.kids,.bool e.blank]])) (eA (Mc x) [nds x.1,.int .i64 x.2,.box 0 [.int .i64 e.kind,.str e.text,AU e.kids,.bool e.blank]])) (eA (Mc x) [nds x.1,.int .i64 x.2,.box 0 [.int .i64 e.kind,.str e.text,AU e.kids,.bool e.blank]])) (eA (Mc x) [nds x.1,.int .i64 x.2,.box 0 [.int .i64 e.kind,.str e.text,AU e.kids,.bool e.blank]])∧∀(i:Unit),jI (Ag x.1 x.2)→eA (Pz x) [nds x.1,.int .i64 x.2,.box 0 [.int .i64 (Ag x.1 x.2).kind,.str (Ag x.1 x.2).text,AU (Ag x.1 x.2).kids,.bool (Ag x.1 x.2).blank],.int .i64 (0:Int)]∧∀(i:Int),nkI x.2 (Ag x.1 x.2).kids i→Aa (decide (i<(↑(List.length (Ag x.1 x.2).kids):Int))) (((0:Int)≤i∧i<(↑(List.length (Ag x.1 x.2).kids):Int))∧∀(e:Int),(Ag x.1 x.2).kids[Int.toNat i]? =some e→inR IntKind.i64 (x.2-(1:Int))∧cA CQ [.int .i64 e,.int .i64 (0:Int),.int .i64 (x.2-(1:Int))] fun x_6 y=>Aa (!inn x_6.1 x_6.2.1 x_6.2.2) (rA EI x [.bool false,.top,.top]) (eA (Py x i) [nds x.1,.int .i64 x.2,.box 0 [.int .i64 (Ag x.1 x.2).kind,.str (Ag x.1 x.2).text,AU (Ag x.1 x.2).kids,.bool (Ag x.1 x.2).blank],.int .i64 i,.int .i64 (0:Int)]∧∀(i_1:Int),djI (Ag x.1 x.2).kids i i_1→Aa (decide (i_1<i)) (true=true∧true=true∧((0:Int)≤i∧i<(↑(List.length (Ag x.1 x.2).kids):Int))∧∀(e:Int),(Ag x.1 x.2).kids[Int.toNat i]? =some e→((0:Int)≤i_1∧i_1<(↑(List.length (Ag x.1 x.2).kids):Int))∧∀(e_1:Int),(Ag x.1 x.2).kids[Int.toNat i_1]? =some e_1→Aa (e==e_1) (rA EI x [.bool false,.top,.top]) (inR IntKind.i64 (i_1+(1:Int))∧eN (Py x i) i_1 [nds x.1,.int .i64 x.2,.box 0 [.int .i64 (Ag x.1 x.2).kind,.str (Ag x.1 x.2).text,AU (Ag x.1 x.2).kids,.bool (Ag x.1 x.2).blank],.int .i64 i,.int .i64 (i_1+(1:Int))])) (inR IntKind.i64 (i+(1:Int))∧eN (Pz x) i [nds x.1,.int .i64 x.2,.box 0 [.int .i64 (Ag x.1 x.2).kind,.str (Ag x.1 x.2).text,AU (Ag x.1 x.2).kids,.bool (Ag x.1 x.2).blank],.int .i64 (i+(1:Int))]))) (eA (Nv x) [nds x.1,.int .i64 x.2,.box 0 [.int .i64 (Ag x.1 x.2).kind,.str (Ag x.1 x.2).text,AU (Ag x.1 x.2).kids,.bool (Ag x.1 x.2).blank],.int .i64 (0:Int)]∧∀(i:Int),koI x.1 (Ag x.1 x.2) i→Aa (decide (i<(↑(List.length (Ag x.1 x.2).kids):Int))) (((0:Int)≤i∧i<(↑(List.length (Ag x.1 x.2).kids):Int))∧∀(e:Int),(Ag x.1 x.2).kids[Int.toNat i]? =some e→((0:Int)≤e∧e<(↑(List.length x.1):Int))∧∀(e_1:Nd),x.1[Int.toNat e]? =some e_1→Aa (e_1.kind==(5:Int)) (Aa ((↑(List.length e_1.kids):Int)==(0:Int)) (rA EI x [.bool false,.top,.top]) (((0:Int)≤(0:Int)∧(0:Int)<(↑(List.length e_1.kids):Int))∧∀(e:Int),e_1.kids[(0:Nat)]? =some e→inR IntKind.i64 ((↑(List.length x.1):Int)-(1:Int))∧cA CQ [.int .i64 e,.int .i64 (0:Int),.int .i64 ((↑(List.length x.1):Int)-(1:Int))] fun x_6 y=>Aa (!inn x_6.1 x_6.2.1 x_6.2.2) (rA EI x [.bool false,.top,.top]) (cA Dh [nds x.1,.int .i64 x.2,.int .i64 i] fun x_7 y=>Aa (!KK x_7) (rA EI x [.bool false,.top,.top]) (inR IntKind.i64 (i+(1:Int))∧eN (Nv x) i [nds x.1,.int .i64 x.2,.box 0 [.int .i64 (Ag x.1 x.2).kind,.str (Ag x.1 x.2).text,AU (Ag x.1 x.2).kids,.bool (Ag x.1 x.2).blank],.int .i64 (i+(1:Int))])))) (cA Dh [nds x.1,.int .i64 x.2,.int .i64 i] fun x_6 y=>Aa (!KK x_6) (rA EI x [.bool false,.top,.top]) (inR IntKind.i64 (i+(1:Int))∧eN (Nv x) i [nds x.1,.int .i64 x.2,.box 0 [.int .i64 (Ag x.1 x.2).kind,.str (Ag x.1 x.2).text,AU (Ag x.1 x.2).kids,.bool (Ag x.1 x.2).blank],.int .i64 (i+(1:Int))]))) (rA EI x [.bool true,.top,.top]))))))) (fun x=>by kernel_rfl) fun(x:List Nd×Int) (hx:Cy x.1)=>(by
 dsimp only[cA,eA,eN,AU,Mc,Pz,Py,Nv,Bf,nds,rA,CQ,Dp,Dh,HZ,EU,EI,Av,Az,mvL,lnL,mvE,lnE,BA]
 have h1:Cy x.1:=hx;have hl:=h1.1
 by_cases hn:BO x.1 x.2=true
 case neg=>
  (repeat' first|(with_reducible first|rfl|exact True.intro|apply AK|apply And.intro|((first|apply AA|apply AI|apply AB|apply AJ)<;>intro _))|(apply Ax<;>intro _)|apply AH|refine Af () ?_ ?_|((first|apply AO|apply AN|apply AM|apply AL|apply AG|apply AF|apply AE|apply AD|apply AC)<;>try dsimp only)|apply Af|(refine Prod.forall.2 ?_;intro _;try dsimp only)|(intro _;try dsimp only))
  all_goals first
   |exact YD ‹_›
   |(have hh:=(show inn x.2 0 (x.1.length-1)=true by assumption);rw[Iy] at hh;exact(hn hh).elim)
   |((try simp only[AR]);omega)
 case pos=>
 have hr:=Dv.1 hn
 obtain⟨z,hz⟩:∃z,x.1[x.2.toNat]? =some z:=⟨x.1[x.2.toNat],by simp⟩
 have hzo:=h1.2 _ (Dl hz)
 have hi:inn x.2 0 (x.1.length-1)=true:=by rw[Iy];exact hn
 simp only[hz,Option.some.injEq,forall_eq',BH hz]
 (repeat' first|(with_reducible first|rfl|exact True.intro|apply AK|apply And.intro|((first|apply AA|apply AI|apply AB|apply AJ)<;>intro _))|(apply Ax<;>intro _)|apply AH|refine Af () ?_ ?_|((first|apply AO|apply AN|apply AM|apply AL|apply AG|apply AF|apply AE|apply AD|apply AC)<;>try dsimp only)|apply Af|(refine Prod.forall.2 ?_;intro _;try dsimp only)|(intro _;try dsimp only))
 all_goals first
  |rfl
  |assumption
  |exact XW
  |exact a6J
  |exact a6R (‹nkI _ _ _›.1)
  |exact YD ‹_›
  |exact⟨by assumption,by assumption,by assumption,by simp [YC, *]⟩
  |exact a6N hz hi (a6Q ‹_› ‹_›)
  |exact a6O hz hi (a6T ‹_› ‹_› ‹_› ‹_› ‹_›)
  |exact a6S ‹_› ‹_› ‹_› ‹_› ‹_›
  |exact a6U ‹_› ‹_› ‹_› ‹_› ‹_›
  |exact Px hz hi (Pv (‹koI _ _ _›.1) ‹_› (ko1 ‹_› ‹_› ‹_›))
  |exact Px hz hi (Pv (‹koI _ _ _›.1) ‹_› (ko2 ‹_› ‹_› ‹_› ‹_›))
  |exact Px hz hi (Pv (‹koI _ _ _›.1) ‹_› ((ko4 ‹_› ‹_›).trans (Pw hz ‹_› ‹_›)))
  |exact Px hz hi (Pv (‹koI _ _ _›.1) ‹_› ((ko3 ‹_› ‹_› ‹_› ‹_›).trans (Pw hz ‹_› ‹_›)))
  |exact YB ‹_› ‹_› ((ko4 ‹_› ‹_›).trans (Pw hz ‹_› ‹_›))
  |exact YB ‹_› ‹_› ((ko3 ‹_› ‹_› ‹_› ‹_›).trans (Pw hz ‹_› ‹_›))
  |exact a6L h1 hn hz (Nr ‹_› ‹_›).1 ‹_› ‹_› ‹_› ‹_› ‹_›
  |exact a6M h1 hn hz (Nr ‹_› ‹_›).1 ‹_› ‹_› ‹_› ‹_›
  |exact a6P hz hi (‹jI _›.1) (‹jI _›.2.1) (‹jI _›.2.2.1) (‹jI _›.2.2.2) (Nr ‹_› ‹_›) (a6K ‹_› ‹_›)
  |(rw[Nu hz hi];simp [YC, *];done)
  |exact hzo.1
  |(have:=Tm ‹_› ‹_› hr.2 (Dl (show z.kids[_]? =some _ by assumption));omega)
  |((try simp only[AR]);omega)
  |(have hko:=(show koI _ _ _ by assumption);have hk2:=hzo.2;have:=hko.1;have:=hko.2.1;(try simp only[AR]);omega)
  |(have hko:=(show djI _ _ _ by assumption);have hk1:=(show nkI _ _ _ by assumption);have hk2:=hzo.2;have:=hko.1;have:=hko.2.1;have:=hk1.1;have:=hk1.2.1;(try simp only[AR]);omega)
  |(have hk1:=(show nkI _ _ _ by assumption);have hk2:=hzo.2;have:=hk1.1;have:=hk1.2.1;(try simp only[AR]);omega)
  |skip)
end Go.My
end
