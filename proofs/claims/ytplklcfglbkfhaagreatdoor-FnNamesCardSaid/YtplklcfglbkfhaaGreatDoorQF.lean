/- A part of the proof: the engine and the contracts, joined. -/
import Derived.Test.YtplklcfglbkfhaaGreatDoorQE
section
set_option linter.unusedVariables false
set_option linter.unusedSimpArgs false
namespace Go.My
open Go.Eng Go.Proofs
variable {G:GInv}
theorem Fy{a b:Int}:(a==b)=decide (a=b):=by rw[Bool.eq_iff_iff];simp
theorem a6s{α:Type}{p:α→Bool}{x:List α}{n:Nat}{e:α}(he:x[n]? =some e)(hp:p e=true)(h:∀e∈x.take n,p e=true):∀e∈x.take (n+1),p e=true:=by
 rw[FV he];intro d hd
 rcases List.mem_append.1 hd with hd|hd
 ·exact h d hd
 ·simp at hd;subst hd;exact hp
theorem a6t{α:Type}{p:α→Bool}{x:List α}{n:Nat}(h:∀e∈x.take n,p e=true)(hn:x.length≤n):x.all p=true:=by
 rw[List.take_of_length_le hn] at h;exact List.all_eq_true.2 h
theorem Kp{α:Type}{p:α→Bool}{x:List α}{n:Nat}{e:α}(he:x[n]? =some e)(hp:p e=false):x.all p=false:=by
 rw[Bool.eq_false_iff];intro h
 rw[List.all_eq_true.1 h e (List.mem_of_getElem? he)] at hp;cases hp
def Fz:Sig:= {X:=Int,args:=fun x=>[.int .i64 x],pre:=fun x=>True,Y:=Unit,post:=fun x y=>True,res:=fun x y=> .bool (BE x),outs:=fun x y=>[.top],keep:=false}
theorem TY:Al G Tryz.prog 102 Fz:=
 vcFun_okP [(57,0,EP)] [] false (fun x=>[]) Tryz.func102 rfl (by decide) ⟨PY,trivial⟩ (fun(x:Int)=>(∀(y:Unit),True→True∧True∧True)∧cA EP [.int .i64 x,.int .i64 (1:Int),.int .i64 (11:Int)] fun x_1 y=>rA Fz x [.bool (inn x_1.1 x_1.2.1 x_1.2.2),.top]) (fun x=>by kernel_rfl) fun(x:Int) (hx:True)=>(by
 dsimp only[cA,rA,EP,Fz,Av,AA,mvL,lnL,mvE,lnE]
 (repeat' first|(with_reducible first|rfl|exact True.intro|apply AL|apply And.intro|((first|apply AB|apply AJ|apply AC|apply AK)<;>intro _))|(apply Az<;>intro _)|apply AI|refine Ag () ?_ ?_|((first|apply AP|apply AO|apply AN|apply AM|apply AH|apply AG|apply AF|apply AE|apply AD)<;>try dsimp only)|apply Ag|(refine Prod.forall.2 ?_;intro _;try dsimp only)|(intro _;try dsimp only))<;>(try dsimp only at*)<;>(try simp only[AR,List.length_cons,List.length_nil])<;>(try omega)
 all_goals simp [BE,Fy, *])
def It:Sig:= {X:=Int,args:=fun x=>[.int .i64 x],pre:=fun x=>True,Y:=Unit,post:=fun x y=>True,res:=fun x y=> .bool (Jt x),outs:=fun x y=>[.top],keep:=false}
theorem XZ:Al G Tryz.prog 60 It:=
 vcFun_okP [(57,0,EP)] [] false (fun x=>[]) Tryz.func60 rfl (by decide) ⟨PY,trivial⟩ (fun(x:Int)=>(∀(y:Unit),True→True∧True∧True)∧cA EP [.int .i64 x,.int .i64 (12:Int),.int .i64 (17:Int)] fun x_1 y=>rA It x [.bool (inn x_1.1 x_1.2.1 x_1.2.2),.top]) (fun x=>by kernel_rfl) fun(x:Int) (hx:True)=>(by
 dsimp only[cA,rA,EP,It,Av,AA,mvL,lnL,mvE,lnE]
 (repeat' first|(with_reducible first|rfl|exact True.intro|apply AL|apply And.intro|((first|apply AB|apply AJ|apply AC|apply AK)<;>intro _))|(apply Az<;>intro _)|apply AI|refine Ag () ?_ ?_|((first|apply AP|apply AO|apply AN|apply AM|apply AH|apply AG|apply AF|apply AE|apply AD)<;>try dsimp only)|apply Ag|(refine Prod.forall.2 ?_;intro _;try dsimp only)|(intro _;try dsimp only))<;>(try dsimp only at*)<;>(try simp only[AR,List.length_cons,List.length_nil])<;>(try omega)
 all_goals simp [Jt,Fy, *])
def GG:Sig:= {X:=Int,args:=fun x=>[.int .i64 x],pre:=fun x=>True,Y:=Unit,post:=fun x y=>True,res:=fun x y=> .bool (Dx x),outs:=fun x y=>[.top],keep:=false}
theorem TZ:Al G Tryz.prog 105 GG:=
 vcFun_okP [] [] false (fun x=>[]) Tryz.func105 rfl (by decide) trivial (fun(x:Int)=>(∀(y:Unit),True→True∧True∧True)∧rA GG x [.bool (x==(18:Int)),.top]) (fun x=>by kernel_rfl) fun(x:Int) (hx:True)=>(by
 dsimp only[rA,GG,Av,AA]
 (repeat' first|(with_reducible first|rfl|exact True.intro|apply AL|apply And.intro|((first|apply AB|apply AJ|apply AC|apply AK)<;>intro _))|(apply Az<;>intro _)|apply AI|refine Ag () ?_ ?_|((first|apply AP|apply AO|apply AN|apply AM|apply AH|apply AG|apply AF|apply AE|apply AD)<;>try dsimp only)|apply Ag|(refine Prod.forall.2 ?_;intro _;try dsimp only)|(intro _;try dsimp only))<;>(try dsimp only at*)<;>(try simp only[AR,List.length_cons,List.length_nil])<;>(try omega)
 all_goals simp [Dx,Fy, *])
def FA:Sig:= {X:=Int,args:=fun x=>[.int .i64 x],pre:=fun x=>True,Y:=Unit,post:=fun x y=>True,res:=fun x y=> .bool (EB x),outs:=fun x y=>[.top],keep:=false}
theorem Ua:Al G Tryz.prog 61 FA:=
 vcFun_okP [] [] false (fun x=>[]) Tryz.func61 rfl (by decide) trivial (fun(x:Int)=>(∀(y:Unit),True→True∧True∧True)∧Aa (x==(12:Int)) (rA FA x [.bool true,.top]) (Aa (x==(20:Int)) (rA FA x [.bool true,.top]) (rA FA x [.bool (x==(19:Int)),.top]))) (fun x=>by kernel_rfl) fun(x:Int) (hx:True)=>(by
 dsimp only[rA,FA,Av,AA]
 (repeat' first|(with_reducible first|rfl|exact True.intro|apply AL|apply And.intro|((first|apply AB|apply AJ|apply AC|apply AK)<;>intro _))|(apply Az<;>intro _)|apply AI|refine Ag () ?_ ?_|((first|apply AP|apply AO|apply AN|apply AM|apply AH|apply AG|apply AF|apply AE|apply AD)<;>try dsimp only)|apply Ag|(refine Prod.forall.2 ?_;intro _;try dsimp only)|(intro _;try dsimp only))<;>(try dsimp only at*)<;>(try simp only[AR,List.length_cons,List.length_nil])<;>(try omega)
 all_goals simp [EB,Fy, *])
def LZ:Sig:= {X:=Int,args:=fun x=>[.int .i64 x],pre:=fun x=>True,Y:=Unit,post:=fun x y=>True,res:=fun x y=> .bool (Fv x),outs:=fun x y=>[.top],keep:=false}
theorem a6u:Al G Tryz.prog 104 LZ:=
 vcFun_okP [] [] false (fun x=>[]) Tryz.func104 rfl (by decide) trivial (fun(x:Int)=>(∀(y:Unit),True→True∧True∧True)∧rA LZ x [.bool (x==(5:Int)),.top]) (fun x=>by kernel_rfl) fun(x:Int) (hx:True)=>(by
 dsimp only[rA,LZ,Av,AA]
 (repeat' first|(with_reducible first|rfl|exact True.intro|apply AL|apply And.intro|((first|apply AB|apply AJ|apply AC|apply AK)<;>intro _))|(apply Az<;>intro _)|apply AI|refine Ag () ?_ ?_|((first|apply AP|apply AO|apply AN|apply AM|apply AH|apply AG|apply AF|apply AE|apply AD)<;>try dsimp only)|apply Ag|(refine Prod.forall.2 ?_;intro _;try dsimp only)|(intro _;try dsimp only))<;>(try dsimp only at*)<;>(try simp only[AR,List.length_cons,List.length_nil])<;>(try omega)
 all_goals simp [Fv,Fy, *])
def Kq:Sig:= {X:=Int,args:=fun x=>[.int .i64 x],pre:=fun x=>True,Y:=Unit,post:=fun x y=>True,res:=fun x y=> .bool (EC x),outs:=fun x y=>[.top],keep:=false}
theorem a6v:Al G Tryz.prog 106 Kq:=
 vcFun_okP [(60,0,It)] [] false (fun x=>[]) Tryz.func106 rfl (by decide) ⟨XZ,trivial⟩ (fun(x:Int)=>(∀(y:Unit),True→True∧True∧True)∧cA It [.int .i64 x] fun x_1 y=>Aa (Jt x_1) (rA Kq x [.bool true,.top]) (rA Kq x [.bool (x==(19:Int)),.top])) (fun x=>by kernel_rfl) fun(x:Int) (hx:True)=>(by
 dsimp only[cA,rA,It,Kq,Av,AA,mvL,lnL,mvE,lnE]
 (repeat' first|(with_reducible first|rfl|exact True.intro|apply AL|apply And.intro|((first|apply AB|apply AJ|apply AC|apply AK)<;>intro _))|(apply Az<;>intro _)|apply AI|refine Ag () ?_ ?_|((first|apply AP|apply AO|apply AN|apply AM|apply AH|apply AG|apply AF|apply AE|apply AD)<;>try dsimp only)|apply Ag|(refine Prod.forall.2 ?_;intro _;try dsimp only)|(intro _;try dsimp only))<;>(try dsimp only at*)<;>(try simp only[AR,List.length_cons,List.length_nil])<;>(try omega)
 all_goals simp [EC,Fy, *])
def Kr:Sig:= {X:=Int,args:=fun x=>[.int .i64 x],pre:=fun x=>True,Y:=Unit,post:=fun x y=>True,res:=fun x y=> .bool (GD x),outs:=fun x y=>[.top],keep:=false}
theorem a6w:Al G Tryz.prog 107 Kr:=
 vcFun_okP [(61,0,FA)] [] false (fun x=>[]) Tryz.func107 rfl (by decide) ⟨Ua,trivial⟩ (fun(x:Int)=>(∀(y:Unit),True→True∧True∧True)∧cA FA [.int .i64 x] fun x_1 y=>Aa (EB x_1) (rA Kr x [.bool true,.top]) (rA Kr x [.bool (x==(21:Int)),.top])) (fun x=>by kernel_rfl) fun(x:Int) (hx:True)=>(by
 dsimp only[cA,rA,FA,Kr,Av,AA,mvL,lnL,mvE,lnE]
 (repeat' first|(with_reducible first|rfl|exact True.intro|apply AL|apply And.intro|((first|apply AB|apply AJ|apply AC|apply AK)<;>intro _))|(apply Az<;>intro _)|apply AI|refine Ag () ?_ ?_|((first|apply AP|apply AO|apply AN|apply AM|apply AH|apply AG|apply AF|apply AE|apply AD)<;>try dsimp only)|apply Ag|(refine Prod.forall.2 ?_;intro _;try dsimp only)|(intro _;try dsimp only))<;>(try dsimp only at*)<;>(try simp only[AR,List.length_cons,List.length_nil])<;>(try omega)
 all_goals simp [GD,Fy, *])
def Ma:Sig:= {X:=Int,args:=fun x=>[.int .i64 x],pre:=fun x=>True,Y:=Unit,post:=fun x y=>True,res:=fun x y=> .bool (DV x),outs:=fun x y=>[.top],keep:=false}
theorem a6x:Al G Tryz.prog 132 Ma:=
 vcFun_okP [] [] false (fun x=>[]) Tryz.func132 rfl (by decide) trivial (fun(x:Int)=>(∀(y:Unit),True→True∧True∧True)∧rA Ma x [.bool (x==(1:Int)),.top]) (fun x=>by kernel_rfl) fun(x:Int) (hx:True)=>(by
 dsimp only[rA,Ma,Av,AA]
 (repeat' first|(with_reducible first|rfl|exact True.intro|apply AL|apply And.intro|((first|apply AB|apply AJ|apply AC|apply AK)<;>intro _))|(apply Az<;>intro _)|apply AI|refine Ag () ?_ ?_|((first|apply AP|apply AO|apply AN|apply AM|apply AH|apply AG|apply AF|apply AE|apply AD)<;>try dsimp only)|apply Ag|(refine Prod.forall.2 ?_;intro _;try dsimp only)|(intro _;try dsimp only))<;>(try dsimp only at*)<;>(try simp only[AR,List.length_cons,List.length_nil])<;>(try omega)
 all_goals simp [DV,Fy, *])
def DX(p:Int→Bool)(x:List Int)(i:Int):Prop:=0≤i∧i≤x.length∧∀e∈x.take i.toNat,p e=true
theorem Ks{p:Int→Bool}{x:List Int}:DX p x 0:=⟨by omega,by omega,by simp⟩
theorem Kt{p:Int→Bool}{x:List Int}{i:Int}{e:Int}(h:DX p x i)(he:x[i.toNat]? =some e)(hp:p e=true):DX p x (i+1):=by
 obtain⟨h1,h2,h3⟩:=h
 have:=(Fd he).1
 exact⟨by omega,by omega,by rw[Dv h1];exact a6s he hp h3⟩
theorem Ku{p:Int→Bool}{x:List Int}{i:Int}(h:DX p x i)(hl:¬i<x.length):true=x.all p:=(a6t h.2.2 (by omega)).symm
def CD(p:Int→Bool)(c:AV)(x:List Int):LS:= {
 ι:=Int,inv:=DX p x,regs:=fun i=>[(0,An x),(1,c),(7,An x),(8,.int .i64 x.length),(9,.int .i64 i)],als:=[],meas:=fun i=>x.length-i.toNat}
def Kv:Sig:= {X:=List Int,args:=fun x=>[An x,.clo (.func 102) []],pre:=fun x=>x.length<2^62,Y:=Unit,post:=fun x y=>True,res:=fun x y=> .bool (x.all BE),outs:=fun x y=>[.top,.top],keep:=false}
theorem a6y:Al G Tryz.prog 101 Kv:=
 vcFun_okP [(102,0,Fz)] [] false (fun x=>[(2,CD BE (.clo (.func 102) []) x)]) Tryz.func101 rfl (by decide) ⟨TY,trivial⟩ (fun(x:List Int)=>(∀(y:Unit),True→True∧True∧True∧True)∧eA (CD BE (AV.clo (.func 102) []) x) [An x,AV.clo (.func 102) [],An x,.int .i64 (↑(List.length x):Int),.int .i64 (0:Int)]∧∀(i:Int),DX BE x i→Aa (decide (i<(↑(List.length x):Int))) (((0:Int)≤i∧i<(↑(List.length x):Int))∧∀(e:Int),x[Int.toNat i]? =some e→cA Fz [.int .i64 e] fun x_1 y=>Aa (!BE x_1) (rA Kv x [.bool false,.top,.top]) (inR IntKind.i64 (i+(1:Int))∧eN (CD BE (AV.clo (.func 102) []) x) i [An x,AV.clo (.func 102) [],An x,.int .i64 (↑(List.length x):Int),.int .i64 (i+(1:Int))])) (rA Kv x [.bool true,.top,.top])) (fun x=>by kernel_rfl) fun(x:List Int) (hx:x.length<2^62)=>(by
 dsimp only[cA,eA,eN,An,CD,rA,Kv,Fz,Av,AA,mvL,lnL,mvE,lnE,Bi]
 have hx:x.length<2^62:=hx
 (repeat' first|(with_reducible first|rfl|exact True.intro|apply AL|apply And.intro|((first|apply AB|apply AJ|apply AC|apply AK)<;>intro _))|(apply Az<;>intro _)|apply AI|refine Ag () ?_ ?_|((first|apply AP|apply AO|apply AN|apply AM|apply AH|apply AG|apply AF|apply AE|apply AD)<;>try dsimp only)|apply Ag|(refine Prod.forall.2 ?_;intro _;try dsimp only)|(intro _;try dsimp only))
 all_goals first|exact Ks|(rename_i i hi hl e he y _ hp;exact(Kp he hp).symm)|(rename_i i hi hl e he y _ hp;exact Kt hi he hp)|(rename_i i hi hl;exact Ku hi hl)|(obtain⟨_,_,_⟩:= ‹DX _ _ _›;(try simp only[AR] at*);omega)|skip)
def Kw:Sig:= {X:=List Int,args:=fun x=>[An x,.clo (.func 105) []],pre:=fun x=>x.length<2^62,Y:=Unit,post:=fun x y=>True,res:=fun x y=> .bool (x.all Dx),outs:=fun x y=>[.top,.top],keep:=false}
theorem a6z:Al G Tryz.prog 101 Kw:=
 vcFun_okP [(105,0,GG)] [] false (fun x=>[(2,CD Dx (.clo (.func 105) []) x)]) Tryz.func101 rfl (by decide) ⟨TZ,trivial⟩ (fun(x:List Int)=>(∀(y:Unit),True→True∧True∧True∧True)∧eA (CD Dx (AV.clo (.func 105) []) x) [An x,AV.clo (.func 105) [],An x,.int .i64 (↑(List.length x):Int),.int .i64 (0:Int)]∧∀(i:Int),DX Dx x i→Aa (decide (i<(↑(List.length x):Int))) (((0:Int)≤i∧i<(↑(List.length x):Int))∧∀(e:Int),x[Int.toNat i]? =some e→cA GG [.int .i64 e] fun x_1 y=>Aa (!Dx x_1) (rA Kw x [.bool false,.top,.top]) (inR IntKind.i64 (i+(1:Int))∧eN (CD Dx (AV.clo (.func 105) []) x) i [An x,AV.clo (.func 105) [],An x,.int .i64 (↑(List.length x):Int),.int .i64 (i+(1:Int))])) (rA Kw x [.bool true,.top,.top])) (fun x=>by kernel_rfl) fun(x:List Int) (hx:x.length<2^62)=>(by
 dsimp only[cA,eA,eN,An,CD,rA,Kw,GG,Av,AA,mvL,lnL,mvE,lnE,Bi]
 have hx:x.length<2^62:=hx
 (repeat' first|(with_reducible first|rfl|exact True.intro|apply AL|apply And.intro|((first|apply AB|apply AJ|apply AC|apply AK)<;>intro _))|(apply Az<;>intro _)|apply AI|refine Ag () ?_ ?_|((first|apply AP|apply AO|apply AN|apply AM|apply AH|apply AG|apply AF|apply AE|apply AD)<;>try dsimp only)|apply Ag|(refine Prod.forall.2 ?_;intro _;try dsimp only)|(intro _;try dsimp only))
 all_goals first|exact Ks|(rename_i i hi hl e he y _ hp;exact(Kp he hp).symm)|(rename_i i hi hl e he y _ hp;exact Kt hi he hp)|(rename_i i hi hl;exact Ku hi hl)|(obtain⟨_,_,_⟩:= ‹DX _ _ _›;(try simp only[AR] at*);omega)|skip)
def Kx:Sig:= {X:=List Int,args:=fun x=>[An x,.clo (.func 61) []],pre:=fun x=>x.length<2^62,Y:=Unit,post:=fun x y=>True,res:=fun x y=> .bool (x.all EB),outs:=fun x y=>[.top,.top],keep:=false}
theorem a6A:Al G Tryz.prog 101 Kx:=
 vcFun_okP [(61,0,FA)] [] false (fun x=>[(2,CD EB (.clo (.func 61) []) x)]) Tryz.func101 rfl (by decide) ⟨Ua,trivial⟩ (fun(x:List Int)=>(∀(y:Unit),True→True∧True∧True∧True)∧eA (CD EB (AV.clo (.func 61) []) x) [An x,AV.clo (.func 61) [],An x,.int .i64 (↑(List.length x):Int),.int .i64 (0:Int)]∧∀(i:Int),DX EB x i→Aa (decide (i<(↑(List.length x):Int))) (((0:Int)≤i∧i<(↑(List.length x):Int))∧∀(e:Int),x[Int.toNat i]? =some e→cA FA [.int .i64 e] fun x_1 y=>Aa (!EB x_1) (rA Kx x [.bool false,.top,.top]) (inR IntKind.i64 (i+(1:Int))∧eN (CD EB (AV.clo (.func 61) []) x) i [An x,AV.clo (.func 61) [],An x,.int .i64 (↑(List.length x):Int),.int .i64 (i+(1:Int))])) (rA Kx x [.bool true,.top,.top])) (fun x=>by kernel_rfl) fun(x:List Int) (hx:x.length<2^62)=>(by
 dsimp only[cA,eA,eN,An,CD,rA,Kx,FA,Av,AA,mvL,lnL,mvE,lnE,Bi]
 have hx:x.length<2^62:=hx
 (repeat' first|(with_reducible first|rfl|exact True.intro|apply AL|apply And.intro|((first|apply AB|apply AJ|apply AC|apply AK)<;>intro _))|(apply Az<;>intro _)|apply AI|refine Ag () ?_ ?_|((first|apply AP|apply AO|apply AN|apply AM|apply AH|apply AG|apply AF|apply AE|apply AD)<;>try dsimp only)|apply Ag|(refine Prod.forall.2 ?_;intro _;try dsimp only)|(intro _;try dsimp only))
 all_goals first|exact Ks|(rename_i i hi hl e he y _ hp;exact(Kp he hp).symm)|(rename_i i hi hl e he y _ hp;exact Kt hi he hp)|(rename_i i hi hl;exact Ku hi hl)|(obtain⟨_,_,_⟩:= ‹DX _ _ _›;(try simp only[AR] at*);omega)|skip)
def Ky:Sig:= {X:=List Int,args:=fun x=>[An x,.clo (.func 104) []],pre:=fun x=>x.length<2^62,Y:=Unit,post:=fun x y=>True,res:=fun x y=> .bool (x.all Fv),outs:=fun x y=>[.top,.top],keep:=false}
theorem a6B:Al G Tryz.prog 101 Ky:=
 vcFun_okP [(104,0,LZ)] [] false (fun x=>[(2,CD Fv (.clo (.func 104) []) x)]) Tryz.func101 rfl (by decide) ⟨a6u,trivial⟩ (fun(x:List Int)=>(∀(y:Unit),True→True∧True∧True∧True)∧eA (CD Fv (AV.clo (.func 104) []) x) [An x,AV.clo (.func 104) [],An x,.int .i64 (↑(List.length x):Int),.int .i64 (0:Int)]∧∀(i:Int),DX Fv x i→Aa (decide (i<(↑(List.length x):Int))) (((0:Int)≤i∧i<(↑(List.length x):Int))∧∀(e:Int),x[Int.toNat i]? =some e→cA LZ [.int .i64 e] fun x_1 y=>Aa (!Fv x_1) (rA Ky x [.bool false,.top,.top]) (inR IntKind.i64 (i+(1:Int))∧eN (CD Fv (AV.clo (.func 104) []) x) i [An x,AV.clo (.func 104) [],An x,.int .i64 (↑(List.length x):Int),.int .i64 (i+(1:Int))])) (rA Ky x [.bool true,.top,.top])) (fun x=>by kernel_rfl) fun(x:List Int) (hx:x.length<2^62)=>(by
 dsimp only[cA,eA,eN,An,CD,rA,Ky,LZ,Av,AA,mvL,lnL,mvE,lnE,Bi]
 have hx:x.length<2^62:=hx
 (repeat' first|(with_reducible first|rfl|exact True.intro|apply AL|apply And.intro|((first|apply AB|apply AJ|apply AC|apply AK)<;>intro _))|(apply Az<;>intro _)|apply AI|refine Ag () ?_ ?_|((first|apply AP|apply AO|apply AN|apply AM|apply AH|apply AG|apply AF|apply AE|apply AD)<;>try dsimp only)|apply Ag|(refine Prod.forall.2 ?_;intro _;try dsimp only)|(intro _;try dsimp only))
 all_goals first|exact Ks|(rename_i i hi hl e he y _ hp;exact(Kp he hp).symm)|(rename_i i hi hl e he y _ hp;exact Kt hi he hp)|(rename_i i hi hl;exact Ku hi hl)|(obtain⟨_,_,_⟩:= ‹DX _ _ _›;(try simp only[AR] at*);omega)|skip)
def Kz:Sig:= {X:=List Int,args:=fun x=>[An x,.clo (.func 106) []],pre:=fun x=>x.length<2^62,Y:=Unit,post:=fun x y=>True,res:=fun x y=> .bool (x.all EC),outs:=fun x y=>[.top,.top],keep:=false}
theorem a6C:Al G Tryz.prog 101 Kz:=
 vcFun_okP [(106,0,Kq)] [] false (fun x=>[(2,CD EC (.clo (.func 106) []) x)]) Tryz.func101 rfl (by decide) ⟨a6v,trivial⟩ (fun(x:List Int)=>(∀(y:Unit),True→True∧True∧True∧True)∧eA (CD EC (AV.clo (.func 106) []) x) [An x,AV.clo (.func 106) [],An x,.int .i64 (↑(List.length x):Int),.int .i64 (0:Int)]∧∀(i:Int),DX EC x i→Aa (decide (i<(↑(List.length x):Int))) (((0:Int)≤i∧i<(↑(List.length x):Int))∧∀(e:Int),x[Int.toNat i]? =some e→cA Kq [.int .i64 e] fun x_1 y=>Aa (!EC x_1) (rA Kz x [.bool false,.top,.top]) (inR IntKind.i64 (i+(1:Int))∧eN (CD EC (AV.clo (.func 106) []) x) i [An x,AV.clo (.func 106) [],An x,.int .i64 (↑(List.length x):Int),.int .i64 (i+(1:Int))])) (rA Kz x [.bool true,.top,.top])) (fun x=>by kernel_rfl) fun(x:List Int) (hx:x.length<2^62)=>(by
 dsimp only[cA,eA,eN,An,CD,rA,Kz,Kq,Av,AA,mvL,lnL,mvE,lnE,Bi]
 have hx:x.length<2^62:=hx
 (repeat' first|(with_reducible first|rfl|exact True.intro|apply AL|apply And.intro|((first|apply AB|apply AJ|apply AC|apply AK)<;>intro _))|(apply Az<;>intro _)|apply AI|refine Ag () ?_ ?_|((first|apply AP|apply AO|apply AN|apply AM|apply AH|apply AG|apply AF|apply AE|apply AD)<;>try dsimp only)|apply Ag|(refine Prod.forall.2 ?_;intro _;try dsimp only)|(intro _;try dsimp only))
 all_goals first|exact Ks|(rename_i i hi hl e he y _ hp;exact(Kp he hp).symm)|(rename_i i hi hl e he y _ hp;exact Kt hi he hp)|(rename_i i hi hl;exact Ku hi hl)|(obtain⟨_,_,_⟩:= ‹DX _ _ _›;(try simp only[AR] at*);omega)|skip)
def KA:Sig:= {X:=List Int,args:=fun x=>[An x,.clo (.func 107) []],pre:=fun x=>x.length<2^62,Y:=Unit,post:=fun x y=>True,res:=fun x y=> .bool (x.all GD),outs:=fun x y=>[.top,.top],keep:=false}
theorem a6D:Al G Tryz.prog 101 KA:=
 vcFun_okP [(107,0,Kr)] [] false (fun x=>[(2,CD GD (.clo (.func 107) []) x)]) Tryz.func101 rfl (by decide) ⟨a6w,trivial⟩ (fun(x:List Int)=>(∀(y:Unit),True→True∧True∧True∧True)∧eA (CD GD (AV.clo (.func 107) []) x) [An x,AV.clo (.func 107) [],An x,.int .i64 (↑(List.length x):Int),.int .i64 (0:Int)]∧∀(i:Int),DX GD x i→Aa (decide (i<(↑(List.length x):Int))) (((0:Int)≤i∧i<(↑(List.length x):Int))∧∀(e:Int),x[Int.toNat i]? =some e→cA Kr [.int .i64 e] fun x_1 y=>Aa (!GD x_1) (rA KA x [.bool false,.top,.top]) (inR IntKind.i64 (i+(1:Int))∧eN (CD GD (AV.clo (.func 107) []) x) i [An x,AV.clo (.func 107) [],An x,.int .i64 (↑(List.length x):Int),.int .i64 (i+(1:Int))])) (rA KA x [.bool true,.top,.top])) (fun x=>by kernel_rfl) fun(x:List Int) (hx:x.length<2^62)=>(by
 dsimp only[cA,eA,eN,An,CD,rA,KA,Kr,Av,AA,mvL,lnL,mvE,lnE,Bi]
 have hx:x.length<2^62:=hx
 (repeat' first|(with_reducible first|rfl|exact True.intro|apply AL|apply And.intro|((first|apply AB|apply AJ|apply AC|apply AK)<;>intro _))|(apply Az<;>intro _)|apply AI|refine Ag () ?_ ?_|((first|apply AP|apply AO|apply AN|apply AM|apply AH|apply AG|apply AF|apply AE|apply AD)<;>try dsimp only)|apply Ag|(refine Prod.forall.2 ?_;intro _;try dsimp only)|(intro _;try dsimp only))
 all_goals first|exact Ks|(rename_i i hi hl e he y _ hp;exact(Kp he hp).symm)|(rename_i i hi hl e he y _ hp;exact Kt hi he hp)|(rename_i i hi hl;exact Ku hi hl)|(obtain⟨_,_,_⟩:= ‹DX _ _ _›;(try simp only[AR] at*);omega)|skip)
def HP:Sig:= {X:=List Int,args:=fun x=>[An x,.clo (.func 132) []],pre:=fun x=>x.length<2^62,Y:=Unit,post:=fun x y=>True,res:=fun x y=> .bool (x.all DV),outs:=fun x y=>[.top,.top],keep:=false}
theorem Ya:Al G Tryz.prog 101 HP:=
 vcFun_okP [(132,0,Ma)] [] false (fun x=>[(2,CD DV (.clo (.func 132) []) x)]) Tryz.func101 rfl (by decide) ⟨a6x,trivial⟩ (fun(x:List Int)=>(∀(y:Unit),True→True∧True∧True∧True)∧eA (CD DV (AV.clo (.func 132) []) x) [An x,AV.clo (.func 132) [],An x,.int .i64 (↑(List.length x):Int),.int .i64 (0:Int)]∧∀(i:Int),DX DV x i→Aa (decide (i<(↑(List.length x):Int))) (((0:Int)≤i∧i<(↑(List.length x):Int))∧∀(e:Int),x[Int.toNat i]? =some e→cA Ma [.int .i64 e] fun x_1 y=>Aa (!DV x_1) (rA HP x [.bool false,.top,.top]) (inR IntKind.i64 (i+(1:Int))∧eN (CD DV (AV.clo (.func 132) []) x) i [An x,AV.clo (.func 132) [],An x,.int .i64 (↑(List.length x):Int),.int .i64 (i+(1:Int))])) (rA HP x [.bool true,.top,.top])) (fun x=>by kernel_rfl) fun(x:List Int) (hx:x.length<2^62)=>(by
 dsimp only[cA,eA,eN,An,CD,rA,HP,Ma,Av,AA,mvL,lnL,mvE,lnE,Bi]
 have hx:x.length<2^62:=hx
 (repeat' first|(with_reducible first|rfl|exact True.intro|apply AL|apply And.intro|((first|apply AB|apply AJ|apply AC|apply AK)<;>intro _))|(apply Az<;>intro _)|apply AI|refine Ag () ?_ ?_|((first|apply AP|apply AO|apply AN|apply AM|apply AH|apply AG|apply AF|apply AE|apply AD)<;>try dsimp only)|apply Ag|(refine Prod.forall.2 ?_;intro _;try dsimp only)|(intro _;try dsimp only))
 all_goals first|exact Ks|(rename_i i hi hl e he y _ hp;exact(Kp he hp).symm)|(rename_i i hi hl e he y _ hp;exact Kt hi he hp)|(rename_i i hi hl;exact Ku hi hl)|(obtain⟨_,_,_⟩:= ‹DX _ _ _›;(try simp only[AR] at*);omega)|skip)
theorem Yb{p:Int→Bool}{x:List Int}(h:¬(0:Int)<x.length):false=Fw p x:=by
 obtain rfl:x=[]:=List.length_eq_zero_iff.1 (by omega)
 rfl
theorem Yc{p:Int→Bool}{x:List Int}{e:Int}(he:x[(x.length-1:Int).toNat]? =some e):Fw p x=(p e&&(x.take (x.length-1:Int).toNat).all DV):=by
 have e1:(x.length-1:Int).toNat=x.length-1:=by omega
 rw[e1] at he ⊢
 unfold Fw
 rw[List.getLast?_eq_getElem?,he,List.dropLast_eq_take]
def Jw:Sig:= {X:=List Int,args:=fun x=>[An x,.clo (.func 102) []],pre:=fun x=>x.length<2^62,Y:=Unit,post:=fun x y=>True,res:=fun x y=> .bool (Fw BE x),outs:=fun x y=>[.top,.top],keep:=false}
theorem a6E:Al G Tryz.prog 103 Jw:=
 vcFun_okP [(102,0,Fz),(101,132+1,HP)] [] false (fun x=>[]) Tryz.func103 rfl (by decide) ⟨TY,Ya,trivial⟩ (fun(x:List Int)=>(∀(y:Unit),True→True∧True∧True∧True)∧Aa (decide ((↑(List.length x):Int)>(0:Int))) (inR IntKind.i64 ((↑(List.length x):Int)-(1:Int))∧((0:Int)≤(↑(List.length x):Int)-(1:Int)∧(↑(List.length x):Int)-(1:Int)<(↑(List.length x):Int))∧∀(e:Int),x[Int.toNat ((↑(List.length x):Int)-(1:Int))]? =some e→cA Fz [.int .i64 e] fun x_1 y=>Aa (BE x_1) (inR IntKind.i64 ((↑(List.length x):Int)-(1:Int))∧((0:Int)≤(0:Int)∧(0:Int)≤(↑(List.length x):Int)-(1:Int)∧(↑(List.length x):Int)-(1:Int)≤(↑(List.length x):Int))∧cA HP [An (List.take (Int.toNat ((↑(List.length x):Int)-(1:Int))) x),AV.clo (Fn.func (161:Nat)) []] fun x_2 y=>rA Jw x [.bool (List.all x_2 DV),.top,.top]) (rA Jw x [.bool false,.top,.top])) (rA Jw x [.bool false,.top,.top])) (fun x=>by kernel_rfl) fun(x:List Int) (hx:x.length<2^62)=>(by
 dsimp only[cA,An,rA,HP,Fz,Jw,Av,AA,mvL,lnL,mvE,lnE]
 have hx:x.length<2^62:=hx
 (repeat' first|(with_reducible first|rfl|exact True.intro|apply AL|apply And.intro|((first|apply AB|apply AJ|apply AC|apply AK)<;>intro _))|(apply Az<;>intro _)|apply AI|refine Ag () ?_ ?_|((first|apply AP|apply AO|apply AN|apply AM|apply AH|apply AG|apply AF|apply AE|apply AD)<;>try dsimp only)|apply Ag|(refine Prod.forall.2 ?_;intro _;try dsimp only)|(intro _;try dsimp only))<;>(try dsimp only at*)<;>(try simp only[AR,List.length_cons,List.length_nil])<;>(try omega)
 all_goals first|exact Yb (by omega)|(rw[Yc ‹_›];simp [*];done)|(rw[List.length_take];omega)|skip)
def Jx:Sig:= {X:=List Int,args:=fun x=>[An x,.clo (.func 105) []],pre:=fun x=>x.length<2^62,Y:=Unit,post:=fun x y=>True,res:=fun x y=> .bool (Fw Dx x),outs:=fun x y=>[.top,.top],keep:=false}
theorem a6F:Al G Tryz.prog 103 Jx:=
 vcFun_okP [(105,0,GG),(101,132+1,HP)] [] false (fun x=>[]) Tryz.func103 rfl (by decide) ⟨TZ,Ya,trivial⟩ (fun(x:List Int)=>(∀(y:Unit),True→True∧True∧True∧True)∧Aa (decide ((↑(List.length x):Int)>(0:Int))) (inR IntKind.i64 ((↑(List.length x):Int)-(1:Int))∧((0:Int)≤(↑(List.length x):Int)-(1:Int)∧(↑(List.length x):Int)-(1:Int)<(↑(List.length x):Int))∧∀(e:Int),x[Int.toNat ((↑(List.length x):Int)-(1:Int))]? =some e→cA GG [.int .i64 e] fun x_1 y=>Aa (Dx x_1) (inR IntKind.i64 ((↑(List.length x):Int)-(1:Int))∧((0:Int)≤(0:Int)∧(0:Int)≤(↑(List.length x):Int)-(1:Int)∧(↑(List.length x):Int)-(1:Int)≤(↑(List.length x):Int))∧cA HP [An (List.take (Int.toNat ((↑(List.length x):Int)-(1:Int))) x),AV.clo (Fn.func (161:Nat)) []] fun x_2 y=>rA Jx x [.bool (List.all x_2 DV),.top,.top]) (rA Jx x [.bool false,.top,.top])) (rA Jx x [.bool false,.top,.top])) (fun x=>by kernel_rfl) fun(x:List Int) (hx:x.length<2^62)=>(by
 dsimp only[cA,An,rA,HP,GG,Jx,Av,AA,mvL,lnL,mvE,lnE]
 have hx:x.length<2^62:=hx
 (repeat' first|(with_reducible first|rfl|exact True.intro|apply AL|apply And.intro|((first|apply AB|apply AJ|apply AC|apply AK)<;>intro _))|(apply Az<;>intro _)|apply AI|refine Ag () ?_ ?_|((first|apply AP|apply AO|apply AN|apply AM|apply AH|apply AG|apply AF|apply AE|apply AD)<;>try dsimp only)|apply Ag|(refine Prod.forall.2 ?_;intro _;try dsimp only)|(intro _;try dsimp only))<;>(try dsimp only at*)<;>(try simp only[AR,List.length_cons,List.length_nil])<;>(try omega)
 all_goals first|exact Yb (by omega)|(rw[Yc ‹_›];simp [*];done)|(rw[List.length_take];omega)|skip)
def BO:Sig:= {X:=Int×List Int,args:=fun x=>[.int .i64 x.1,An x.2],pre:=fun x=>x.2.length<2^62,Y:=Unit,post:=fun x y=>True,res:=fun x y=> .bool (Ds x.1 x.2),outs:=fun x y=>[.top,.top],keep:=false}
theorem a6G:Al G Tryz.prog 62 BO:=
 vcFun_okP [(102,0,Fz),(105,0,GG),(57,0,EP),(101,102+1,Kv),(101,105+1,Kw),(101,61+1,Kx),(101,104+1,Ky),(101,106+1,Kz),(101,107+1,KA),(103,102+1,Jw),(103,105+1,Jx)] [] false (fun x=>[]) Tryz.func62 rfl (by decide) ⟨TY,TZ,PY,a6y,a6z,a6A,a6B,a6C,a6D,a6E,a6F,trivial⟩ (fun(x:Int×List Int)=>(∀(y:Unit),True→True∧True∧True∧True)∧cA Kv [An x.2,AV.clo (Fn.func (126:Nat)) []] fun x_1 y=>Aa (x.1==(1:Int)) (rA BO x [.bool ((↑(List.length x.2):Int)==(0:Int)),.top,.top]) (Aa (x.1==(2:Int)) (rA BO x [.bool ((↑(List.length x.2):Int)==(0:Int)),.top,.top]) (Aa (x.1==(3:Int)) (rA BO x [.bool ((↑(List.length x.2):Int)==(0:Int)),.top,.top]) (Aa (x.1==(19:Int)) (rA BO x [.bool ((↑(List.length x.2):Int)==(0:Int)),.top,.top]) (Aa (x.1==(4:Int)) (rA BO x [.bool (List.all x_1 BE),.top,.top]) (Aa (x.1==(5:Int)) (Aa (decide ((↑(List.length x.2):Int)≥(1:Int))) (rA BO x [.bool (List.all x_1 BE),.top,.top]) (rA BO x [.bool false,.top,.top])) (Aa (x.1==(7:Int)) (Aa (decide ((↑(List.length x.2):Int)≥(2:Int))) (rA BO x [.bool (List.all x_1 BE),.top,.top]) (rA BO x [.bool false,.top,.top])) (Aa (x.1==(8:Int)) (Aa ((↑(List.length x.2):Int)==(3:Int)) (rA BO x [.bool (List.all x_1 BE),.top,.top]) (rA BO x [.bool false,.top,.top])) (Aa (x.1==(6:Int)) (Aa ((↑(List.length x.2):Int)==(1:Int)) (rA BO x [.bool (List.all x_1 BE),.top,.top]) (rA BO x [.bool false,.top,.top])) (Aa (x.1==(11:Int)) (Aa ((↑(List.length x.2):Int)==(1:Int)) (rA BO x [.bool (List.all x_1 BE),.top,.top]) (rA BO x [.bool false,.top,.top])) (Aa (x.1==(13:Int)) (Aa ((↑(List.length x.2):Int)==(1:Int)) (rA BO x [.bool (List.all x_1 BE),.top,.top]) (rA BO x [.bool false,.top,.top])) (Aa (x.1==(14:Int)) (Aa ((↑(List.length x.2):Int)==(1:Int)) (rA BO x [.bool (List.all x_1 BE),.top,.top]) (rA BO x [.bool false,.top,.top])) (Aa (x.1==(12:Int)) (Aa (decide ((↑(List.length x.2):Int)≤(1:Int))) (rA BO x [.bool (List.all x_1 BE),.top,.top]) (rA BO x [.bool false,.top,.top])) (Aa (x.1==(15:Int)) (Aa (decide ((↑(List.length x.2):Int)≤(1:Int))) (rA BO x [.bool (List.all x_1 BE),.top,.top]) (rA BO x [.bool false,.top,.top])) (Aa (x.1==(9:Int)) (cA Jw [An x.2,AV.clo (Fn.func (126:Nat)) []] fun x_2 y=>rA BO x [.bool (Fw BE x_2),.top,.top]) (Aa (x.1==(10:Int)) (Aa (decide ((↑(List.length x.2):Int)≥(2:Int))) (((0:Int)≤(0:Int)∧(0:Int)<(↑(List.length x.2):Int))∧∀(e:Int),x.2[(0:Nat)]? =some e→cA Fz [.int .i64 e] fun x_2 y=>Aa (BE x_2) (((0:Int)≤(1:Int)∧(1:Int)≤(↑(List.length x.2):Int)∧(↑(List.length x.2):Int)≤(↑(List.length x.2):Int))∧cA Ky [An (List.drop (1:Nat) x.2),AV.clo (Fn.func (128:Nat)) []] fun x_3 y=>rA BO x [.bool (List.all x_3 Fv),.top,.top]) (rA BO x [.bool false,.top,.top])) (rA BO x [.bool false,.top,.top])) (Aa (x.1==(16:Int)) (cA EP [.int .i64 (↑(List.length x.2):Int),.int .i64 (2:Int),.int .i64 (3:Int)] fun x_2 y=>Aa (inn x_2.1 x_2.2.1 x_2.2.2) (((0:Int)≤(0:Int)∧(0:Int)<(↑(List.length x.2):Int))∧∀(e:Int),x.2[(0:Nat)]? =some e→cA Fz [.int .i64 e] fun x_3 y=>Aa (BE x_3) (((0:Int)≤(1:Int)∧(1:Int)≤(↑(List.length x.2):Int)∧(↑(List.length x.2):Int)≤(↑(List.length x.2):Int))∧cA Kw [An (List.drop (1:Nat) x.2),AV.clo (Fn.func (129:Nat)) []] fun x_4 y=>rA BO x [.bool (List.all x_4 Dx),.top,.top]) (rA BO x [.bool false,.top,.top])) (rA BO x [.bool false,.top,.top])) (Aa (x.1==(17:Int)) (Aa ((↑(List.length x.2):Int)==(2:Int)) (((0:Int)≤(0:Int)∧(0:Int)<(↑(List.length x.2):Int))∧∀(e:Int),x.2[(0:Nat)]? =some e→cA Fz [.int .i64 e] fun x_2 y=>Aa (BE x_2) (((0:Int)≤(1:Int)∧(1:Int)<(↑(List.length x.2):Int))∧∀(e:Int),x.2[(1:Nat)]? =some e→cA GG [.int .i64 e] fun x_3 y=>rA BO x [.bool (Dx x_3),.top,.top]) (rA BO x [.bool false,.top,.top])) (rA BO x [.bool false,.top,.top])) (Aa (x.1==(18:Int)) (cA Kz [An x.2,AV.clo (Fn.func (130:Nat)) []] fun x_2 y=>rA BO x [.bool (List.all x_2 EC),.top,.top]) (Aa (x.1==(20:Int)) (cA Jx [An x.2,AV.clo (Fn.func (129:Nat)) []] fun x_2 y=>rA BO x [.bool (Fw Dx x_2),.top,.top]) (Aa (x.1==(21:Int)) (cA Kx [An x.2,AV.clo (Fn.func (99:Nat)) []] fun x_2 y=>rA BO x [.bool (List.all x_2 EB),.top,.top]) (Aa (x.1==(22:Int)) (cA KA [An x.2,AV.clo (Fn.func (131:Nat)) []] fun x_2 y=>rA BO x [.bool (List.all x_2 GD),.top,.top]) (rA BO x [.bool false,.top,.top]))))))))))))))))))))))) (fun x=>by kernel_rfl) fun(x:Int×List Int) (hx:x.2.length<2^62)=>(by
 dsimp only[cA,An,rA,Kw,Ky,Kx,Kz,KA,Kv,EP,GG,Fz,BO,Jx,Jw,Av,AA,mvL,lnL,mvE,lnE]
 have hx:x.2.length<2^62:=hx
 obtain⟨k,l⟩:=x
 (repeat' first|(with_reducible first|rfl|exact True.intro|apply AL|apply And.intro|((first|apply AB|apply AJ|apply AC|apply AK)<;>intro _))|(apply Az<;>intro _)|apply AI|refine Ag () ?_ ?_|((first|apply AP|apply AO|apply AN|apply AM|apply AH|apply AG|apply AF|apply AE|apply AD)<;>try dsimp only)|apply Ag|(refine Prod.forall.2 ?_;intro _;try dsimp only)|(intro _;try dsimp only))<;>(try dsimp only at*)<;>(try simp only[AR,List.length_cons,List.length_nil])<;>(try omega)
 all_goals try(simp only[List.length_drop];omega)
 all_goals try(simp [Ds,Fy, *]<;>omega)
 all_goals(match l with
  |[]=>simp_all [Ds,inn]<;>omega
  |[a]=>simp_all [Ds,inn]<;>omega
  |[a,b]=>simp_all [Ds,inn]<;>omega
  |[a,b,c]=>simp_all [Ds,inn]<;>omega
  |a::b::c::d::m=>simp_all [Ds,inn]<;>omega))
def Ga:Sig:= {X:=List Nd×Int,args:=fun x=>[nds x.1,.int .i64 x.2],pre:=fun x=>x.1.length<2^62,Y:=Unit,post:=fun x y=>True,res:=fun x y=> .bool (isNd x.1 x.2),outs:=fun x y=>[.top,.top],keep:=false}
theorem Ub:Al G Tryz.prog 52 Ga:=
 vcFun_okP [] [] false (fun x=>[]) Tryz.func52 rfl (by decide) trivial (fun(x:List Nd×Int)=>(∀(y:Unit),True→True∧True∧True∧True)∧Aa (decide (x.2≥(0:Int))) (rA Ga x [.bool (decide (x.2<(↑(List.length x.1):Int))),.top,.top]) (rA Ga x [.bool false,.top,.top])) (fun x=>by kernel_rfl) fun(x:List Nd×Int) (hx:x.1.length<2^62)=>(by
 dsimp only[Bt,nds,rA,Ga,Av,AA]
 have hx:x.1.length<2^62:=hx
 (repeat' first|(with_reducible first|rfl|exact True.intro|apply AL|apply And.intro|((first|apply AB|apply AJ|apply AC|apply AK)<;>intro _))|(apply Az<;>intro _)|apply AI|refine Ag () ?_ ?_|((first|apply AP|apply AO|apply AN|apply AM|apply AH|apply AG|apply AF|apply AE|apply AD)<;>try dsimp only)|apply Ag|(refine Prod.forall.2 ?_;intro _;try dsimp only)|(intro _;try dsimp only))<;>(try dsimp only at*)<;>(try simp only[AR,List.length_cons,List.length_nil])<;>(try omega)
 all_goals simp [isNd, *])
end Go.My
end
section
set_option linter.unusedVariables false
set_option linter.unusedSimpArgs false
namespace Go.My
open Go.Eng Go.Proofs
variable {G:GInv}
def NV(x:Nd):Prop:=x.text.length<2^62∧x.kids.length<2^62
def Bc(l:List Nd):Prop:=l.length<2^62∧∀x∈l,NV x
theorem a6H{l:List Nd}{n:Nat}{x:Nd}(hx:l[n]? =some x)(h:Bc l):NV x:=h.2 x (CZ hx)
def GH(v:Int):List Int→Int→Int
 |[],_=> -1
 |c::l,i=>if v=c then i else GH v l (i+1)
theorem Yd{v:Int}:∀ {l:List Int} {i:Int},0≤i→(0≤GH v l i↔v∈l)
 |[],i,h=>by simp [GH]
 |c::l,i,h=>by
  unfold GH
  by_cases e:v=c
  ·simp [e,h]
  ·rw[if_neg e,Yd (by omega)];simp [e]
def KB:Sig:= {X:=List Int×Int,args:=fun x=>[An x.1,.int .i64 x.2],pre:=fun x=>x.1.length<2^62,Y:=Unit,post:=fun x y=>True,res:=fun x y=> .int .i64 (GH x.2 x.1 0),outs:=fun x y=>[.top,.top],keep:=false}
def Qg(x:List Int×Int):LS:= {ι:=Int,inv:=fun i=>(0≤i∧i≤x.1.length)∧GH x.2 (x.1.drop i.toNat) i=GH x.2 x.1 0,regs:=fun i=>[(0,An x.1),(1,.int .i64 x.2),(7,.int .i64 x.1.length),(8,.int .i64 i)],als:=[],meas:=fun i=>x.1.length-i.toNat}
theorem a6I:Al G Tryz.prog 100 KB:=
 vcFun_okP [] [] false (fun x=>[(2,Qg x)]) Tryz.func100 rfl (by decide) trivial (fun(x:List Int×Int)=>(∀(y:Unit),True→True∧True∧True∧True)∧eA (Qg x) [An x.1,.int .i64 x.2,.int .i64 (↑(List.length x.1):Int),.int .i64 (0:Int)]∧∀(i:Int),((0:Int)≤i∧i≤(↑(List.length x.1):Int))∧GH x.2 (List.drop (Int.toNat i) x.1) i=GH x.2 x.1 (0:Int)→Aa (decide (i<(↑(List.length x.1):Int))) (((0:Int)≤i∧i<(↑(List.length x.1):Int))∧∀(e:Int),x.1[Int.toNat i]? =some e→Aa (x.2==e) (rA KB x [.int .i64 i,.top,.top]) (inR IntKind.i64 (i+(1:Int))∧eN (Qg x) i [An x.1,.int .i64 x.2,.int .i64 (↑(List.length x.1):Int),.int .i64 (i+(1:Int))])) (rA KB x [.int .i64 (-1:Int),.top,.top])) (fun x=>by kernel_rfl) fun(x:List Int×Int) (hx:x.1.length<2^62)=>(by
 dsimp only[eA,eN,Qg,An,rA,KB,Av,AA,Bi]
 have hx:x.1.length<2^62:=hx
 (repeat' first|(with_reducible first|rfl|exact True.intro|apply AL|apply And.intro|((first|apply AB|apply AJ|apply AC|apply AK)<;>intro _))|(apply Az<;>intro _)|apply AI|refine Ag () ?_ ?_|((first|apply AP|apply AO|apply AN|apply AM|apply AH|apply AG|apply AF|apply AE|apply AD)<;>try dsimp only)|apply Ag|(refine Prod.forall.2 ?_;intro _;try dsimp only)|(intro _;try dsimp only))<;>(try dsimp only at*)<;>(try simp only[AR,List.length_cons,List.length_nil])<;>(try omega)
 all_goals first
  |(rename_i i hi hl e he h;rw[←hi.2,HM he];simp [GH,h];done)
  |(rename_i i hi hl e he h;rw[←hi.2,HM he,Dv hi.1.1];simp [GH,h];done)
  |rfl
  |(rename_i i hi hl;rw[←hi.2,List.drop_eq_nil_of_le (by omega)];rfl)
  |skip)
def Iu:Sig:= {X:=List Int×Int,args:=fun x=>[An x.1,.int .i64 x.2],pre:=fun x=>x.1.length<2^62,Y:=Unit,post:=fun x y=>True,res:=fun x y=> .bool (x.1.elem x.2),outs:=fun x y=>[.top,.top],keep:=false}
theorem Ye:Al G Tryz.prog 59 Iu:=
 vcFun_okP [(100,0,KB)] [] false (fun x=>[]) Tryz.func59 rfl (by decide) ⟨a6I,trivial⟩ (fun(x:List Int×Int)=>(∀(y:Unit),True→True∧True∧True∧True)∧cA KB [An x.1,.int .i64 x.2] fun x_1 y=>rA Iu x [.bool (decide (GH x_1.2 x_1.1 (0:Int)≥(0:Int))),.top,.top]) (fun x=>by kernel_rfl) fun(x:List Int×Int) (hx:x.1.length<2^62)=>(by
 dsimp only[cA,An,rA,Iu,KB,Av,AA,mvL,lnL,mvE,lnE]
 have hx:x.1.length<2^62:=hx
 (repeat' first|(with_reducible first|rfl|exact True.intro|apply AL|apply And.intro|((first|apply AB|apply AJ|apply AC|apply AK)<;>intro _))|(apply Az<;>intro _)|apply AI|refine Ag () ?_ ?_|((first|apply AP|apply AO|apply AN|apply AM|apply AH|apply AG|apply AF|apply AE|apply AD)<;>try dsimp only)|apply Ag|(refine Prod.forall.2 ?_;intro _;try dsimp only)|(intro _;try dsimp only))<;>(try dsimp only at*)<;>(try simp only[AR,List.length_cons,List.length_nil])<;>(try omega)
 all_goals first|(rw[Bool.eq_iff_iff,decide_eq_true_iff,List.elem_iff];exact Yd (by omega))|skip)
theorem Yf{ns:List Nd}{x:Nd}:DW ns x=true↔∀(j:Nat) c,x.kids[j]? =some c→callOk ns x j c=true:=by
 have e:DW ns x=BN (fun i c=>callOk ns x i.toNat c) x.kids 0:=by
  unfold DW
  have:(fun p:Int×Nat=>callOk ns x p.2 p.1)=fun p:Int×Nat=>(fun(i c:Int)=>callOk ns x i.toNat c) p.2 p.1:=by funext p;simp
  rw[this];exact TM (f:=fun i c=>callOk ns x i.toNat c) (i:=0)
 rw[e,TN];simp
def cfI(ns:List Nd)(x:Nd)(i:Int):Prop:=0≤i∧i≤x.kids.length∧∀(j:Nat) c,(j:Int)<i→x.kids[j]? =some c→callOk ns x j c=true
theorem a6J{ns:List Nd}{x:Nd}:cfI ns x 0:=⟨by omega,by omega,fun j c h=>by omega⟩
theorem Qh{ns:List Nd}{x:Nd}{i c:Int}(h:cfI ns x i)(hc:x.kids[i.toNat]? =some c)(hk:callOk ns x i.toNat c=true):cfI ns x (i+1):=by
 obtain⟨h1,h2,h3⟩:=h
 have:=(Fd hc).1
 refine⟨by omega,by omega,fun j d hj hd=> ?_⟩
 by_cases e:(j:Int)<i
 ·exact h3 j d e hd
 ·obtain rfl:j=i.toNat:=by omega
  rw[hc] at hd;cases hd;exact hk
theorem a6K{ns:List Nd}{x:Nd}{i:Int}(h:cfI ns x i)(hl:¬i<x.kids.length):true=DW ns x:=by
 symm;rw[Yf];intro j c hc
 exact h.2.2 j c (by have:=(Fd hc).1;omega) hc
theorem Uc{ns:List Nd}{x:Nd}{i c:Int}(hc:x.kids[i.toNat]? =some c)(hk:callOk ns x i.toNat c=false):false=DW ns x:=by
 symm;rw[Bool.eq_false_iff];intro h
 rw[Yf.1 h _ _ hc] at hk;cases hk
theorem a6L{ns:List Nd}{x y:Nd}{i c:Int}(hy:ns[c.toNat]? =some y)(h:y.kind≠5):callOk ns x i.toNat c=true:=by
 simp [callOk,AZ hy,h]
theorem a6M{ns:List Nd}{x y:Nd}{i c:Int}(hy:ns[c.toNat]? =some y)(h:y.kind=5)(h0:(y.kids.length:Int)=0):callOk ns x i.toNat c=false:=by
 have h0:=List.length_eq_zero_iff.1 (show y.kids.length=0 by omega)
 simp [callOk,AZ hy,h,h0]
theorem a6N{ns:List Nd}{x y:Nd}{i c d:Int}(hy:ns[c.toNat]? =some y)(h:y.kind=5)(hd:isNd ns d=false)(h0:y.kids[0]? =some d):callOk ns x i.toNat c=false:=by
 match hk:y.kids with
 |[]=>rw[hk] at h0;cases h0
 |e::t=>rw[hk] at h0;cases h0;simp [callOk,AZ hy,h,hk,hd]
theorem a6O{ns:List Nd}{x y z:Nd}{i c d d':Int}(hy:ns[c.toNat]? =some y)(h:y.kind=5)(hd:isNd ns d=true)(h0:y.kids[0]? =some d)(hz:ns[d'.toNat]? =some z)(h0':y.kids[0]? =some d')(h10:x.kind=10)(hi:i>0)(h1:z.kind≠1):callOk ns x i.toNat c=false:=by
 match hk:y.kids with
 |[]=>rw[hk] at h0;cases h0
 |e::t=>rw[hk] at h0 h0';cases h0;cases h0';simp [callOk,AZ hy,h,hk,hd,h10,kindAt,AZ hz,h1];omega
theorem a6P{ns:List Nd}{x y z:Nd}{i c d d':Int}(hy:ns[c.toNat]? =some y)(h:y.kind=5)(hd:isNd ns d=true)(h0:y.kids[0]? =some d)(hz:ns[d'.toNat]? =some z)(h0':y.kids[0]? =some d')(h1:z.kind=1):callOk ns x i.toNat c=true:=by
 match hk:y.kids with
 |[]=>rw[hk] at h0;cases h0
 |e::t=>rw[hk] at h0 h0';cases h0;cases h0';simp [callOk,AZ hy,h,hk,hd,kindAt,AZ hz,h1]
theorem a6Q{ns:List Nd}{x y:Nd}{i c d:Int}(hy:ns[c.toNat]? =some y)(h:y.kind=5)(hd:isNd ns d=true)(h0:y.kids[0]? =some d)(h1:x.kind≠10):callOk ns x i.toNat c=true:=by
 match hk:y.kids with
 |[]=>rw[hk] at h0;cases h0
 |e::t=>rw[hk] at h0;cases h0;simp [callOk,AZ hy,h,hk,hd,h1]
theorem a6R{ns:List Nd}{x y:Nd}{i c d:Int}(hy:ns[c.toNat]? =some y)(h:y.kind=5)(hd:isNd ns d=true)(h0:y.kids[0]? =some d)(h1:¬i>0):callOk ns x i.toNat c=true:=by
 have:i.toNat=0:=by omega
 match hk:y.kids with
 |[]=>rw[hk] at h0;cases h0
 |e::t=>rw[hk] at h0;cases h0;simp [callOk,AZ hy,h,hk,hd,this]
theorem ndB{ns:List Nd}{l:List Int}{d d':Int}(hd:isNd ns d=true)(h0:l[0]? =some d)(h0':l[0]? =some d'):0≤d'∧d'<ns.length:=by
 rw[h0] at h0';cases h0';exact Ci.1 hd
def Hp:Sig:= {X:=List Nd×Nd,args:=fun x=>[nds x.1,.agg (ndA false x.2)],pre:=fun x=>Bc x.1∧NV x.2∧∀c∈x.2.kids,0≤c∧c<x.1.length,Y:=Unit,post:=fun x y=>True,res:=fun x y=> .bool (DW x.1 x.2),outs:=fun x y=>[.top,.top],keep:=false}
def KC(x:List Nd×Nd):LS:= {ι:=Int,inv:=cfI x.1 x.2,regs:=fun i=>[(0,nds x.1),(3,.box 0 (ndA false x.2)),(9,An x.2.kids),(10,.int .i64 x.2.kids.length),(11,.int .i64 i)],als:=[],meas:=fun i=>x.2.kids.length-i.toNat}
theorem a6S:Al G Tryz.prog 63 Hp:=
 vcFun_okP [(52,0,Ga)] [] false (fun x=>[(2,KC x)]) Tryz.func63 rfl (by decide) ⟨Ub,trivial⟩ (fun(x:List Nd×Nd)=>(∀(y:Unit),True→True∧True∧True∧True)∧eA (KC x) [nds x.1,.box 0 [.int .i64 x.2.kind,.str x.2.text,An x.2.kids,.bool x.2.blank],An x.2.kids,.int .i64 (↑(List.length x.2.kids):Int),.int .i64 (0:Int)]∧∀(i:Int),cfI x.1 x.2 i→Aa (decide (i<(↑(List.length x.2.kids):Int))) (((0:Int)≤i∧i<(↑(List.length x.2.kids):Int))∧∀(e:Int),x.2.kids[Int.toNat i]? =some e→((0:Int)≤e∧e<(↑(List.length x.1):Int))∧∀(e_1:Nd),x.1[Int.toNat e]? =some e_1→Aa (e_1.kind != (5:Int)) (inR IntKind.i64 (i+(1:Int))∧eN (KC x) i [nds x.1,.box 0 [.int .i64 x.2.kind,.str x.2.text,An x.2.kids,.bool x.2.blank],An x.2.kids,.int .i64 (↑(List.length x.2.kids):Int),.int .i64 (i+(1:Int))]) (Aa ((↑(List.length e_1.kids):Int)==(0:Int)) (rA Hp x [.bool false,.top,.top]) (((0:Int)≤(0:Int)∧(0:Int)<(↑(List.length e_1.kids):Int))∧∀(e:Int),e_1.kids[(0:Nat)]? =some e→cA Ga [nds x.1,.int .i64 e] fun x_1 y=>Aa (!isNd x_1.1 x_1.2) (rA Hp x [.bool false,.top,.top]) (Aa (x.2.kind==(10:Int)) (Aa (decide (i>(0:Int))) (((0:Int)≤(0:Int)∧(0:Int)<(↑(List.length e_1.kids):Int))∧∀(e:Int),e_1.kids[(0:Nat)]? =some e→((0:Int)≤e∧e<(↑(List.length x.1):Int))∧∀(e_2:Nd),x.1[Int.toNat e]? =some e_2→Aa (e_2.kind != (1:Int)) (rA Hp x [.bool false,.top,.top]) (inR IntKind.i64 (i+(1:Int))∧eN (KC x) i [nds x.1,.box 0 [.int .i64 x.2.kind,.str x.2.text,An x.2.kids,.bool x.2.blank],An x.2.kids,.int .i64 (↑(List.length x.2.kids):Int),.int .i64 (i+(1:Int))])) (inR IntKind.i64 (i+(1:Int))∧eN (KC x) i [nds x.1,.box 0 [.int .i64 x.2.kind,.str x.2.text,An x.2.kids,.bool x.2.blank],An x.2.kids,.int .i64 (↑(List.length x.2.kids):Int),.int .i64 (i+(1:Int))])) (inR IntKind.i64 (i+(1:Int))∧eN (KC x) i [nds x.1,.box 0 [.int .i64 x.2.kind,.str x.2.text,An x.2.kids,.bool x.2.blank],An x.2.kids,.int .i64 (↑(List.length x.2.kids):Int),.int .i64 (i+(1:Int))]))))) (rA Hp x [.bool true,.top,.top])) (fun x=>by kernel_rfl) fun(x:List Nd×Nd) (hx:Bc x.1∧NV x.2∧∀c∈x.2.kids,0≤c∧c<x.1.length)=>(by
 dsimp only[cA,eA,eN,KC,An,Bt,nds,rA,Hp,Ga,Av,AA,mvL,lnL,mvE,lnE,Bi]
 obtain⟨h1,h2,h3⟩:=hx;have hl:=h1.1;have hk:=h2.2
 (repeat' first|(with_reducible first|rfl|exact True.intro|apply AL|apply And.intro|((first|apply AB|apply AJ|apply AC|apply AK)<;>intro _))|(apply Az<;>intro _)|apply AI|refine Ag () ?_ ?_|((first|apply AP|apply AO|apply AN|apply AM|apply AH|apply AG|apply AF|apply AE|apply AD)<;>try dsimp only)|apply Ag|(refine Prod.forall.2 ?_;intro _;try dsimp only)|(intro _;try dsimp only))
 all_goals first
  |exact a6J
  |exact a6K ‹_› ‹_›
  |exact Qh ‹_› ‹_› (a6L ‹_› ‹_›)
  |exact Qh ‹_› ‹_› (a6R ‹_› ‹_› ‹_› ‹_› ‹_›)
  |exact Qh ‹_› ‹_› (a6Q ‹_› ‹_› ‹_› ‹_› ‹_›)
  |exact Qh ‹_› ‹_› (a6P ‹_› ‹_› ‹_› ‹_› ‹_› ‹_› ‹_›)
  |exact Uc ‹_› (a6M ‹_› ‹_› ‹_›)
  |exact Uc ‹_› (a6N ‹_› ‹_› ‹_› ‹_›)
  |exact Uc ‹_› (a6O ‹_› ‹_› ‹_› ‹_› ‹_› ‹_› ‹_› ‹_› ‹_›)
  |exact(h3 _ (CZ ‹_›)).1
  |exact(h3 _ (CZ ‹_›)).2
  |exact(ndB ‹_› ‹_› ‹_›).1
  |exact(ndB ‹_› ‹_› ‹_›).2
  |(obtain⟨_,_,_⟩:= ‹cfI _ _ _›;(try simp only[AR] at*);omega)
  |skip)
end Go.My
end
section
set_option linter.unusedVariables false
set_option linter.unusedSimpArgs false
namespace Go.My
open Go.Eng Go.Proofs
variable {G:GInv}
def nkI(k:Int)(l:List Int)(i:Int):Prop:=0≤i∧i≤l.length∧(∀c∈l.take i.toNat,0≤c∧c<k)∧(l.take i.toNat).Nodup
theorem Yg{k:Int}{l:List Int}:nkI k l 0:=⟨by omega,by omega,by simp,by simp⟩
theorem Yh{k:Int}{l:List Int}{i c:Int}(h:nkI k l i)(hc:l[i.toNat]? =some c)(h1:¬c<0)(h2:¬c≥k)(h3:(l.take i.toNat).elem c=false):nkI k l (i+1):=by
 obtain⟨ha,hb,hd,he⟩:=h
 have:=(Fd hc).1
 refine⟨by omega,by omega,?_,?_⟩
 ·rw[Dv ha,FV hc];intro d hd'
  rcases List.mem_append.1 hd' with hd'|hd'
  ·exact hd d hd'
  ·simp at hd';subst hd';omega
 ·rw[Dv ha,FV hc,List.nodup_append]
  refine⟨he,by simp,?_⟩
  intro a ha' b hb' hab
  simp at hb';subst hb';subst hab
  simp at h3;exact h3 ha'
theorem NW{k:Int}{l:List Int}{i:Int}(h:nkI k l i)(hl:¬i<l.length):Dy l k=true∧l.Nodup:=by
 obtain⟨ha,hb,hd,he⟩:=h
 rw[List.take_of_length_le (by omega)] at hd he
 exact⟨by simpa [Dy] using hd,he⟩
theorem a6T{k:Int}{l:List Int}{n:Nat}{c:Int}(hc:l[n]? =some c)(h1:c<0):Dy l k=false:=by
 rw[Bool.eq_false_iff];intro h;simp only[Dy,List.all_eq_true,Bool.and_eq_true,decide_eq_true_eq] at h
 have:=h c (CZ hc);omega
theorem a6U{k:Int}{l:List Int}{n:Nat}{c:Int}(hc:l[n]? =some c)(h1:c≥k):Dy l k=false:=by
 rw[Bool.eq_false_iff];intro h;simp only[Dy,List.all_eq_true,Bool.and_eq_true,decide_eq_true_eq] at h
 have:=h c (CZ hc);omega
theorem Yi{l:List Int}{n:Nat}{c:Int}(hc:l[n]? =some c)(h1:(l.take n).elem c=true):¬l.Nodup:=by
 intro h
 have e:l=l.take n++l.drop n:=(List.take_append_drop n l).symm
 rw[e,HM hc,List.nodup_append] at h
 exact h.2.2 c (by simpa using h1) c (by simp) rfl
theorem Yj{ns:List Nd}{k:Int}(h:isNd ns k=false):false=nodeOk ns k:=by simp [nodeOk,h]
theorem Mb{ns:List Nd}{k:Int}{x:Nd}(hx:ns[k.toNat]? =some x)(h:isNd ns k=true):nodeOk ns k=Hk ns k x:=by rw[nodeOk,h,AZ hx];rfl
theorem a6V{ns:List Nd}{k:Int}{x:Nd}(hx:ns[k.toNat]? =some x)(h:isNd ns k=true)(h1:(x.kids.length:Int)>12):false=nodeOk ns k:=by
 rw[Mb hx h,Hk,decide_eq_false (by omega)];rfl
theorem a6W{ns:List Nd}{k:Int}{x:Nd}(hx:ns[k.toNat]? =some x)(h:isNd ns k=true)(h1:Dr x.kind x.text=false):false=nodeOk ns k:=by
 rw[Mb hx h,Hk,h1];simp
theorem Yk{ns:List Nd}{k:Int}{x:Nd}(hx:ns[k.toNat]? =some x)(h:isNd ns k=true)(h1:Dy x.kids k=false):false=nodeOk ns k:=by
 rw[Mb hx h,Hk,h1];simp
theorem a6X{ns:List Nd}{k:Int}{x:Nd}(hx:ns[k.toNat]? =some x)(h:isNd ns k=true)(h1:¬x.kids.Nodup):false=nodeOk ns k:=by
 rw[Mb hx h,Hk,decide_eq_false h1];simp
theorem Yl{ns:List Nd}{k i:Int}{x:Nd}(hx:ns[k.toNat]? =some x)(h:isNd ns k=true)(h1:(x.kids.length:Int)≤12)(h2:Dr x.kind x.text=true)(h3:nkI k x.kids i)(hl:¬i<x.kids.length):
 nodeOk ns k=(Ds x.kind ((x.kids.take i.toNat).map (kindAt ns))&&(DW ns x&&(Hj x.kind|| !x.blank))):=by
 obtain⟨ha,hb⟩:=NW h3 hl
 rw[List.take_of_length_le (by have:=h3.1;omega),Mb hx h,Hk,h2,ha,decide_eq_true hb,decide_eq_true (by omega)];simp
theorem Ud{k:Int}{l:List Int}{i c n:Int}(h:nkI k l i)(hl:¬i<l.length)(hk:k<n)(hc:c∈l):0≤c∧c<n:=by
 have:=(NW h hl).1
 simp only[Dy,List.all_eq_true,Bool.and_eq_true,decide_eq_true_eq] at this
 have:=this c hc;omega
theorem a6Y{ns:List Nd}{l:List Int}{i c:Int}{y:Nd}(h0:0≤i)(hc:l[i.toNat]? =some c)(hy:ns[c.toNat]? =some y):(l.take i.toNat).map (kindAt ns)++[y.kind]=(l.take (i+1).toNat).map (kindAt ns):=by
 rw[Dv h0,FV hc,List.map_append];simp [kindAt,AZ hy]
def Qi(x:List Nd×Int):LS:= {
 ι:=Int,inv:=nkI x.2 (Ab x.1 x.2).kids,
 regs:=fun i=>[(0,nds x.1),(1,.int .i64 x.2),(5,.box 0 (ndA false (Ab x.1 x.2))),(6,Ae (((Ab x.1 x.2).kids.take i.toNat).map (kindAt x.1))),(28,An (Ab x.1 x.2).kids),(29,.int .i64 (Ab x.1 x.2).kids.length),(30,.int .i64 i)],als:=[],meas:=fun i=>(Ab x.1 x.2).kids.length-i.toNat}
def DA:Sig:= {X:=List Nd×Int,args:=fun x=>[nds x.1,.int .i64 x.2],pre:=fun x=>Bc x.1,Y:=Unit,post:=fun x y=>True,res:=fun x y=> .bool (nodeOk x.1 x.2),outs:=fun x y=>[.top,.top],keep:=false}
theorem a6Z:Al G Tryz.prog 14 DA:=
 vcFun_okP [(52,0,Ga),(58,0,Dk),(59,0,Iu),(60,0,It),(61,0,FA),(62,0,BO),(63,0,Hp)] [(26,⟨Int,Bh⟩)] false (fun x=>[(8,Qi x)]) Tryz.func14 rfl (by decide) ⟨Ub,a6l,Ye,XZ,Ua,a6G,a6S,trivial⟩ (fun(x:List Nd×Int)=>(∀(y:Unit),True→True∧True∧True∧True)∧cA Ga [nds x.1,.int .i64 x.2] fun x_1 y=>Aa (!isNd x_1.1 x_1.2) (rA DA x [.bool false,.top,.top]) (((0:Int)≤x.2∧x.2<(↑(List.length x.1):Int))∧∀(e:Nd),x.1[Int.toNat x.2]? =some e→Aa (decide ((↑(List.length e.kids):Int)>(12:Int))) (rA DA x [.bool false,.top,.top]) (cA Dk [.agg [.int .i64 e.kind,.str e.text,An e.kids,.bool e.blank]] fun x_2 y=>Aa (!Dr x_2.kind x_2.text) (rA DA x [.bool false,.top,.top]) (eA (Qi x) [nds x.1,.int .i64 x.2,.box 0 [.int .i64 e.kind,.str e.text,An e.kids,.bool e.blank],.nil,An e.kids,.int .i64 (↑(List.length e.kids):Int),.int .i64 (0:Int)]∧∀(i:Int),nkI x.2 (Ab x.1 x.2).kids i→Aa (decide (i<(↑(List.length (Ab x.1 x.2).kids):Int))) (((0:Int)≤i∧i<(↑(List.length (Ab x.1 x.2).kids):Int))∧∀(e:Int),(Ab x.1 x.2).kids[Int.toNat i]? =some e→Aa (decide (e<(0:Int))) (rA DA x [.bool false,.top,.top]) (Aa (decide (e≥x.2)) (rA DA x [.bool false,.top,.top]) (((0:Int)≤(0:Int)∧(0:Int)≤i∧i≤(↑(List.length (Ab x.1 x.2).kids):Int))∧cA Iu [An (List.take (Int.toNat i) (Ab x.1 x.2).kids),.int .i64 e] fun x_3 y=>Aa (List.elem x_3.2 x_3.1) (rA DA x [.bool false,.top,.top]) (((0:Int)≤e∧e<(↑(List.length x.1):Int))∧∀(e_1:Nd),x.1[Int.toNat e]? =some e_1→∃(x_4:Int),e_1.kind=x_4∧∃(zs:List Int),Ae [x_4]=Ae zs∧BG Bh∧Bb (List.length (List.map (kindAt x.1) (List.take (Int.toNat i) (Ab x.1 x.2).kids))+List.length zs) (8:Nat)∧inR IntKind.i64 (i+(1:Int))∧eN (Qi x) i [nds x.1,.int .i64 x.2,.box 0 [.int .i64 (Ab x.1 x.2).kind,.str (Ab x.1 x.2).text,An (Ab x.1 x.2).kids,.bool (Ab x.1 x.2).blank],Ae (List.map (kindAt x.1) (List.take (Int.toNat i) (Ab x.1 x.2).kids)++zs),An (Ab x.1 x.2).kids,.int .i64 (↑(List.length (Ab x.1 x.2).kids):Int),.int .i64 (i+(1:Int))])))) (cA It [.int .i64 (Ab x.1 x.2).kind] fun x_3 y=>Aa (Jt x_3) (cA BO [.int .i64 (Ab x.1 x.2).kind,Ae (List.map (kindAt x.1) (List.take (Int.toNat i) (Ab x.1 x.2).kids))] fun x_4 y=>Aa (Ds x_4.1 x_4.2) (cA Hp [nds x.1,.agg [.int .i64 (Ab x.1 x.2).kind,.str (Ab x.1 x.2).text,An (Ab x.1 x.2).kids,.bool (Ab x.1 x.2).blank]] fun x_5 y=>Aa (DW x_5.1 x_5.2) (rA DA x [.bool true,.top,.top]) (rA DA x [.bool false,.top,.top])) (rA DA x [.bool false,.top,.top])) (cA FA [.int .i64 (Ab x.1 x.2).kind] fun x_4 y=>Aa (EB x_4) (cA BO [.int .i64 (Ab x.1 x.2).kind,Ae (List.map (kindAt x.1) (List.take (Int.toNat i) (Ab x.1 x.2).kids))] fun x_5 y=>Aa (Ds x_5.1 x_5.2) (cA Hp [nds x.1,.agg [.int .i64 (Ab x.1 x.2).kind,.str (Ab x.1 x.2).text,An (Ab x.1 x.2).kids,.bool (Ab x.1 x.2).blank]] fun x_6 y=>Aa (DW x_6.1 x_6.2) (rA DA x [.bool true,.top,.top]) (rA DA x [.bool false,.top,.top])) (rA DA x [.bool false,.top,.top])) (cA BO [.int .i64 (Ab x.1 x.2).kind,Ae (List.map (kindAt x.1) (List.take (Int.toNat i) (Ab x.1 x.2).kids))] fun x_5 y=>Aa (Ds x_5.1 x_5.2) (cA Hp [nds x.1,.agg [.int .i64 (Ab x.1 x.2).kind,.str (Ab x.1 x.2).text,An (Ab x.1 x.2).kids,.bool (Ab x.1 x.2).blank]] fun x_6 y=>Aa (DW x_6.1 x_6.2) (Aa ((Ab x.1 x.2).kind==(21:Int)) (rA DA x [.bool true,.top,.top]) (rA DA x [.bool !(Ab x.1 x.2).blank,.top,.top])) (rA DA x [.bool false,.top,.top])) (rA DA x [.bool false,.top,.top])))))))) (fun x=>by kernel_rfl) fun(x:List Nd×Int) (hx:Bc x.1)=>(by
 dsimp only[cA,eA,eN,An,Qi,Bt,nds,Ae,rA,Hp,Iu,DA,FA,Ga,It,BO,Dk,Av,AA,mvL,lnL,mvE,lnE,Bi]
 have h1:Bc x.1:=hx;have hl:=h1.1
 (repeat' first|(with_reducible first|rfl|exact True.intro|apply AL|apply And.intro|((first|apply AB|apply AJ|apply AC|apply AK)<;>intro _))|(apply Az<;>intro _)|apply AI|refine Ag () ?_ ?_|((first|apply AP|apply AO|apply AN|apply AM|apply AH|apply AG|apply AF|apply AE|apply AD)<;>try dsimp only)|apply Ag|(refine Prod.forall.2 ?_;intro _;try dsimp only)|(intro _;try dsimp only))
 all_goals try(simp only[AZ (show x.1[x.2.toNat]? =some _ by assumption)] at*)
 all_goals first
  |rfl
  |exact Yg
  |exact(h1.2 _ (CZ ‹_›)).1
  |exact(h1.2 _ (CZ ‹_›)).2
  |exact a6H ‹_› h1
  |exact(Ud ‹_› ‹_› (Ci.1 ‹isNd _ _=true›).2 ‹_›).1
  |exact(Ud ‹_› ‹_› (Ci.1 ‹isNd _ _=true›).2 ‹_›).2
  |exact Yj ‹_›
  |exact a6V ‹_› ‹_› ‹_›
  |exact a6W ‹_› ‹_› ‹_›
  |exact Yk ‹_› ‹_› (a6T ‹_› ‹_›)
  |exact Yk ‹_› ‹_› (a6U ‹_› ‹_›)
  |exact a6X ‹_› ‹_› (Yi ‹_› ‹_›)
  |exact Yh ‹_› ‹_› ‹_› ‹_› ‹_›
  |exact a6Y (‹nkI _ _ _›.1) ‹_› ‹_›
  |(refine Eq.trans ?_ (Yl (show x.1[x.2.toNat]? =some _ by assumption) ‹_› (by omega) ‹_› ‹_› ‹_›).symm;simp [-List.map_take,Hj,Fy, *];done)
  |omega
  |(have:=Ci.1 ‹isNd _ _=true›;omega)
  |(have:=Ci.1 ‹isNd _ _=true›;obtain⟨_,_,_⟩:= ‹nkI _ _ _›;(try simp only[AR,Bb,List.length_take,List.length_map,List.length_append,List.length_cons,List.length_nil] at*);omega)
  |(refine Eq.trans ?_ (Yl (show x.1[x.2.toNat]? =some _ by assumption) ‹_› (by omega) ‹_› ‹_› ‹_›).symm;rw[‹Ds _ _=true›,‹DW _ _=true›];simp [Hj, *]))
end Go.My
end
section
set_option linter.unusedVariables false
set_option linter.unusedSimpArgs false
namespace Go.My
open Go.Eng Go.Proofs
variable {G:GInv}
def dl(k i:Int)(ds:List Int):List Int:=ds++List.replicate (k+1-i).toNat 0
def dI(ns:List Nd)(k i:Int)(ds:List Int):Prop:=isNd ns k=true∧0≤i∧i≤k+1∧deeps ns i.toNat=some ds
def dJ(ns:List Nd)(k i:Int)(ds:List Int)(j d:Int):Prop:=dI ns k i ds∧i≤k∧nodeOk ns i=true∧0≤j∧j≤(Ab ns i).kids.length∧0≤d∧d≤14∧mx ds ((Ab ns i).kids.drop j.toNat) d=mx ds (Ab ns i).kids 0
theorem a7a{ns:List Nd}{k:Int}(h:isNd ns k=true):dI ns k 0 []:=⟨h,by omega,by have:=Ci.1 h;omega,rfl⟩
theorem a7b{k:Int}:List.replicate (k+1).toNat 0=dl k 0 []:=by simp [dl]
theorem Ym{ns:List Nd}{k i:Int}{ds:List Int}(h:dI ns k i ds):((dl k i ds).length:Int)=k+1:=by
 obtain⟨h0,h1,h2,h3⟩:=h
 have:=LP h3
 rw[dl,List.length_append,List.length_replicate];omega
theorem a7c{ns:List Nd}{k i:Int}{ds:List Int}(h:dI ns k i ds)(hl:i<k+1)(hn:nodeOk ns i=false):0=deepOf ns k:=by
 obtain⟨h0,h1,h2,h3⟩:=h
 have:deeps ns (i.toNat+1)=none:=by
  unfold deeps;rw[h3];simp only
  rw[show((i.toNat:Nat):Int)=i by omega,hn];rfl
 unfold deepOf;rw[if_pos h0,TK this (by omega)]
theorem a7d{ns:List Nd}{k i:Int}{ds:List Int}(h:dI ns k i ds)(hl:i<k+1)(hn:nodeOk ns i=true):dJ ns k i ds 0 0:=
 ⟨h,by omega,hn,by omega,by omega,by omega,by omega,by simp⟩
theorem Yn{ns:List Nd}{k i:Int}{ds:List Int}{j d c:Int}(h:dJ ns k i ds j d)(hc:(Ab ns i).kids[j.toNat]? =some c):0≤c∧c<i:=by
 exact(CS h.2.2.1).2.2.2.1 c (CZ hc)
theorem Ue{ns:List Nd}{k i:Int}{ds:List Int}{j d c:Int}(h:dJ ns k i ds j d)(hc:(Ab ns i).kids[j.toNat]? =some c):0≤c∧c<(dl k i ds).length:=by
 have:=Yn h hc;have:=Ym h.1;have:=h.1.2.2;omega
theorem a7e{ns:List Nd}{k i:Int}{ds:List Int}{j d c v:Int}(h:dJ ns k i ds j d)(hc:(Ab ns i).kids[j.toNat]? =some c)(hv:(dl k i ds)[c.toNat]? =some v):ds.getD c.toNat 0=v∧1≤v∧v≤14:=by
 have h1:=Yn h hc
 have h2:=LP h.1.2.2.2
 rw[dl,List.getElem?_append_left (by omega)] at hv
 refine⟨by simp [List.getD,hv],?_⟩
 exact PU h.1.2.2.2 v (CZ hv)
theorem a7f{ns:List Nd}{k i:Int}{ds:List Int}{j d c v:Int}(h:dJ ns k i ds j d)(hc:(Ab ns i).kids[j.toNat]? =some c)(hv:(dl k i ds)[c.toNat]? =some v):dJ ns k i ds (j+1) (max d v):=by
 obtain⟨hv1,hv2,hv3⟩:=a7e h hc hv
 obtain⟨h1,h2,h3,h4,h5,h6,h7,h8⟩:=h
 have:=(Fd hc).1
 refine⟨h1,h2,h3,by omega,by omega,by omega,by omega,?_⟩
 rw[←h8,HM hc,Dv h4];simp only[mx,hv1]
theorem Yo{ns:List Nd}{k i:Int}{ds:List Int}{j d:Int}(h:dJ ns k i ds j d)(hl:¬j<(Ab ns i).kids.length):d=mx ds (Ab ns i).kids 0:=by
 obtain⟨h1,h2,h3,h4,h5,h6,h7,h8⟩:=h
 rw[List.drop_eq_nil_of_le (by omega)] at h8;exact h8
theorem a7g{ns:List Nd}{k i:Int}{ds:List Int}{j d:Int}(h:dJ ns k i ds j d)(hl:¬j<(Ab ns i).kids.length)(hd:d≥14):0=deepOf ns k:=by
 have hm:=Yo h hl
 obtain⟨⟨ha,hb,he,hf⟩,h2,h3,_⟩:=h
 have e:((i.toNat:Nat):Int)=i:=by omega
 have:deeps ns (i.toNat+1)=none:=by
  unfold deeps;rw[hf];simp only
  rw[e,h3,if_pos rfl,if_pos (by omega)]
 unfold deepOf;rw[if_pos ha,TK this (by omega)]
theorem a7h{ns:List Nd}{k i:Int}{ds:List Int}{j d:Int}(h:dJ ns k i ds j d)(hl:¬j<(Ab ns i).kids.length)(hd:¬d≥14):dI ns k (i+1) (ds++[d+1]):=by
 have hm:=Yo h hl
 obtain⟨⟨ha,hb,he,hf⟩,h2,h3,_⟩:=h
 have e:((i.toNat:Nat):Int)=i:=by omega
 refine⟨ha,by omega,by omega,?_⟩
 rw[Dv hb];unfold deeps;rw[hf];simp only
 rw[e,h3,if_pos rfl,if_neg (by omega),←hm]
theorem a7i{ns:List Nd}{k i:Int}{ds:List Int}{j d:Int}(h:dJ ns k i ds j d):(dl k i ds).set i.toNat (d+1)=dl k (i+1) (ds++[d+1]):=by
 obtain⟨⟨ha,hb,he,hf⟩,h2,h3,_⟩:=h
 have hl:=LP hf
 have e:(k+1-i).toNat=(k+1-(i+1)).toNat+1:=by omega
 unfold dl;rw[List.set_append_right _ _ (by omega),e,hl];simp [List.replicate_succ]
theorem a7j{ns:List Nd}{k i v:Int}{ds:List Int}(h:dI ns k i ds)(hl:¬i<k+1)(hv:(dl k i ds)[k.toNat]? =some v):v=deepOf ns k:=by
 obtain⟨h0,h1,h2,h3⟩:=h
 obtain rfl:i=k+1:=by omega
 have:=Ci.1 h0
 rw[show(k+1).toNat=k.toNat+1 by omega] at h3
 unfold deepOf;rw[if_pos h0,h3]
 simp [dl] at hv
 simp [List.getD,hv]
theorem Yp{ns:List Nd}{k:Int}(h:isNd ns k=false):0=deepOf ns k:=by simp [deepOf,h]
theorem a7k{ns:List Nd}{k i:Int}{ds:List Int}{j d:Int}(h:dJ ns k i ds j d):((Ab ns i).kids.length:Int)≤12:=by
 have:=(CS h.2.2.1).2.1;omega
def Qj(x:List Nd×Int)(o:Int×List Int):LS:= {
 ι:=Int×Int,inv:=fun i=>dJ x.1 x.2 o.1 o.2 i.1 i.2,
 regs:=fun i=>[(0,nds x.1),(1,.int .i64 x.2),(5,Ae (dl x.2 o.1 o.2)),(18,.int .i64 (x.2+1)),(19,.int .i64 o.1),(6,.int .i64 o.1),(7,.int .i64 i.2),(30,An (Ab x.1 o.1).kids),(31,.int .i64 (Ab x.1 o.1).kids.length),(32,.int .i64 i.1)],als:=[],meas:=fun i=>(Ab x.1 o.1).kids.length-i.1.toNat}
def Qk(x:List Nd×Int):LS:= {
 ι:=Int×List Int,inv:=fun i=>dI x.1 x.2 i.1 i.2,
 regs:=fun i=>[(0,nds x.1),(1,.int .i64 x.2),(5,Ae (dl x.2 i.1 i.2)),(18,.int .i64 (x.2+1)),(19,.int .i64 i.1)],als:=[],meas:=fun i=>x.2.toNat+1-i.1.toNat,
 sub:=fun i=>[(11,Qj x i)]}
def GI:Sig:= {X:=List Nd×Int,args:=fun x=>[nds x.1,.int .i64 x.2],pre:=fun x=>Bc x.1∧x.1.length≤2^30,Y:=Unit,post:=fun x y=>True,res:=fun x y=> .int .i64 (deepOf x.1 x.2),outs:=fun x y=>[.top,.top],keep:=false}
theorem Yq:Al G Tryz.prog 9 GI:=
 vcFun_okP [(52,0,Ga),(14,0,DA)] [(26,⟨Int,Bh⟩)] false (fun x=>[(5,Qk x)]) Tryz.func9 rfl (by decide) ⟨Ub,a6Z,trivial⟩ (fun(x:List Nd×Int)=>(∀(y:Unit),True→True∧True∧True∧True)∧cA Ga [nds x.1,.int .i64 x.2] fun x_1 y=>Aa (!isNd x_1.1 x_1.2) (rA GI x [.int .i64 (0:Int),.top,.top]) (inR IntKind.i64 (x.2+(1:Int))∧((0:Int)≤x.2+(1:Int)∧x.2+(1:Int)≤x.2+(1:Int)∧(↑(8:Nat):Int)*(x.2+(1:Int))≤(2:Int)^(46:Nat)∧x.2+(1:Int)≤(2:Int)^(46:Nat))∧∃(x_2:Int),(0:Int)=x_2∧eA (Qk x) [nds x.1,.int .i64 x.2,Ae (List.replicate (Int.toNat (x.2+(1:Int))) x_2),.int .i64 (↑(List.length (List.replicate (Int.toNat (x.2+(1:Int))) x_2)):Int),.int .i64 (0:Int)]∧∀(i:Int×List Int),dI x.1 x.2 i.1 i.2→Aa (decide (i.1<x.2+(1:Int))) (cA DA [nds x.1,.int .i64 i.1] fun x_3 y=>Aa (!nodeOk x_3.1 x_3.2) (rA GI x [.int .i64 (0:Int),.top,.top]) (((0:Int)≤i.1∧i.1<(↑(List.length x.1):Int))∧∀(e:Nd),x.1[Int.toNat i.1]? =some e→eA (Qj x i) [nds x.1,.int .i64 x.2,Ae (dl x.2 i.1 i.2),.int .i64 (x.2+(1:Int)),.int .i64 i.1,.int .i64 i.1,.int .i64 (0:Int),An e.kids,.int .i64 (↑(List.length e.kids):Int),.int .i64 (0:Int)]∧∀(i_1:Int×Int),dJ x.1 x.2 i.1 i.2 i_1.1 i_1.2→Aa (decide (i_1.1<(↑(List.length (Ab x.1 i.1).kids):Int))) (((0:Int)≤i_1.1∧i_1.1<(↑(List.length (Ab x.1 i.1).kids):Int))∧∀(e:Int),(Ab x.1 i.1).kids[Int.toNat i_1.1]? =some e→((0:Int)≤e∧e<(↑(List.length (dl x.2 i.1 i.2)):Int))∧Int.toNat e<List.length (dl x.2 i.1 i.2)∧∀(x_4:Int),(dl x.2 i.1 i.2)[Int.toNat e]? =some x_4→inR IntKind.i64 (i_1.1+(1:Int))∧eN (Qj x i) i_1 [nds x.1,.int .i64 x.2,Ae (dl x.2 i.1 i.2),.int .i64 (x.2+(1:Int)),.int .i64 i.1,.int .i64 i.1,.int .i64 (max i_1.2 x_4),An (Ab x.1 i.1).kids,.int .i64 (↑(List.length (Ab x.1 i.1).kids):Int),.int .i64 (i_1.1+(1:Int))]) (Aa (decide (i_1.2≥(14:Int))) (rA GI x [.int .i64 (0:Int),.top,.top]) (inR IntKind.i64 (i_1.2+(1:Int))∧((0:Int)≤i.1∧i.1<(↑(List.length (dl x.2 i.1 i.2)):Int))∧Int.toNat i.1<List.length (dl x.2 i.1 i.2)∧∀(x_4:Int),(dl x.2 i.1 i.2)[Int.toNat i.1]? =some x_4→∃(x':Int),((@List.nil AV)=[]∧(@List.nil AV)=[])∧i_1.2+(1:Int)=x'∧inR IntKind.i64 (i.1+(1:Int))∧eN (Qk x) i [nds x.1,.int .i64 x.2,Ae (List.set (dl x.2 i.1 i.2) (Int.toNat i.1) x'),.int .i64 (x.2+(1:Int)),.int .i64 (i.1+(1:Int))])))) (((0:Int)≤x.2∧x.2<(↑(List.length (dl x.2 i.1 i.2)):Int))∧Int.toNat x.2<List.length (dl x.2 i.1 i.2)∧∀(x_3:Int),(dl x.2 i.1 i.2)[Int.toNat x.2]? =some x_3→rA GI x [.int .i64 x_3,.top,.top]))) (fun x=>by kernel_rfl) fun(x:List Nd×Int) (hx:Bc x.1∧x.1.length≤2^30)=>(by
 dsimp only[cA,eA,eN,An,Qk,Qj,Bt,nds,Ae,rA,GI,DA,Ga,Av,AA,mvL,lnL,mvE,lnE,Bi]
 obtain⟨h1,h2⟩:=hx;have hl:=h1.1
 (repeat' first|(with_reducible first|rfl|exact True.intro|apply AL|apply And.intro|((first|apply AB|apply AJ|apply AC|apply AK)<;>intro _))|(apply Az<;>intro _)|apply AI|refine Ag () ?_ ?_|((first|apply AP|apply AO|apply AN|apply AM|apply AH|apply AG|apply AF|apply AE|apply AD)<;>try dsimp only)|apply Ag|(refine Prod.forall.2 ?_;intro _;try dsimp only)|(intro _;try dsimp only))
 all_goals try(have nd0:=Ci.1 (show isNd x.1 x.2=true by assumption))
 all_goals first
  |rfl
  |exact Yp ‹_›
  |exact a7a ‹_›
  |exact a7b
  |exact a7c ‹_› ‹_› ‹_›
  |exact a7d ‹_› ‹_› ‹_›
  |exact(Ue ‹_› ‹_›).1
  |exact(Ue ‹_› ‹_›).2
  |exact a7f ‹_› ‹_› ‹_›
  |exact a7g ‹_› ‹_› ‹_›
  |exact a7h ‹_› ‹_› ‹_›
  |exact a7i ‹_›
  |exact a7j ‹_› ‹_› ‹_›
  |(rw[AZ ‹_›];done)
  |(rw[List.length_replicate];omega)
  |(have:=a7k ‹_›;obtain⟨⟨_,_,_,_⟩,_,_,_,_,_,_,_⟩:= ‹dJ _ _ _ _ _ _›;(try simp only[AR,Bb] at*);omega)
  |(have:=Ym ‹_›;obtain⟨_,_,_,_⟩:= ‹dI _ _ _ _›;(try simp only[AR,Bb] at*);omega)
  |(have:=Ue ‹_› ‹_›;omega)
  |((try simp only[AR,Bb] at*);omega)
  |skip)
end Go.My
end
section
set_option linter.unusedVariables false
set_option linter.unusedSimpArgs false
namespace Go.My
open Go.Eng Go.Proofs
variable {G:GInv}
def cnt(n:Nat)(l:List Int):List Int:=(List.range n).map fun(c:Nat)=>(l.count (c:Int):Int)
theorem Gb{n:Nat}{l:List Int}:(cnt n l).length=n:=by simp [cnt]
theorem KD{n:Nat}{l:List Int}{c:Nat}(h:c<n):(cnt n l)[c]? =some (l.count (c:Int):Int):=by
 simp [cnt,List.getElem?_map,List.getElem?_range,h]
theorem Yr{n:Nat}:List.replicate n 0=cnt n []:=by
 apply List.ext_getElem?
 intro c
 by_cases h:c<n
 ·rw[KD h];simp [h]
 ·rw[List.getElem?_eq_none (by simp;omega),List.getElem?_eq_none (by simp [cnt];omega)]
theorem Ys{n:Nat}{l:List Int}{c v:Int}(h0:0≤c)(h1:c<n)(hv:(cnt n l)[c.toNat]? =some v):(cnt n l).set c.toNat (v+1)=cnt n (l++[c]):=by
 apply List.ext_getElem?
 intro d
 rw[List.getElem?_set]
 by_cases hd:d<n
 ·rw[KD hd,KD hd,List.count_append]
  rw[KD (by omega)] at hv
  by_cases e:c.toNat=d
  ·subst e
   rw[if_pos rfl,if_pos (by rw[Gb];omega)]
   have e2:((c.toNat:Nat):Int)=c:=by omega
   rw[e2] at hv ⊢
   simp at hv ⊢;omega
  ·rw[if_neg e]
   have:¬c=(d:Int):=by omega
   simp [List.count_cons,this]
 ·rw[if_neg (by omega),List.getElem?_eq_none (by rw[Gb];omega),List.getElem?_eq_none (by rw[Gb];omega)]
def tk(ns:List Nd)(i j:Int):List Int:=BC (ns.take i.toNat)++(Ab ns i).kids.take j.toNat
def tI(ns:List Nd):Prop:=1≤ns.length∧ns.length≤300∧kindAt ns (ns.length-1)=22∧deepOf ns (ns.length-1)≠0
theorem a7l{ns:List Nd}{n:Nat}{y:Nd}(h:tI ns)(hy:ns[n]? =some y):nodeOk ns n=true:=by
 exact(PV h.2.2.2).2.2 n (by have:=(Fd hy).1;omega)
theorem NX{ns:List Nd}{n:Nat}{y:Nd}(h:tI ns)(hy:ns[n]? =some y):y.kids.length≤12∧∀c∈y.kids,0≤c∧c<ns.length:=by
 obtain⟨h1,h2,h3,h4,h5⟩:=CS (a7l h hy)
 rw[AZ (by simpa using hy)] at h2 h4
 exact⟨h2,fun c hc=>by have:=h4 c hc;omega⟩
theorem a7m{l:List Nd}(h:∀y∈l,y.kids.length≤12):(BC l).length≤12*l.length:=by
 induction l with
 |nil=>simp [BC]
 |cons y l ih=>
  have h1:=h y (by simp)
  have h2:=ih fun z hz=>h z (by simp [hz])
  simp only[BC,List.flatMap_cons,List.length_append,List.length_cons] at h2 ⊢;omega
theorem a7n{ns:List Nd}{i j:Int}(h:tI ns):(BC (ns.take i.toNat)).length≤3600:=by
 have h1:∀y∈ns.take i.toNat,y.kids.length≤12:=by
  intro y hy
  obtain⟨n,hn⟩:=List.mem_iff_getElem?.1 (List.mem_of_mem_take hy)
  exact(NX h hn).1
 have:=a7m h1
 have h2:(ns.take i.toNat).length≤300:=by have:=h.2.1;simp;omega
 omega
theorem a7o{n:Nat}{l:List Int}{c:Nat}{v:Int}(hv:(cnt n l)[c]? =some v):0≤v∧v≤l.length:=by
 have h:c<n:=by have:=(Fd hv).1;rwa [Gb] at this
 rw[KD h] at hv;cases hv
 have:=List.count_le_length (a:=(c:Int)) (l:=l)
 omega
theorem Yt{ns:List Nd}{i:Int}:tk ns i 0=BC (ns.take i.toNat):=by simp [tk]
theorem Yu{ns:List Nd}{i j c:Int}(h0:0≤j)(hc:(Ab ns i).kids[j.toNat]? =some c):tk ns i (j+1)=tk ns i j++[c]:=by
 rw[tk,Dv h0,FV hc,tk,List.append_assoc]
theorem Yv{ns:List Nd}{i j:Int}{y:Nd}(h0:0≤i)(hy:ns[i.toNat]? =some y)(hl:¬j<(Ab ns i).kids.length):tk ns i j=BC (ns.take (i+1).toNat):=by
 rw[tk,List.take_of_length_le (l:=(Ab ns i).kids) (by omega),Dv h0,FV hy,AZ hy];simp [BC]
def tE(ns:List Nd)(i:Int):Prop:=0≤i∧i≤ns.length-1∧∀c:Nat,(c:Int)<i→(BC ns).count (c:Int)=1
theorem Yw{ns:List Nd}{i v:Int}(hv:(((cnt ns.length (BC ns)).take (ns.length-1:Int).toNat)[i.toNat]?)=some v)(h0:0≤i)(hl:i<(ns.length-1:Int)):((BC ns).count i:Int)=v:=by
 rw[List.getElem?_take_of_lt (by omega),KD (by omega)] at hv
 have e2:((i.toNat:Nat):Int)=i:=by omega
 rw[e2] at hv;exact Option.some.inj hv
theorem Yx{ns:List Nd}{i:Int}(h:tI ns)(he:tE ns i)(hl:¬i<(ns.length-1:Int)):true=treeOk ns:=by
 symm;unfold treeOk
 have h1:decide (1≤ns.length)=true:=decide_eq_true h.1
 have h2:decide (ns.length≤300)=true:=decide_eq_true h.2.1
 have h3:decide (kindAt ns (ns.length-1)=22)=true:=decide_eq_true h.2.2.1
 have h4:decide (deepOf ns (ns.length-1)=0)=false:=decide_eq_false h.2.2.2
 rw[h1,h2,h3,h4]
 simp only[Bool.and_true,Bool.not_false,Bool.true_and,List.all_eq_true,decide_eq_true_eq,List.mem_range]
 exact fun c hc=>he.2.2 c (by omega)
theorem Yy{ns:List Nd}{i v:Int}(hv:(BC ns).count i=v)(h0:0≤i)(hl:i<(ns.length-1:Int))(hne:v≠1):false=treeOk ns:=by
 symm;rw[Bool.eq_false_iff];intro h
 unfold treeOk at h
 simp only[Bool.and_eq_true,List.all_eq_true,decide_eq_true_eq,List.mem_range] at h
 have:=h.2.2.2 i.toNat (by omega)
 have e2:((i.toNat:Nat):Int)=i:=by omega
 rw[e2] at this;omega
theorem Mc{ns:List Nd}(h:¬tI ns):false=treeOk ns:=by
 symm;rw[Bool.eq_false_iff];intro hh
 unfold treeOk at hh
 simp only[Bool.and_eq_true,decide_eq_true_eq,Bool.not_eq_true',decide_eq_false_iff_not] at hh
 exact h ⟨hh.1.1,hh.1.2,hh.2.1,hh.2.2.1⟩
theorem NY{ns:List Nd}{i j c:Int}{y:Nd}(h:tI ns)(hc:(Ab ns i).kids[j.toNat]? =some c)(hy:ns[i.toNat]? =some y):0≤c∧c<ns.length:=by
 rw[AZ hy] at hc;exact(NX h hy).2 c (CZ hc)
theorem Yz{ns:List Nd}{i:Int}{y:Nd}(h:tI ns)(hy:ns[i.toNat]? =some y):(Ab ns i).kids.length≤12:=by
 rw[AZ hy];exact(NX h hy).1
theorem a7p{ns:List Nd}{i j:Int}{y:Nd}(h:tI ns)(hy:ns[i.toNat]? =some y):(tk ns i j).length≤3612:=by
 have h1:= @a7n ns i j h;have h2:=Yz h hy
 rw[tk,List.length_append,List.length_take];omega
theorem YA{ns:List Nd}{i j v:Int}{c:Nat}{y:Nd}(h:tI ns)(hv:(cnt ns.length (tk ns i j))[c]? =some v)(hy:ns[i.toNat]? =some y):0≤v∧v≤3612:=by
 have h1:=a7o hv;have h2:= @a7p ns i j y h hy;omega
theorem Me{x a b:Int}:inn x a b=true↔a≤x∧x≤b:=by simp [inn]
theorem YB{ns:List Nd}{y:Nd}(h:inn ns.length 1 300=true)(hy:ns[(ns.length-1:Int).toNat]? =some y)(hk:y.kind=22)(hd:deepOf ns (ns.length-1)≠0):tI ns:=by
 have:=Me.1 h
 exact⟨by omega,by omega,by rw[kindAt,AZ hy,hk],hd⟩
theorem YC{ns:List Nd}(h:inn ns.length 1 300=false):¬tI ns:=by
 intro hh;have:inn ns.length 1 300=true:=Me.2 ⟨by have:=hh.1;omega,by have:=hh.2.1;omega⟩
 rw[h] at this;cases this
theorem YD{ns:List Nd}{y:Nd}(hy:ns[(ns.length-1:Int).toNat]? =some y)(hk:y.kind≠22):¬tI ns:=by
 intro hh;have:=hh.2.2.1;rw[kindAt,AZ hy] at this;exact hk this
theorem YE{ns:List Nd}{i:Int}(hl:¬i<ns.length):BC (ns.take i.toNat)=BC ns:=by rw[List.take_of_length_le (by omega)]
theorem a7q{ns:List Nd}{i v:Int}(h:tE ns i)(hl:i<(ns.length-1:Int))(hv:(((cnt ns.length (BC ns)).take (ns.length-1:Int).toNat)[i.toNat]?)=some v)(h1:v=1):tE ns (i+1):=by
 have:=Yw hv h.1 hl
 refine⟨by have:=h.1;omega,by omega,fun c hc=> ?_⟩
 by_cases e:(c:Int)<i
 ·exact h.2.2 c e
 ·have:=h.1
  obtain rfl:i=(c:Int):=by omega
  omega
def Ql(x:List Nd)(o:Int):LS:= {
 ι:=Int,inv:=fun j=>0≤j∧j≤(Ab x o).kids.length,
 regs:=fun j=>[(0,nds x),(3,.int .i64 x.length),(4,Ae (cnt x.length (tk x o j))),(34,nds x),(35,.int .i64 x.length),(36,.int .i64 o),(41,An (Ab x o).kids),(42,.int .i64 (Ab x o).kids.length),(43,.int .i64 j)],als:=[],meas:=fun j=>(Ab x o).kids.length-j.toNat}
def Qm(x:List Nd):LS:= {
 ι:=Int,inv:=fun i=>0≤i∧i≤x.length,
 regs:=fun i=>[(0,nds x),(3,.int .i64 x.length),(4,Ae (cnt x.length (BC (x.take i.toNat)))),(34,nds x),(35,.int .i64 x.length),(36,.int .i64 i)],als:=[],meas:=fun i=>x.length-i.toNat,
 sub:=fun i=>[(9,Ql x i)]}
def Qn(x:List Nd):LS:= {
 ι:=Int,inv:=tE x,
 regs:=fun i=>[(58,Ae ((cnt x.length (BC x)).take (x.length-1:Int).toNat)),(59,.int .i64 (x.length-1)),(60,.int .i64 i)],als:=[],meas:=fun i=>x.length-1-i.toNat}
def HQ:Sig:= {X:=List Nd,args:=fun x=>[nds x],pre:=fun x=>Bc x∧x.length≤2^30,Y:=Unit,post:=fun x y=>True,res:=fun x y=> .bool (treeOk x),outs:=fun x y=>[.top],keep:=false}
theorem a7r:Al G Tryz.prog 13 HQ:=
 vcFun_okP [(57,0,EP),(9,0,GI)] [(26,⟨Int,Bh⟩)] false (fun x=>[(6,Qm x),(15,Qn x)]) Tryz.func13 rfl (by decide) ⟨PY,Yq,trivial⟩ (fun(x:List Nd)=>(∀(y:Unit),True→True∧True∧True)∧cA EP [.int .i64 (↑(List.length x):Int),.int .i64 (1:Int),.int .i64 (300:Int)] fun x_1 y=>Aa (!inn x_1.1 x_1.2.1 x_1.2.2) (rA HQ x [.bool false,.top]) (inR IntKind.i64 ((↑(List.length x):Int)-(1:Int))∧((0:Int)≤(↑(List.length x):Int)-(1:Int)∧(↑(List.length x):Int)-(1:Int)<(↑(List.length x):Int))∧∀(e:Nd),x[Int.toNat ((↑(List.length x):Int)-(1:Int))]? =some e→Aa (e.kind != (22:Int)) (rA HQ x [.bool false,.top]) (inR IntKind.i64 ((↑(List.length x):Int)-(1:Int))∧cA GI [nds x,.int .i64 ((↑(List.length x):Int)-(1:Int))] fun x_2 y=>Aa (deepOf x_2.1 x_2.2==(0:Int)) (rA HQ x [.bool false,.top]) (((0:Int)≤(↑(List.length x):Int)∧(↑(List.length x):Int)≤(↑(List.length x):Int)∧(↑(8:Nat):Int)*(↑(List.length x):Int)≤(2:Int)^(46:Nat)∧(↑(List.length x):Int)≤(2:Int)^(46:Nat))∧∃(x_3:Int),(0:Int)=x_3∧eA (Qm x) [nds x,.int .i64 (↑(List.length x):Int),Ae (List.replicate (Int.toNat (↑(List.length x):Int)) x_3),nds x,.int .i64 (↑(List.length x):Int),.int .i64 (0:Int)]∧∀(i:Int),(0:Int)≤i∧i≤(↑(List.length x):Int)→Aa (decide (i<(↑(List.length x):Int))) (((0:Int)≤i∧i<(↑(List.length x):Int))∧∀(e:Nd),x[Int.toNat i]? =some e→eA (Ql x i) [nds x,.int .i64 (↑(List.length x):Int),Ae (cnt (List.length x) (BC (List.take (Int.toNat i) x))),nds x,.int .i64 (↑(List.length x):Int),.int .i64 i,An e.kids,.int .i64 (↑(List.length e.kids):Int),.int .i64 (0:Int)]∧∀(i_1:Int),(0:Int)≤i_1∧i_1≤(↑(List.length (Ab x i).kids):Int)→Aa (decide (i_1<(↑(List.length (Ab x i).kids):Int))) (((0:Int)≤i_1∧i_1<(↑(List.length (Ab x i).kids):Int))∧∀(e:Int),(Ab x i).kids[Int.toNat i_1]? =some e→((0:Int)≤e∧e<(↑(List.length (cnt (List.length x) (tk x i i_1))):Int))∧Int.toNat e<List.length (cnt (List.length x) (tk x i i_1))∧∀(x_4:Int),(cnt (List.length x) (tk x i i_1))[Int.toNat e]? =some x_4→inR IntKind.i64 (x_4+(1:Int))∧((0:Int)≤e∧e<(↑(List.length (cnt (List.length x) (tk x i i_1))):Int))∧Int.toNat e<List.length (cnt (List.length x) (tk x i i_1))∧∀(x_5:Int),(cnt (List.length x) (tk x i i_1))[Int.toNat e]? =some x_5→∃(x':Int),((@List.nil AV)=[]∧(@List.nil AV)=[])∧x_4+(1:Int)=x'∧inR IntKind.i64 (i_1+(1:Int))∧eN (Ql x i) i_1 [nds x,.int .i64 (↑(List.length x):Int),Ae (List.set (cnt (List.length x) (tk x i i_1)) (Int.toNat e) x'),nds x,.int .i64 (↑(List.length x):Int),.int .i64 i,An (Ab x i).kids,.int .i64 (↑(List.length (Ab x i).kids):Int),.int .i64 (i_1+(1:Int))]) (inR IntKind.i64 (i+(1:Int))∧eN (Qm x) i [nds x,.int .i64 (↑(List.length x):Int),Ae (cnt (List.length x) (tk x i i_1)),nds x,.int .i64 (↑(List.length x):Int),.int .i64 (i+(1:Int))])) (inR IntKind.i64 ((↑(List.length x):Int)-(1:Int))∧((0:Int)≤(0:Int)∧(0:Int)≤(↑(List.length x):Int)-(1:Int)∧(↑(List.length x):Int)-(1:Int)≤(↑(List.length (cnt (List.length x) (BC (List.take (Int.toNat i) x)))):Int))∧eA (Qn x) [Ae (List.take (Int.toNat ((↑(List.length x):Int)-(1:Int))) (cnt (List.length x) (BC (List.take (Int.toNat i) x)))),.int .i64 (↑(List.length (List.take (Int.toNat ((↑(List.length x):Int)-(1:Int))) (cnt (List.length x) (BC (List.take (Int.toNat i) x))))):Int),.int .i64 (0:Int)]∧∀(i:Int),tE x i→Aa (decide (i<(↑(List.length x):Int)-(1:Int))) (((0:Int)≤i∧i<(↑(List.length (List.take (Int.toNat ((↑(List.length x):Int)-(1:Int))) (cnt (List.length x) (BC x)))):Int))∧Int.toNat i<List.length (List.take (Int.toNat ((↑(List.length x):Int)-(1:Int))) (cnt (List.length x) (BC x)))∧∀(x_4:Int),(List.take (Int.toNat ((↑(List.length x):Int)-(1:Int))) (cnt (List.length x) (BC x)))[Int.toNat i]? =some x_4→Aa (x_4 != (1:Int)) (rA HQ x [.bool false,.top]) (inR IntKind.i64 (i+(1:Int))∧eN (Qn x) i [Ae (List.take (Int.toNat ((↑(List.length x):Int)-(1:Int))) (cnt (List.length x) (BC x))),.int .i64 ((↑(List.length x):Int)-(1:Int)),.int .i64 (i+(1:Int))])) (rA HQ x [.bool true,.top])))))) (fun x=>by kernel_rfl) fun(x:List Nd) (hx:Bc x∧x.length≤2^30)=>(by
 dsimp only[cA,eA,eN,An,Qm,Ql,Qn,Bt,nds,Ae,rA,GI,HQ,EP,Av,AA,mvL,lnL,mvE,lnE,Bi]
 obtain⟨h1,h2⟩:=hx;have hl:=h1.1
 (repeat' first|(with_reducible first|rfl|exact True.intro|apply AL|apply And.intro|((first|apply AB|apply AJ|apply AC|apply AK)<;>intro _))|(apply Az<;>intro _)|apply AI|refine Ag () ?_ ?_|((first|apply AP|apply AO|apply AN|apply AM|apply AH|apply AG|apply AF|apply AE|apply AD)<;>try dsimp only)|apply Ag|(refine Prod.forall.2 ?_;intro _;try dsimp only)|(intro _;try dsimp only))
 all_goals try(have t1:=Me.1 (show inn x.length 1 300=true by assumption))
 all_goals try(have t0:=YB ‹_› ‹_› ‹_› ‹_›)
 all_goals first
  |rfl
  |exact Mc (YC ‹_›)
  |exact Mc (YD ‹_› ‹_›)
  |exact Mc (fun h=>h.2.2.2 ‹_›)
  |exact Yr
  |(rw[Yt];done)
  |(rw[AZ ‹_›];done)
  |exact(NY ‹_› ‹_› ‹_›).1
  |(rw[Gb];exact(NY ‹_› ‹_› ‹_›).2)
  |(have:=NY ‹_› (show(Ab x _).kids[_]? =some _ by assumption) ‹_›;rw[Gb];omega)
  |(rw[Yu (by omega) ‹_›];exact Ys (NY ‹_› ‹_› ‹_›).1 (NY ‹_› ‹_› ‹_›).2 ‹_›)
  |(rw[Yv (by omega) ‹_› ‹_›];done)
  |(rw[YE ‹_›];done)
  |(have:=YA ‹_› ‹_› ‹_›;omega)
  |(have:=Yz ‹_› ‹_›;(try simp only[AR] at*);omega)
  |exact Yx ‹_› ‹_› ‹_›
  |exact Yy (Yw ‹_› (‹tE _ _›.1) ‹_›) (‹tE _ _›.1) ‹_› ‹_›
  |exact a7q ‹_› ‹_› ‹_› ‹_›
  |exact⟨by omega,by omega,fun c hc=>by omega⟩
  |(rw[List.length_take,Gb];omega)
  |((try simp only[AR,Bb,List.length_replicate,Gb] at*);omega)
  |(obtain⟨_,_,_⟩:= ‹tE _ _›;(try rw[List.length_take,Gb]);(try simp only[AR] at*);omega)
  |skip)
end Go.My
end
section
set_option linter.unusedVariables false
set_option linter.unusedSimpArgs false
namespace Go.My
open Go.Eng Go.Proofs
variable {G:GInv}
def HR:Sig:= {X:=Int,args:=fun x=>[.int .i64 x],pre:=fun x=>True,Y:=Unit,post:=fun x y=>True,res:=fun x y=> .bool (BE x),outs:=fun x y=>[.top],keep:=false}
theorem a7s:Al G Tryz.prog 112 HR:=
 vcFun_okP [(64,0,CB)] [] false (fun x=>[]) Tryz.func112 rfl (by decide) ⟨Kg,trivial⟩ (fun(x:Int)=>(∀(y:Unit),True→True∧True∧True)∧cA CB [.int .i64 x,.int .i64 (1:Int),.int .i64 (11:Int)] fun x_1 y=>rA HR x [.bool (inn x_1.1 x_1.2.1 x_1.2.2),.top]) (fun x=>by kernel_rfl) fun(x:Int) (hx:True)=>(by
 dsimp only[cA,rA,CB,HR,Av,AA,mvL,lnL,mvE,lnE]
 (repeat' first|(with_reducible first|rfl|exact True.intro|apply AL|apply And.intro|((first|apply AB|apply AJ|apply AC|apply AK)<;>intro _))|(apply Az<;>intro _)|apply AI|refine Ag () ?_ ?_|((first|apply AP|apply AO|apply AN|apply AM|apply AH|apply AG|apply AF|apply AE|apply AD)<;>try dsimp only)|apply Ag|(refine Prod.forall.2 ?_;intro _;try dsimp only)|(intro _;try dsimp only))<;>(try dsimp only at*)<;>(try simp only[AR,List.length_cons,List.length_nil])<;>(try omega)
 all_goals simp [BE,Fy, *])
def HS:Sig:= {X:=Int,args:=fun x=>[.int .i64 x],pre:=fun x=>True,Y:=Unit,post:=fun x y=>True,res:=fun x y=> .bool (EC x),outs:=fun x y=>[.top],keep:=false}
theorem YF:Al G Tryz.prog 67 HS:=
 vcFun_okP [(64,0,CB)] [] false (fun x=>[]) Tryz.func67 rfl (by decide) ⟨Kg,trivial⟩ (fun(x:Int)=>(∀(y:Unit),True→True∧True∧True)∧cA CB [.int .i64 x,.int .i64 (12:Int),.int .i64 (17:Int)] fun x_1 y=>Aa (inn x_1.1 x_1.2.1 x_1.2.2) (rA HS x [.bool true,.top]) (rA HS x [.bool (x==(19:Int)),.top])) (fun x=>by kernel_rfl) fun(x:Int) (hx:True)=>(by
 dsimp only[cA,rA,CB,HS,Av,AA,mvL,lnL,mvE,lnE]
 (repeat' first|(with_reducible first|rfl|exact True.intro|apply AL|apply And.intro|((first|apply AB|apply AJ|apply AC|apply AK)<;>intro _))|(apply Az<;>intro _)|apply AI|refine Ag () ?_ ?_|((first|apply AP|apply AO|apply AN|apply AM|apply AH|apply AG|apply AF|apply AE|apply AD)<;>try dsimp only)|apply Ag|(refine Prod.forall.2 ?_;intro _;try dsimp only)|(intro _;try dsimp only))<;>(try dsimp only at*)<;>(try simp only[AR,List.length_cons,List.length_nil])<;>(try omega)
 all_goals simp [EC,Jt,Fy, *])
def Db:Sig:= {X:=Int,args:=fun x=>[.int .i64 x],pre:=fun x=>True,Y:=Unit,post:=fun x y=>True,res:=fun x y=> .tup [.int .i64 (EO x).1,.int .i64 (EO x).2],outs:=fun x y=>[.top],keep:=false}
theorem a7t:Al G Tryz.prog 65 Db:=
 vcFun_okP [] [] false (fun x=>[]) Tryz.func65 rfl (by decide) trivial (fun(x:Int)=>(∀(y:Unit),True→(True∧True∧True)∧True∧True)∧Aa (x==(4:Int)) (rA Db x [.tup [.int .i64 (0:Int),.int .i64 (12:Int)],.top]) (Aa (x==(18:Int)) (rA Db x [.tup [.int .i64 (0:Int),.int .i64 (12:Int)],.top]) (Aa (x==(21:Int)) (rA Db x [.tup [.int .i64 (0:Int),.int .i64 (12:Int)],.top]) (Aa (x==(22:Int)) (rA Db x [.tup [.int .i64 (0:Int),.int .i64 (12:Int)],.top]) (Aa (x==(5:Int)) (rA Db x [.tup [.int .i64 (1:Int),.int .i64 (12:Int)],.top]) (Aa (x==(9:Int)) (rA Db x [.tup [.int .i64 (1:Int),.int .i64 (12:Int)],.top]) (Aa (x==(20:Int)) (rA Db x [.tup [.int .i64 (1:Int),.int .i64 (12:Int)],.top]) (Aa (x==(6:Int)) (rA Db x [.tup [.int .i64 (1:Int),.int .i64 (1:Int)],.top]) (Aa (x==(11:Int)) (rA Db x [.tup [.int .i64 (1:Int),.int .i64 (1:Int)],.top]) (Aa (x==(13:Int)) (rA Db x [.tup [.int .i64 (1:Int),.int .i64 (1:Int)],.top]) (Aa (x==(14:Int)) (rA Db x [.tup [.int .i64 (1:Int),.int .i64 (1:Int)],.top]) (Aa (x==(7:Int)) (rA Db x [.tup [.int .i64 (2:Int),.int .i64 (12:Int)],.top]) (Aa (x==(10:Int)) (rA Db x [.tup [.int .i64 (2:Int),.int .i64 (12:Int)],.top]) (Aa (x==(8:Int)) (rA Db x [.tup [.int .i64 (3:Int),.int .i64 (3:Int)],.top]) (Aa (x==(12:Int)) (rA Db x [.tup [.int .i64 (0:Int),.int .i64 (1:Int)],.top]) (Aa (x==(15:Int)) (rA Db x [.tup [.int .i64 (0:Int),.int .i64 (1:Int)],.top]) (Aa (x==(16:Int)) (rA Db x [.tup [.int .i64 (2:Int),.int .i64 (3:Int)],.top]) (Aa (x==(17:Int)) (rA Db x [.tup [.int .i64 (2:Int),.int .i64 (2:Int)],.top]) (rA Db x [.tup [.int .i64 (0:Int),.int .i64 (0:Int)],.top]))))))))))))))))))) (fun x=>by kernel_rfl) fun(x:Int) (hx:True)=>(by
 dsimp only[rA,Db,Av,AA]
 (repeat' first|(with_reducible first|rfl|exact True.intro|apply AL|apply And.intro|((first|apply AB|apply AJ|apply AC|apply AK)<;>intro _))|(apply Az<;>intro _)|apply AI|refine Ag () ?_ ?_|((first|apply AP|apply AO|apply AN|apply AM|apply AH|apply AG|apply AF|apply AE|apply AD)<;>try dsimp only)|apply Ag|(refine Prod.forall.2 ?_;intro _;try dsimp only)|(intro _;try dsimp only))<;>(try dsimp only at*)<;>(try simp only[AR,List.length_cons,List.length_nil])<;>(try omega)
 all_goals simp [EO, *])
def Hq(x:List Nd×Int×Int):Prop:=Bc x.1∧isNd x.1 x.2.1=true∧((Ab x.1 x.2.1).kind=10→∀c,(Ab x.1 x.2.1).kids[x.2.2.toNat]? =some c→kindAt x.1 c=5→∃h t,(Ab x.1 c).kids=h::t∧isNd x.1 h=true)∧
 (0≤x.2.2∧x.2.2<(Ab x.1 x.2.1).kids.length)∧∀c,(Ab x.1 x.2.1).kids[x.2.2.toNat]? =some c→0≤c∧c<x.1.length
theorem Uf{x:List Nd×Int×Int}{y:Nd}(h:Hq x)(hy:x.1[x.2.1.toNat]? =some y):0≤x.2.2∧x.2.2<y.kids.length:=by
 have:=h.2.2.2.1;rwa [AZ hy] at this
theorem YG{x:List Nd×Int×Int}{y:Nd}{c:Int}(h:Hq x)(hy:x.1[x.2.1.toNat]? =some y)(hc:y.kids[x.2.2.toNat]? =some c):0≤c∧c<x.1.length:=by
 have:=h.2.2.2.2 c;rw[AZ hy] at this;exact this hc
theorem YH{x:List Nd×Int×Int}{y z:Nd}{c:Int}(h:Hq x)(hy:x.1[x.2.1.toNat]? =some y)(hc:y.kids[x.2.2.toNat]? =some c)(hz:x.1[c.toNat]? =some z)(hk:y.kind=10)(hz5:z.kind=5):∃h t,z.kids=h::t∧isNd x.1 h=true:=by
 have:=h.2.2.1;rw[AZ hy] at this
 have:=this hk c hc;rw[kindAt,AZ hz] at this;exact this hz5
theorem YI{x:List Nd×Int×Int}{y z:Nd}{c d:Int}(h:Hq x)(hy:x.1[x.2.1.toNat]? =some y)(hc:y.kids[x.2.2.toNat]? =some c)(hz:x.1[c.toNat]? =some z)(hk:y.kind=10)(hz5:z.kind=5)(hd:z.kids[0]? =some d):(0≤d∧d<x.1.length)∧z.kids.headD 0=d:=by
 obtain⟨a,t,e,ha⟩:=YH h hy hc hz hk hz5
 rw[e] at hd ⊢;cases hd;exact⟨Ci.1 ha,rfl⟩
theorem YJ{x:List Nd×Int×Int}{y z:Nd}{c:Int}(h:Hq x)(hy:x.1[x.2.1.toNat]? =some y)(hc:y.kids[x.2.2.toNat]? =some c)(hz:x.1[c.toNat]? =some z)(hk:y.kind=10)(hz5:z.kind=5):0<z.kids.length:=by
 obtain⟨a,t,e,ha⟩:=YH h hy hc hz hk hz5
 rw[e];simp
def KE(x:List Nd×Int×Int):Bool:=Ke x.1 (Ab x.1 x.2.1) x.2.2 ((Ab x.1 x.2.1).kids.getD x.2.2.toNat 0)
theorem YK{x:List Nd×Int×Int}{y z:Nd}{c:Int}(hy:x.1[x.2.1.toNat]? =some y)(hc:y.kids[x.2.2.toNat]? =some c)(hz:x.1[c.toNat]? =some z):
 KE x=(FW y.kind y.kids.length x.2.2 z.kind&&(if y.kind=10∧0<x.2.2 then decide (kindAt x.1 (z.kids.headD 0)=1) else true)):=by
 rw[KE,AZ hy,List.getD,hc,Option.getD_some,Ke,kindAt,AZ hz]
def CT:Sig:= {X:=List Nd×Int×Int,args:=fun x=>[nds x.1,.int .i64 x.2.1,.int .i64 x.2.2],pre:=fun x=>Hq x,Y:=Unit,post:=fun x y=>True,res:=fun x y=> .bool (KE x),outs:=fun x y=>[.top,.top,.top],keep:=false}
theorem a7u:Al G Tryz.prog 68 CT:=
 vcFun_okP [(112,0,HR),(67,0,HS)] [] false (fun x=>[]) Tryz.func68 rfl (by decide) ⟨a7s,YF,trivial⟩ (fun(x:List Nd×Int×Int)=>(∀(y:Unit),True→True∧True∧True∧True∧True)∧((0:Int)≤x.2.1∧x.2.1<(↑(List.length x.1):Int))∧∀(e:Nd),x.1[Int.toNat x.2.1]? =some e→((0:Int)≤x.2.2∧x.2.2<(↑(List.length e.kids):Int))∧∀(e_1:Int),e.kids[Int.toNat x.2.2]? =some e_1→((0:Int)≤e_1∧e_1<(↑(List.length x.1):Int))∧∀(e_2:Nd),x.1[Int.toNat e_1]? =some e_2→Aa (e.kind==(9:Int)) (inR IntKind.i64 (x.2.2+(1:Int))∧Aa (decide (x.2.2+(1:Int)<(↑(List.length e.kids):Int))) (rA CT x [.bool (e_2.kind==(1:Int)),.top,.top,.top]) (cA HR [.int .i64 e_2.kind] fun x_1 y=>rA CT x [.bool (BE x_1),.top,.top,.top])) (Aa (e.kind==(20:Int)) (inR IntKind.i64 (x.2.2+(1:Int))∧Aa (decide (x.2.2+(1:Int)<(↑(List.length e.kids):Int))) (rA CT x [.bool (e_2.kind==(1:Int)),.top,.top,.top]) (rA CT x [.bool (e_2.kind==(18:Int)),.top,.top,.top])) (Aa (e.kind==(10:Int)) (Aa (decide (x.2.2>(0:Int))) (Aa (e_2.kind==(5:Int)) (((0:Int)≤(0:Int)∧(0:Int)<(↑(List.length e_2.kids):Int))∧∀(e:Int),e_2.kids[(0:Nat)]? =some e→((0:Int)≤e∧e<(↑(List.length x.1):Int))∧∀(e_3:Nd),x.1[Int.toNat e]? =some e_3→rA CT x [.bool (e_3.kind==(1:Int)),.top,.top,.top]) (rA CT x [.bool false,.top,.top,.top])) (cA HR [.int .i64 e_2.kind] fun x_1 y=>rA CT x [.bool (BE x_1),.top,.top,.top])) (Aa (e.kind==(16:Int)) (Aa (decide (x.2.2>(0:Int))) (rA CT x [.bool (e_2.kind==(18:Int)),.top,.top,.top]) (cA HR [.int .i64 e_2.kind] fun x_1 y=>rA CT x [.bool (BE x_1),.top,.top,.top])) (Aa (e.kind==(17:Int)) (Aa (decide (x.2.2>(0:Int))) (rA CT x [.bool (e_2.kind==(18:Int)),.top,.top,.top]) (cA HR [.int .i64 e_2.kind] fun x_1 y=>rA CT x [.bool (BE x_1),.top,.top,.top])) (Aa (e.kind==(18:Int)) (cA HS [.int .i64 e_2.kind] fun x_1 y=>rA CT x [.bool (EC x_1),.top,.top,.top]) (Aa (e.kind==(21:Int)) (Aa (e_2.kind==(12:Int)) (rA CT x [.bool true,.top,.top,.top]) (Aa (e_2.kind==(20:Int)) (rA CT x [.bool true,.top,.top,.top]) (rA CT x [.bool (e_2.kind==(19:Int)),.top,.top,.top]))) (Aa (e.kind==(22:Int)) (Aa (e_2.kind==(21:Int)) (rA CT x [.bool true,.top,.top,.top]) (Aa (e_2.kind==(12:Int)) (rA CT x [.bool true,.top,.top,.top]) (Aa (e_2.kind==(20:Int)) (rA CT x [.bool true,.top,.top,.top]) (rA CT x [.bool (e_2.kind==(19:Int)),.top,.top,.top])))) (cA HR [.int .i64 e_2.kind] fun x_1 y=>rA CT x [.bool (BE x_1),.top,.top,.top]))))))))) (fun x=>by kernel_rfl) fun(x:List Nd×Int×Int) (hx:Hq x)=>(by
 dsimp only[cA,Bt,nds,rA,CT,HS,HR,Av,AA,mvL,lnL,mvE,lnE]
 have h:=hx;have h1:=h.1;have hl:=h1.1;have hn:=Ci.1 h.2.1
 (repeat' first|(with_reducible first|rfl|exact True.intro|apply AL|apply And.intro|((first|apply AB|apply AJ|apply AC|apply AK)<;>intro _))|(apply Az<;>intro _)|apply AI|refine Ag () ?_ ?_|((first|apply AP|apply AO|apply AN|apply AM|apply AH|apply AG|apply AF|apply AE|apply AD)<;>try dsimp only)|apply Ag|(refine Prod.forall.2 ?_;intro _;try dsimp only)|(intro _;try dsimp only))
 all_goals first
  |omega
  |exact(Uf h ‹_›).1
  |exact(Uf h ‹_›).2
  |exact(YG h ‹_› ‹_›).1
  |exact(YG h ‹_› ‹_›).2
  |exact YJ h ‹_› ‹_› ‹_› ‹_› ‹_›
  |(have:=YJ h ‹_› ‹_› ‹_› ‹_› ‹_›;omega)
  |(have:=(YI h ‹_› ‹_› ‹_› ‹_› ‹_› ‹_›).1;omega)
  |(have hk:=(h1.2 _ (CZ (show x.1[x.2.1.toNat]? =some _ by assumption))).2;have:=Uf h ‹_›;(try simp only[AR]);omega)
  |(rw[YK ‹_› ‹_› ‹_›];simp [FW,DV,Dx,EB,GD,Fv,Fy, *];done)
  |(rw[YK ‹_› ‹_› ‹_›,(YI h ‹_› ‹_› ‹_› ‹_› ‹_› ‹_›).2,kindAt,AZ ‹_›];simp [FW,Fv,Fy, *];done)
  |skip)
end Go.My
end
section
set_option linter.unusedVariables false
set_option linter.unusedSimpArgs false
namespace Go.My
open Go.Eng Go.Proofs
variable {G:GInv}
def koI(ns:List Nd)(x:Nd)(i:Int):Prop:=0≤i∧i≤x.kids.length∧∀(j:Nat) c,(j:Int)<i→x.kids[j]? =some c→Dz ns x j c=true
theorem a7v{ns:List Nd}{x:Nd}:koI ns x 0:=⟨by omega,by omega,fun j c h=>by omega⟩
theorem YL{ns:List Nd}{x:Nd}{i c:Int}(h:koI ns x i)(hc:x.kids[i.toNat]? =some c)(hk:Dz ns x i c=true):koI ns x (i+1):=by
 obtain⟨h1,h2,h3⟩:=h
 have:=(Fd hc).1
 refine⟨by omega,by omega,fun j d hj hd=> ?_⟩
 by_cases e:(j:Int)<i
 ·exact h3 j d e hd
 ·obtain rfl:j=i.toNat:=by omega
  rw[hc] at hd;cases hd
  rwa [show((i.toNat:Nat):Int)=i by omega]
theorem a7w{ns:List Nd}{x:Nd}{i:Int}(h:koI ns x i)(hl:¬i<x.kids.length):BN (Dz ns x) x.kids 0=true:=by
 rw[TN];intro j c hc
 exact h.2.2 j c (by have:=(Fd hc).1;omega) hc
theorem Qo{ns:List Nd}{x:Nd}{i c:Int}(h0:0≤i)(hc:x.kids[i.toNat]? =some c)(hk:Dz ns x i c=false):BN (Dz ns x) x.kids 0=false:=by
 rw[Bool.eq_false_iff];intro h
 rw[TN] at h
 have:=h _ _ hc
 rw[show((i.toNat:Nat):Int)=i by omega,hk] at this;cases this
theorem ko1{ns:List Nd}{x y:Nd}{i c:Int}(hy:ns[c.toNat]? =some y)(h:y.kind=5)(h0:(y.kids.length:Int)=0):Dz ns x i c=false:=by
 have h0:=List.length_eq_zero_iff.1 (show y.kids.length=0 by omega)
 simp [Dz,kindAt,AZ hy,h,h0]
theorem Iv{ns:List Nd}{d:Int}:inn d 0 (ns.length-1)=isNd ns d:=by
 rw[Bool.eq_iff_iff];simp only[inn,isNd,Bool.and_eq_true,decide_eq_true_eq];omega
theorem ko2{ns:List Nd}{x y:Nd}{i c d:Int}(hy:ns[c.toNat]? =some y)(h:y.kind=5)(h0:y.kids[0]? =some d)(hd:inn d 0 (ns.length-1)=false):Dz ns x i c=false:=by
 rw[Iv] at hd
 match hk:y.kids with
 |[]=>rw[hk] at h0;cases h0
 |e::t=>rw[hk] at h0;cases h0;simp [Dz,kindAt,AZ hy,h,hk,hd]
theorem ko3{ns:List Nd}{x y:Nd}{i c d:Int}(hy:ns[c.toNat]? =some y)(h:y.kind=5)(h0:y.kids[0]? =some d)(hd:inn d 0 (ns.length-1)=true):Dz ns x i c=Ke ns x i c:=by
 rw[Iv] at hd
 match hk:y.kids with
 |[]=>rw[hk] at h0;cases h0
 |e::t=>rw[hk] at h0;cases h0;simp [Dz,kindAt,AZ hy,h,hk,hd]
theorem ko4{ns:List Nd}{x y:Nd}{i c:Int}(hy:ns[c.toNat]? =some y)(h:y.kind≠5):Dz ns x i c=Ke ns x i c:=by
 simp [Dz,kindAt,AZ hy,h]
theorem Qp{ns:List Nd}{x:Nd}{k i c:Int}{b:Bool}(hx:ns[k.toNat]? =some x)(hc:x.kids[i.toNat]? =some c)(hb:KE (ns,k,i)=b):Ke ns x i c=b:=by
 rw[←hb,KE,AZ hx,List.getD,hc,Option.getD_some]
theorem a7x{ns:List Nd}{x y:Nd}{k i c d:Int}(h1:Bc ns)(hn:isNd ns k=true)(hx:ns[k.toNat]? =some x)(hin:Dy x.kids k=true)(hi:koI ns x i)(hc:x.kids[i.toNat]? =some c)(hy:ns[c.toNat]? =some y)(h0:y.kids[0]? =some d)(hd:inn d 0 (ns.length-1)=true):Hq (ns,k,i):=by
 have hk:=Ci.1 hn
 have:=(Fd hc).1
 unfold Hq;simp only[AZ hx]
 refine⟨h1,hn,fun h10 c' hc' h5=> ?_,⟨hi.1,by omega⟩,fun c' hc'=> ?_⟩
 ·rw[hc] at hc';cases hc'
  rw[AZ hy]
  match hkk:y.kids with
  |[]=>rw[hkk] at h0;cases h0
  |e::t=>rw[hkk] at h0;cases h0;exact⟨_,_,rfl,by rw[←Iv];exact hd⟩
 ·simp only[Dy,List.all_eq_true,Bool.and_eq_true,decide_eq_true_eq] at hin
  have:=hin c' (CZ hc');omega
theorem a7y{ns:List Nd}{x y:Nd}{k i c:Int}(h1:Bc ns)(hn:isNd ns k=true)(hx:ns[k.toNat]? =some x)(hin:Dy x.kids k=true)(hi:koI ns x i)(hc:x.kids[i.toNat]? =some c)(hy:ns[c.toNat]? =some y)(h5:y.kind≠5):Hq (ns,k,i):=by
 have hk:=Ci.1 hn
 have:=(Fd hc).1
 unfold Hq;simp only[AZ hx]
 refine⟨h1,hn,fun h10 c' hc' h5'=> ?_,⟨hi.1,by omega⟩,fun c' hc'=> ?_⟩
 ·rw[hc] at hc';cases hc'
  rw[kindAt,AZ hy] at h5';exact(h5 h5').elim
 ·simp only[Dy,List.all_eq_true,Bool.and_eq_true,decide_eq_true_eq] at hin
  have:=hin c' (CZ hc');omega
theorem YM{k:Int}:Hj k=(EC k||(decide (k=20)||decide (k=21))):=by
 rw[Bool.eq_iff_iff]
 simp only[Hj,EC,EB,Jt,inn,Bool.or_eq_true,Bool.and_eq_true,decide_eq_true_eq];omega
theorem YN{ns:List Nd}{k:Int}(h:inn k 0 (ns.length-1)=false):false=nodeOk ns k:=by rw[Iv] at h;exact Yj h
theorem NZ{ns:List Nd}{k:Int}{x:Nd}(hx:ns[k.toNat]? =some x)(h:inn k 0 (ns.length-1)=true):nodeOk ns k=(inn x.kind 1 22&&(inn x.kids.length (EO x.kind).1 (EO x.kind).2&&(Dr x.kind x.text&&((Hj x.kind|| !x.blank)&&((Dy x.kids k&&decide x.kids.Nodup)&&BN (Dz ns x) x.kids 0))))):=by
 rw[Iv] at h;rw[Mb hx h,a5d]
theorem a7z{ns:List Nd}{k:Int}{x:Nd}(hx:ns[k.toNat]? =some x)(h:inn k 0 (ns.length-1)=true)(h1:Dy x.kids k=false):false=nodeOk ns k:=by
 rw[NZ hx h,h1];simp
theorem a7A{ns:List Nd}{k:Int}{x:Nd}(hx:ns[k.toNat]? =some x)(h:inn k 0 (ns.length-1)=true)(h1:¬x.kids.Nodup):false=nodeOk ns k:=by
 rw[NZ hx h,decide_eq_false h1];simp
theorem Qq{ns:List Nd}{k:Int}{x:Nd}(hx:ns[k.toNat]? =some x)(h:inn k 0 (ns.length-1)=true)(h1:BN (Dz ns x) x.kids 0=false):false=nodeOk ns k:=by
 rw[NZ hx h,h1];simp
theorem a7B{ns:List Nd}{k:Int}{x:Nd}(hx:ns[k.toNat]? =some x)(h:inn k 0 (ns.length-1)=true)(h1:inn x.kind 1 22=true)(h2:inn x.kids.length (EO x.kind).1 (EO x.kind).2=true)(h3:Dr x.kind x.text=true)(h4:(Hj x.kind|| !x.blank)=true)
 (h5:Dy x.kids k=true∧x.kids.Nodup) (h6:BN (Dz ns x) x.kids 0=true):true=nodeOk ns k:=by
 rw[NZ hx h,h1,h2,h3,h4,h5.1,h6,decide_eq_true h5.2];rfl
theorem a7C{k c:Int}{l:List Int}{n:Nat}(hc:l[n]? =some c)(h:inn c 0 (k-1)=false):Dy l k=false:=by
 rw[Bool.eq_false_iff];intro hh;simp only[Dy,List.all_eq_true,Bool.and_eq_true,decide_eq_true_eq] at hh
 have:=hh c (CZ hc)
 have:inn c 0 (k-1)=true:=Me.2 (by omega)
 rw[h] at this;cases this
def djI(l:List Int)(i j:Int):Prop:=0≤j∧j≤i∧∀c,l[i.toNat]? =some c→(l.take j.toNat).elem c=false
theorem a7D{l:List Int}{i:Int}(h:0≤i):djI l i 0:=⟨by omega,h,by simp⟩
theorem a7E{l:List Int}{i j c d:Int}(h:djI l i j)(hl:j<i)(hc:l[i.toNat]? =some c)(hd:l[j.toNat]? =some d)(hne:c≠d):djI l i (j+1):=by
 refine⟨by have:=h.1;omega,by omega,fun c' hc'=> ?_⟩
 have h3:=h.2.2 c' hc'
 rw[hc] at hc';cases hc'
 rw[Dv h.1,FV hd]
 simp at h3 ⊢
 exact⟨h3,hne⟩
theorem a7F{l:List Int}{i j c d:Int}(h0:djI l i j)(hl:j<i)(hc:l[i.toNat]? =some c)(hd:l[j.toNat]? =some d)(he:c=d):¬l.Nodup:=by
 refine Yi hc ?_
 subst he
 rw[List.elem_iff]
 rw[List.mem_take_iff_getElem]
 obtain⟨hj,e⟩:=Fd hd
 have:=h0.1
 exact⟨j.toNat,by omega,e⟩
theorem a7G{k:Int}{l:List Int}{i j c:Int}(h:nkI k l i)(hd:djI l i j)(hl:¬j<i)(hc:l[i.toNat]? =some c)(hin:inn c 0 (k-1)=true):nkI k l (i+1):=by
 have:=Me.1 hin
 have h3:=hd.2.2 c hc
 obtain rfl:j=i:=by have:=hd.2.1;omega
 exact Yh h hc (by omega) (by omega) h3
def Qr(x:List Nd×Int)(i:Int):LS:= {
 ι:=Int,inv:=djI (Ab x.1 x.2).kids i,
 regs:=fun j=>[(0,nds x.1),(1,.int .i64 x.2),(5,.box 0 (ndA false (Ab x.1 x.2))),(8,.int .i64 i),(9,.int .i64 j)],als:=[],meas:=fun j=>i.toNat-j.toNat}
def Qs(x:List Nd×Int):LS:= {
 ι:=Int,inv:=nkI x.2 (Ab x.1 x.2).kids,
 regs:=fun i=>[(0,nds x.1),(1,.int .i64 x.2),(5,.box 0 (ndA false (Ab x.1 x.2))),(8,.int .i64 i)],als:=[],meas:=fun i=>(Ab x.1 x.2).kids.length-i.toNat,sub:=fun i=>[(15,Qr x i)]}
def Oa(x:List Nd×Int):LS:= {
 ι:=Int,inv:=koI x.1 (Ab x.1 x.2),
 regs:=fun i=>[(0,nds x.1),(1,.int .i64 x.2),(5,.box 0 (ndA false (Ab x.1 x.2))),(10,.int .i64 i)],als:=[],meas:=fun i=>(Ab x.1 x.2).kids.length-i.toNat}
def jI(x:Nd):Prop:=inn x.kind 1 22=true∧inn x.kids.length (EO x.kind).1 (EO x.kind).2=true∧Dr x.kind x.text=true∧(Hj x.kind|| !x.blank)=true
def Mf(x:List Nd×Int):LS:= {
 ι:=Unit,inv:=fun _=>jI (Ab x.1 x.2),
 regs:=fun _=>[(0,nds x.1),(1,.int .i64 x.2),(5,.box 0 (ndA false (Ab x.1 x.2)))],als:=[],meas:=fun _=>0}
def EE:Sig:= {X:=List Nd×Int,args:=fun x=>[nds x.1,.int .i64 x.2],pre:=fun x=>Bc x.1,Y:=Unit,post:=fun x y=>True,res:=fun x y=> .bool (nodeOk x.1 x.2),outs:=fun x y=>[.top,.top],keep:=false}
set_option maxHeartbeats 4000000 in
theorem a7H:Al G Tryz.prog 15 EE:=
 vcFun_okP [(64,0,CB),(65,0,Db),(66,0,EQ),(67,0,HS),(68,0,CT)] [] false (fun x=>[(10,Qs x),(20,Oa x),(200009,Mf x)]) Tryz.func15 rfl (by decide) ⟨Kg,a7t,a6r,YF,a7u,trivial⟩ (fun(x:List Nd×Int)=>(∀(y:Unit),True→True∧True∧True∧True)∧inR IntKind.i64 ((↑(List.length x.1):Int)-(1:Int))∧cA CB [.int .i64 x.2,.int .i64 (0:Int),.int .i64 ((↑(List.length x.1):Int)-(1:Int))] fun x_1 y=>Aa (!inn x_1.1 x_1.2.1 x_1.2.2) (rA EE x [.bool false,.top,.top]) (((0:Int)≤x.2∧x.2<(↑(List.length x.1):Int))∧∀(e:Nd),x.1[Int.toNat x.2]? =some e→cA CB [.int .i64 e.kind,.int .i64 (1:Int),.int .i64 (22:Int)] fun x_2 y=>Aa (!inn x_2.1 x_2.2.1 x_2.2.2) (rA EE x [.bool false,.top,.top]) (((0:Int)≤x.2∧x.2<(↑(List.length x.1):Int))∧∀(e:Nd),x.1[Int.toNat x.2]? =some e→cA Db [.int .i64 e.kind] fun x_3 y=>cA CB [.int .i64 (↑(List.length e.kids):Int),.int .i64 (EO x_3).1,.int .i64 (EO x_3).2] fun x_4 y=>Aa (!inn x_4.1 x_4.2.1 x_4.2.2) (rA EE x [.bool false,.top,.top]) (cA EQ [.int .i64 e.kind,.str e.text] fun x_5 y=>Aa (!Dr x_5.1 x_5.2) (rA EE x [.bool false,.top,.top]) (Aa e.blank (cA HS [.int .i64 e.kind] fun x_6 y=>Aa (!EC x_6) (Aa (e.kind != (20:Int)) (Aa (e.kind != (21:Int)) (rA EE x [.bool false,.top,.top]) (eA (Mf x) [nds x.1,.int .i64 x.2,.box 0 [.int .i64 e.kind,.str e.text,An e.kids,.bool e.blank]])) (eA (Mf x) [nds x.1,.int .i64 x.2,.box 0 [.int .i64 e.kind,.str e.text,An e.kids,.bool e.blank]])) (eA (Mf x) [nds x.1,.int .i64 x.2,.box 0 [.int .i64 e.kind,.str e.text,An e.kids,.bool e.blank]])) (eA (Mf x) [nds x.1,.int .i64 x.2,.box 0 [.int .i64 e.kind,.str e.text,An e.kids,.bool e.blank]])∧∀(i:Unit),jI (Ab x.1 x.2)→eA (Qs x) [nds x.1,.int .i64 x.2,.box 0 [.int .i64 (Ab x.1 x.2).kind,.str (Ab x.1 x.2).text,An (Ab x.1 x.2).kids,.bool (Ab x.1 x.2).blank],.int .i64 (0:Int)]∧∀(i:Int),nkI x.2 (Ab x.1 x.2).kids i→Aa (decide (i<(↑(List.length (Ab x.1 x.2).kids):Int))) (((0:Int)≤i∧i<(↑(List.length (Ab x.1 x.2).kids):Int))∧∀(e:Int),(Ab x.1 x.2).kids[Int.toNat i]? =some e→inR IntKind.i64 (x.2-(1:Int))∧cA CB [.int .i64 e,.int .i64 (0:Int),.int .i64 (x.2-(1:Int))] fun x_6 y=>Aa (!inn x_6.1 x_6.2.1 x_6.2.2) (rA EE x [.bool false,.top,.top]) (eA (Qr x i) [nds x.1,.int .i64 x.2,.box 0 [.int .i64 (Ab x.1 x.2).kind,.str (Ab x.1 x.2).text,An (Ab x.1 x.2).kids,.bool (Ab x.1 x.2).blank],.int .i64 i,.int .i64 (0:Int)]∧∀(i_1:Int),djI (Ab x.1 x.2).kids i i_1→Aa (decide (i_1<i)) (true=true∧true=true∧((0:Int)≤i∧i<(↑(List.length (Ab x.1 x.2).kids):Int))∧∀(e:Int),(Ab x.1 x.2).kids[Int.toNat i]? =some e→((0:Int)≤i_1∧i_1<(↑(List.length (Ab x.1 x.2).kids):Int))∧∀(e_1:Int),(Ab x.1 x.2).kids[Int.toNat i_1]? =some e_1→Aa (e==e_1) (rA EE x [.bool false,.top,.top]) (inR IntKind.i64 (i_1+(1:Int))∧eN (Qr x i) i_1 [nds x.1,.int .i64 x.2,.box 0 [.int .i64 (Ab x.1 x.2).kind,.str (Ab x.1 x.2).text,An (Ab x.1 x.2).kids,.bool (Ab x.1 x.2).blank],.int .i64 i,.int .i64 (i_1+(1:Int))])) (inR IntKind.i64 (i+(1:Int))∧eN (Qs x) i [nds x.1,.int .i64 x.2,.box 0 [.int .i64 (Ab x.1 x.2).kind,.str (Ab x.1 x.2).text,An (Ab x.1 x.2).kids,.bool (Ab x.1 x.2).blank],.int .i64 (i+(1:Int))]))) (eA (Oa x) [nds x.1,.int .i64 x.2,.box 0 [.int .i64 (Ab x.1 x.2).kind,.str (Ab x.1 x.2).text,An (Ab x.1 x.2).kids,.bool (Ab x.1 x.2).blank],.int .i64 (0:Int)]∧∀(i:Int),koI x.1 (Ab x.1 x.2) i→Aa (decide (i<(↑(List.length (Ab x.1 x.2).kids):Int))) (((0:Int)≤i∧i<(↑(List.length (Ab x.1 x.2).kids):Int))∧∀(e:Int),(Ab x.1 x.2).kids[Int.toNat i]? =some e→((0:Int)≤e∧e<(↑(List.length x.1):Int))∧∀(e_1:Nd),x.1[Int.toNat e]? =some e_1→Aa (e_1.kind==(5:Int)) (Aa ((↑(List.length e_1.kids):Int)==(0:Int)) (rA EE x [.bool false,.top,.top]) (((0:Int)≤(0:Int)∧(0:Int)<(↑(List.length e_1.kids):Int))∧∀(e:Int),e_1.kids[(0:Nat)]? =some e→inR IntKind.i64 ((↑(List.length x.1):Int)-(1:Int))∧cA CB [.int .i64 e,.int .i64 (0:Int),.int .i64 ((↑(List.length x.1):Int)-(1:Int))] fun x_6 y=>Aa (!inn x_6.1 x_6.2.1 x_6.2.2) (rA EE x [.bool false,.top,.top]) (cA CT [nds x.1,.int .i64 x.2,.int .i64 i] fun x_7 y=>Aa (!KE x_7) (rA EE x [.bool false,.top,.top]) (inR IntKind.i64 (i+(1:Int))∧eN (Oa x) i [nds x.1,.int .i64 x.2,.box 0 [.int .i64 (Ab x.1 x.2).kind,.str (Ab x.1 x.2).text,An (Ab x.1 x.2).kids,.bool (Ab x.1 x.2).blank],.int .i64 (i+(1:Int))])))) (cA CT [nds x.1,.int .i64 x.2,.int .i64 i] fun x_6 y=>Aa (!KE x_6) (rA EE x [.bool false,.top,.top]) (inR IntKind.i64 (i+(1:Int))∧eN (Oa x) i [nds x.1,.int .i64 x.2,.box 0 [.int .i64 (Ab x.1 x.2).kind,.str (Ab x.1 x.2).text,An (Ab x.1 x.2).kids,.bool (Ab x.1 x.2).blank],.int .i64 (i+(1:Int))]))) (rA EE x [.bool true,.top,.top]))))))) (fun x=>by kernel_rfl) fun(x:List Nd×Int) (hx:Bc x.1)=>(by
 dsimp only[cA,eA,eN,An,Mf,Qs,Qr,Oa,Bt,nds,rA,CB,Db,CT,HS,EQ,EE,Av,AA,mvL,lnL,mvE,lnE,Bi]
 have h1:Bc x.1:=hx;have hl:=h1.1
 by_cases hn:isNd x.1 x.2=true
 case neg=>
  (repeat' first|(with_reducible first|rfl|exact True.intro|apply AL|apply And.intro|((first|apply AB|apply AJ|apply AC|apply AK)<;>intro _))|(apply Az<;>intro _)|apply AI|refine Ag () ?_ ?_|((first|apply AP|apply AO|apply AN|apply AM|apply AH|apply AG|apply AF|apply AE|apply AD)<;>try dsimp only)|apply Ag|(refine Prod.forall.2 ?_;intro _;try dsimp only)|(intro _;try dsimp only))
  all_goals first
   |exact YN ‹_›
   |(have hh:=(show inn x.2 0 (x.1.length-1)=true by assumption);rw[Iv] at hh;exact(hn hh).elim)
   |((try simp only[AR]);omega)
 case pos=>
 have hr:=Ci.1 hn
 obtain⟨z,hz⟩:∃z,x.1[x.2.toNat]? =some z:=⟨x.1[x.2.toNat],by simp⟩
 have hzo:=h1.2 _ (CZ hz)
 have hi:inn x.2 0 (x.1.length-1)=true:=by rw[Iv];exact hn
 simp only[hz,Option.some.injEq,forall_eq',AZ hz]
 (repeat' first|(with_reducible first|rfl|exact True.intro|apply AL|apply And.intro|((first|apply AB|apply AJ|apply AC|apply AK)<;>intro _))|(apply Az<;>intro _)|apply AI|refine Ag () ?_ ?_|((first|apply AP|apply AO|apply AN|apply AM|apply AH|apply AG|apply AF|apply AE|apply AD)<;>try dsimp only)|apply Ag|(refine Prod.forall.2 ?_;intro _;try dsimp only)|(intro _;try dsimp only))
 all_goals first
  |rfl
  |assumption
  |exact Yg
  |exact a7v
  |exact a7D (‹nkI _ _ _›.1)
  |exact YN ‹_›
  |exact⟨by assumption,by assumption,by assumption,by simp [YM, *]⟩
  |exact a7z hz hi (a7C ‹_› ‹_›)
  |exact a7A hz hi (a7F ‹_› ‹_› ‹_› ‹_› ‹_›)
  |exact a7E ‹_› ‹_› ‹_› ‹_› ‹_›
  |exact a7G ‹_› ‹_› ‹_› ‹_› ‹_›
  |exact Qq hz hi (Qo (‹koI _ _ _›.1) ‹_› (ko1 ‹_› ‹_› ‹_›))
  |exact Qq hz hi (Qo (‹koI _ _ _›.1) ‹_› (ko2 ‹_› ‹_› ‹_› ‹_›))
  |exact Qq hz hi (Qo (‹koI _ _ _›.1) ‹_› ((ko4 ‹_› ‹_›).trans (Qp hz ‹_› ‹_›)))
  |exact Qq hz hi (Qo (‹koI _ _ _›.1) ‹_› ((ko3 ‹_› ‹_› ‹_› ‹_›).trans (Qp hz ‹_› ‹_›)))
  |exact YL ‹_› ‹_› ((ko4 ‹_› ‹_›).trans (Qp hz ‹_› ‹_›))
  |exact YL ‹_› ‹_› ((ko3 ‹_› ‹_› ‹_› ‹_›).trans (Qp hz ‹_› ‹_›))
  |exact a7x h1 hn hz (NW ‹_› ‹_›).1 ‹_› ‹_› ‹_› ‹_› ‹_›
  |exact a7y h1 hn hz (NW ‹_› ‹_›).1 ‹_› ‹_› ‹_› ‹_›
  |exact a7B hz hi (‹jI _›.1) (‹jI _›.2.1) (‹jI _›.2.2.1) (‹jI _›.2.2.2) (NW ‹_› ‹_›) (a7w ‹_› ‹_›)
  |(rw[NZ hz hi];simp [YM, *];done)
  |exact hzo.1
  |(have:=Ud ‹_› ‹_› hr.2 (CZ (show z.kids[_]? =some _ by assumption));omega)
  |((try simp only[AR]);omega)
  |(have hko:=(show koI _ _ _ by assumption);have hk2:=hzo.2;have:=hko.1;have:=hko.2.1;(try simp only[AR]);omega)
  |(have hko:=(show djI _ _ _ by assumption);have hk1:=(show nkI _ _ _ by assumption);have hk2:=hzo.2;have:=hko.1;have:=hko.2.1;have:=hk1.1;have:=hk1.2.1;(try simp only[AR]);omega)
  |(have hk1:=(show nkI _ _ _ by assumption);have hk2:=hzo.2;have:=hk1.1;have:=hk1.2.1;(try simp only[AR]);omega)
  |skip)
end Go.My
end
