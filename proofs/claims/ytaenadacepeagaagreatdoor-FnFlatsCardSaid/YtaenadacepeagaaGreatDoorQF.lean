/- joined -/
import Derived.Test.YtaenadacepeagaaGreatDoorQE
set_option linter.unusedSimpArgs false
set_option linter.unusedVariables false
section
namespace Go.My
open Go.Eng Go.Proofs
variable {G:GInv}
theorem Gd{a b:Int}:(a==b)=decide (a=b):=by rw[Bool.eq_iff_iff];simp
theorem a6N{α:Type}{p:α→Bool}{x:List α}{n:Nat}{e:α}(he:x[n]? =some e)(hp:p e=true)(h:∀e∈x.take n,p e=true):∀e∈x.take (n+1),p e=true:=by
 rw[Fb he];intro d hd
 rcases List.mem_append.1 hd with hd|hd
 ·exact h d hd
 ·simp at hd;subst hd;exact hp
theorem a6O{α:Type}{p:α→Bool}{x:List α}{n:Nat}(h:∀e∈x.take n,p e=true)(hn:x.length≤n):x.all p=true:=by
 rw[List.take_of_length_le hn] at h;exact List.all_eq_true.2 h
theorem KO{α:Type}{p:α→Bool}{x:List α}{n:Nat}{e:α}(he:x[n]? =some e)(hp:p e=false):x.all p=false:=by
 rw[Bool.eq_false_iff];intro h
 rw[List.all_eq_true.1 h e (List.mem_of_getElem? he)] at hp;cases hp
def Ff:Sig:= {X:=Int,args:=fun x=>[.int .i64 x],pre:=fun x=>True,Y:=Unit,post:=fun x y=>True,res:=fun x y=> .bool (BH x),outs:=fun x y=>[.top],keep:=false}
theorem Qy:Am G Tryz.prog 84 Ff:=
 vcFun_okP [(56,0,Fr)] [] false (fun x=>[]) Tryz.func84 rfl (by decide) ⟨Qn,trivial⟩ (fun(x:Int)=>(∀(y:Unit),True→True∧True∧True)∧cA Fr [.int .i64 x,.int .i64 (1:Int),.int .i64 (11:Int)] fun x_1 y=>rA Ff x [.bool (inn x_1.1 x_1.2.1 x_1.2.2),.top]) (fun x=>by kernel_rfl) fun(x:Int) (hx:True)=>(by
 dsimp only[cA,rA,Fr,Ff,Aw,AR,mvL,lnL,mvE,lnE]
 (repeat' first|(with_reducible first|rfl|exact True.intro|apply AM|apply And.intro|((first|apply AC|apply AK|apply AD|apply AL)<;>intro _))|(apply AB<;>intro _)|apply AJ|refine Ag () ?_ ?_|((first|apply AQ|apply AP|apply AO|apply AN|apply AI|apply AH|apply AG|apply AF|apply AE)<;>try dsimp only)|apply Ag|(refine Prod.forall.2 ?_;intro _;try dsimp only)|(intro _;try dsimp only))<;>(try dsimp only at*)<;>(try simp only[AS,List.length_cons,List.length_nil])<;>(try omega)
 all_goals simp [BH,Gd, *])
def IY:Sig:= {X:=Int,args:=fun x=>[.int .i64 x],pre:=fun x=>True,Y:=Unit,post:=fun x y=>True,res:=fun x y=> .bool (JP x),outs:=fun x y=>[.top],keep:=false}
theorem Zh:Am G Tryz.prog 94 IY:=
 vcFun_okP [(56,0,Fr)] [] false (fun x=>[]) Tryz.func94 rfl (by decide) ⟨Qn,trivial⟩ (fun(x:Int)=>(∀(y:Unit),True→True∧True∧True)∧cA Fr [.int .i64 x,.int .i64 (12:Int),.int .i64 (17:Int)] fun x_1 y=>rA IY x [.bool (inn x_1.1 x_1.2.1 x_1.2.2),.top]) (fun x=>by kernel_rfl) fun(x:Int) (hx:True)=>(by
 dsimp only[cA,rA,Fr,IY,Aw,AR,mvL,lnL,mvE,lnE]
 (repeat' first|(with_reducible first|rfl|exact True.intro|apply AM|apply And.intro|((first|apply AC|apply AK|apply AD|apply AL)<;>intro _))|(apply AB<;>intro _)|apply AJ|refine Ag () ?_ ?_|((first|apply AQ|apply AP|apply AO|apply AN|apply AI|apply AH|apply AG|apply AF|apply AE)<;>try dsimp only)|apply Ag|(refine Prod.forall.2 ?_;intro _;try dsimp only)|(intro _;try dsimp only))<;>(try dsimp only at*)<;>(try simp only[AS,List.length_cons,List.length_nil])<;>(try omega)
 all_goals simp [JP,Gd, *])
def Hf:Sig:= {X:=Int,args:=fun x=>[.int .i64 x],pre:=fun x=>True,Y:=Unit,post:=fun x y=>True,res:=fun x y=> .bool (DZ x),outs:=fun x y=>[.top],keep:=false}
theorem UM:Am G Tryz.prog 114 Hf:=
 vcFun_okP [] [] false (fun x=>[]) Tryz.func114 rfl (by decide) trivial (fun(x:Int)=>(∀(y:Unit),True→True∧True∧True)∧rA Hf x [.bool (x==(18:Int)),.top]) (fun x=>by kernel_rfl) fun(x:Int) (hx:True)=>(by
 dsimp only[rA,Hf,Aw,AR]
 (repeat' first|(with_reducible first|rfl|exact True.intro|apply AM|apply And.intro|((first|apply AC|apply AK|apply AD|apply AL)<;>intro _))|(apply AB<;>intro _)|apply AJ|refine Ag () ?_ ?_|((first|apply AQ|apply AP|apply AO|apply AN|apply AI|apply AH|apply AG|apply AF|apply AE)<;>try dsimp only)|apply Ag|(refine Prod.forall.2 ?_;intro _;try dsimp only)|(intro _;try dsimp only))<;>(try dsimp only at*)<;>(try simp only[AS,List.length_cons,List.length_nil])<;>(try omega)
 all_goals simp [DZ,Gd, *])
def Ge:Sig:= {X:=Int,args:=fun x=>[.int .i64 x],pre:=fun x=>True,Y:=Unit,post:=fun x y=>True,res:=fun x y=> .bool (Fc x),outs:=fun x y=>[.top],keep:=false}
theorem UN:Am G Tryz.prog 95 Ge:=
 vcFun_okP [] [] false (fun x=>[]) Tryz.func95 rfl (by decide) trivial (fun(x:Int)=>(∀(y:Unit),True→True∧True∧True)∧Aa (x==(12:Int)) (rA Ge x [.bool true,.top]) (Aa (x==(20:Int)) (rA Ge x [.bool true,.top]) (rA Ge x [.bool (x==(19:Int)),.top]))) (fun x=>by kernel_rfl) fun(x:Int) (hx:True)=>(by
 dsimp only[rA,Ge,Aw,AR]
 (repeat' first|(with_reducible first|rfl|exact True.intro|apply AM|apply And.intro|((first|apply AC|apply AK|apply AD|apply AL)<;>intro _))|(apply AB<;>intro _)|apply AJ|refine Ag () ?_ ?_|((first|apply AQ|apply AP|apply AO|apply AN|apply AI|apply AH|apply AG|apply AF|apply AE)<;>try dsimp only)|apply Ag|(refine Prod.forall.2 ?_;intro _;try dsimp only)|(intro _;try dsimp only))<;>(try dsimp only at*)<;>(try simp only[AS,List.length_cons,List.length_nil])<;>(try omega)
 all_goals simp [Fc,Gd, *])
def MJ:Sig:= {X:=Int,args:=fun x=>[.int .i64 x],pre:=fun x=>True,Y:=Unit,post:=fun x y=>True,res:=fun x y=> .bool (Gb x),outs:=fun x y=>[.top],keep:=false}
theorem a6P:Am G Tryz.prog 113 MJ:=
 vcFun_okP [] [] false (fun x=>[]) Tryz.func113 rfl (by decide) trivial (fun(x:Int)=>(∀(y:Unit),True→True∧True∧True)∧rA MJ x [.bool (x==(5:Int)),.top]) (fun x=>by kernel_rfl) fun(x:Int) (hx:True)=>(by
 dsimp only[rA,MJ,Aw,AR]
 (repeat' first|(with_reducible first|rfl|exact True.intro|apply AM|apply And.intro|((first|apply AC|apply AK|apply AD|apply AL)<;>intro _))|(apply AB<;>intro _)|apply AJ|refine Ag () ?_ ?_|((first|apply AQ|apply AP|apply AO|apply AN|apply AI|apply AH|apply AG|apply AF|apply AE)<;>try dsimp only)|apply Ag|(refine Prod.forall.2 ?_;intro _;try dsimp only)|(intro _;try dsimp only))<;>(try dsimp only at*)<;>(try simp only[AS,List.length_cons,List.length_nil])<;>(try omega)
 all_goals simp [Gb,Gd, *])
def KP:Sig:= {X:=Int,args:=fun x=>[.int .i64 x],pre:=fun x=>True,Y:=Unit,post:=fun x y=>True,res:=fun x y=> .bool (Fd x),outs:=fun x y=>[.top],keep:=false}
theorem a6Q:Am G Tryz.prog 115 KP:=
 vcFun_okP [(94,0,IY)] [] false (fun x=>[]) Tryz.func115 rfl (by decide) ⟨Zh,trivial⟩ (fun(x:Int)=>(∀(y:Unit),True→True∧True∧True)∧cA IY [.int .i64 x] fun x_1 y=>Aa (JP x_1) (rA KP x [.bool true,.top]) (rA KP x [.bool (x==(19:Int)),.top])) (fun x=>by kernel_rfl) fun(x:Int) (hx:True)=>(by
 dsimp only[cA,rA,IY,KP,Aw,AR,mvL,lnL,mvE,lnE]
 (repeat' first|(with_reducible first|rfl|exact True.intro|apply AM|apply And.intro|((first|apply AC|apply AK|apply AD|apply AL)<;>intro _))|(apply AB<;>intro _)|apply AJ|refine Ag () ?_ ?_|((first|apply AQ|apply AP|apply AO|apply AN|apply AI|apply AH|apply AG|apply AF|apply AE)<;>try dsimp only)|apply Ag|(refine Prod.forall.2 ?_;intro _;try dsimp only)|(intro _;try dsimp only))<;>(try dsimp only at*)<;>(try simp only[AS,List.length_cons,List.length_nil])<;>(try omega)
 all_goals simp [Fd,Gd, *])
def KQ:Sig:= {X:=Int,args:=fun x=>[.int .i64 x],pre:=fun x=>True,Y:=Unit,post:=fun x y=>True,res:=fun x y=> .bool (Hb x),outs:=fun x y=>[.top],keep:=false}
theorem a6R:Am G Tryz.prog 116 KQ:=
 vcFun_okP [(95,0,Ge)] [] false (fun x=>[]) Tryz.func116 rfl (by decide) ⟨UN,trivial⟩ (fun(x:Int)=>(∀(y:Unit),True→True∧True∧True)∧cA Ge [.int .i64 x] fun x_1 y=>Aa (Fc x_1) (rA KQ x [.bool true,.top]) (rA KQ x [.bool (x==(21:Int)),.top])) (fun x=>by kernel_rfl) fun(x:Int) (hx:True)=>(by
 dsimp only[cA,rA,Ge,KQ,Aw,AR,mvL,lnL,mvE,lnE]
 (repeat' first|(with_reducible first|rfl|exact True.intro|apply AM|apply And.intro|((first|apply AC|apply AK|apply AD|apply AL)<;>intro _))|(apply AB<;>intro _)|apply AJ|refine Ag () ?_ ?_|((first|apply AQ|apply AP|apply AO|apply AN|apply AI|apply AH|apply AG|apply AF|apply AE)<;>try dsimp only)|apply Ag|(refine Prod.forall.2 ?_;intro _;try dsimp only)|(intro _;try dsimp only))<;>(try dsimp only at*)<;>(try simp only[AS,List.length_cons,List.length_nil])<;>(try omega)
 all_goals simp [Hb,Gd, *])
def MK:Sig:= {X:=Int,args:=fun x=>[.int .i64 x],pre:=fun x=>True,Y:=Unit,post:=fun x y=>True,res:=fun x y=> .bool (EL x),outs:=fun x y=>[.top],keep:=false}
theorem a6S:Am G Tryz.prog 127 MK:=
 vcFun_okP [] [] false (fun x=>[]) Tryz.func127 rfl (by decide) trivial (fun(x:Int)=>(∀(y:Unit),True→True∧True∧True)∧rA MK x [.bool (x==(1:Int)),.top]) (fun x=>by kernel_rfl) fun(x:Int) (hx:True)=>(by
 dsimp only[rA,MK,Aw,AR]
 (repeat' first|(with_reducible first|rfl|exact True.intro|apply AM|apply And.intro|((first|apply AC|apply AK|apply AD|apply AL)<;>intro _))|(apply AB<;>intro _)|apply AJ|refine Ag () ?_ ?_|((first|apply AQ|apply AP|apply AO|apply AN|apply AI|apply AH|apply AG|apply AF|apply AE)<;>try dsimp only)|apply Ag|(refine Prod.forall.2 ?_;intro _;try dsimp only)|(intro _;try dsimp only))<;>(try dsimp only at*)<;>(try simp only[AS,List.length_cons,List.length_nil])<;>(try omega)
 all_goals simp [EL,Gd, *])
def Er(p:Int→Bool)(x:List Int)(i:Int):Prop:=0≤i∧i≤x.length∧∀e∈x.take i.toNat,p e=true
theorem KR{p:Int→Bool}{x:List Int}:Er p x 0:=⟨by omega,by omega,by simp⟩
theorem KS{p:Int→Bool}{x:List Int}{i:Int}{e:Int}(h:Er p x i)(he:x[i.toNat]? =some e)(hp:p e=true):Er p x (i+1):=by
 obtain⟨h1,h2,h3⟩:=h
 have:=(EK he).1
 exact⟨by omega,by omega,by rw[Dz h1];exact a6N he hp h3⟩
theorem KU{p:Int→Bool}{x:List Int}{i:Int}(h:Er p x i)(hl:¬i<x.length):true=x.all p:=(a6O h.2.2 (by omega)).symm
def CZ(p:Int→Bool)(c:AV)(x:List Int):LS:= {
 ι:=Int,inv:=Er p x,regs:=fun i=>[(0,An x),(1,c),(7,An x),(8,.int .i64 x.length),(9,.int .i64 i)],als:=[],meas:=fun i=>x.length-i.toNat}
def KV:Sig:= {X:=List Int,args:=fun x=>[An x,.clo (.func 84) []],pre:=fun x=>x.length<2^62,Y:=Unit,post:=fun x y=>True,res:=fun x y=> .bool (x.all BH),outs:=fun x y=>[.top,.top],keep:=false}
theorem a6T:Am G Tryz.prog 111 KV:=
 vcFun_okP [(84,0,Ff)] [] false (fun x=>[(2,CZ BH (.clo (.func 84) []) x)]) Tryz.func111 rfl (by decide) ⟨Qy,trivial⟩ (fun(x:List Int)=>(∀(y:Unit),True→True∧True∧True∧True)∧eA (CZ BH (AV.clo (.func 84) []) x) [An x,AV.clo (.func 84) [],An x,.int .i64 (↑(List.length x):Int),.int .i64 (0:Int)]∧∀(i:Int),Er BH x i→Aa (decide (i<(↑(List.length x):Int))) (((0:Int)≤i∧i<(↑(List.length x):Int))∧∀(e:Int),x[Int.toNat i]? =some e→cA Ff [.int .i64 e] fun x_1 y=>Aa (!BH x_1) (rA KV x [.bool false,.top,.top]) (inR IntKind.i64 (i+(1:Int))∧eN (CZ BH (AV.clo (.func 84) []) x) i [An x,AV.clo (.func 84) [],An x,.int .i64 (↑(List.length x):Int),.int .i64 (i+(1:Int))])) (rA KV x [.bool true,.top,.top])) (fun x=>by kernel_rfl) fun(x:List Int) (hx:x.length<2^62)=>(by
 dsimp only[cA,eA,eN,An,CZ,rA,KV,Ff,Aw,AR,mvL,lnL,mvE,lnE,Br]
 have hx:x.length<2^62:=hx
 (repeat' first|(with_reducible first|rfl|exact True.intro|apply AM|apply And.intro|((first|apply AC|apply AK|apply AD|apply AL)<;>intro _))|(apply AB<;>intro _)|apply AJ|refine Ag () ?_ ?_|((first|apply AQ|apply AP|apply AO|apply AN|apply AI|apply AH|apply AG|apply AF|apply AE)<;>try dsimp only)|apply Ag|(refine Prod.forall.2 ?_;intro _;try dsimp only)|(intro _;try dsimp only))
 all_goals first|exact KR|(rename_i i hi hl e he y _ hp;exact(KO he hp).symm)|(rename_i i hi hl e he y _ hp;exact KS hi he hp)|(rename_i i hi hl;exact KU hi hl)|(obtain⟨_,_,_⟩:= ‹Er _ _ _›;(try simp only[AS] at*);omega)|skip)
def KW:Sig:= {X:=List Int,args:=fun x=>[An x,.clo (.func 114) []],pre:=fun x=>x.length<2^62,Y:=Unit,post:=fun x y=>True,res:=fun x y=> .bool (x.all DZ),outs:=fun x y=>[.top,.top],keep:=false}
theorem a6U:Am G Tryz.prog 111 KW:=
 vcFun_okP [(114,0,Hf)] [] false (fun x=>[(2,CZ DZ (.clo (.func 114) []) x)]) Tryz.func111 rfl (by decide) ⟨UM,trivial⟩ (fun(x:List Int)=>(∀(y:Unit),True→True∧True∧True∧True)∧eA (CZ DZ (AV.clo (.func 114) []) x) [An x,AV.clo (.func 114) [],An x,.int .i64 (↑(List.length x):Int),.int .i64 (0:Int)]∧∀(i:Int),Er DZ x i→Aa (decide (i<(↑(List.length x):Int))) (((0:Int)≤i∧i<(↑(List.length x):Int))∧∀(e:Int),x[Int.toNat i]? =some e→cA Hf [.int .i64 e] fun x_1 y=>Aa (!DZ x_1) (rA KW x [.bool false,.top,.top]) (inR IntKind.i64 (i+(1:Int))∧eN (CZ DZ (AV.clo (.func 114) []) x) i [An x,AV.clo (.func 114) [],An x,.int .i64 (↑(List.length x):Int),.int .i64 (i+(1:Int))])) (rA KW x [.bool true,.top,.top])) (fun x=>by kernel_rfl) fun(x:List Int) (hx:x.length<2^62)=>(by
 dsimp only[cA,eA,eN,An,CZ,rA,KW,Hf,Aw,AR,mvL,lnL,mvE,lnE,Br]
 have hx:x.length<2^62:=hx
 (repeat' first|(with_reducible first|rfl|exact True.intro|apply AM|apply And.intro|((first|apply AC|apply AK|apply AD|apply AL)<;>intro _))|(apply AB<;>intro _)|apply AJ|refine Ag () ?_ ?_|((first|apply AQ|apply AP|apply AO|apply AN|apply AI|apply AH|apply AG|apply AF|apply AE)<;>try dsimp only)|apply Ag|(refine Prod.forall.2 ?_;intro _;try dsimp only)|(intro _;try dsimp only))
 all_goals first|exact KR|(rename_i i hi hl e he y _ hp;exact(KO he hp).symm)|(rename_i i hi hl e he y _ hp;exact KS hi he hp)|(rename_i i hi hl;exact KU hi hl)|(obtain⟨_,_,_⟩:= ‹Er _ _ _›;(try simp only[AS] at*);omega)|skip)
def KX:Sig:= {X:=List Int,args:=fun x=>[An x,.clo (.func 95) []],pre:=fun x=>x.length<2^62,Y:=Unit,post:=fun x y=>True,res:=fun x y=> .bool (x.all Fc),outs:=fun x y=>[.top,.top],keep:=false}
theorem a6V:Am G Tryz.prog 111 KX:=
 vcFun_okP [(95,0,Ge)] [] false (fun x=>[(2,CZ Fc (.clo (.func 95) []) x)]) Tryz.func111 rfl (by decide) ⟨UN,trivial⟩ (fun(x:List Int)=>(∀(y:Unit),True→True∧True∧True∧True)∧eA (CZ Fc (AV.clo (.func 95) []) x) [An x,AV.clo (.func 95) [],An x,.int .i64 (↑(List.length x):Int),.int .i64 (0:Int)]∧∀(i:Int),Er Fc x i→Aa (decide (i<(↑(List.length x):Int))) (((0:Int)≤i∧i<(↑(List.length x):Int))∧∀(e:Int),x[Int.toNat i]? =some e→cA Ge [.int .i64 e] fun x_1 y=>Aa (!Fc x_1) (rA KX x [.bool false,.top,.top]) (inR IntKind.i64 (i+(1:Int))∧eN (CZ Fc (AV.clo (.func 95) []) x) i [An x,AV.clo (.func 95) [],An x,.int .i64 (↑(List.length x):Int),.int .i64 (i+(1:Int))])) (rA KX x [.bool true,.top,.top])) (fun x=>by kernel_rfl) fun(x:List Int) (hx:x.length<2^62)=>(by
 dsimp only[cA,eA,eN,An,CZ,rA,KX,Ge,Aw,AR,mvL,lnL,mvE,lnE,Br]
 have hx:x.length<2^62:=hx
 (repeat' first|(with_reducible first|rfl|exact True.intro|apply AM|apply And.intro|((first|apply AC|apply AK|apply AD|apply AL)<;>intro _))|(apply AB<;>intro _)|apply AJ|refine Ag () ?_ ?_|((first|apply AQ|apply AP|apply AO|apply AN|apply AI|apply AH|apply AG|apply AF|apply AE)<;>try dsimp only)|apply Ag|(refine Prod.forall.2 ?_;intro _;try dsimp only)|(intro _;try dsimp only))
 all_goals first|exact KR|(rename_i i hi hl e he y _ hp;exact(KO he hp).symm)|(rename_i i hi hl e he y _ hp;exact KS hi he hp)|(rename_i i hi hl;exact KU hi hl)|(obtain⟨_,_,_⟩:= ‹Er _ _ _›;(try simp only[AS] at*);omega)|skip)
def KY:Sig:= {X:=List Int,args:=fun x=>[An x,.clo (.func 113) []],pre:=fun x=>x.length<2^62,Y:=Unit,post:=fun x y=>True,res:=fun x y=> .bool (x.all Gb),outs:=fun x y=>[.top,.top],keep:=false}
theorem a6W:Am G Tryz.prog 111 KY:=
 vcFun_okP [(113,0,MJ)] [] false (fun x=>[(2,CZ Gb (.clo (.func 113) []) x)]) Tryz.func111 rfl (by decide) ⟨a6P,trivial⟩ (fun(x:List Int)=>(∀(y:Unit),True→True∧True∧True∧True)∧eA (CZ Gb (AV.clo (.func 113) []) x) [An x,AV.clo (.func 113) [],An x,.int .i64 (↑(List.length x):Int),.int .i64 (0:Int)]∧∀(i:Int),Er Gb x i→Aa (decide (i<(↑(List.length x):Int))) (((0:Int)≤i∧i<(↑(List.length x):Int))∧∀(e:Int),x[Int.toNat i]? =some e→cA MJ [.int .i64 e] fun x_1 y=>Aa (!Gb x_1) (rA KY x [.bool false,.top,.top]) (inR IntKind.i64 (i+(1:Int))∧eN (CZ Gb (AV.clo (.func 113) []) x) i [An x,AV.clo (.func 113) [],An x,.int .i64 (↑(List.length x):Int),.int .i64 (i+(1:Int))])) (rA KY x [.bool true,.top,.top])) (fun x=>by kernel_rfl) fun(x:List Int) (hx:x.length<2^62)=>(by
 dsimp only[cA,eA,eN,An,CZ,rA,KY,MJ,Aw,AR,mvL,lnL,mvE,lnE,Br]
 have hx:x.length<2^62:=hx
 (repeat' first|(with_reducible first|rfl|exact True.intro|apply AM|apply And.intro|((first|apply AC|apply AK|apply AD|apply AL)<;>intro _))|(apply AB<;>intro _)|apply AJ|refine Ag () ?_ ?_|((first|apply AQ|apply AP|apply AO|apply AN|apply AI|apply AH|apply AG|apply AF|apply AE)<;>try dsimp only)|apply Ag|(refine Prod.forall.2 ?_;intro _;try dsimp only)|(intro _;try dsimp only))
 all_goals first|exact KR|(rename_i i hi hl e he y _ hp;exact(KO he hp).symm)|(rename_i i hi hl e he y _ hp;exact KS hi he hp)|(rename_i i hi hl;exact KU hi hl)|(obtain⟨_,_,_⟩:= ‹Er _ _ _›;(try simp only[AS] at*);omega)|skip)
def KZ:Sig:= {X:=List Int,args:=fun x=>[An x,.clo (.func 115) []],pre:=fun x=>x.length<2^62,Y:=Unit,post:=fun x y=>True,res:=fun x y=> .bool (x.all Fd),outs:=fun x y=>[.top,.top],keep:=false}
theorem a6X:Am G Tryz.prog 111 KZ:=
 vcFun_okP [(115,0,KP)] [] false (fun x=>[(2,CZ Fd (.clo (.func 115) []) x)]) Tryz.func111 rfl (by decide) ⟨a6Q,trivial⟩ (fun(x:List Int)=>(∀(y:Unit),True→True∧True∧True∧True)∧eA (CZ Fd (AV.clo (.func 115) []) x) [An x,AV.clo (.func 115) [],An x,.int .i64 (↑(List.length x):Int),.int .i64 (0:Int)]∧∀(i:Int),Er Fd x i→Aa (decide (i<(↑(List.length x):Int))) (((0:Int)≤i∧i<(↑(List.length x):Int))∧∀(e:Int),x[Int.toNat i]? =some e→cA KP [.int .i64 e] fun x_1 y=>Aa (!Fd x_1) (rA KZ x [.bool false,.top,.top]) (inR IntKind.i64 (i+(1:Int))∧eN (CZ Fd (AV.clo (.func 115) []) x) i [An x,AV.clo (.func 115) [],An x,.int .i64 (↑(List.length x):Int),.int .i64 (i+(1:Int))])) (rA KZ x [.bool true,.top,.top])) (fun x=>by kernel_rfl) fun(x:List Int) (hx:x.length<2^62)=>(by
 dsimp only[cA,eA,eN,An,CZ,rA,KZ,KP,Aw,AR,mvL,lnL,mvE,lnE,Br]
 have hx:x.length<2^62:=hx
 (repeat' first|(with_reducible first|rfl|exact True.intro|apply AM|apply And.intro|((first|apply AC|apply AK|apply AD|apply AL)<;>intro _))|(apply AB<;>intro _)|apply AJ|refine Ag () ?_ ?_|((first|apply AQ|apply AP|apply AO|apply AN|apply AI|apply AH|apply AG|apply AF|apply AE)<;>try dsimp only)|apply Ag|(refine Prod.forall.2 ?_;intro _;try dsimp only)|(intro _;try dsimp only))
 all_goals first|exact KR|(rename_i i hi hl e he y _ hp;exact(KO he hp).symm)|(rename_i i hi hl e he y _ hp;exact KS hi he hp)|(rename_i i hi hl;exact KU hi hl)|(obtain⟨_,_,_⟩:= ‹Er _ _ _›;(try simp only[AS] at*);omega)|skip)
def La:Sig:= {X:=List Int,args:=fun x=>[An x,.clo (.func 116) []],pre:=fun x=>x.length<2^62,Y:=Unit,post:=fun x y=>True,res:=fun x y=> .bool (x.all Hb),outs:=fun x y=>[.top,.top],keep:=false}
theorem a6Y:Am G Tryz.prog 111 La:=
 vcFun_okP [(116,0,KQ)] [] false (fun x=>[(2,CZ Hb (.clo (.func 116) []) x)]) Tryz.func111 rfl (by decide) ⟨a6R,trivial⟩ (fun(x:List Int)=>(∀(y:Unit),True→True∧True∧True∧True)∧eA (CZ Hb (AV.clo (.func 116) []) x) [An x,AV.clo (.func 116) [],An x,.int .i64 (↑(List.length x):Int),.int .i64 (0:Int)]∧∀(i:Int),Er Hb x i→Aa (decide (i<(↑(List.length x):Int))) (((0:Int)≤i∧i<(↑(List.length x):Int))∧∀(e:Int),x[Int.toNat i]? =some e→cA KQ [.int .i64 e] fun x_1 y=>Aa (!Hb x_1) (rA La x [.bool false,.top,.top]) (inR IntKind.i64 (i+(1:Int))∧eN (CZ Hb (AV.clo (.func 116) []) x) i [An x,AV.clo (.func 116) [],An x,.int .i64 (↑(List.length x):Int),.int .i64 (i+(1:Int))])) (rA La x [.bool true,.top,.top])) (fun x=>by kernel_rfl) fun(x:List Int) (hx:x.length<2^62)=>(by
 dsimp only[cA,eA,eN,An,CZ,rA,La,KQ,Aw,AR,mvL,lnL,mvE,lnE,Br]
 have hx:x.length<2^62:=hx
 (repeat' first|(with_reducible first|rfl|exact True.intro|apply AM|apply And.intro|((first|apply AC|apply AK|apply AD|apply AL)<;>intro _))|(apply AB<;>intro _)|apply AJ|refine Ag () ?_ ?_|((first|apply AQ|apply AP|apply AO|apply AN|apply AI|apply AH|apply AG|apply AF|apply AE)<;>try dsimp only)|apply Ag|(refine Prod.forall.2 ?_;intro _;try dsimp only)|(intro _;try dsimp only))
 all_goals first|exact KR|(rename_i i hi hl e he y _ hp;exact(KO he hp).symm)|(rename_i i hi hl e he y _ hp;exact KS hi he hp)|(rename_i i hi hl;exact KU hi hl)|(obtain⟨_,_,_⟩:= ‹Er _ _ _›;(try simp only[AS] at*);omega)|skip)
def Ip:Sig:= {X:=List Int,args:=fun x=>[An x,.clo (.func 127) []],pre:=fun x=>x.length<2^62,Y:=Unit,post:=fun x y=>True,res:=fun x y=> .bool (x.all EL),outs:=fun x y=>[.top,.top],keep:=false}
theorem Zi:Am G Tryz.prog 111 Ip:=
 vcFun_okP [(127,0,MK)] [] false (fun x=>[(2,CZ EL (.clo (.func 127) []) x)]) Tryz.func111 rfl (by decide) ⟨a6S,trivial⟩ (fun(x:List Int)=>(∀(y:Unit),True→True∧True∧True∧True)∧eA (CZ EL (AV.clo (.func 127) []) x) [An x,AV.clo (.func 127) [],An x,.int .i64 (↑(List.length x):Int),.int .i64 (0:Int)]∧∀(i:Int),Er EL x i→Aa (decide (i<(↑(List.length x):Int))) (((0:Int)≤i∧i<(↑(List.length x):Int))∧∀(e:Int),x[Int.toNat i]? =some e→cA MK [.int .i64 e] fun x_1 y=>Aa (!EL x_1) (rA Ip x [.bool false,.top,.top]) (inR IntKind.i64 (i+(1:Int))∧eN (CZ EL (AV.clo (.func 127) []) x) i [An x,AV.clo (.func 127) [],An x,.int .i64 (↑(List.length x):Int),.int .i64 (i+(1:Int))])) (rA Ip x [.bool true,.top,.top])) (fun x=>by kernel_rfl) fun(x:List Int) (hx:x.length<2^62)=>(by
 dsimp only[cA,eA,eN,An,CZ,rA,Ip,MK,Aw,AR,mvL,lnL,mvE,lnE,Br]
 have hx:x.length<2^62:=hx
 (repeat' first|(with_reducible first|rfl|exact True.intro|apply AM|apply And.intro|((first|apply AC|apply AK|apply AD|apply AL)<;>intro _))|(apply AB<;>intro _)|apply AJ|refine Ag () ?_ ?_|((first|apply AQ|apply AP|apply AO|apply AN|apply AI|apply AH|apply AG|apply AF|apply AE)<;>try dsimp only)|apply Ag|(refine Prod.forall.2 ?_;intro _;try dsimp only)|(intro _;try dsimp only))
 all_goals first|exact KR|(rename_i i hi hl e he y _ hp;exact(KO he hp).symm)|(rename_i i hi hl e he y _ hp;exact KS hi he hp)|(rename_i i hi hl;exact KU hi hl)|(obtain⟨_,_,_⟩:= ‹Er _ _ _›;(try simp only[AS] at*);omega)|skip)
theorem Zj{p:Int→Bool}{x:List Int}(h:¬(0:Int)<x.length):false=Hy p x:=by
 obtain rfl:x=[]:=List.length_eq_zero_iff.1 (by omega)
 rfl
theorem Zk{p:Int→Bool}{x:List Int}{e:Int}(he:x[(x.length-1:Int).toNat]? =some e):Hy p x=(p e&&(x.take (x.length-1:Int).toNat).all EL):=by
 have e1:(x.length-1:Int).toNat=x.length-1:=by omega
 rw[e1] at he ⊢
 unfold Hy
 rw[List.getLast?_eq_getElem?,he,List.dropLast_eq_take]
def JS:Sig:= {X:=List Int,args:=fun x=>[An x,.clo (.func 84) []],pre:=fun x=>x.length<2^62,Y:=Unit,post:=fun x y=>True,res:=fun x y=> .bool (Hy BH x),outs:=fun x y=>[.top,.top],keep:=false}
theorem a6Z:Am G Tryz.prog 112 JS:=
 vcFun_okP [(84,0,Ff),(111,127+1,Ip)] [] false (fun x=>[]) Tryz.func112 rfl (by decide) ⟨Qy,Zi,trivial⟩ (fun(x:List Int)=>(∀(y:Unit),True→True∧True∧True∧True)∧Aa (decide ((↑(List.length x):Int)>(0:Int))) (inR IntKind.i64 ((↑(List.length x):Int)-(1:Int))∧((0:Int)≤(↑(List.length x):Int)-(1:Int)∧(↑(List.length x):Int)-(1:Int)<(↑(List.length x):Int))∧∀(e:Int),x[Int.toNat ((↑(List.length x):Int)-(1:Int))]? =some e→cA Ff [.int .i64 e] fun x_1 y=>Aa (BH x_1) (inR IntKind.i64 ((↑(List.length x):Int)-(1:Int))∧((0:Int)≤(0:Int)∧(0:Int)≤(↑(List.length x):Int)-(1:Int)∧(↑(List.length x):Int)-(1:Int)≤(↑(List.length x):Int))∧cA Ip [An (List.take (Int.toNat ((↑(List.length x):Int)-(1:Int))) x),AV.clo (Fn.func (161:Nat)) []] fun x_2 y=>rA JS x [.bool (List.all x_2 EL),.top,.top]) (rA JS x [.bool false,.top,.top])) (rA JS x [.bool false,.top,.top])) (fun x=>by kernel_rfl) fun(x:List Int) (hx:x.length<2^62)=>(by
 dsimp only[cA,An,rA,Ip,Ff,JS,Aw,AR,mvL,lnL,mvE,lnE]
 have hx:x.length<2^62:=hx
 (repeat' first|(with_reducible first|rfl|exact True.intro|apply AM|apply And.intro|((first|apply AC|apply AK|apply AD|apply AL)<;>intro _))|(apply AB<;>intro _)|apply AJ|refine Ag () ?_ ?_|((first|apply AQ|apply AP|apply AO|apply AN|apply AI|apply AH|apply AG|apply AF|apply AE)<;>try dsimp only)|apply Ag|(refine Prod.forall.2 ?_;intro _;try dsimp only)|(intro _;try dsimp only))<;>(try dsimp only at*)<;>(try simp only[AS,List.length_cons,List.length_nil])<;>(try omega)
 all_goals first|exact Zj (by omega)|(rw[Zk ‹_›];simp [*];done)|(rw[List.length_take];omega)|skip)
def JT:Sig:= {X:=List Int,args:=fun x=>[An x,.clo (.func 114) []],pre:=fun x=>x.length<2^62,Y:=Unit,post:=fun x y=>True,res:=fun x y=> .bool (Hy DZ x),outs:=fun x y=>[.top,.top],keep:=false}
theorem a7a:Am G Tryz.prog 112 JT:=
 vcFun_okP [(114,0,Hf),(111,127+1,Ip)] [] false (fun x=>[]) Tryz.func112 rfl (by decide) ⟨UM,Zi,trivial⟩ (fun(x:List Int)=>(∀(y:Unit),True→True∧True∧True∧True)∧Aa (decide ((↑(List.length x):Int)>(0:Int))) (inR IntKind.i64 ((↑(List.length x):Int)-(1:Int))∧((0:Int)≤(↑(List.length x):Int)-(1:Int)∧(↑(List.length x):Int)-(1:Int)<(↑(List.length x):Int))∧∀(e:Int),x[Int.toNat ((↑(List.length x):Int)-(1:Int))]? =some e→cA Hf [.int .i64 e] fun x_1 y=>Aa (DZ x_1) (inR IntKind.i64 ((↑(List.length x):Int)-(1:Int))∧((0:Int)≤(0:Int)∧(0:Int)≤(↑(List.length x):Int)-(1:Int)∧(↑(List.length x):Int)-(1:Int)≤(↑(List.length x):Int))∧cA Ip [An (List.take (Int.toNat ((↑(List.length x):Int)-(1:Int))) x),AV.clo (Fn.func (161:Nat)) []] fun x_2 y=>rA JT x [.bool (List.all x_2 EL),.top,.top]) (rA JT x [.bool false,.top,.top])) (rA JT x [.bool false,.top,.top])) (fun x=>by kernel_rfl) fun(x:List Int) (hx:x.length<2^62)=>(by
 dsimp only[cA,An,rA,Ip,Hf,JT,Aw,AR,mvL,lnL,mvE,lnE]
 have hx:x.length<2^62:=hx
 (repeat' first|(with_reducible first|rfl|exact True.intro|apply AM|apply And.intro|((first|apply AC|apply AK|apply AD|apply AL)<;>intro _))|(apply AB<;>intro _)|apply AJ|refine Ag () ?_ ?_|((first|apply AQ|apply AP|apply AO|apply AN|apply AI|apply AH|apply AG|apply AF|apply AE)<;>try dsimp only)|apply Ag|(refine Prod.forall.2 ?_;intro _;try dsimp only)|(intro _;try dsimp only))<;>(try dsimp only at*)<;>(try simp only[AS,List.length_cons,List.length_nil])<;>(try omega)
 all_goals first|exact Zj (by omega)|(rw[Zk ‹_›];simp [*];done)|(rw[List.length_take];omega)|skip)
def BU:Sig:= {X:=Int×List Int,args:=fun x=>[.int .i64 x.1,An x.2],pre:=fun x=>x.2.length<2^62,Y:=Unit,post:=fun x y=>True,res:=fun x y=> .bool (Eo x.1 x.2),outs:=fun x y=>[.top,.top],keep:=false}
theorem a7b:Am G Tryz.prog 96 BU:=
 vcFun_okP [(84,0,Ff),(114,0,Hf),(56,0,Fr),(111,84+1,KV),(111,114+1,KW),(111,95+1,KX),(111,113+1,KY),(111,115+1,KZ),(111,116+1,La),(112,84+1,JS),(112,114+1,JT)] [] false (fun x=>[]) Tryz.func96 rfl (by decide) ⟨Qy,UM,Qn,a6T,a6U,a6V,a6W,a6X,a6Y,a6Z,a7a,trivial⟩ (fun(x:Int×List Int)=>(∀(y:Unit),True→True∧True∧True∧True)∧cA KV [An x.2,AV.clo (Fn.func (126:Nat)) []] fun x_1 y=>Aa (x.1==(1:Int)) (rA BU x [.bool ((↑(List.length x.2):Int)==(0:Int)),.top,.top]) (Aa (x.1==(2:Int)) (rA BU x [.bool ((↑(List.length x.2):Int)==(0:Int)),.top,.top]) (Aa (x.1==(3:Int)) (rA BU x [.bool ((↑(List.length x.2):Int)==(0:Int)),.top,.top]) (Aa (x.1==(19:Int)) (rA BU x [.bool ((↑(List.length x.2):Int)==(0:Int)),.top,.top]) (Aa (x.1==(4:Int)) (rA BU x [.bool (List.all x_1 BH),.top,.top]) (Aa (x.1==(5:Int)) (Aa (decide ((↑(List.length x.2):Int)≥(1:Int))) (rA BU x [.bool (List.all x_1 BH),.top,.top]) (rA BU x [.bool false,.top,.top])) (Aa (x.1==(7:Int)) (Aa (decide ((↑(List.length x.2):Int)≥(2:Int))) (rA BU x [.bool (List.all x_1 BH),.top,.top]) (rA BU x [.bool false,.top,.top])) (Aa (x.1==(8:Int)) (Aa ((↑(List.length x.2):Int)==(3:Int)) (rA BU x [.bool (List.all x_1 BH),.top,.top]) (rA BU x [.bool false,.top,.top])) (Aa (x.1==(6:Int)) (Aa ((↑(List.length x.2):Int)==(1:Int)) (rA BU x [.bool (List.all x_1 BH),.top,.top]) (rA BU x [.bool false,.top,.top])) (Aa (x.1==(11:Int)) (Aa ((↑(List.length x.2):Int)==(1:Int)) (rA BU x [.bool (List.all x_1 BH),.top,.top]) (rA BU x [.bool false,.top,.top])) (Aa (x.1==(13:Int)) (Aa ((↑(List.length x.2):Int)==(1:Int)) (rA BU x [.bool (List.all x_1 BH),.top,.top]) (rA BU x [.bool false,.top,.top])) (Aa (x.1==(14:Int)) (Aa ((↑(List.length x.2):Int)==(1:Int)) (rA BU x [.bool (List.all x_1 BH),.top,.top]) (rA BU x [.bool false,.top,.top])) (Aa (x.1==(12:Int)) (Aa (decide ((↑(List.length x.2):Int)≤(1:Int))) (rA BU x [.bool (List.all x_1 BH),.top,.top]) (rA BU x [.bool false,.top,.top])) (Aa (x.1==(15:Int)) (Aa (decide ((↑(List.length x.2):Int)≤(1:Int))) (rA BU x [.bool (List.all x_1 BH),.top,.top]) (rA BU x [.bool false,.top,.top])) (Aa (x.1==(9:Int)) (cA JS [An x.2,AV.clo (Fn.func (126:Nat)) []] fun x_2 y=>rA BU x [.bool (Hy BH x_2),.top,.top]) (Aa (x.1==(10:Int)) (Aa (decide ((↑(List.length x.2):Int)≥(2:Int))) (((0:Int)≤(0:Int)∧(0:Int)<(↑(List.length x.2):Int))∧∀(e:Int),x.2[(0:Nat)]? =some e→cA Ff [.int .i64 e] fun x_2 y=>Aa (BH x_2) (((0:Int)≤(1:Int)∧(1:Int)≤(↑(List.length x.2):Int)∧(↑(List.length x.2):Int)≤(↑(List.length x.2):Int))∧cA KY [An (List.drop (1:Nat) x.2),AV.clo (Fn.func (128:Nat)) []] fun x_3 y=>rA BU x [.bool (List.all x_3 Gb),.top,.top]) (rA BU x [.bool false,.top,.top])) (rA BU x [.bool false,.top,.top])) (Aa (x.1==(16:Int)) (cA Fr [.int .i64 (↑(List.length x.2):Int),.int .i64 (2:Int),.int .i64 (3:Int)] fun x_2 y=>Aa (inn x_2.1 x_2.2.1 x_2.2.2) (((0:Int)≤(0:Int)∧(0:Int)<(↑(List.length x.2):Int))∧∀(e:Int),x.2[(0:Nat)]? =some e→cA Ff [.int .i64 e] fun x_3 y=>Aa (BH x_3) (((0:Int)≤(1:Int)∧(1:Int)≤(↑(List.length x.2):Int)∧(↑(List.length x.2):Int)≤(↑(List.length x.2):Int))∧cA KW [An (List.drop (1:Nat) x.2),AV.clo (Fn.func (129:Nat)) []] fun x_4 y=>rA BU x [.bool (List.all x_4 DZ),.top,.top]) (rA BU x [.bool false,.top,.top])) (rA BU x [.bool false,.top,.top])) (Aa (x.1==(17:Int)) (Aa ((↑(List.length x.2):Int)==(2:Int)) (((0:Int)≤(0:Int)∧(0:Int)<(↑(List.length x.2):Int))∧∀(e:Int),x.2[(0:Nat)]? =some e→cA Ff [.int .i64 e] fun x_2 y=>Aa (BH x_2) (((0:Int)≤(1:Int)∧(1:Int)<(↑(List.length x.2):Int))∧∀(e:Int),x.2[(1:Nat)]? =some e→cA Hf [.int .i64 e] fun x_3 y=>rA BU x [.bool (DZ x_3),.top,.top]) (rA BU x [.bool false,.top,.top])) (rA BU x [.bool false,.top,.top])) (Aa (x.1==(18:Int)) (cA KZ [An x.2,AV.clo (Fn.func (130:Nat)) []] fun x_2 y=>rA BU x [.bool (List.all x_2 Fd),.top,.top]) (Aa (x.1==(20:Int)) (cA JT [An x.2,AV.clo (Fn.func (129:Nat)) []] fun x_2 y=>rA BU x [.bool (Hy DZ x_2),.top,.top]) (Aa (x.1==(21:Int)) (cA KX [An x.2,AV.clo (Fn.func (99:Nat)) []] fun x_2 y=>rA BU x [.bool (List.all x_2 Fc),.top,.top]) (Aa (x.1==(22:Int)) (cA La [An x.2,AV.clo (Fn.func (131:Nat)) []] fun x_2 y=>rA BU x [.bool (List.all x_2 Hb),.top,.top]) (rA BU x [.bool false,.top,.top]))))))))))))))))))))))) (fun x=>by kernel_rfl) fun(x:Int×List Int) (hx:x.2.length<2^62)=>(by
 dsimp only[cA,An,rA,KW,KY,KX,KZ,La,KV,Fr,Hf,Ff,BU,JT,JS,Aw,AR,mvL,lnL,mvE,lnE]
 have hx:x.2.length<2^62:=hx
 obtain⟨k,l⟩:=x
 (repeat' first|(with_reducible first|rfl|exact True.intro|apply AM|apply And.intro|((first|apply AC|apply AK|apply AD|apply AL)<;>intro _))|(apply AB<;>intro _)|apply AJ|refine Ag () ?_ ?_|((first|apply AQ|apply AP|apply AO|apply AN|apply AI|apply AH|apply AG|apply AF|apply AE)<;>try dsimp only)|apply Ag|(refine Prod.forall.2 ?_;intro _;try dsimp only)|(intro _;try dsimp only))<;>(try dsimp only at*)<;>(try simp only[AS,List.length_cons,List.length_nil])<;>(try omega)
 all_goals try(simp only[List.length_drop];omega)
 all_goals try(simp [Eo,Gd, *]<;>omega)
 all_goals(match l with
  |[]=>simp_all [Eo,inn]<;>omega
  |[a]=>simp_all [Eo,inn]<;>omega
  |[a,b]=>simp_all [Eo,inn]<;>omega
  |[a,b,c]=>simp_all [Eo,inn]<;>omega
  |a::b::c::d::m=>simp_all [Eo,inn]<;>omega))
def GF:Sig:= {X:=List Nd×Int,args:=fun x=>[nds x.1,.int .i64 x.2],pre:=fun x=>x.1.length<2^62,Y:=Unit,post:=fun x y=>True,res:=fun x y=> .bool (BF x.1 x.2),outs:=fun x y=>[.top,.top],keep:=false}
theorem UO:Am G Tryz.prog 82 GF:=
 vcFun_okP [] [] false (fun x=>[]) Tryz.func82 rfl (by decide) trivial (fun(x:List Nd×Int)=>(∀(y:Unit),True→True∧True∧True∧True)∧Aa (decide (x.2≥(0:Int))) (rA GF x [.bool (decide (x.2<(↑(List.length x.1):Int))),.top,.top]) (rA GF x [.bool false,.top,.top])) (fun x=>by kernel_rfl) fun(x:List Nd×Int) (hx:x.1.length<2^62)=>(by
 dsimp only[Bx,nds,rA,GF,Aw,AR]
 have hx:x.1.length<2^62:=hx
 (repeat' first|(with_reducible first|rfl|exact True.intro|apply AM|apply And.intro|((first|apply AC|apply AK|apply AD|apply AL)<;>intro _))|(apply AB<;>intro _)|apply AJ|refine Ag () ?_ ?_|((first|apply AQ|apply AP|apply AO|apply AN|apply AI|apply AH|apply AG|apply AF|apply AE)<;>try dsimp only)|apply Ag|(refine Prod.forall.2 ?_;intro _;try dsimp only)|(intro _;try dsimp only))<;>(try dsimp only at*)<;>(try simp only[AS,List.length_cons,List.length_nil])<;>(try omega)
 all_goals simp [BF, *])
def Lb(x:Nd):Prop:=x.text.length<2^62∧x.kids.length<2^62
def Bi(l:List Nd):Prop:=l.length<2^62∧∀x∈l,Lb x
theorem UP{l:List Nd}{n:Nat}{x:Nd}(hx:l[n]? =some x)(h:Bi l):Lb x:=h.2 x (Cu hx)
def Hg(v:Int):List Int→Int→Int
 |[],_=> -1
 |c::l,i=>if v=c then i else Hg v l (i+1)
theorem Zl{v:Int}:∀ {l:List Int} {i:Int},0≤i→(0≤Hg v l i↔v∈l)
 |[],i,h=>by simp [Hg]
 |c::l,i,h=>by
  unfold Hg
  by_cases e:v=c
  ·simp [e,h]
  ·rw[if_neg e,Zl (by omega)];simp [e]
def Lc:Sig:= {X:=List Int×Int,args:=fun x=>[An x.1,.int .i64 x.2],pre:=fun x=>x.1.length<2^62,Y:=Unit,post:=fun x y=>True,res:=fun x y=> .int .i64 (Hg x.2 x.1 0),outs:=fun x y=>[.top,.top],keep:=false}
def Qz(x:List Int×Int):LS:= {ι:=Int,inv:=fun i=>(0≤i∧i≤x.1.length)∧Hg x.2 (x.1.drop i.toNat) i=Hg x.2 x.1 0,regs:=fun i=>[(0,An x.1),(1,.int .i64 x.2),(7,.int .i64 x.1.length),(8,.int .i64 i)],als:=[],meas:=fun i=>x.1.length-i.toNat}
theorem a7c:Am G Tryz.prog 110 Lc:=
 vcFun_okP [] [] false (fun x=>[(2,Qz x)]) Tryz.func110 rfl (by decide) trivial (fun(x:List Int×Int)=>(∀(y:Unit),True→True∧True∧True∧True)∧eA (Qz x) [An x.1,.int .i64 x.2,.int .i64 (↑(List.length x.1):Int),.int .i64 (0:Int)]∧∀(i:Int),((0:Int)≤i∧i≤(↑(List.length x.1):Int))∧Hg x.2 (List.drop (Int.toNat i) x.1) i=Hg x.2 x.1 (0:Int)→Aa (decide (i<(↑(List.length x.1):Int))) (((0:Int)≤i∧i<(↑(List.length x.1):Int))∧∀(e:Int),x.1[Int.toNat i]? =some e→Aa (x.2==e) (rA Lc x [.int .i64 i,.top,.top]) (inR IntKind.i64 (i+(1:Int))∧eN (Qz x) i [An x.1,.int .i64 x.2,.int .i64 (↑(List.length x.1):Int),.int .i64 (i+(1:Int))])) (rA Lc x [.int .i64 (-1:Int),.top,.top])) (fun x=>by kernel_rfl) fun(x:List Int×Int) (hx:x.1.length<2^62)=>(by
 dsimp only[eA,eN,Qz,An,rA,Lc,Aw,AR,Br]
 have hx:x.1.length<2^62:=hx
 (repeat' first|(with_reducible first|rfl|exact True.intro|apply AM|apply And.intro|((first|apply AC|apply AK|apply AD|apply AL)<;>intro _))|(apply AB<;>intro _)|apply AJ|refine Ag () ?_ ?_|((first|apply AQ|apply AP|apply AO|apply AN|apply AI|apply AH|apply AG|apply AF|apply AE)<;>try dsimp only)|apply Ag|(refine Prod.forall.2 ?_;intro _;try dsimp only)|(intro _;try dsimp only))<;>(try dsimp only at*)<;>(try simp only[AS,List.length_cons,List.length_nil])<;>(try omega)
 all_goals first
  |(rename_i i hi hl e he h;rw[←hi.2,Ik he];simp [Hg,h];done)
  |(rename_i i hi hl e he h;rw[←hi.2,Ik he,Dz hi.1.1];simp [Hg,h];done)
  |rfl
  |(rename_i i hi hl;rw[←hi.2,List.drop_eq_nil_of_le (by omega)];rfl)
  |skip)
def ML:Sig:= {X:=List Int×Int,args:=fun x=>[An x.1,.int .i64 x.2],pre:=fun x=>x.1.length<2^62,Y:=Unit,post:=fun x y=>True,res:=fun x y=> .bool (x.1.elem x.2),outs:=fun x y=>[.top,.top],keep:=false}
theorem a7d:Am G Tryz.prog 93 ML:=
 vcFun_okP [(110,0,Lc)] [] false (fun x=>[]) Tryz.func93 rfl (by decide) ⟨a7c,trivial⟩ (fun(x:List Int×Int)=>(∀(y:Unit),True→True∧True∧True∧True)∧cA Lc [An x.1,.int .i64 x.2] fun x_1 y=>rA ML x [.bool (decide (Hg x_1.2 x_1.1 (0:Int)≥(0:Int))),.top,.top]) (fun x=>by kernel_rfl) fun(x:List Int×Int) (hx:x.1.length<2^62)=>(by
 dsimp only[cA,An,rA,ML,Lc,Aw,AR,mvL,lnL,mvE,lnE]
 have hx:x.1.length<2^62:=hx
 (repeat' first|(with_reducible first|rfl|exact True.intro|apply AM|apply And.intro|((first|apply AC|apply AK|apply AD|apply AL)<;>intro _))|(apply AB<;>intro _)|apply AJ|refine Ag () ?_ ?_|((first|apply AQ|apply AP|apply AO|apply AN|apply AI|apply AH|apply AG|apply AF|apply AE)<;>try dsimp only)|apply Ag|(refine Prod.forall.2 ?_;intro _;try dsimp only)|(intro _;try dsimp only))<;>(try dsimp only at*)<;>(try simp only[AS,List.length_cons,List.length_nil])<;>(try omega)
 all_goals first|(rw[Bool.eq_iff_iff,decide_eq_true_iff,List.elem_iff];exact Zl (by omega))|skip)
theorem Zm{ns:List Nd}{x:Nd}:Ep ns x=true↔∀(j:Nat) c,x.kids[j]? =some c→CQ ns x j c=true:=by
 have e:Ep ns x=BT (fun i c=>CQ ns x i.toNat c) x.kids 0:=by
  unfold Ep
  have:(fun p:Int×Nat=>CQ ns x p.2 p.1)=fun p:Int×Nat=>(fun(i c:Int)=>CQ ns x i.toNat c) p.2 p.1:=by funext p;simp
  rw[this];exact UK (f:=fun i c=>CQ ns x i.toNat c) (i:=0)
 rw[e,UL];simp
def cfI(ns:List Nd)(x:Nd)(i:Int):Prop:=0≤i∧i≤x.kids.length∧∀(j:Nat) c,(j:Int)<i→x.kids[j]? =some c→CQ ns x j c=true
theorem a7e{ns:List Nd}{x:Nd}:cfI ns x 0:=⟨by omega,by omega,fun j c h=>by omega⟩
theorem QA{ns:List Nd}{x:Nd}{i c:Int}(h:cfI ns x i)(hc:x.kids[i.toNat]? =some c)(hk:CQ ns x i.toNat c=true):cfI ns x (i+1):=by
 obtain⟨h1,h2,h3⟩:=h
 have:=(EK hc).1
 refine⟨by omega,by omega,fun j d hj hd=> ?_⟩
 by_cases e:(j:Int)<i
 ·exact h3 j d e hd
 ·obtain rfl:j=i.toNat:=by omega
  rw[hc] at hd;cases hd;exact hk
theorem a7f{ns:List Nd}{x:Nd}{i:Int}(h:cfI ns x i)(hl:¬i<x.kids.length):true=Ep ns x:=by
 symm;rw[Zm];intro j c hc
 exact h.2.2 j c (by have:=(EK hc).1;omega) hc
theorem UQ{ns:List Nd}{x:Nd}{i c:Int}(hc:x.kids[i.toNat]? =some c)(hk:CQ ns x i.toNat c=false):false=Ep ns x:=by
 symm;rw[Bool.eq_false_iff];intro h
 rw[Zm.1 h _ _ hc] at hk;cases hk
theorem a7g{ns:List Nd}{x y:Nd}{i c:Int}(hy:ns[c.toNat]? =some y)(h:y.kind≠5):CQ ns x i.toNat c=true:=by
 simp [CQ,Bz hy,h]
theorem a7h{ns:List Nd}{x y:Nd}{i c:Int}(hy:ns[c.toNat]? =some y)(h:y.kind=5)(h0:(y.kids.length:Int)=0):CQ ns x i.toNat c=false:=by
 have h0:=List.length_eq_zero_iff.1 (show y.kids.length=0 by omega)
 simp [CQ,Bz hy,h,h0]
theorem a7i{ns:List Nd}{x y:Nd}{i c d:Int}(hy:ns[c.toNat]? =some y)(h:y.kind=5)(hd:BF ns d=false)(h0:y.kids[0]? =some d):CQ ns x i.toNat c=false:=by
 match hk:y.kids with
 |[]=>rw[hk] at h0;cases h0
 |e::t=>rw[hk] at h0;cases h0;simp [CQ,Bz hy,h,hk,hd]
theorem a7j{ns:List Nd}{x y z:Nd}{i c d d':Int}(hy:ns[c.toNat]? =some y)(h:y.kind=5)(hd:BF ns d=true)(h0:y.kids[0]? =some d)(hz:ns[d'.toNat]? =some z)(h0':y.kids[0]? =some d')(h10:x.kind=10)(hi:i>0)(h1:z.kind≠1):CQ ns x i.toNat c=false:=by
 match hk:y.kids with
 |[]=>rw[hk] at h0;cases h0
 |e::t=>rw[hk] at h0 h0';cases h0;cases h0';simp [CQ,Bz hy,h,hk,hd,h10,BQ,Bz hz,h1];omega
theorem a7k{ns:List Nd}{x y z:Nd}{i c d d':Int}(hy:ns[c.toNat]? =some y)(h:y.kind=5)(hd:BF ns d=true)(h0:y.kids[0]? =some d)(hz:ns[d'.toNat]? =some z)(h0':y.kids[0]? =some d')(h1:z.kind=1):CQ ns x i.toNat c=true:=by
 match hk:y.kids with
 |[]=>rw[hk] at h0;cases h0
 |e::t=>rw[hk] at h0 h0';cases h0;cases h0';simp [CQ,Bz hy,h,hk,hd,BQ,Bz hz,h1]
theorem a7l{ns:List Nd}{x y:Nd}{i c d:Int}(hy:ns[c.toNat]? =some y)(h:y.kind=5)(hd:BF ns d=true)(h0:y.kids[0]? =some d)(h1:x.kind≠10):CQ ns x i.toNat c=true:=by
 match hk:y.kids with
 |[]=>rw[hk] at h0;cases h0
 |e::t=>rw[hk] at h0;cases h0;simp [CQ,Bz hy,h,hk,hd,h1]
theorem a7m{ns:List Nd}{x y:Nd}{i c d:Int}(hy:ns[c.toNat]? =some y)(h:y.kind=5)(hd:BF ns d=true)(h0:y.kids[0]? =some d)(h1:¬i>0):CQ ns x i.toNat c=true:=by
 have:i.toNat=0:=by omega
 match hk:y.kids with
 |[]=>rw[hk] at h0;cases h0
 |e::t=>rw[hk] at h0;cases h0;simp [CQ,Bz hy,h,hk,hd,this]
theorem ndB{ns:List Nd}{l:List Int}{d d':Int}(hd:BF ns d=true)(h0:l[0]? =some d)(h0':l[0]? =some d'):0≤d'∧d'<ns.length:=by
 rw[h0] at h0';cases h0';exact CR.1 hd
def HF:Sig:= {X:=List Nd×Nd,args:=fun x=>[nds x.1,.agg (ndA false x.2)],pre:=fun x=>Bi x.1∧Lb x.2∧∀c∈x.2.kids,0≤c∧c<x.1.length,Y:=Unit,post:=fun x y=>True,res:=fun x y=> .bool (Ep x.1 x.2),outs:=fun x y=>[.top,.top],keep:=false}
def Ld(x:List Nd×Nd):LS:= {ι:=Int,inv:=cfI x.1 x.2,regs:=fun i=>[(0,nds x.1),(3,.box 0 (ndA false x.2)),(9,An x.2.kids),(10,.int .i64 x.2.kids.length),(11,.int .i64 i)],als:=[],meas:=fun i=>x.2.kids.length-i.toNat}
theorem a7n:Am G Tryz.prog 97 HF:=
 vcFun_okP [(82,0,GF)] [] false (fun x=>[(2,Ld x)]) Tryz.func97 rfl (by decide) ⟨UO,trivial⟩ (fun(x:List Nd×Nd)=>(∀(y:Unit),True→True∧True∧True∧True)∧eA (Ld x) [nds x.1,.box 0 [.int .i64 x.2.kind,.str x.2.text,An x.2.kids,.bool x.2.blank],An x.2.kids,.int .i64 (↑(List.length x.2.kids):Int),.int .i64 (0:Int)]∧∀(i:Int),cfI x.1 x.2 i→Aa (decide (i<(↑(List.length x.2.kids):Int))) (((0:Int)≤i∧i<(↑(List.length x.2.kids):Int))∧∀(e:Int),x.2.kids[Int.toNat i]? =some e→((0:Int)≤e∧e<(↑(List.length x.1):Int))∧∀(e_1:Nd),x.1[Int.toNat e]? =some e_1→Aa (e_1.kind != (5:Int)) (inR IntKind.i64 (i+(1:Int))∧eN (Ld x) i [nds x.1,.box 0 [.int .i64 x.2.kind,.str x.2.text,An x.2.kids,.bool x.2.blank],An x.2.kids,.int .i64 (↑(List.length x.2.kids):Int),.int .i64 (i+(1:Int))]) (Aa ((↑(List.length e_1.kids):Int)==(0:Int)) (rA HF x [.bool false,.top,.top]) (((0:Int)≤(0:Int)∧(0:Int)<(↑(List.length e_1.kids):Int))∧∀(e:Int),e_1.kids[(0:Nat)]? =some e→cA GF [nds x.1,.int .i64 e] fun x_1 y=>Aa (!BF x_1.1 x_1.2) (rA HF x [.bool false,.top,.top]) (Aa (x.2.kind==(10:Int)) (Aa (decide (i>(0:Int))) (((0:Int)≤(0:Int)∧(0:Int)<(↑(List.length e_1.kids):Int))∧∀(e:Int),e_1.kids[(0:Nat)]? =some e→((0:Int)≤e∧e<(↑(List.length x.1):Int))∧∀(e_2:Nd),x.1[Int.toNat e]? =some e_2→Aa (e_2.kind != (1:Int)) (rA HF x [.bool false,.top,.top]) (inR IntKind.i64 (i+(1:Int))∧eN (Ld x) i [nds x.1,.box 0 [.int .i64 x.2.kind,.str x.2.text,An x.2.kids,.bool x.2.blank],An x.2.kids,.int .i64 (↑(List.length x.2.kids):Int),.int .i64 (i+(1:Int))])) (inR IntKind.i64 (i+(1:Int))∧eN (Ld x) i [nds x.1,.box 0 [.int .i64 x.2.kind,.str x.2.text,An x.2.kids,.bool x.2.blank],An x.2.kids,.int .i64 (↑(List.length x.2.kids):Int),.int .i64 (i+(1:Int))])) (inR IntKind.i64 (i+(1:Int))∧eN (Ld x) i [nds x.1,.box 0 [.int .i64 x.2.kind,.str x.2.text,An x.2.kids,.bool x.2.blank],An x.2.kids,.int .i64 (↑(List.length x.2.kids):Int),.int .i64 (i+(1:Int))]))))) (rA HF x [.bool true,.top,.top])) (fun x=>by kernel_rfl) fun(x:List Nd×Nd) (hx:Bi x.1∧Lb x.2∧∀c∈x.2.kids,0≤c∧c<x.1.length)=>(by
 dsimp only[cA,eA,eN,Ld,An,Bx,nds,rA,HF,GF,Aw,AR,mvL,lnL,mvE,lnE,Br]
 obtain⟨h1,h2,h3⟩:=hx;have hl:=h1.1;have hk:=h2.2
 (repeat' first|(with_reducible first|rfl|exact True.intro|apply AM|apply And.intro|((first|apply AC|apply AK|apply AD|apply AL)<;>intro _))|(apply AB<;>intro _)|apply AJ|refine Ag () ?_ ?_|((first|apply AQ|apply AP|apply AO|apply AN|apply AI|apply AH|apply AG|apply AF|apply AE)<;>try dsimp only)|apply Ag|(refine Prod.forall.2 ?_;intro _;try dsimp only)|(intro _;try dsimp only))
 all_goals first
  |exact a7e
  |exact a7f ‹_› ‹_›
  |exact QA ‹_› ‹_› (a7g ‹_› ‹_›)
  |exact QA ‹_› ‹_› (a7m ‹_› ‹_› ‹_› ‹_› ‹_›)
  |exact QA ‹_› ‹_› (a7l ‹_› ‹_› ‹_› ‹_› ‹_›)
  |exact QA ‹_› ‹_› (a7k ‹_› ‹_› ‹_› ‹_› ‹_› ‹_› ‹_›)
  |exact UQ ‹_› (a7h ‹_› ‹_› ‹_›)
  |exact UQ ‹_› (a7i ‹_› ‹_› ‹_› ‹_›)
  |exact UQ ‹_› (a7j ‹_› ‹_› ‹_› ‹_› ‹_› ‹_› ‹_› ‹_› ‹_›)
  |exact(h3 _ (Cu ‹_›)).1
  |exact(h3 _ (Cu ‹_›)).2
  |exact(ndB ‹_› ‹_› ‹_›).1
  |exact(ndB ‹_› ‹_› ‹_›).2
  |(obtain⟨_,_,_⟩:= ‹cfI _ _ _›;(try simp only[AS] at*);omega)
  |skip)
def nkI(k:Int)(l:List Int)(i:Int):Prop:=0≤i∧i≤l.length∧(∀c∈l.take i.toNat,0≤c∧c<k)∧(l.take i.toNat).Nodup
theorem Zn{k:Int}{l:List Int}:nkI k l 0:=⟨by omega,by omega,by simp,by simp⟩
theorem Zo{k:Int}{l:List Int}{i c:Int}(h:nkI k l i)(hc:l[i.toNat]? =some c)(h1:¬c<0)(h2:¬c≥k)(h3:(l.take i.toNat).elem c=false):nkI k l (i+1):=by
 obtain⟨ha,hb,hd,he⟩:=h
 have:=(EK hc).1
 refine⟨by omega,by omega,?_,?_⟩
 ·rw[Dz ha,Fb hc];intro d hd'
  rcases List.mem_append.1 hd' with hd'|hd'
  ·exact hd d hd'
  ·simp at hd';subst hd';omega
 ·rw[Dz ha,Fb hc,List.nodup_append]
  refine⟨he,by simp,?_⟩
  intro a ha' b hb' hab
  simp at hb';subst hb';subst hab
  simp at h3;exact h3 ha'
theorem Oy{k:Int}{l:List Int}{i:Int}(h:nkI k l i)(hl:¬i<l.length):DK l k=true∧l.Nodup:=by
 obtain⟨ha,hb,hd,he⟩:=h
 rw[List.take_of_length_le (by omega)] at hd he
 exact⟨by simpa [DK] using hd,he⟩
theorem a7o{k:Int}{l:List Int}{n:Nat}{c:Int}(hc:l[n]? =some c)(h1:c<0):DK l k=false:=by
 rw[Bool.eq_false_iff];intro h;simp only[DK,List.all_eq_true,Bool.and_eq_true,decide_eq_true_eq] at h
 have:=h c (Cu hc);omega
theorem a7p{k:Int}{l:List Int}{n:Nat}{c:Int}(hc:l[n]? =some c)(h1:c≥k):DK l k=false:=by
 rw[Bool.eq_false_iff];intro h;simp only[DK,List.all_eq_true,Bool.and_eq_true,decide_eq_true_eq] at h
 have:=h c (Cu hc);omega
theorem Zp{l:List Int}{n:Nat}{c:Int}(hc:l[n]? =some c)(h1:(l.take n).elem c=true):¬l.Nodup:=by
 intro h
 have e:l=l.take n++l.drop n:=(List.take_append_drop n l).symm
 rw[e,Ik hc,List.nodup_append] at h
 exact h.2.2 c (by simpa using h1) c (by simp) rfl
theorem Zq{ns:List Nd}{k:Int}(h:BF ns k=false):false=Cb ns k:=by simp [Cb,h]
theorem MM{ns:List Nd}{k:Int}{x:Nd}(hx:ns[k.toNat]? =some x)(h:BF ns k=true):Cb ns k=HA ns k x:=by rw[Cb,h,Bz hx];rfl
theorem a7q{ns:List Nd}{k:Int}{x:Nd}(hx:ns[k.toNat]? =some x)(h:BF ns k=true)(h1:(x.kids.length:Int)>12):false=Cb ns k:=by
 rw[MM hx h,HA,decide_eq_false (by omega)];rfl
theorem a7r{ns:List Nd}{k:Int}{x:Nd}(hx:ns[k.toNat]? =some x)(h:BF ns k=true)(h1:FF x.kind x.text=false):false=Cb ns k:=by
 rw[MM hx h,HA,h1];simp
theorem Zs{ns:List Nd}{k:Int}{x:Nd}(hx:ns[k.toNat]? =some x)(h:BF ns k=true)(h1:DK x.kids k=false):false=Cb ns k:=by
 rw[MM hx h,HA,h1];simp
theorem a7s{ns:List Nd}{k:Int}{x:Nd}(hx:ns[k.toNat]? =some x)(h:BF ns k=true)(h1:¬x.kids.Nodup):false=Cb ns k:=by
 rw[MM hx h,HA,decide_eq_false h1];simp
theorem Zt{ns:List Nd}{k i:Int}{x:Nd}(hx:ns[k.toNat]? =some x)(h:BF ns k=true)(h1:(x.kids.length:Int)≤12)(h2:FF x.kind x.text=true)(h3:nkI k x.kids i)(hl:¬i<x.kids.length):
 Cb ns k=(Eo x.kind ((x.kids.take i.toNat).map (BQ ns))&&(Ep ns x&&(Hz x.kind|| !x.blank))):=by
 obtain⟨ha,hb⟩:=Oy h3 hl
 rw[List.take_of_length_le (by have:=h3.1;omega),MM hx h,HA,h2,ha,decide_eq_true hb,decide_eq_true (by omega)];simp
theorem UR{k:Int}{l:List Int}{i c n:Int}(h:nkI k l i)(hl:¬i<l.length)(hk:k<n)(hc:c∈l):0≤c∧c<n:=by
 have:=(Oy h hl).1
 simp only[DK,List.all_eq_true,Bool.and_eq_true,decide_eq_true_eq] at this
 have:=this c hc;omega
theorem a7t{ns:List Nd}{l:List Int}{i c:Int}{y:Nd}(h0:0≤i)(hc:l[i.toNat]? =some c)(hy:ns[c.toNat]? =some y):(l.take i.toNat).map (BQ ns)++[y.kind]=(l.take (i+1).toNat).map (BQ ns):=by
 rw[Dz h0,Fb hc,List.map_append];simp [BQ,Bz hy]
def QB(x:List Nd×Int):LS:= {
 ι:=Int,inv:=nkI x.2 (Aj x.1 x.2).kids,
 regs:=fun i=>[(0,nds x.1),(1,.int .i64 x.2),(5,.box 0 (ndA false (Aj x.1 x.2))),(6,Ab (((Aj x.1 x.2).kids.take i.toNat).map (BQ x.1))),(28,An (Aj x.1 x.2).kids),(29,.int .i64 (Aj x.1 x.2).kids.length),(30,.int .i64 i)],als:=[],meas:=fun i=>(Aj x.1 x.2).kids.length-i.toNat}
def DM:Sig:= {X:=List Nd×Int,args:=fun x=>[nds x.1,.int .i64 x.2],pre:=fun x=>Bi x.1,Y:=Unit,post:=fun x y=>True,res:=fun x y=> .bool (Cb x.1 x.2),outs:=fun x y=>[.top,.top],keep:=false}
theorem a7u:Am G Tryz.prog 83 DM:=
 vcFun_okP [(82,0,GF),(92,0,DA),(93,0,ML),(94,0,IY),(95,0,Ge),(96,0,BU),(97,0,HF)] [(47,⟨Int,Bw⟩)] false (fun x=>[(8,QB x)]) Tryz.func83 rfl (by decide) ⟨UO,a6D,a7d,Zh,UN,a7b,a7n,trivial⟩ (fun(x:List Nd×Int)=>(∀(y:Unit),True→True∧True∧True∧True)∧cA GF [nds x.1,.int .i64 x.2] fun x_1 y=>Aa (!BF x_1.1 x_1.2) (rA DM x [.bool false,.top,.top]) (((0:Int)≤x.2∧x.2<(↑(List.length x.1):Int))∧∀(e:Nd),x.1[Int.toNat x.2]? =some e→Aa (decide ((↑(List.length e.kids):Int)>(12:Int))) (rA DM x [.bool false,.top,.top]) (cA DA [.agg [.int .i64 e.kind,.str e.text,An e.kids,.bool e.blank]] fun x_2 y=>Aa (!FF x_2.kind x_2.text) (rA DM x [.bool false,.top,.top]) (eA (QB x) [nds x.1,.int .i64 x.2,.box 0 [.int .i64 e.kind,.str e.text,An e.kids,.bool e.blank],.nil,An e.kids,.int .i64 (↑(List.length e.kids):Int),.int .i64 (0:Int)]∧∀(i:Int),nkI x.2 (Aj x.1 x.2).kids i→Aa (decide (i<(↑(List.length (Aj x.1 x.2).kids):Int))) (((0:Int)≤i∧i<(↑(List.length (Aj x.1 x.2).kids):Int))∧∀(e:Int),(Aj x.1 x.2).kids[Int.toNat i]? =some e→Aa (decide (e<(0:Int))) (rA DM x [.bool false,.top,.top]) (Aa (decide (e≥x.2)) (rA DM x [.bool false,.top,.top]) (((0:Int)≤(0:Int)∧(0:Int)≤i∧i≤(↑(List.length (Aj x.1 x.2).kids):Int))∧cA ML [An (List.take (Int.toNat i) (Aj x.1 x.2).kids),.int .i64 e] fun x_3 y=>Aa (List.elem x_3.2 x_3.1) (rA DM x [.bool false,.top,.top]) (((0:Int)≤e∧e<(↑(List.length x.1):Int))∧∀(e_1:Nd),x.1[Int.toNat e]? =some e_1→∃(x_4:Int),e_1.kind=x_4∧∃(zs:List Int),Ab [x_4]=Ab zs∧Bu Bw∧Ba (List.length (List.map (BQ x.1) (List.take (Int.toNat i) (Aj x.1 x.2).kids))+List.length zs) (8:Nat)∧inR IntKind.i64 (i+(1:Int))∧eN (QB x) i [nds x.1,.int .i64 x.2,.box 0 [.int .i64 (Aj x.1 x.2).kind,.str (Aj x.1 x.2).text,An (Aj x.1 x.2).kids,.bool (Aj x.1 x.2).blank],Ab (List.map (BQ x.1) (List.take (Int.toNat i) (Aj x.1 x.2).kids)++zs),An (Aj x.1 x.2).kids,.int .i64 (↑(List.length (Aj x.1 x.2).kids):Int),.int .i64 (i+(1:Int))])))) (cA IY [.int .i64 (Aj x.1 x.2).kind] fun x_3 y=>Aa (JP x_3) (cA BU [.int .i64 (Aj x.1 x.2).kind,Ab (List.map (BQ x.1) (List.take (Int.toNat i) (Aj x.1 x.2).kids))] fun x_4 y=>Aa (Eo x_4.1 x_4.2) (cA HF [nds x.1,.agg [.int .i64 (Aj x.1 x.2).kind,.str (Aj x.1 x.2).text,An (Aj x.1 x.2).kids,.bool (Aj x.1 x.2).blank]] fun x_5 y=>Aa (Ep x_5.1 x_5.2) (rA DM x [.bool true,.top,.top]) (rA DM x [.bool false,.top,.top])) (rA DM x [.bool false,.top,.top])) (cA Ge [.int .i64 (Aj x.1 x.2).kind] fun x_4 y=>Aa (Fc x_4) (cA BU [.int .i64 (Aj x.1 x.2).kind,Ab (List.map (BQ x.1) (List.take (Int.toNat i) (Aj x.1 x.2).kids))] fun x_5 y=>Aa (Eo x_5.1 x_5.2) (cA HF [nds x.1,.agg [.int .i64 (Aj x.1 x.2).kind,.str (Aj x.1 x.2).text,An (Aj x.1 x.2).kids,.bool (Aj x.1 x.2).blank]] fun x_6 y=>Aa (Ep x_6.1 x_6.2) (rA DM x [.bool true,.top,.top]) (rA DM x [.bool false,.top,.top])) (rA DM x [.bool false,.top,.top])) (cA BU [.int .i64 (Aj x.1 x.2).kind,Ab (List.map (BQ x.1) (List.take (Int.toNat i) (Aj x.1 x.2).kids))] fun x_5 y=>Aa (Eo x_5.1 x_5.2) (cA HF [nds x.1,.agg [.int .i64 (Aj x.1 x.2).kind,.str (Aj x.1 x.2).text,An (Aj x.1 x.2).kids,.bool (Aj x.1 x.2).blank]] fun x_6 y=>Aa (Ep x_6.1 x_6.2) (Aa ((Aj x.1 x.2).kind==(21:Int)) (rA DM x [.bool true,.top,.top]) (rA DM x [.bool !(Aj x.1 x.2).blank,.top,.top])) (rA DM x [.bool false,.top,.top])) (rA DM x [.bool false,.top,.top])))))))) (fun x=>by kernel_rfl) fun(x:List Nd×Int) (hx:Bi x.1)=>(by
 dsimp only[cA,eA,eN,An,QB,Bx,nds,Ab,rA,HF,ML,DM,Ge,GF,IY,BU,DA,Aw,AR,mvL,lnL,mvE,lnE,Br]
 have h1:Bi x.1:=hx;have hl:=h1.1
 (repeat' first|(with_reducible first|rfl|exact True.intro|apply AM|apply And.intro|((first|apply AC|apply AK|apply AD|apply AL)<;>intro _))|(apply AB<;>intro _)|apply AJ|refine Ag () ?_ ?_|((first|apply AQ|apply AP|apply AO|apply AN|apply AI|apply AH|apply AG|apply AF|apply AE)<;>try dsimp only)|apply Ag|(refine Prod.forall.2 ?_;intro _;try dsimp only)|(intro _;try dsimp only))
 all_goals try(simp only[Bz (show x.1[x.2.toNat]? =some _ by assumption)] at*)
 all_goals first
  |rfl
  |exact Zn
  |exact(h1.2 _ (Cu ‹_›)).1
  |exact(h1.2 _ (Cu ‹_›)).2
  |exact UP ‹_› h1
  |exact(UR ‹_› ‹_› (CR.1 ‹BF _ _=true›).2 ‹_›).1
  |exact(UR ‹_› ‹_› (CR.1 ‹BF _ _=true›).2 ‹_›).2
  |exact Zq ‹_›
  |exact a7q ‹_› ‹_› ‹_›
  |exact a7r ‹_› ‹_› ‹_›
  |exact Zs ‹_› ‹_› (a7o ‹_› ‹_›)
  |exact Zs ‹_› ‹_› (a7p ‹_› ‹_›)
  |exact a7s ‹_› ‹_› (Zp ‹_› ‹_›)
  |exact Zo ‹_› ‹_› ‹_› ‹_› ‹_›
  |exact a7t (‹nkI _ _ _›.1) ‹_› ‹_›
  |(refine Eq.trans ?_ (Zt (show x.1[x.2.toNat]? =some _ by assumption) ‹_› (by omega) ‹_› ‹_› ‹_›).symm;simp [-List.map_take,Hz,Gd, *];done)
  |omega
  |(have:=CR.1 ‹BF _ _=true›;omega)
  |(have:=CR.1 ‹BF _ _=true›;obtain⟨_,_,_⟩:= ‹nkI _ _ _›;(try simp only[AS,Ba,List.length_take,List.length_map,List.length_append,List.length_cons,List.length_nil] at*);omega)
  |(refine Eq.trans ?_ (Zt (show x.1[x.2.toNat]? =some _ by assumption) ‹_› (by omega) ‹_› ‹_› ‹_›).symm;rw[‹Eo _ _=true›,‹Ep _ _=true›];simp [Hz, *]))
def dl(k i:Int)(ds:List Int):List Int:=ds++List.replicate (k+1-i).toNat 0
def dI(ns:List Nd)(k i:Int)(ds:List Int):Prop:=BF ns k=true∧0≤i∧i≤k+1∧De ns i.toNat=some ds
def dJ(ns:List Nd)(k i:Int)(ds:List Int)(j d:Int):Prop:=dI ns k i ds∧i≤k∧Cb ns i=true∧0≤j∧j≤(Aj ns i).kids.length∧0≤d∧d≤14∧mx ds ((Aj ns i).kids.drop j.toNat) d=mx ds (Aj ns i).kids 0
theorem a7v{ns:List Nd}{k:Int}(h:BF ns k=true):dI ns k 0 []:=⟨h,by omega,by have:=CR.1 h;omega,rfl⟩
theorem a7w{k:Int}:List.replicate (k+1).toNat 0=dl k 0 []:=by simp [dl]
theorem Zu{ns:List Nd}{k i:Int}{ds:List Int}(h:dI ns k i ds):((dl k i ds).length:Int)=k+1:=by
 obtain⟨h0,h1,h2,h3⟩:=h
 have:=Ov h3
 rw[dl,List.length_append,List.length_replicate];omega
theorem a7x{ns:List Nd}{k i:Int}{ds:List Int}(h:dI ns k i ds)(hl:i<k+1)(hn:Cb ns i=false):0=Dr ns k:=by
 obtain⟨h0,h1,h2,h3⟩:=h
 have:De ns (i.toNat+1)=none:=by
  unfold De;rw[h3];simp only
  rw[show((i.toNat:Nat):Int)=i by omega,hn];rfl
 unfold Dr;rw[if_pos h0,YE this (by omega)]
theorem a7y{ns:List Nd}{k i:Int}{ds:List Int}(h:dI ns k i ds)(hl:i<k+1)(hn:Cb ns i=true):dJ ns k i ds 0 0:=
 ⟨h,by omega,hn,by omega,by omega,by omega,by omega,by simp⟩
theorem Zv{ns:List Nd}{k i:Int}{ds:List Int}{j d c:Int}(h:dJ ns k i ds j d)(hc:(Aj ns i).kids[j.toNat]? =some c):0≤c∧c<i:=by
 exact(FG h.2.2.1).2.2.2.1 c (Cu hc)
theorem US{ns:List Nd}{k i:Int}{ds:List Int}{j d c:Int}(h:dJ ns k i ds j d)(hc:(Aj ns i).kids[j.toNat]? =some c):0≤c∧c<(dl k i ds).length:=by
 have:=Zv h hc;have:=Zu h.1;have:=h.1.2.2;omega
theorem a7z{ns:List Nd}{k i:Int}{ds:List Int}{j d c v:Int}(h:dJ ns k i ds j d)(hc:(Aj ns i).kids[j.toNat]? =some c)(hv:(dl k i ds)[c.toNat]? =some v):ds.getD c.toNat 0=v∧1≤v∧v≤14:=by
 have h1:=Zv h hc
 have h2:=Ov h.1.2.2.2
 rw[dl,List.getElem?_append_left (by omega)] at hv
 refine⟨by simp [List.getD,hv],?_⟩
 exact Uw h.1.2.2.2 v (Cu hv)
theorem a7A{ns:List Nd}{k i:Int}{ds:List Int}{j d c v:Int}(h:dJ ns k i ds j d)(hc:(Aj ns i).kids[j.toNat]? =some c)(hv:(dl k i ds)[c.toNat]? =some v):dJ ns k i ds (j+1) (max d v):=by
 obtain⟨hv1,hv2,hv3⟩:=a7z h hc hv
 obtain⟨h1,h2,h3,h4,h5,h6,h7,h8⟩:=h
 have:=(EK hc).1
 refine⟨h1,h2,h3,by omega,by omega,by omega,by omega,?_⟩
 rw[←h8,Ik hc,Dz h4];simp only[mx,hv1]
theorem Zw{ns:List Nd}{k i:Int}{ds:List Int}{j d:Int}(h:dJ ns k i ds j d)(hl:¬j<(Aj ns i).kids.length):d=mx ds (Aj ns i).kids 0:=by
 obtain⟨h1,h2,h3,h4,h5,h6,h7,h8⟩:=h
 rw[List.drop_eq_nil_of_le (by omega)] at h8;exact h8
theorem a7B{ns:List Nd}{k i:Int}{ds:List Int}{j d:Int}(h:dJ ns k i ds j d)(hl:¬j<(Aj ns i).kids.length)(hd:d≥14):0=Dr ns k:=by
 have hm:=Zw h hl
 obtain⟨⟨ha,hb,he,hf⟩,h2,h3,_⟩:=h
 have e:((i.toNat:Nat):Int)=i:=by omega
 have:De ns (i.toNat+1)=none:=by
  unfold De;rw[hf];simp only
  rw[e,h3,if_pos rfl,if_pos (by omega)]
 unfold Dr;rw[if_pos ha,YE this (by omega)]
theorem a7C{ns:List Nd}{k i:Int}{ds:List Int}{j d:Int}(h:dJ ns k i ds j d)(hl:¬j<(Aj ns i).kids.length)(hd:¬d≥14):dI ns k (i+1) (ds++[d+1]):=by
 have hm:=Zw h hl
 obtain⟨⟨ha,hb,he,hf⟩,h2,h3,_⟩:=h
 have e:((i.toNat:Nat):Int)=i:=by omega
 refine⟨ha,by omega,by omega,?_⟩
 rw[Dz hb];unfold De;rw[hf];simp only
 rw[e,h3,if_pos rfl,if_neg (by omega),←hm]
theorem a7D{ns:List Nd}{k i:Int}{ds:List Int}{j d:Int}(h:dJ ns k i ds j d):(dl k i ds).set i.toNat (d+1)=dl k (i+1) (ds++[d+1]):=by
 obtain⟨⟨ha,hb,he,hf⟩,h2,h3,_⟩:=h
 have hl:=Ov hf
 have e:(k+1-i).toNat=(k+1-(i+1)).toNat+1:=by omega
 unfold dl;rw[List.set_append_right _ _ (by omega),e,hl];simp [List.replicate_succ]
theorem a7E{ns:List Nd}{k i v:Int}{ds:List Int}(h:dI ns k i ds)(hl:¬i<k+1)(hv:(dl k i ds)[k.toNat]? =some v):v=Dr ns k:=by
 obtain⟨h0,h1,h2,h3⟩:=h
 obtain rfl:i=k+1:=by omega
 have:=CR.1 h0
 rw[show(k+1).toNat=k.toNat+1 by omega] at h3
 unfold Dr;rw[if_pos h0,h3]
 simp [dl] at hv
 simp [List.getD,hv]
theorem Zx{ns:List Nd}{k:Int}(h:BF ns k=false):0=Dr ns k:=by simp [Dr,h]
theorem a7F{ns:List Nd}{k i:Int}{ds:List Int}{j d:Int}(h:dJ ns k i ds j d):((Aj ns i).kids.length:Int)≤12:=by
 have:=(FG h.2.2.1).2.1;omega
def QC(x:List Nd×Int)(o:Int×List Int):LS:= {
 ι:=Int×Int,inv:=fun i=>dJ x.1 x.2 o.1 o.2 i.1 i.2,
 regs:=fun i=>[(0,nds x.1),(1,.int .i64 x.2),(5,Ab (dl x.2 o.1 o.2)),(18,.int .i64 (x.2+1)),(19,.int .i64 o.1),(6,.int .i64 o.1),(7,.int .i64 i.2),(30,An (Aj x.1 o.1).kids),(31,.int .i64 (Aj x.1 o.1).kids.length),(32,.int .i64 i.1)],als:=[],meas:=fun i=>(Aj x.1 o.1).kids.length-i.1.toNat}
def QD(x:List Nd×Int):LS:= {
 ι:=Int×List Int,inv:=fun i=>dI x.1 x.2 i.1 i.2,
 regs:=fun i=>[(0,nds x.1),(1,.int .i64 x.2),(5,Ab (dl x.2 i.1 i.2)),(18,.int .i64 (x.2+1)),(19,.int .i64 i.1)],als:=[],meas:=fun i=>x.2.toNat+1-i.1.toNat,
 sub:=fun i=>[(11,QC x i)]}
def IZ:Sig:= {X:=List Nd×Int,args:=fun x=>[nds x.1,.int .i64 x.2],pre:=fun x=>Bi x.1∧x.1.length≤2^30,Y:=Unit,post:=fun x y=>True,res:=fun x y=> .int .i64 (Dr x.1 x.2),outs:=fun x y=>[.top,.top],keep:=false}
theorem a7G:Am G Tryz.prog 57 IZ:=
 vcFun_okP [(82,0,GF),(83,0,DM)] [(47,⟨Int,Bw⟩)] false (fun x=>[(5,QD x)]) Tryz.func57 rfl (by decide) ⟨UO,a7u,trivial⟩ (fun(x:List Nd×Int)=>(∀(y:Unit),True→True∧True∧True∧True)∧cA GF [nds x.1,.int .i64 x.2] fun x_1 y=>Aa (!BF x_1.1 x_1.2) (rA IZ x [.int .i64 (0:Int),.top,.top]) (inR IntKind.i64 (x.2+(1:Int))∧((0:Int)≤x.2+(1:Int)∧x.2+(1:Int)≤x.2+(1:Int)∧(↑(8:Nat):Int)*(x.2+(1:Int))≤(2:Int)^(46:Nat)∧x.2+(1:Int)≤(2:Int)^(46:Nat))∧∃(x_2:Int),(0:Int)=x_2∧eA (QD x) [nds x.1,.int .i64 x.2,Ab (List.replicate (Int.toNat (x.2+(1:Int))) x_2),.int .i64 (↑(List.length (List.replicate (Int.toNat (x.2+(1:Int))) x_2)):Int),.int .i64 (0:Int)]∧∀(i:Int×List Int),dI x.1 x.2 i.1 i.2→Aa (decide (i.1<x.2+(1:Int))) (cA DM [nds x.1,.int .i64 i.1] fun x_3 y=>Aa (!Cb x_3.1 x_3.2) (rA IZ x [.int .i64 (0:Int),.top,.top]) (((0:Int)≤i.1∧i.1<(↑(List.length x.1):Int))∧∀(e:Nd),x.1[Int.toNat i.1]? =some e→eA (QC x i) [nds x.1,.int .i64 x.2,Ab (dl x.2 i.1 i.2),.int .i64 (x.2+(1:Int)),.int .i64 i.1,.int .i64 i.1,.int .i64 (0:Int),An e.kids,.int .i64 (↑(List.length e.kids):Int),.int .i64 (0:Int)]∧∀(i_1:Int×Int),dJ x.1 x.2 i.1 i.2 i_1.1 i_1.2→Aa (decide (i_1.1<(↑(List.length (Aj x.1 i.1).kids):Int))) (((0:Int)≤i_1.1∧i_1.1<(↑(List.length (Aj x.1 i.1).kids):Int))∧∀(e:Int),(Aj x.1 i.1).kids[Int.toNat i_1.1]? =some e→((0:Int)≤e∧e<(↑(List.length (dl x.2 i.1 i.2)):Int))∧Int.toNat e<List.length (dl x.2 i.1 i.2)∧∀(x_4:Int),(dl x.2 i.1 i.2)[Int.toNat e]? =some x_4→inR IntKind.i64 (i_1.1+(1:Int))∧eN (QC x i) i_1 [nds x.1,.int .i64 x.2,Ab (dl x.2 i.1 i.2),.int .i64 (x.2+(1:Int)),.int .i64 i.1,.int .i64 i.1,.int .i64 (max i_1.2 x_4),An (Aj x.1 i.1).kids,.int .i64 (↑(List.length (Aj x.1 i.1).kids):Int),.int .i64 (i_1.1+(1:Int))]) (Aa (decide (i_1.2≥(14:Int))) (rA IZ x [.int .i64 (0:Int),.top,.top]) (inR IntKind.i64 (i_1.2+(1:Int))∧((0:Int)≤i.1∧i.1<(↑(List.length (dl x.2 i.1 i.2)):Int))∧Int.toNat i.1<List.length (dl x.2 i.1 i.2)∧∀(x_4:Int),(dl x.2 i.1 i.2)[Int.toNat i.1]? =some x_4→∃(x':Int),((@List.nil AV)=[]∧(@List.nil AV)=[])∧i_1.2+(1:Int)=x'∧inR IntKind.i64 (i.1+(1:Int))∧eN (QD x) i [nds x.1,.int .i64 x.2,Ab (List.set (dl x.2 i.1 i.2) (Int.toNat i.1) x'),.int .i64 (x.2+(1:Int)),.int .i64 (i.1+(1:Int))])))) (((0:Int)≤x.2∧x.2<(↑(List.length (dl x.2 i.1 i.2)):Int))∧Int.toNat x.2<List.length (dl x.2 i.1 i.2)∧∀(x_3:Int),(dl x.2 i.1 i.2)[Int.toNat x.2]? =some x_3→rA IZ x [.int .i64 x_3,.top,.top]))) (fun x=>by kernel_rfl) fun(x:List Nd×Int) (hx:Bi x.1∧x.1.length≤2^30)=>(by
 dsimp only[cA,eA,eN,An,QD,QC,Bx,nds,Ab,rA,IZ,DM,GF,Aw,AR,mvL,lnL,mvE,lnE,Br]
 obtain⟨h1,h2⟩:=hx;have hl:=h1.1
 (repeat' first|(with_reducible first|rfl|exact True.intro|apply AM|apply And.intro|((first|apply AC|apply AK|apply AD|apply AL)<;>intro _))|(apply AB<;>intro _)|apply AJ|refine Ag () ?_ ?_|((first|apply AQ|apply AP|apply AO|apply AN|apply AI|apply AH|apply AG|apply AF|apply AE)<;>try dsimp only)|apply Ag|(refine Prod.forall.2 ?_;intro _;try dsimp only)|(intro _;try dsimp only))
 all_goals try(have nd0:=CR.1 (show BF x.1 x.2=true by assumption))
 all_goals first
  |rfl
  |exact Zx ‹_›
  |exact a7v ‹_›
  |exact a7w
  |exact a7x ‹_› ‹_› ‹_›
  |exact a7y ‹_› ‹_› ‹_›
  |exact(US ‹_› ‹_›).1
  |exact(US ‹_› ‹_›).2
  |exact a7A ‹_› ‹_› ‹_›
  |exact a7B ‹_› ‹_› ‹_›
  |exact a7C ‹_› ‹_› ‹_›
  |exact a7D ‹_›
  |exact a7E ‹_› ‹_› ‹_›
  |(rw[Bz ‹_›];done)
  |(rw[List.length_replicate];omega)
  |(have:=a7F ‹_›;obtain⟨⟨_,_,_,_⟩,_,_,_,_,_,_,_⟩:= ‹dJ _ _ _ _ _ _›;(try simp only[AS,Ba] at*);omega)
  |(have:=Zu ‹_›;obtain⟨_,_,_,_⟩:= ‹dI _ _ _ _›;(try simp only[AS,Ba] at*);omega)
  |(have:=US ‹_› ‹_›;omega)
  |((try simp only[AS,Ba] at*);omega)
  |skip)
def cnt(n:Nat)(l:List Int):List Int:=(List.range n).map fun(c:Nat)=>(l.count (c:Int):Int)
theorem GG{n:Nat}{l:List Int}:(cnt n l).length=n:=by simp [cnt]
theorem Le{n:Nat}{l:List Int}{c:Nat}(h:c<n):(cnt n l)[c]? =some (l.count (c:Int):Int):=by
 simp [cnt,List.getElem?_map,List.getElem?_range,h]
theorem Zy{n:Nat}:List.replicate n 0=cnt n []:=by
 apply List.ext_getElem?
 intro c
 by_cases h:c<n
 ·rw[Le h];simp [h]
 ·rw[List.getElem?_eq_none (by simp;omega),List.getElem?_eq_none (by simp [cnt];omega)]
theorem Zz{n:Nat}{l:List Int}{c v:Int}(h0:0≤c)(h1:c<n)(hv:(cnt n l)[c.toNat]? =some v):(cnt n l).set c.toNat (v+1)=cnt n (l++[c]):=by
 apply List.ext_getElem?
 intro d
 rw[List.getElem?_set]
 by_cases hd:d<n
 ·rw[Le hd,Le hd,List.count_append]
  rw[Le (by omega)] at hv
  by_cases e:c.toNat=d
  ·subst e
   rw[if_pos rfl,if_pos (by rw[GG];omega)]
   have e2:((c.toNat:Nat):Int)=c:=by omega
   rw[e2] at hv ⊢
   simp at hv ⊢;omega
  ·rw[if_neg e]
   have:¬c=(d:Int):=by omega
   simp [List.count_cons,this]
 ·rw[if_neg (by omega),List.getElem?_eq_none (by rw[GG];omega),List.getElem?_eq_none (by rw[GG];omega)]
def tk(ns:List Nd)(i j:Int):List Int:=BR (ns.take i.toNat)++(Aj ns i).kids.take j.toNat
def tI(ns:List Nd):Prop:=1≤ns.length∧ns.length≤300∧BQ ns (ns.length-1)=22∧Dr ns (ns.length-1)≠0
theorem a7H{ns:List Nd}{n:Nat}{y:Nd}(h:tI ns)(hy:ns[n]? =some y):Cb ns n=true:=by
 exact(Ql h.2.2.2).2.2 n (by have:=(EK hy).1;omega)
theorem Oz{ns:List Nd}{n:Nat}{y:Nd}(h:tI ns)(hy:ns[n]? =some y):y.kids.length≤12∧∀c∈y.kids,0≤c∧c<ns.length:=by
 obtain⟨h1,h2,h3,h4,h5⟩:=FG (a7H h hy)
 rw[Bz (by simpa using hy)] at h2 h4
 exact⟨h2,fun c hc=>by have:=h4 c hc;omega⟩
theorem a7I{l:List Nd}(h:∀y∈l,y.kids.length≤12):(BR l).length≤12*l.length:=by
 induction l with
 |nil=>simp [BR]
 |cons y l ih=>
  have h1:=h y (by simp)
  have h2:=ih fun z hz=>h z (by simp [hz])
  simp only[BR,List.flatMap_cons,List.length_append,List.length_cons] at h2 ⊢;omega
theorem a7J{ns:List Nd}{i j:Int}(h:tI ns):(BR (ns.take i.toNat)).length≤3600:=by
 have h1:∀y∈ns.take i.toNat,y.kids.length≤12:=by
  intro y hy
  obtain⟨n,hn⟩:=List.mem_iff_getElem?.1 (List.mem_of_mem_take hy)
  exact(Oz h hn).1
 have:=a7I h1
 have h2:(ns.take i.toNat).length≤300:=by have:=h.2.1;simp;omega
 omega
theorem a7K{n:Nat}{l:List Int}{c:Nat}{v:Int}(hv:(cnt n l)[c]? =some v):0≤v∧v≤l.length:=by
 have h:c<n:=by have:=(EK hv).1;rwa [GG] at this
 rw[Le h] at hv;cases hv
 have:=List.count_le_length (a:=(c:Int)) (l:=l)
 omega
theorem ZA{ns:List Nd}{i:Int}:tk ns i 0=BR (ns.take i.toNat):=by simp [tk]
theorem ZB{ns:List Nd}{i j c:Int}(h0:0≤j)(hc:(Aj ns i).kids[j.toNat]? =some c):tk ns i (j+1)=tk ns i j++[c]:=by
 rw[tk,Dz h0,Fb hc,tk,List.append_assoc]
theorem ZC{ns:List Nd}{i j:Int}{y:Nd}(h0:0≤i)(hy:ns[i.toNat]? =some y)(hl:¬j<(Aj ns i).kids.length):tk ns i j=BR (ns.take (i+1).toNat):=by
 rw[tk,List.take_of_length_le (l:=(Aj ns i).kids) (by omega),Dz h0,Fb hy,Bz hy];simp [BR]
def tE(ns:List Nd)(i:Int):Prop:=0≤i∧i≤ns.length-1∧∀c:Nat,(c:Int)<i→(BR ns).count (c:Int)=1
theorem ZD{ns:List Nd}{i v:Int}(hv:(((cnt ns.length (BR ns)).take (ns.length-1:Int).toNat)[i.toNat]?)=some v)(h0:0≤i)(hl:i<(ns.length-1:Int)):((BR ns).count i:Int)=v:=by
 rw[List.getElem?_take_of_lt (by omega),Le (by omega)] at hv
 have e2:((i.toNat:Nat):Int)=i:=by omega
 rw[e2] at hv;exact Option.some.inj hv
theorem ZE{ns:List Nd}{i:Int}(h:tI ns)(he:tE ns i)(hl:¬i<(ns.length-1:Int)):true=BO ns:=by
 symm;unfold BO
 have h1:decide (1≤ns.length)=true:=decide_eq_true h.1
 have h2:decide (ns.length≤300)=true:=decide_eq_true h.2.1
 have h3:decide (BQ ns (ns.length-1)=22)=true:=decide_eq_true h.2.2.1
 have h4:decide (Dr ns (ns.length-1)=0)=false:=decide_eq_false h.2.2.2
 rw[h1,h2,h3,h4]
 simp only[Bool.and_true,Bool.not_false,Bool.true_and,List.all_eq_true,decide_eq_true_eq,List.mem_range]
 exact fun c hc=>he.2.2 c (by omega)
theorem ZF{ns:List Nd}{i v:Int}(hv:(BR ns).count i=v)(h0:0≤i)(hl:i<(ns.length-1:Int))(hne:v≠1):false=BO ns:=by
 symm;rw[Bool.eq_false_iff];intro h
 unfold BO at h
 simp only[Bool.and_eq_true,List.all_eq_true,decide_eq_true_eq,List.mem_range] at h
 have:=h.2.2.2 i.toNat (by omega)
 have e2:((i.toNat:Nat):Int)=i:=by omega
 rw[e2] at this;omega
theorem MN{ns:List Nd}(h:¬tI ns):false=BO ns:=by
 symm;rw[Bool.eq_false_iff];intro hh
 unfold BO at hh
 simp only[Bool.and_eq_true,decide_eq_true_eq,Bool.not_eq_true',decide_eq_false_iff_not] at hh
 exact h ⟨hh.1.1,hh.1.2,hh.2.1,hh.2.2.1⟩
theorem OA{ns:List Nd}{i j c:Int}{y:Nd}(h:tI ns)(hc:(Aj ns i).kids[j.toNat]? =some c)(hy:ns[i.toNat]? =some y):0≤c∧c<ns.length:=by
 rw[Bz hy] at hc;exact(Oz h hy).2 c (Cu hc)
theorem ZG{ns:List Nd}{i:Int}{y:Nd}(h:tI ns)(hy:ns[i.toNat]? =some y):(Aj ns i).kids.length≤12:=by
 rw[Bz hy];exact(Oz h hy).1
theorem a7L{ns:List Nd}{i j:Int}{y:Nd}(h:tI ns)(hy:ns[i.toNat]? =some y):(tk ns i j).length≤3612:=by
 have h1:= @a7J ns i j h;have h2:=ZG h hy
 rw[tk,List.length_append,List.length_take];omega
theorem ZH{ns:List Nd}{i j v:Int}{c:Nat}{y:Nd}(h:tI ns)(hv:(cnt ns.length (tk ns i j))[c]? =some v)(hy:ns[i.toNat]? =some y):0≤v∧v≤3612:=by
 have h1:=a7K hv;have h2:= @a7L ns i j y h hy;omega
theorem Iq{x a b:Int}:inn x a b=true↔a≤x∧x≤b:=by simp [inn]
theorem ZI{ns:List Nd}{y:Nd}(h:inn ns.length 1 300=true)(hy:ns[(ns.length-1:Int).toNat]? =some y)(hk:y.kind=22)(hd:Dr ns (ns.length-1)≠0):tI ns:=by
 have:=Iq.1 h
 exact⟨by omega,by omega,by rw[BQ,Bz hy,hk],hd⟩
theorem ZJ{ns:List Nd}(h:inn ns.length 1 300=false):¬tI ns:=by
 intro hh;have:inn ns.length 1 300=true:=Iq.2 ⟨by have:=hh.1;omega,by have:=hh.2.1;omega⟩
 rw[h] at this;cases this
theorem ZK{ns:List Nd}{y:Nd}(hy:ns[(ns.length-1:Int).toNat]? =some y)(hk:y.kind≠22):¬tI ns:=by
 intro hh;have:=hh.2.2.1;rw[BQ,Bz hy] at this;exact hk this
theorem ZL{ns:List Nd}{i:Int}(hl:¬i<ns.length):BR (ns.take i.toNat)=BR ns:=by rw[List.take_of_length_le (by omega)]
theorem a7M{ns:List Nd}{i v:Int}(h:tE ns i)(hl:i<(ns.length-1:Int))(hv:(((cnt ns.length (BR ns)).take (ns.length-1:Int).toNat)[i.toNat]?)=some v)(h1:v=1):tE ns (i+1):=by
 have:=ZD hv h.1 hl
 refine⟨by have:=h.1;omega,by omega,fun c hc=> ?_⟩
 by_cases e:(c:Int)<i
 ·exact h.2.2 c e
 ·have:=h.1
  obtain rfl:i=(c:Int):=by omega
  omega
def QE(x:List Nd)(o:Int):LS:= {
 ι:=Int,inv:=fun j=>0≤j∧j≤(Aj x o).kids.length,
 regs:=fun j=>[(0,nds x),(3,.int .i64 x.length),(4,Ab (cnt x.length (tk x o j))),(34,nds x),(35,.int .i64 x.length),(36,.int .i64 o),(41,An (Aj x o).kids),(42,.int .i64 (Aj x o).kids.length),(43,.int .i64 j)],als:=[],meas:=fun j=>(Aj x o).kids.length-j.toNat}
def QF(x:List Nd):LS:= {
 ι:=Int,inv:=fun i=>0≤i∧i≤x.length,
 regs:=fun i=>[(0,nds x),(3,.int .i64 x.length),(4,Ab (cnt x.length (BR (x.take i.toNat)))),(34,nds x),(35,.int .i64 x.length),(36,.int .i64 i)],als:=[],meas:=fun i=>x.length-i.toNat,
 sub:=fun i=>[(9,QE x i)]}
def QG(x:List Nd):LS:= {
 ι:=Int,inv:=tE x,
 regs:=fun i=>[(58,Ab ((cnt x.length (BR x)).take (x.length-1:Int).toNat)),(59,.int .i64 (x.length-1)),(60,.int .i64 i)],als:=[],meas:=fun i=>x.length-1-i.toNat}
def Ir:Sig:= {X:=List Nd,args:=fun x=>[nds x],pre:=fun x=>Bi x∧x.length≤2^30,Y:=Unit,post:=fun x y=>True,res:=fun x y=> .bool (BO x),outs:=fun x y=>[.top],keep:=false}
theorem a7N:Am G Tryz.prog 28 Ir:=
 vcFun_okP [(56,0,Fr),(57,0,IZ)] [(47,⟨Int,Bw⟩)] false (fun x=>[(6,QF x),(15,QG x)]) Tryz.func28 rfl (by decide) ⟨Qn,a7G,trivial⟩ (fun(x:List Nd)=>(∀(y:Unit),True→True∧True∧True)∧cA Fr [.int .i64 (↑(List.length x):Int),.int .i64 (1:Int),.int .i64 (300:Int)] fun x_1 y=>Aa (!inn x_1.1 x_1.2.1 x_1.2.2) (rA Ir x [.bool false,.top]) (inR IntKind.i64 ((↑(List.length x):Int)-(1:Int))∧((0:Int)≤(↑(List.length x):Int)-(1:Int)∧(↑(List.length x):Int)-(1:Int)<(↑(List.length x):Int))∧∀(e:Nd),x[Int.toNat ((↑(List.length x):Int)-(1:Int))]? =some e→Aa (e.kind != (22:Int)) (rA Ir x [.bool false,.top]) (inR IntKind.i64 ((↑(List.length x):Int)-(1:Int))∧cA IZ [nds x,.int .i64 ((↑(List.length x):Int)-(1:Int))] fun x_2 y=>Aa (Dr x_2.1 x_2.2==(0:Int)) (rA Ir x [.bool false,.top]) (((0:Int)≤(↑(List.length x):Int)∧(↑(List.length x):Int)≤(↑(List.length x):Int)∧(↑(8:Nat):Int)*(↑(List.length x):Int)≤(2:Int)^(46:Nat)∧(↑(List.length x):Int)≤(2:Int)^(46:Nat))∧∃(x_3:Int),(0:Int)=x_3∧eA (QF x) [nds x,.int .i64 (↑(List.length x):Int),Ab (List.replicate (Int.toNat (↑(List.length x):Int)) x_3),nds x,.int .i64 (↑(List.length x):Int),.int .i64 (0:Int)]∧∀(i:Int),(0:Int)≤i∧i≤(↑(List.length x):Int)→Aa (decide (i<(↑(List.length x):Int))) (((0:Int)≤i∧i<(↑(List.length x):Int))∧∀(e:Nd),x[Int.toNat i]? =some e→eA (QE x i) [nds x,.int .i64 (↑(List.length x):Int),Ab (cnt (List.length x) (BR (List.take (Int.toNat i) x))),nds x,.int .i64 (↑(List.length x):Int),.int .i64 i,An e.kids,.int .i64 (↑(List.length e.kids):Int),.int .i64 (0:Int)]∧∀(i_1:Int),(0:Int)≤i_1∧i_1≤(↑(List.length (Aj x i).kids):Int)→Aa (decide (i_1<(↑(List.length (Aj x i).kids):Int))) (((0:Int)≤i_1∧i_1<(↑(List.length (Aj x i).kids):Int))∧∀(e:Int),(Aj x i).kids[Int.toNat i_1]? =some e→((0:Int)≤e∧e<(↑(List.length (cnt (List.length x) (tk x i i_1))):Int))∧Int.toNat e<List.length (cnt (List.length x) (tk x i i_1))∧∀(x_4:Int),(cnt (List.length x) (tk x i i_1))[Int.toNat e]? =some x_4→inR IntKind.i64 (x_4+(1:Int))∧((0:Int)≤e∧e<(↑(List.length (cnt (List.length x) (tk x i i_1))):Int))∧Int.toNat e<List.length (cnt (List.length x) (tk x i i_1))∧∀(x_5:Int),(cnt (List.length x) (tk x i i_1))[Int.toNat e]? =some x_5→∃(x':Int),((@List.nil AV)=[]∧(@List.nil AV)=[])∧x_4+(1:Int)=x'∧inR IntKind.i64 (i_1+(1:Int))∧eN (QE x i) i_1 [nds x,.int .i64 (↑(List.length x):Int),Ab (List.set (cnt (List.length x) (tk x i i_1)) (Int.toNat e) x'),nds x,.int .i64 (↑(List.length x):Int),.int .i64 i,An (Aj x i).kids,.int .i64 (↑(List.length (Aj x i).kids):Int),.int .i64 (i_1+(1:Int))]) (inR IntKind.i64 (i+(1:Int))∧eN (QF x) i [nds x,.int .i64 (↑(List.length x):Int),Ab (cnt (List.length x) (tk x i i_1)),nds x,.int .i64 (↑(List.length x):Int),.int .i64 (i+(1:Int))])) (inR IntKind.i64 ((↑(List.length x):Int)-(1:Int))∧((0:Int)≤(0:Int)∧(0:Int)≤(↑(List.length x):Int)-(1:Int)∧(↑(List.length x):Int)-(1:Int)≤(↑(List.length (cnt (List.length x) (BR (List.take (Int.toNat i) x)))):Int))∧eA (QG x) [Ab (List.take (Int.toNat ((↑(List.length x):Int)-(1:Int))) (cnt (List.length x) (BR (List.take (Int.toNat i) x)))),.int .i64 (↑(List.length (List.take (Int.toNat ((↑(List.length x):Int)-(1:Int))) (cnt (List.length x) (BR (List.take (Int.toNat i) x))))):Int),.int .i64 (0:Int)]∧∀(i:Int),tE x i→Aa (decide (i<(↑(List.length x):Int)-(1:Int))) (((0:Int)≤i∧i<(↑(List.length (List.take (Int.toNat ((↑(List.length x):Int)-(1:Int))) (cnt (List.length x) (BR x)))):Int))∧Int.toNat i<List.length (List.take (Int.toNat ((↑(List.length x):Int)-(1:Int))) (cnt (List.length x) (BR x)))∧∀(x_4:Int),(List.take (Int.toNat ((↑(List.length x):Int)-(1:Int))) (cnt (List.length x) (BR x)))[Int.toNat i]? =some x_4→Aa (x_4 != (1:Int)) (rA Ir x [.bool false,.top]) (inR IntKind.i64 (i+(1:Int))∧eN (QG x) i [Ab (List.take (Int.toNat ((↑(List.length x):Int)-(1:Int))) (cnt (List.length x) (BR x))),.int .i64 ((↑(List.length x):Int)-(1:Int)),.int .i64 (i+(1:Int))])) (rA Ir x [.bool true,.top])))))) (fun x=>by kernel_rfl) fun(x:List Nd) (hx:Bi x∧x.length≤2^30)=>(by
 dsimp only[cA,eA,eN,An,QF,QE,QG,Bx,nds,Ab,rA,IZ,Ir,Fr,Aw,AR,mvL,lnL,mvE,lnE,Br]
 obtain⟨h1,h2⟩:=hx;have hl:=h1.1
 (repeat' first|(with_reducible first|rfl|exact True.intro|apply AM|apply And.intro|((first|apply AC|apply AK|apply AD|apply AL)<;>intro _))|(apply AB<;>intro _)|apply AJ|refine Ag () ?_ ?_|((first|apply AQ|apply AP|apply AO|apply AN|apply AI|apply AH|apply AG|apply AF|apply AE)<;>try dsimp only)|apply Ag|(refine Prod.forall.2 ?_;intro _;try dsimp only)|(intro _;try dsimp only))
 all_goals try(have t1:=Iq.1 (show inn x.length 1 300=true by assumption))
 all_goals try(have t0:=ZI ‹_› ‹_› ‹_› ‹_›)
 all_goals first
  |rfl
  |exact MN (ZJ ‹_›)
  |exact MN (ZK ‹_› ‹_›)
  |exact MN (fun h=>h.2.2.2 ‹_›)
  |exact Zy
  |(rw[ZA];done)
  |(rw[Bz ‹_›];done)
  |exact(OA ‹_› ‹_› ‹_›).1
  |(rw[GG];exact(OA ‹_› ‹_› ‹_›).2)
  |(have:=OA ‹_› (show(Aj x _).kids[_]? =some _ by assumption) ‹_›;rw[GG];omega)
  |(rw[ZB (by omega) ‹_›];exact Zz (OA ‹_› ‹_› ‹_›).1 (OA ‹_› ‹_› ‹_›).2 ‹_›)
  |(rw[ZC (by omega) ‹_› ‹_›];done)
  |(rw[ZL ‹_›];done)
  |(have:=ZH ‹_› ‹_› ‹_›;omega)
  |(have:=ZG ‹_› ‹_›;(try simp only[AS] at*);omega)
  |exact ZE ‹_› ‹_› ‹_›
  |exact ZF (ZD ‹_› (‹tE _ _›.1) ‹_›) (‹tE _ _›.1) ‹_› ‹_›
  |exact a7M ‹_› ‹_› ‹_› ‹_›
  |exact⟨by omega,by omega,fun c hc=>by omega⟩
  |(rw[List.length_take,GG];omega)
  |((try simp only[AS,Ba,List.length_replicate,GG] at*);omega)
  |(obtain⟨_,_,_⟩:= ‹tE _ _›;(try rw[List.length_take,GG]);(try simp only[AS] at*);omega)
  |skip)
def It:Sig:= {X:=Int,args:=fun x=>[.int .i64 x],pre:=fun x=>True,Y:=Unit,post:=fun x y=>True,res:=fun x y=> .bool (BH x),outs:=fun x y=>[.top],keep:=false}
theorem a7O:Am G Tryz.prog 124 It:=
 vcFun_okP [(48,0,CU)] [] false (fun x=>[]) Tryz.func124 rfl (by decide) ⟨KE,trivial⟩ (fun(x:Int)=>(∀(y:Unit),True→True∧True∧True)∧cA CU [.int .i64 x,.int .i64 (1:Int),.int .i64 (11:Int)] fun x_1 y=>rA It x [.bool (inn x_1.1 x_1.2.1 x_1.2.2),.top]) (fun x=>by kernel_rfl) fun(x:Int) (hx:True)=>(by
 dsimp only[cA,rA,CU,It,Aw,AR,mvL,lnL,mvE,lnE]
 (repeat' first|(with_reducible first|rfl|exact True.intro|apply AM|apply And.intro|((first|apply AC|apply AK|apply AD|apply AL)<;>intro _))|(apply AB<;>intro _)|apply AJ|refine Ag () ?_ ?_|((first|apply AQ|apply AP|apply AO|apply AN|apply AI|apply AH|apply AG|apply AF|apply AE)<;>try dsimp only)|apply Ag|(refine Prod.forall.2 ?_;intro _;try dsimp only)|(intro _;try dsimp only))<;>(try dsimp only at*)<;>(try simp only[AS,List.length_cons,List.length_nil])<;>(try omega)
 all_goals simp [BH,Gd, *])
def Iu:Sig:= {X:=Int,args:=fun x=>[.int .i64 x],pre:=fun x=>True,Y:=Unit,post:=fun x y=>True,res:=fun x y=> .bool (Fd x),outs:=fun x y=>[.top],keep:=false}
theorem ZM:Am G Tryz.prog 106 Iu:=
 vcFun_okP [(48,0,CU)] [] false (fun x=>[]) Tryz.func106 rfl (by decide) ⟨KE,trivial⟩ (fun(x:Int)=>(∀(y:Unit),True→True∧True∧True)∧cA CU [.int .i64 x,.int .i64 (12:Int),.int .i64 (17:Int)] fun x_1 y=>Aa (inn x_1.1 x_1.2.1 x_1.2.2) (rA Iu x [.bool true,.top]) (rA Iu x [.bool (x==(19:Int)),.top])) (fun x=>by kernel_rfl) fun(x:Int) (hx:True)=>(by
 dsimp only[cA,rA,CU,Iu,Aw,AR,mvL,lnL,mvE,lnE]
 (repeat' first|(with_reducible first|rfl|exact True.intro|apply AM|apply And.intro|((first|apply AC|apply AK|apply AD|apply AL)<;>intro _))|(apply AB<;>intro _)|apply AJ|refine Ag () ?_ ?_|((first|apply AQ|apply AP|apply AO|apply AN|apply AI|apply AH|apply AG|apply AF|apply AE)<;>try dsimp only)|apply Ag|(refine Prod.forall.2 ?_;intro _;try dsimp only)|(intro _;try dsimp only))<;>(try dsimp only at*)<;>(try simp only[AS,List.length_cons,List.length_nil])<;>(try omega)
 all_goals simp [Fd,JP,Gd, *])
def Dv:Sig:= {X:=Int,args:=fun x=>[.int .i64 x],pre:=fun x=>True,Y:=Unit,post:=fun x y=>True,res:=fun x y=> .tup [.int .i64 (CM x).1,.int .i64 (CM x).2],outs:=fun x y=>[.top],keep:=false}
theorem a7P:Am G Tryz.prog 104 Dv:=
 vcFun_okP [] [] false (fun x=>[]) Tryz.func104 rfl (by decide) trivial (fun(x:Int)=>(∀(y:Unit),True→(True∧True∧True)∧True∧True)∧Aa (x==(4:Int)) (rA Dv x [.tup [.int .i64 (0:Int),.int .i64 (12:Int)],.top]) (Aa (x==(18:Int)) (rA Dv x [.tup [.int .i64 (0:Int),.int .i64 (12:Int)],.top]) (Aa (x==(21:Int)) (rA Dv x [.tup [.int .i64 (0:Int),.int .i64 (12:Int)],.top]) (Aa (x==(22:Int)) (rA Dv x [.tup [.int .i64 (0:Int),.int .i64 (12:Int)],.top]) (Aa (x==(5:Int)) (rA Dv x [.tup [.int .i64 (1:Int),.int .i64 (12:Int)],.top]) (Aa (x==(9:Int)) (rA Dv x [.tup [.int .i64 (1:Int),.int .i64 (12:Int)],.top]) (Aa (x==(20:Int)) (rA Dv x [.tup [.int .i64 (1:Int),.int .i64 (12:Int)],.top]) (Aa (x==(6:Int)) (rA Dv x [.tup [.int .i64 (1:Int),.int .i64 (1:Int)],.top]) (Aa (x==(11:Int)) (rA Dv x [.tup [.int .i64 (1:Int),.int .i64 (1:Int)],.top]) (Aa (x==(13:Int)) (rA Dv x [.tup [.int .i64 (1:Int),.int .i64 (1:Int)],.top]) (Aa (x==(14:Int)) (rA Dv x [.tup [.int .i64 (1:Int),.int .i64 (1:Int)],.top]) (Aa (x==(7:Int)) (rA Dv x [.tup [.int .i64 (2:Int),.int .i64 (12:Int)],.top]) (Aa (x==(10:Int)) (rA Dv x [.tup [.int .i64 (2:Int),.int .i64 (12:Int)],.top]) (Aa (x==(8:Int)) (rA Dv x [.tup [.int .i64 (3:Int),.int .i64 (3:Int)],.top]) (Aa (x==(12:Int)) (rA Dv x [.tup [.int .i64 (0:Int),.int .i64 (1:Int)],.top]) (Aa (x==(15:Int)) (rA Dv x [.tup [.int .i64 (0:Int),.int .i64 (1:Int)],.top]) (Aa (x==(16:Int)) (rA Dv x [.tup [.int .i64 (2:Int),.int .i64 (3:Int)],.top]) (Aa (x==(17:Int)) (rA Dv x [.tup [.int .i64 (2:Int),.int .i64 (2:Int)],.top]) (rA Dv x [.tup [.int .i64 (0:Int),.int .i64 (0:Int)],.top]))))))))))))))))))) (fun x=>by kernel_rfl) fun(x:Int) (hx:True)=>(by
 dsimp only[rA,Dv,Aw,AR]
 (repeat' first|(with_reducible first|rfl|exact True.intro|apply AM|apply And.intro|((first|apply AC|apply AK|apply AD|apply AL)<;>intro _))|(apply AB<;>intro _)|apply AJ|refine Ag () ?_ ?_|((first|apply AQ|apply AP|apply AO|apply AN|apply AI|apply AH|apply AG|apply AF|apply AE)<;>try dsimp only)|apply Ag|(refine Prod.forall.2 ?_;intro _;try dsimp only)|(intro _;try dsimp only))<;>(try dsimp only at*)<;>(try simp only[AS,List.length_cons,List.length_nil])<;>(try omega)
 all_goals simp [CM, *])
def HG(x:List Nd×Int×Int):Prop:=Bi x.1∧BF x.1 x.2.1=true∧((Aj x.1 x.2.1).kind=10→∀c,(Aj x.1 x.2.1).kids[x.2.2.toNat]? =some c→BQ x.1 c=5→∃h t,(Aj x.1 c).kids=h::t∧BF x.1 h=true)∧
 (0≤x.2.2∧x.2.2<(Aj x.1 x.2.1).kids.length)∧∀c,(Aj x.1 x.2.1).kids[x.2.2.toNat]? =some c→0≤c∧c<x.1.length
theorem UT{x:List Nd×Int×Int}{y:Nd}(h:HG x)(hy:x.1[x.2.1.toNat]? =some y):0≤x.2.2∧x.2.2<y.kids.length:=by
 have:=h.2.2.2.1;rwa [Bz hy] at this
theorem ZN{x:List Nd×Int×Int}{y:Nd}{c:Int}(h:HG x)(hy:x.1[x.2.1.toNat]? =some y)(hc:y.kids[x.2.2.toNat]? =some c):0≤c∧c<x.1.length:=by
 have:=h.2.2.2.2 c;rw[Bz hy] at this;exact this hc
theorem ZO{x:List Nd×Int×Int}{y z:Nd}{c:Int}(h:HG x)(hy:x.1[x.2.1.toNat]? =some y)(hc:y.kids[x.2.2.toNat]? =some c)(hz:x.1[c.toNat]? =some z)(hk:y.kind=10)(hz5:z.kind=5):∃h t,z.kids=h::t∧BF x.1 h=true:=by
 have:=h.2.2.1;rw[Bz hy] at this
 have:=this hk c hc;rw[BQ,Bz hz] at this;exact this hz5
theorem ZP{x:List Nd×Int×Int}{y z:Nd}{c d:Int}(h:HG x)(hy:x.1[x.2.1.toNat]? =some y)(hc:y.kids[x.2.2.toNat]? =some c)(hz:x.1[c.toNat]? =some z)(hk:y.kind=10)(hz5:z.kind=5)(hd:z.kids[0]? =some d):(0≤d∧d<x.1.length)∧z.kids.headD 0=d:=by
 obtain⟨a,t,e,ha⟩:=ZO h hy hc hz hk hz5
 rw[e] at hd ⊢;cases hd;exact⟨CR.1 ha,rfl⟩
theorem ZQ{x:List Nd×Int×Int}{y z:Nd}{c:Int}(h:HG x)(hy:x.1[x.2.1.toNat]? =some y)(hc:y.kids[x.2.2.toNat]? =some c)(hz:x.1[c.toNat]? =some z)(hk:y.kind=10)(hz5:z.kind=5):0<z.kids.length:=by
 obtain⟨a,t,e,ha⟩:=ZO h hy hc hz hk hz5
 rw[e];simp
def Lf(x:List Nd×Int×Int):Bool:=KN x.1 (Aj x.1 x.2.1) x.2.2 ((Aj x.1 x.2.1).kids.getD x.2.2.toNat 0)
theorem ZR{x:List Nd×Int×Int}{y z:Nd}{c:Int}(hy:x.1[x.2.1.toNat]? =some y)(hc:y.kids[x.2.2.toNat]? =some c)(hz:x.1[c.toNat]? =some z):
 Lf x=(GE y.kind y.kids.length x.2.2 z.kind&&(if y.kind=10∧0<x.2.2 then decide (BQ x.1 (z.kids.headD 0)=1) else true)):=by
 rw[Lf,Bz hy,List.getD,hc,Option.getD_some,KN,BQ,Bz hz]
def Dm:Sig:= {X:=List Nd×Int×Int,args:=fun x=>[nds x.1,.int .i64 x.2.1,.int .i64 x.2.2],pre:=fun x=>HG x,Y:=Unit,post:=fun x y=>True,res:=fun x y=> .bool (Lf x),outs:=fun x y=>[.top,.top,.top],keep:=false}
theorem a7Q:Am G Tryz.prog 107 Dm:=
 vcFun_okP [(124,0,It),(106,0,Iu)] [] false (fun x=>[]) Tryz.func107 rfl (by decide) ⟨a7O,ZM,trivial⟩ (fun(x:List Nd×Int×Int)=>(∀(y:Unit),True→True∧True∧True∧True∧True)∧((0:Int)≤x.2.1∧x.2.1<(↑(List.length x.1):Int))∧∀(e:Nd),x.1[Int.toNat x.2.1]? =some e→((0:Int)≤x.2.2∧x.2.2<(↑(List.length e.kids):Int))∧∀(e_1:Int),e.kids[Int.toNat x.2.2]? =some e_1→((0:Int)≤e_1∧e_1<(↑(List.length x.1):Int))∧∀(e_2:Nd),x.1[Int.toNat e_1]? =some e_2→Aa (e.kind==(9:Int)) (inR IntKind.i64 (x.2.2+(1:Int))∧Aa (decide (x.2.2+(1:Int)<(↑(List.length e.kids):Int))) (rA Dm x [.bool (e_2.kind==(1:Int)),.top,.top,.top]) (cA It [.int .i64 e_2.kind] fun x_1 y=>rA Dm x [.bool (BH x_1),.top,.top,.top])) (Aa (e.kind==(20:Int)) (inR IntKind.i64 (x.2.2+(1:Int))∧Aa (decide (x.2.2+(1:Int)<(↑(List.length e.kids):Int))) (rA Dm x [.bool (e_2.kind==(1:Int)),.top,.top,.top]) (rA Dm x [.bool (e_2.kind==(18:Int)),.top,.top,.top])) (Aa (e.kind==(10:Int)) (Aa (decide (x.2.2>(0:Int))) (Aa (e_2.kind==(5:Int)) (((0:Int)≤(0:Int)∧(0:Int)<(↑(List.length e_2.kids):Int))∧∀(e:Int),e_2.kids[(0:Nat)]? =some e→((0:Int)≤e∧e<(↑(List.length x.1):Int))∧∀(e_3:Nd),x.1[Int.toNat e]? =some e_3→rA Dm x [.bool (e_3.kind==(1:Int)),.top,.top,.top]) (rA Dm x [.bool false,.top,.top,.top])) (cA It [.int .i64 e_2.kind] fun x_1 y=>rA Dm x [.bool (BH x_1),.top,.top,.top])) (Aa (e.kind==(16:Int)) (Aa (decide (x.2.2>(0:Int))) (rA Dm x [.bool (e_2.kind==(18:Int)),.top,.top,.top]) (cA It [.int .i64 e_2.kind] fun x_1 y=>rA Dm x [.bool (BH x_1),.top,.top,.top])) (Aa (e.kind==(17:Int)) (Aa (decide (x.2.2>(0:Int))) (rA Dm x [.bool (e_2.kind==(18:Int)),.top,.top,.top]) (cA It [.int .i64 e_2.kind] fun x_1 y=>rA Dm x [.bool (BH x_1),.top,.top,.top])) (Aa (e.kind==(18:Int)) (cA Iu [.int .i64 e_2.kind] fun x_1 y=>rA Dm x [.bool (Fd x_1),.top,.top,.top]) (Aa (e.kind==(21:Int)) (Aa (e_2.kind==(12:Int)) (rA Dm x [.bool true,.top,.top,.top]) (Aa (e_2.kind==(20:Int)) (rA Dm x [.bool true,.top,.top,.top]) (rA Dm x [.bool (e_2.kind==(19:Int)),.top,.top,.top]))) (Aa (e.kind==(22:Int)) (Aa (e_2.kind==(21:Int)) (rA Dm x [.bool true,.top,.top,.top]) (Aa (e_2.kind==(12:Int)) (rA Dm x [.bool true,.top,.top,.top]) (Aa (e_2.kind==(20:Int)) (rA Dm x [.bool true,.top,.top,.top]) (rA Dm x [.bool (e_2.kind==(19:Int)),.top,.top,.top])))) (cA It [.int .i64 e_2.kind] fun x_1 y=>rA Dm x [.bool (BH x_1),.top,.top,.top]))))))))) (fun x=>by kernel_rfl) fun(x:List Nd×Int×Int) (hx:HG x)=>(by
 dsimp only[cA,Bx,nds,rA,Dm,Iu,It,Aw,AR,mvL,lnL,mvE,lnE]
 have h:=hx;have h1:=h.1;have hl:=h1.1;have hn:=CR.1 h.2.1
 (repeat' first|(with_reducible first|rfl|exact True.intro|apply AM|apply And.intro|((first|apply AC|apply AK|apply AD|apply AL)<;>intro _))|(apply AB<;>intro _)|apply AJ|refine Ag () ?_ ?_|((first|apply AQ|apply AP|apply AO|apply AN|apply AI|apply AH|apply AG|apply AF|apply AE)<;>try dsimp only)|apply Ag|(refine Prod.forall.2 ?_;intro _;try dsimp only)|(intro _;try dsimp only))
 all_goals first
  |omega
  |exact(UT h ‹_›).1
  |exact(UT h ‹_›).2
  |exact(ZN h ‹_› ‹_›).1
  |exact(ZN h ‹_› ‹_›).2
  |exact ZQ h ‹_› ‹_› ‹_› ‹_› ‹_›
  |(have:=ZQ h ‹_› ‹_› ‹_› ‹_› ‹_›;omega)
  |(have:=(ZP h ‹_› ‹_› ‹_› ‹_› ‹_› ‹_›).1;omega)
  |(have hk:=(h1.2 _ (Cu (show x.1[x.2.1.toNat]? =some _ by assumption))).2;have:=UT h ‹_›;(try simp only[AS]);omega)
  |(rw[ZR ‹_› ‹_› ‹_›];simp [GE,EL,DZ,Fc,Hb,Gb,Gd, *];done)
  |(rw[ZR ‹_› ‹_› ‹_›,(ZP h ‹_› ‹_› ‹_› ‹_› ‹_› ‹_›).2,BQ,Bz ‹_›];simp [GE,Gb,Gd, *];done)
  |skip)
def koI(ns:List Nd)(x:Nd)(i:Int):Prop:=0≤i∧i≤x.kids.length∧∀(j:Nat) c,(j:Int)<i→x.kids[j]? =some c→DL ns x j c=true
theorem a7R{ns:List Nd}{x:Nd}:koI ns x 0:=⟨by omega,by omega,fun j c h=>by omega⟩
theorem ZS{ns:List Nd}{x:Nd}{i c:Int}(h:koI ns x i)(hc:x.kids[i.toNat]? =some c)(hk:DL ns x i c=true):koI ns x (i+1):=by
 obtain⟨h1,h2,h3⟩:=h
 have:=(EK hc).1
 refine⟨by omega,by omega,fun j d hj hd=> ?_⟩
 by_cases e:(j:Int)<i
 ·exact h3 j d e hd
 ·obtain rfl:j=i.toNat:=by omega
  rw[hc] at hd;cases hd
  rwa [show((i.toNat:Nat):Int)=i by omega]
theorem a7S{ns:List Nd}{x:Nd}{i:Int}(h:koI ns x i)(hl:¬i<x.kids.length):BT (DL ns x) x.kids 0=true:=by
 rw[UL];intro j c hc
 exact h.2.2 j c (by have:=(EK hc).1;omega) hc
theorem QH{ns:List Nd}{x:Nd}{i c:Int}(h0:0≤i)(hc:x.kids[i.toNat]? =some c)(hk:DL ns x i c=false):BT (DL ns x) x.kids 0=false:=by
 rw[Bool.eq_false_iff];intro h
 rw[UL] at h
 have:=h _ _ hc
 rw[show((i.toNat:Nat):Int)=i by omega,hk] at this;cases this
theorem ko1{ns:List Nd}{x y:Nd}{i c:Int}(hy:ns[c.toNat]? =some y)(h:y.kind=5)(h0:(y.kids.length:Int)=0):DL ns x i c=false:=by
 have h0:=List.length_eq_zero_iff.1 (show y.kids.length=0 by omega)
 simp [DL,BQ,Bz hy,h,h0]
theorem Ja{ns:List Nd}{d:Int}:inn d 0 (ns.length-1)=BF ns d:=by
 rw[Bool.eq_iff_iff];simp only[inn,BF,Bool.and_eq_true,decide_eq_true_eq];omega
theorem ko2{ns:List Nd}{x y:Nd}{i c d:Int}(hy:ns[c.toNat]? =some y)(h:y.kind=5)(h0:y.kids[0]? =some d)(hd:inn d 0 (ns.length-1)=false):DL ns x i c=false:=by
 rw[Ja] at hd
 match hk:y.kids with
 |[]=>rw[hk] at h0;cases h0
 |e::t=>rw[hk] at h0;cases h0;simp [DL,BQ,Bz hy,h,hk,hd]
theorem ko3{ns:List Nd}{x y:Nd}{i c d:Int}(hy:ns[c.toNat]? =some y)(h:y.kind=5)(h0:y.kids[0]? =some d)(hd:inn d 0 (ns.length-1)=true):DL ns x i c=KN ns x i c:=by
 rw[Ja] at hd
 match hk:y.kids with
 |[]=>rw[hk] at h0;cases h0
 |e::t=>rw[hk] at h0;cases h0;simp [DL,BQ,Bz hy,h,hk,hd]
theorem ko4{ns:List Nd}{x y:Nd}{i c:Int}(hy:ns[c.toNat]? =some y)(h:y.kind≠5):DL ns x i c=KN ns x i c:=by
 simp [DL,BQ,Bz hy,h]
theorem QI{ns:List Nd}{x:Nd}{k i c:Int}{b:Bool}(hx:ns[k.toNat]? =some x)(hc:x.kids[i.toNat]? =some c)(hb:Lf (ns,k,i)=b):KN ns x i c=b:=by
 rw[←hb,Lf,Bz hx,List.getD,hc,Option.getD_some]
theorem a7T{ns:List Nd}{x y:Nd}{k i c d:Int}(h1:Bi ns)(hn:BF ns k=true)(hx:ns[k.toNat]? =some x)(hin:DK x.kids k=true)(hi:koI ns x i)(hc:x.kids[i.toNat]? =some c)(hy:ns[c.toNat]? =some y)(h0:y.kids[0]? =some d)(hd:inn d 0 (ns.length-1)=true):HG (ns,k,i):=by
 have hk:=CR.1 hn
 have:=(EK hc).1
 unfold HG;simp only[Bz hx]
 refine⟨h1,hn,fun h10 c' hc' h5=> ?_,⟨hi.1,by omega⟩,fun c' hc'=> ?_⟩
 ·rw[hc] at hc';cases hc'
  rw[Bz hy]
  match hkk:y.kids with
  |[]=>rw[hkk] at h0;cases h0
  |e::t=>rw[hkk] at h0;cases h0;exact⟨_,_,rfl,by rw[←Ja];exact hd⟩
 ·simp only[DK,List.all_eq_true,Bool.and_eq_true,decide_eq_true_eq] at hin
  have:=hin c' (Cu hc');omega
theorem a7U{ns:List Nd}{x y:Nd}{k i c:Int}(h1:Bi ns)(hn:BF ns k=true)(hx:ns[k.toNat]? =some x)(hin:DK x.kids k=true)(hi:koI ns x i)(hc:x.kids[i.toNat]? =some c)(hy:ns[c.toNat]? =some y)(h5:y.kind≠5):HG (ns,k,i):=by
 have hk:=CR.1 hn
 have:=(EK hc).1
 unfold HG;simp only[Bz hx]
 refine⟨h1,hn,fun h10 c' hc' h5'=> ?_,⟨hi.1,by omega⟩,fun c' hc'=> ?_⟩
 ·rw[hc] at hc';cases hc'
  rw[BQ,Bz hy] at h5';exact(h5 h5').elim
 ·simp only[DK,List.all_eq_true,Bool.and_eq_true,decide_eq_true_eq] at hin
  have:=hin c' (Cu hc');omega
theorem ZT{k:Int}:Hz k=(Fd k||(decide (k=20)||decide (k=21))):=by
 rw[Bool.eq_iff_iff]
 simp only[Hz,Fd,Fc,JP,inn,Bool.or_eq_true,Bool.and_eq_true,decide_eq_true_eq];omega
theorem ZU{ns:List Nd}{k:Int}(h:inn k 0 (ns.length-1)=false):false=Cb ns k:=by rw[Ja] at h;exact Zq h
theorem OB{ns:List Nd}{k:Int}{x:Nd}(hx:ns[k.toNat]? =some x)(h:inn k 0 (ns.length-1)=true):Cb ns k=(inn x.kind 1 22&&(inn x.kids.length (CM x.kind).1 (CM x.kind).2&&(FF x.kind x.text&&((Hz x.kind|| !x.blank)&&((DK x.kids k&&decide x.kids.Nodup)&&BT (DL ns x) x.kids 0))))):=by
 rw[Ja] at h;rw[MM hx h,a6M]
theorem a7V{ns:List Nd}{k:Int}{x:Nd}(hx:ns[k.toNat]? =some x)(h:inn k 0 (ns.length-1)=true)(h1:DK x.kids k=false):false=Cb ns k:=by
 rw[OB hx h,h1];simp
theorem a7W{ns:List Nd}{k:Int}{x:Nd}(hx:ns[k.toNat]? =some x)(h:inn k 0 (ns.length-1)=true)(h1:¬x.kids.Nodup):false=Cb ns k:=by
 rw[OB hx h,decide_eq_false h1];simp
theorem QJ{ns:List Nd}{k:Int}{x:Nd}(hx:ns[k.toNat]? =some x)(h:inn k 0 (ns.length-1)=true)(h1:BT (DL ns x) x.kids 0=false):false=Cb ns k:=by
 rw[OB hx h,h1];simp
theorem a7X{ns:List Nd}{k:Int}{x:Nd}(hx:ns[k.toNat]? =some x)(h:inn k 0 (ns.length-1)=true)(h1:inn x.kind 1 22=true)(h2:inn x.kids.length (CM x.kind).1 (CM x.kind).2=true)(h3:FF x.kind x.text=true)(h4:(Hz x.kind|| !x.blank)=true)
 (h5:DK x.kids k=true∧x.kids.Nodup) (h6:BT (DL ns x) x.kids 0=true):true=Cb ns k:=by
 rw[OB hx h,h1,h2,h3,h4,h5.1,h6,decide_eq_true h5.2];rfl
theorem a7Y{k c:Int}{l:List Int}{n:Nat}(hc:l[n]? =some c)(h:inn c 0 (k-1)=false):DK l k=false:=by
 rw[Bool.eq_false_iff];intro hh;simp only[DK,List.all_eq_true,Bool.and_eq_true,decide_eq_true_eq] at hh
 have:=hh c (Cu hc)
 have:inn c 0 (k-1)=true:=Iq.2 (by omega)
 rw[h] at this;cases this
def djI(l:List Int)(i j:Int):Prop:=0≤j∧j≤i∧∀c,l[i.toNat]? =some c→(l.take j.toNat).elem c=false
theorem a7Z{l:List Int}{i:Int}(h:0≤i):djI l i 0:=⟨by omega,h,by simp⟩
theorem a8a{l:List Int}{i j c d:Int}(h:djI l i j)(hl:j<i)(hc:l[i.toNat]? =some c)(hd:l[j.toNat]? =some d)(hne:c≠d):djI l i (j+1):=by
 refine⟨by have:=h.1;omega,by omega,fun c' hc'=> ?_⟩
 have h3:=h.2.2 c' hc'
 rw[hc] at hc';cases hc'
 rw[Dz h.1,Fb hd]
 simp at h3 ⊢
 exact⟨h3,hne⟩
theorem a8b{l:List Int}{i j c d:Int}(h0:djI l i j)(hl:j<i)(hc:l[i.toNat]? =some c)(hd:l[j.toNat]? =some d)(he:c=d):¬l.Nodup:=by
 refine Zp hc ?_
 subst he
 rw[List.elem_iff]
 rw[List.mem_take_iff_getElem]
 obtain⟨hj,e⟩:=EK hd
 have:=h0.1
 exact⟨j.toNat,by omega,e⟩
theorem a8c{k:Int}{l:List Int}{i j c:Int}(h:nkI k l i)(hd:djI l i j)(hl:¬j<i)(hc:l[i.toNat]? =some c)(hin:inn c 0 (k-1)=true):nkI k l (i+1):=by
 have:=Iq.1 hin
 have h3:=hd.2.2 c hc
 obtain rfl:j=i:=by have:=hd.2.1;omega
 exact Zo h hc (by omega) (by omega) h3
def QK(x:List Nd×Int)(i:Int):LS:= {
 ι:=Int,inv:=djI (Aj x.1 x.2).kids i,
 regs:=fun j=>[(0,nds x.1),(1,.int .i64 x.2),(5,.box 0 (ndA false (Aj x.1 x.2))),(8,.int .i64 i),(9,.int .i64 j)],als:=[],meas:=fun j=>i.toNat-j.toNat}
def QL(x:List Nd×Int):LS:= {
 ι:=Int,inv:=nkI x.2 (Aj x.1 x.2).kids,
 regs:=fun i=>[(0,nds x.1),(1,.int .i64 x.2),(5,.box 0 (ndA false (Aj x.1 x.2))),(8,.int .i64 i)],als:=[],meas:=fun i=>(Aj x.1 x.2).kids.length-i.toNat,sub:=fun i=>[(15,QK x i)]}
def OC(x:List Nd×Int):LS:= {
 ι:=Int,inv:=koI x.1 (Aj x.1 x.2),
 regs:=fun i=>[(0,nds x.1),(1,.int .i64 x.2),(5,.box 0 (ndA false (Aj x.1 x.2))),(10,.int .i64 i)],als:=[],meas:=fun i=>(Aj x.1 x.2).kids.length-i.toNat}
def jI(x:Nd):Prop:=inn x.kind 1 22=true∧inn x.kids.length (CM x.kind).1 (CM x.kind).2=true∧FF x.kind x.text=true∧(Hz x.kind|| !x.blank)=true
def MO(x:List Nd×Int):LS:= {
 ι:=Unit,inv:=fun _=>jI (Aj x.1 x.2),
 regs:=fun _=>[(0,nds x.1),(1,.int .i64 x.2),(5,.box 0 (ndA false (Aj x.1 x.2)))],als:=[],meas:=fun _=>0}
def Fg:Sig:= {X:=List Nd×Int,args:=fun x=>[nds x.1,.int .i64 x.2],pre:=fun x=>Bi x.1,Y:=Unit,post:=fun x y=>True,res:=fun x y=> .bool (Cb x.1 x.2),outs:=fun x y=>[.top,.top],keep:=false}
set_option maxHeartbeats 4000000 in
theorem a8d:Am G Tryz.prog 91 Fg:=
 vcFun_okP [(48,0,CU),(104,0,Dv),(105,0,Fs),(106,0,Iu),(107,0,Dm)] [] false (fun x=>[(10,QL x),(20,OC x),(200009,MO x)]) Tryz.func91 rfl (by decide) ⟨KE,a7P,a6J,ZM,a7Q,trivial⟩ (fun(x:List Nd×Int)=>(∀(y:Unit),True→True∧True∧True∧True)∧inR IntKind.i64 ((↑(List.length x.1):Int)-(1:Int))∧cA CU [.int .i64 x.2,.int .i64 (0:Int),.int .i64 ((↑(List.length x.1):Int)-(1:Int))] fun x_1 y=>Aa (!inn x_1.1 x_1.2.1 x_1.2.2) (rA Fg x [.bool false,.top,.top]) (((0:Int)≤x.2∧x.2<(↑(List.length x.1):Int))∧∀(e:Nd),x.1[Int.toNat x.2]? =some e→cA CU [.int .i64 e.kind,.int .i64 (1:Int),.int .i64 (22:Int)] fun x_2 y=>Aa (!inn x_2.1 x_2.2.1 x_2.2.2) (rA Fg x [.bool false,.top,.top]) (((0:Int)≤x.2∧x.2<(↑(List.length x.1):Int))∧∀(e:Nd),x.1[Int.toNat x.2]? =some e→cA Dv [.int .i64 e.kind] fun x_3 y=>cA CU [.int .i64 (↑(List.length e.kids):Int),.int .i64 (CM x_3).1,.int .i64 (CM x_3).2] fun x_4 y=>Aa (!inn x_4.1 x_4.2.1 x_4.2.2) (rA Fg x [.bool false,.top,.top]) (cA Fs [.int .i64 e.kind,.str e.text] fun x_5 y=>Aa (!FF x_5.1 x_5.2) (rA Fg x [.bool false,.top,.top]) (Aa e.blank (cA Iu [.int .i64 e.kind] fun x_6 y=>Aa (!Fd x_6) (Aa (e.kind != (20:Int)) (Aa (e.kind != (21:Int)) (rA Fg x [.bool false,.top,.top]) (eA (MO x) [nds x.1,.int .i64 x.2,.box 0 [.int .i64 e.kind,.str e.text,An e.kids,.bool e.blank]])) (eA (MO x) [nds x.1,.int .i64 x.2,.box 0 [.int .i64 e.kind,.str e.text,An e.kids,.bool e.blank]])) (eA (MO x) [nds x.1,.int .i64 x.2,.box 0 [.int .i64 e.kind,.str e.text,An e.kids,.bool e.blank]])) (eA (MO x) [nds x.1,.int .i64 x.2,.box 0 [.int .i64 e.kind,.str e.text,An e.kids,.bool e.blank]])∧∀(i:Unit),jI (Aj x.1 x.2)→eA (QL x) [nds x.1,.int .i64 x.2,.box 0 [.int .i64 (Aj x.1 x.2).kind,.str (Aj x.1 x.2).text,An (Aj x.1 x.2).kids,.bool (Aj x.1 x.2).blank],.int .i64 (0:Int)]∧∀(i:Int),nkI x.2 (Aj x.1 x.2).kids i→Aa (decide (i<(↑(List.length (Aj x.1 x.2).kids):Int))) (((0:Int)≤i∧i<(↑(List.length (Aj x.1 x.2).kids):Int))∧∀(e:Int),(Aj x.1 x.2).kids[Int.toNat i]? =some e→inR IntKind.i64 (x.2-(1:Int))∧cA CU [.int .i64 e,.int .i64 (0:Int),.int .i64 (x.2-(1:Int))] fun x_6 y=>Aa (!inn x_6.1 x_6.2.1 x_6.2.2) (rA Fg x [.bool false,.top,.top]) (eA (QK x i) [nds x.1,.int .i64 x.2,.box 0 [.int .i64 (Aj x.1 x.2).kind,.str (Aj x.1 x.2).text,An (Aj x.1 x.2).kids,.bool (Aj x.1 x.2).blank],.int .i64 i,.int .i64 (0:Int)]∧∀(i_1:Int),djI (Aj x.1 x.2).kids i i_1→Aa (decide (i_1<i)) (true=true∧true=true∧((0:Int)≤i∧i<(↑(List.length (Aj x.1 x.2).kids):Int))∧∀(e:Int),(Aj x.1 x.2).kids[Int.toNat i]? =some e→((0:Int)≤i_1∧i_1<(↑(List.length (Aj x.1 x.2).kids):Int))∧∀(e_1:Int),(Aj x.1 x.2).kids[Int.toNat i_1]? =some e_1→Aa (e==e_1) (rA Fg x [.bool false,.top,.top]) (inR IntKind.i64 (i_1+(1:Int))∧eN (QK x i) i_1 [nds x.1,.int .i64 x.2,.box 0 [.int .i64 (Aj x.1 x.2).kind,.str (Aj x.1 x.2).text,An (Aj x.1 x.2).kids,.bool (Aj x.1 x.2).blank],.int .i64 i,.int .i64 (i_1+(1:Int))])) (inR IntKind.i64 (i+(1:Int))∧eN (QL x) i [nds x.1,.int .i64 x.2,.box 0 [.int .i64 (Aj x.1 x.2).kind,.str (Aj x.1 x.2).text,An (Aj x.1 x.2).kids,.bool (Aj x.1 x.2).blank],.int .i64 (i+(1:Int))]))) (eA (OC x) [nds x.1,.int .i64 x.2,.box 0 [.int .i64 (Aj x.1 x.2).kind,.str (Aj x.1 x.2).text,An (Aj x.1 x.2).kids,.bool (Aj x.1 x.2).blank],.int .i64 (0:Int)]∧∀(i:Int),koI x.1 (Aj x.1 x.2) i→Aa (decide (i<(↑(List.length (Aj x.1 x.2).kids):Int))) (((0:Int)≤i∧i<(↑(List.length (Aj x.1 x.2).kids):Int))∧∀(e:Int),(Aj x.1 x.2).kids[Int.toNat i]? =some e→((0:Int)≤e∧e<(↑(List.length x.1):Int))∧∀(e_1:Nd),x.1[Int.toNat e]? =some e_1→Aa (e_1.kind==(5:Int)) (Aa ((↑(List.length e_1.kids):Int)==(0:Int)) (rA Fg x [.bool false,.top,.top]) (((0:Int)≤(0:Int)∧(0:Int)<(↑(List.length e_1.kids):Int))∧∀(e:Int),e_1.kids[(0:Nat)]? =some e→inR IntKind.i64 ((↑(List.length x.1):Int)-(1:Int))∧cA CU [.int .i64 e,.int .i64 (0:Int),.int .i64 ((↑(List.length x.1):Int)-(1:Int))] fun x_6 y=>Aa (!inn x_6.1 x_6.2.1 x_6.2.2) (rA Fg x [.bool false,.top,.top]) (cA Dm [nds x.1,.int .i64 x.2,.int .i64 i] fun x_7 y=>Aa (!Lf x_7) (rA Fg x [.bool false,.top,.top]) (inR IntKind.i64 (i+(1:Int))∧eN (OC x) i [nds x.1,.int .i64 x.2,.box 0 [.int .i64 (Aj x.1 x.2).kind,.str (Aj x.1 x.2).text,An (Aj x.1 x.2).kids,.bool (Aj x.1 x.2).blank],.int .i64 (i+(1:Int))])))) (cA Dm [nds x.1,.int .i64 x.2,.int .i64 i] fun x_6 y=>Aa (!Lf x_6) (rA Fg x [.bool false,.top,.top]) (inR IntKind.i64 (i+(1:Int))∧eN (OC x) i [nds x.1,.int .i64 x.2,.box 0 [.int .i64 (Aj x.1 x.2).kind,.str (Aj x.1 x.2).text,An (Aj x.1 x.2).kids,.bool (Aj x.1 x.2).blank],.int .i64 (i+(1:Int))]))) (rA Fg x [.bool true,.top,.top]))))))) (fun x=>by kernel_rfl) fun(x:List Nd×Int) (hx:Bi x.1)=>(by
 dsimp only[cA,eA,eN,An,MO,QL,QK,OC,Bx,nds,rA,CU,Dv,Dm,Iu,Fs,Fg,Aw,AR,mvL,lnL,mvE,lnE,Br]
 have h1:Bi x.1:=hx;have hl:=h1.1
 by_cases hn:BF x.1 x.2=true
 case neg=>
  (repeat' first|(with_reducible first|rfl|exact True.intro|apply AM|apply And.intro|((first|apply AC|apply AK|apply AD|apply AL)<;>intro _))|(apply AB<;>intro _)|apply AJ|refine Ag () ?_ ?_|((first|apply AQ|apply AP|apply AO|apply AN|apply AI|apply AH|apply AG|apply AF|apply AE)<;>try dsimp only)|apply Ag|(refine Prod.forall.2 ?_;intro _;try dsimp only)|(intro _;try dsimp only))
  all_goals first
   |exact ZU ‹_›
   |(have hh:=(show inn x.2 0 (x.1.length-1)=true by assumption);rw[Ja] at hh;exact(hn hh).elim)
   |((try simp only[AS]);omega)
 case pos=>
 have hr:=CR.1 hn
 obtain⟨z,hz⟩:∃z,x.1[x.2.toNat]? =some z:=⟨x.1[x.2.toNat],by simp⟩
 have hzo:=h1.2 _ (Cu hz)
 have hi:inn x.2 0 (x.1.length-1)=true:=by rw[Ja];exact hn
 simp only[hz,Option.some.injEq,forall_eq',Bz hz]
 (repeat' first|(with_reducible first|rfl|exact True.intro|apply AM|apply And.intro|((first|apply AC|apply AK|apply AD|apply AL)<;>intro _))|(apply AB<;>intro _)|apply AJ|refine Ag () ?_ ?_|((first|apply AQ|apply AP|apply AO|apply AN|apply AI|apply AH|apply AG|apply AF|apply AE)<;>try dsimp only)|apply Ag|(refine Prod.forall.2 ?_;intro _;try dsimp only)|(intro _;try dsimp only))
 all_goals first
  |rfl
  |assumption
  |exact Zn
  |exact a7R
  |exact a7Z (‹nkI _ _ _›.1)
  |exact ZU ‹_›
  |exact⟨by assumption,by assumption,by assumption,by simp [ZT, *]⟩
  |exact a7V hz hi (a7Y ‹_› ‹_›)
  |exact a7W hz hi (a8b ‹_› ‹_› ‹_› ‹_› ‹_›)
  |exact a8a ‹_› ‹_› ‹_› ‹_› ‹_›
  |exact a8c ‹_› ‹_› ‹_› ‹_› ‹_›
  |exact QJ hz hi (QH (‹koI _ _ _›.1) ‹_› (ko1 ‹_› ‹_› ‹_›))
  |exact QJ hz hi (QH (‹koI _ _ _›.1) ‹_› (ko2 ‹_› ‹_› ‹_› ‹_›))
  |exact QJ hz hi (QH (‹koI _ _ _›.1) ‹_› ((ko4 ‹_› ‹_›).trans (QI hz ‹_› ‹_›)))
  |exact QJ hz hi (QH (‹koI _ _ _›.1) ‹_› ((ko3 ‹_› ‹_› ‹_› ‹_›).trans (QI hz ‹_› ‹_›)))
  |exact ZS ‹_› ‹_› ((ko4 ‹_› ‹_›).trans (QI hz ‹_› ‹_›))
  |exact ZS ‹_› ‹_› ((ko3 ‹_› ‹_› ‹_› ‹_›).trans (QI hz ‹_› ‹_›))
  |exact a7T h1 hn hz (Oy ‹_› ‹_›).1 ‹_› ‹_› ‹_› ‹_› ‹_›
  |exact a7U h1 hn hz (Oy ‹_› ‹_›).1 ‹_› ‹_› ‹_› ‹_›
  |exact a7X hz hi (‹jI _›.1) (‹jI _›.2.1) (‹jI _›.2.2.1) (‹jI _›.2.2.2) (Oy ‹_› ‹_›) (a7S ‹_› ‹_›)
  |(rw[OB hz hi];simp [ZT, *];done)
  |exact hzo.1
  |(have:=UR ‹_› ‹_› hr.2 (Cu (show z.kids[_]? =some _ by assumption));omega)
  |((try simp only[AS]);omega)
  |(have hko:=(show koI _ _ _ by assumption);have hk2:=hzo.2;have:=hko.1;have:=hko.2.1;(try simp only[AS]);omega)
  |(have hko:=(show djI _ _ _ by assumption);have hk1:=(show nkI _ _ _ by assumption);have hk2:=hzo.2;have:=hko.1;have:=hko.2.1;have:=hk1.1;have:=hk1.2.1;(try simp only[AS]);omega)
  |(have hk1:=(show nkI _ _ _ by assumption);have hk2:=hzo.2;have:=hk1.1;have:=hk1.2.1;(try simp only[AS]);omega)
  |skip)
end Go.My
end
