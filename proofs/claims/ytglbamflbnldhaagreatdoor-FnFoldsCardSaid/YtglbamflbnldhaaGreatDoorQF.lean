/- joined -/
import Derived.Test.YtglbamflbnldhaaGreatDoorQE
set_option linter.unusedSimpArgs false
set_option linter.unusedVariables false
section
namespace Go.My
open Go.Eng Go.Proofs
variable {G:GInv}
theorem Gq{a b:Int}:(a==b)=decide (a=b):=by rw[Bool.eq_iff_iff];simp
theorem a9D{α:Type}{p:α→Bool}{x:List α}{n:Nat}{e:α}(he:x[n]? =some e)(hp:p e=true)(h:∀e∈x.take n,p e=true):∀e∈x.take (n+1),p e=true:=by
 rw[EM he];intro d hd
 rcases List.mem_append.1 hd with hd|hd
 ·exact h d hd
 ·simp at hd;subst hd;exact hp
theorem a9E{α:Type}{p:α→Bool}{x:List α}{n:Nat}(h:∀e∈x.take n,p e=true)(hn:x.length≤n):x.all p=true:=by
 rw[List.take_of_length_le hn] at h;exact List.all_eq_true.2 h
theorem LE{α:Type}{p:α→Bool}{x:List α}{n:Nat}{e:α}(he:x[n]? =some e)(hp:p e=false):x.all p=false:=by
 rw[Bool.eq_false_iff];intro h
 rw[List.all_eq_true.1 h e (List.mem_of_getElem? he)] at hp;cases hp
def Gt:Sig:= {X:=Int,args:=fun x=>[.int .i64 x],pre:=fun x=>True,Y:=Unit,post:=fun x y=>True,res:=fun x y=> .bool (BH x),outs:=fun x y=>[.top],keep:=false}
theorem VM:Al G Tryz.prog 142 Gt:=
 vcFun_okP [(66,0,DE)] [] false (fun x=>[]) Tryz.func142 rfl (by decide) ⟨Nz,trivial⟩ (fun(x:Int)=>(∀(y:Unit),True→True∧True∧True)∧cA DE [.int .i64 x,.int .i64 (1:Int),.int .i64 (11:Int)] fun x_1 y=>rA Gt x [.bool (inn x_1.1 x_1.2.1 x_1.2.2),.top]) (fun x=>by kernel_rfl) fun(x:Int) (hx:True)=>(by
 dsimp only[cA,rA,DE,Gt,Aw,Az,mvL,lnL,mvE,lnE]
 (repeat' first|(with_reducible first|rfl|exact True.intro|apply AK|apply And.intro|((first|apply AA|apply AI|apply AB|apply AJ)<;>intro _))|(apply Ax<;>intro _)|apply AH|refine Af () ?_ ?_|((first|apply AO|apply AN|apply AM|apply AL|apply AG|apply AF|apply AE|apply AD|apply AC)<;>try dsimp only)|apply Af|(refine Prod.forall.2 ?_;intro _;try dsimp only)|(intro _;try dsimp only))<;>(try dsimp only at*)<;>(try simp only[AQ,List.length_cons,List.length_nil])<;>(try omega)
 all_goals simp [BH,Gq, *])
def Jy:Sig:= {X:=Int,args:=fun x=>[.int .i64 x],pre:=fun x=>True,Y:=Unit,post:=fun x y=>True,res:=fun x y=> .bool (Jv x),outs:=fun x y=>[.top],keep:=false}
theorem a0F:Al G Tryz.prog 114 Jy:=
 vcFun_okP [(66,0,DE)] [] false (fun x=>[]) Tryz.func114 rfl (by decide) ⟨Nz,trivial⟩ (fun(x:Int)=>(∀(y:Unit),True→True∧True∧True)∧cA DE [.int .i64 x,.int .i64 (12:Int),.int .i64 (17:Int)] fun x_1 y=>rA Jy x [.bool (inn x_1.1 x_1.2.1 x_1.2.2),.top]) (fun x=>by kernel_rfl) fun(x:Int) (hx:True)=>(by
 dsimp only[cA,rA,DE,Jy,Aw,Az,mvL,lnL,mvE,lnE]
 (repeat' first|(with_reducible first|rfl|exact True.intro|apply AK|apply And.intro|((first|apply AA|apply AI|apply AB|apply AJ)<;>intro _))|(apply Ax<;>intro _)|apply AH|refine Af () ?_ ?_|((first|apply AO|apply AN|apply AM|apply AL|apply AG|apply AF|apply AE|apply AD|apply AC)<;>try dsimp only)|apply Af|(refine Prod.forall.2 ?_;intro _;try dsimp only)|(intro _;try dsimp only))<;>(try dsimp only at*)<;>(try simp only[AQ,List.length_cons,List.length_nil])<;>(try omega)
 all_goals simp [Jv,Gq, *])
def HE:Sig:= {X:=Int,args:=fun x=>[.int .i64 x],pre:=fun x=>True,Y:=Unit,post:=fun x y=>True,res:=fun x y=> .bool (CR x),outs:=fun x y=>[.top],keep:=false}
theorem VN:Al G Tryz.prog 145 HE:=
 vcFun_okP [] [] false (fun x=>[]) Tryz.func145 rfl (by decide) trivial (fun(x:Int)=>(∀(y:Unit),True→True∧True∧True)∧rA HE x [.bool (x==(18:Int)),.top]) (fun x=>by kernel_rfl) fun(x:Int) (hx:True)=>(by
 dsimp only[rA,HE,Aw,Az]
 (repeat' first|(with_reducible first|rfl|exact True.intro|apply AK|apply And.intro|((first|apply AA|apply AI|apply AB|apply AJ)<;>intro _))|(apply Ax<;>intro _)|apply AH|refine Af () ?_ ?_|((first|apply AO|apply AN|apply AM|apply AL|apply AG|apply AF|apply AE|apply AD|apply AC)<;>try dsimp only)|apply Af|(refine Prod.forall.2 ?_;intro _;try dsimp only)|(intro _;try dsimp only))<;>(try dsimp only at*)<;>(try simp only[AQ,List.length_cons,List.length_nil])<;>(try omega)
 all_goals simp [CR,Gq, *])
def Gu:Sig:= {X:=Int,args:=fun x=>[.int .i64 x],pre:=fun x=>True,Y:=Unit,post:=fun x y=>True,res:=fun x y=> .bool (EN x),outs:=fun x y=>[.top],keep:=false}
theorem VO:Al G Tryz.prog 115 Gu:=
 vcFun_okP [] [] false (fun x=>[]) Tryz.func115 rfl (by decide) trivial (fun(x:Int)=>(∀(y:Unit),True→True∧True∧True)∧Ab (x==(12:Int)) (rA Gu x [.bool true,.top]) (Ab (x==(20:Int)) (rA Gu x [.bool true,.top]) (rA Gu x [.bool (x==(19:Int)),.top]))) (fun x=>by kernel_rfl) fun(x:Int) (hx:True)=>(by
 dsimp only[rA,Gu,Aw,Az]
 (repeat' first|(with_reducible first|rfl|exact True.intro|apply AK|apply And.intro|((first|apply AA|apply AI|apply AB|apply AJ)<;>intro _))|(apply Ax<;>intro _)|apply AH|refine Af () ?_ ?_|((first|apply AO|apply AN|apply AM|apply AL|apply AG|apply AF|apply AE|apply AD|apply AC)<;>try dsimp only)|apply Af|(refine Prod.forall.2 ?_;intro _;try dsimp only)|(intro _;try dsimp only))<;>(try dsimp only at*)<;>(try simp only[AQ,List.length_cons,List.length_nil])<;>(try omega)
 all_goals simp [EN,Gq, *])
def ND:Sig:= {X:=Int,args:=fun x=>[.int .i64 x],pre:=fun x=>True,Y:=Unit,post:=fun x y=>True,res:=fun x y=> .bool (FU x),outs:=fun x y=>[.top],keep:=false}
theorem a9F:Al G Tryz.prog 144 ND:=
 vcFun_okP [] [] false (fun x=>[]) Tryz.func144 rfl (by decide) trivial (fun(x:Int)=>(∀(y:Unit),True→True∧True∧True)∧rA ND x [.bool (x==(5:Int)),.top]) (fun x=>by kernel_rfl) fun(x:Int) (hx:True)=>(by
 dsimp only[rA,ND,Aw,Az]
 (repeat' first|(with_reducible first|rfl|exact True.intro|apply AK|apply And.intro|((first|apply AA|apply AI|apply AB|apply AJ)<;>intro _))|(apply Ax<;>intro _)|apply AH|refine Af () ?_ ?_|((first|apply AO|apply AN|apply AM|apply AL|apply AG|apply AF|apply AE|apply AD|apply AC)<;>try dsimp only)|apply Af|(refine Prod.forall.2 ?_;intro _;try dsimp only)|(intro _;try dsimp only))<;>(try dsimp only at*)<;>(try simp only[AQ,List.length_cons,List.length_nil])<;>(try omega)
 all_goals simp [FU,Gq, *])
def LF:Sig:= {X:=Int,args:=fun x=>[.int .i64 x],pre:=fun x=>True,Y:=Unit,post:=fun x y=>True,res:=fun x y=> .bool (DS x),outs:=fun x y=>[.top],keep:=false}
theorem a9G:Al G Tryz.prog 146 LF:=
 vcFun_okP [(114,0,Jy)] [] false (fun x=>[]) Tryz.func146 rfl (by decide) ⟨a0F,trivial⟩ (fun(x:Int)=>(∀(y:Unit),True→True∧True∧True)∧cA Jy [.int .i64 x] fun x_1 y=>Ab (Jv x_1) (rA LF x [.bool true,.top]) (rA LF x [.bool (x==(19:Int)),.top])) (fun x=>by kernel_rfl) fun(x:Int) (hx:True)=>(by
 dsimp only[cA,rA,Jy,LF,Aw,Az,mvL,lnL,mvE,lnE]
 (repeat' first|(with_reducible first|rfl|exact True.intro|apply AK|apply And.intro|((first|apply AA|apply AI|apply AB|apply AJ)<;>intro _))|(apply Ax<;>intro _)|apply AH|refine Af () ?_ ?_|((first|apply AO|apply AN|apply AM|apply AL|apply AG|apply AF|apply AE|apply AD|apply AC)<;>try dsimp only)|apply Af|(refine Prod.forall.2 ?_;intro _;try dsimp only)|(intro _;try dsimp only))<;>(try dsimp only at*)<;>(try simp only[AQ,List.length_cons,List.length_nil])<;>(try omega)
 all_goals simp [DS,Gq, *])
def LG:Sig:= {X:=Int,args:=fun x=>[.int .i64 x],pre:=fun x=>True,Y:=Unit,post:=fun x y=>True,res:=fun x y=> .bool (GR x),outs:=fun x y=>[.top],keep:=false}
theorem a9H:Al G Tryz.prog 147 LG:=
 vcFun_okP [(115,0,Gu)] [] false (fun x=>[]) Tryz.func147 rfl (by decide) ⟨VO,trivial⟩ (fun(x:Int)=>(∀(y:Unit),True→True∧True∧True)∧cA Gu [.int .i64 x] fun x_1 y=>Ab (EN x_1) (rA LG x [.bool true,.top]) (rA LG x [.bool (x==(21:Int)),.top])) (fun x=>by kernel_rfl) fun(x:Int) (hx:True)=>(by
 dsimp only[cA,rA,Gu,LG,Aw,Az,mvL,lnL,mvE,lnE]
 (repeat' first|(with_reducible first|rfl|exact True.intro|apply AK|apply And.intro|((first|apply AA|apply AI|apply AB|apply AJ)<;>intro _))|(apply Ax<;>intro _)|apply AH|refine Af () ?_ ?_|((first|apply AO|apply AN|apply AM|apply AL|apply AG|apply AF|apply AE|apply AD|apply AC)<;>try dsimp only)|apply Af|(refine Prod.forall.2 ?_;intro _;try dsimp only)|(intro _;try dsimp only))<;>(try dsimp only at*)<;>(try simp only[AQ,List.length_cons,List.length_nil])<;>(try omega)
 all_goals simp [GR,Gq, *])
def NE:Sig:= {X:=Int,args:=fun x=>[.int .i64 x],pre:=fun x=>True,Y:=Unit,post:=fun x y=>True,res:=fun x y=> .bool (Ew x),outs:=fun x y=>[.top],keep:=false}
theorem a9I:Al G Tryz.prog 183 NE:=
 vcFun_okP [] [] false (fun x=>[]) Tryz.func183 rfl (by decide) trivial (fun(x:Int)=>(∀(y:Unit),True→True∧True∧True)∧rA NE x [.bool (x==(1:Int)),.top]) (fun x=>by kernel_rfl) fun(x:Int) (hx:True)=>(by
 dsimp only[rA,NE,Aw,Az]
 (repeat' first|(with_reducible first|rfl|exact True.intro|apply AK|apply And.intro|((first|apply AA|apply AI|apply AB|apply AJ)<;>intro _))|(apply Ax<;>intro _)|apply AH|refine Af () ?_ ?_|((first|apply AO|apply AN|apply AM|apply AL|apply AG|apply AF|apply AE|apply AD|apply AC)<;>try dsimp only)|apply Af|(refine Prod.forall.2 ?_;intro _;try dsimp only)|(intro _;try dsimp only))<;>(try dsimp only at*)<;>(try simp only[AQ,List.length_cons,List.length_nil])<;>(try omega)
 all_goals simp [Ew,Gq, *])
def Ey(p:Int→Bool)(x:List Int)(i:Int):Prop:=0≤i∧i≤x.length∧∀e∈x.take i.toNat,p e=true
theorem LH{p:Int→Bool}{x:List Int}:Ey p x 0:=⟨by omega,by omega,by simp⟩
theorem LI{p:Int→Bool}{x:List Int}{i:Int}{e:Int}(h:Ey p x i)(he:x[i.toNat]? =some e)(hp:p e=true):Ey p x (i+1):=by
 obtain⟨h1,h2,h3⟩:=h
 have:=(DW he).1
 exact⟨by omega,by omega,by rw[Da h1];exact a9D he hp h3⟩
theorem LJ{p:Int→Bool}{x:List Int}{i:Int}(h:Ey p x i)(hl:¬i<x.length):true=x.all p:=(a9E h.2.2 (by omega)).symm
def Dd(p:Int→Bool)(c:AV)(x:List Int):LS:= {
 ι:=Int,inv:=Ey p x,regs:=fun i=>[(0,Ag x),(1,c),(7,Ag x),(8,.int .i64 x.length),(9,.int .i64 i)],als:=[],meas:=fun i=>x.length-i.toNat}
def LK:Sig:= {X:=List Int,args:=fun x=>[Ag x,.clo (.func 142) []],pre:=fun x=>x.length<2^62,Y:=Unit,post:=fun x y=>True,res:=fun x y=> .bool (x.all BH),outs:=fun x y=>[.top,.top],keep:=false}
theorem a9J:Al G Tryz.prog 141 LK:=
 vcFun_okP [(142,0,Gt)] [] false (fun x=>[(2,Dd BH (.clo (.func 142) []) x)]) Tryz.func141 rfl (by decide) ⟨VM,trivial⟩ (fun(x:List Int)=>(∀(y:Unit),True→True∧True∧True∧True)∧eA (Dd BH (AV.clo (.func 142) []) x) [Ag x,AV.clo (.func 142) [],Ag x,.int .i64 (↑(List.length x):Int),.int .i64 (0:Int)]∧∀(i:Int),Ey BH x i→Ab (decide (i<(↑(List.length x):Int))) (((0:Int)≤i∧i<(↑(List.length x):Int))∧∀(e:Int),x[Int.toNat i]? =some e→cA Gt [.int .i64 e] fun x_1 y=>Ab (!BH x_1) (rA LK x [.bool false,.top,.top]) (inR IntKind.i64 (i+(1:Int))∧eN (Dd BH (AV.clo (.func 142) []) x) i [Ag x,AV.clo (.func 142) [],Ag x,.int .i64 (↑(List.length x):Int),.int .i64 (i+(1:Int))])) (rA LK x [.bool true,.top,.top])) (fun x=>by kernel_rfl) fun(x:List Int) (hx:x.length<2^62)=>(by
 dsimp only[cA,eA,eN,Ag,Dd,rA,LK,Gt,Aw,Az,mvL,lnL,mvE,lnE,Bv]
 have hx:x.length<2^62:=hx
 (repeat' first|(with_reducible first|rfl|exact True.intro|apply AK|apply And.intro|((first|apply AA|apply AI|apply AB|apply AJ)<;>intro _))|(apply Ax<;>intro _)|apply AH|refine Af () ?_ ?_|((first|apply AO|apply AN|apply AM|apply AL|apply AG|apply AF|apply AE|apply AD|apply AC)<;>try dsimp only)|apply Af|(refine Prod.forall.2 ?_;intro _;try dsimp only)|(intro _;try dsimp only))
 all_goals first|exact LH|(rename_i i hi hl e he y _ hp;exact(LE he hp).symm)|(rename_i i hi hl e he y _ hp;exact LI hi he hp)|(rename_i i hi hl;exact LJ hi hl)|(obtain⟨_,_,_⟩:= ‹Ey _ _ _›;(try simp only[AQ] at*);omega)|skip)
def LL:Sig:= {X:=List Int,args:=fun x=>[Ag x,.clo (.func 145) []],pre:=fun x=>x.length<2^62,Y:=Unit,post:=fun x y=>True,res:=fun x y=> .bool (x.all CR),outs:=fun x y=>[.top,.top],keep:=false}
theorem a9K:Al G Tryz.prog 141 LL:=
 vcFun_okP [(145,0,HE)] [] false (fun x=>[(2,Dd CR (.clo (.func 145) []) x)]) Tryz.func141 rfl (by decide) ⟨VN,trivial⟩ (fun(x:List Int)=>(∀(y:Unit),True→True∧True∧True∧True)∧eA (Dd CR (AV.clo (.func 145) []) x) [Ag x,AV.clo (.func 145) [],Ag x,.int .i64 (↑(List.length x):Int),.int .i64 (0:Int)]∧∀(i:Int),Ey CR x i→Ab (decide (i<(↑(List.length x):Int))) (((0:Int)≤i∧i<(↑(List.length x):Int))∧∀(e:Int),x[Int.toNat i]? =some e→cA HE [.int .i64 e] fun x_1 y=>Ab (!CR x_1) (rA LL x [.bool false,.top,.top]) (inR IntKind.i64 (i+(1:Int))∧eN (Dd CR (AV.clo (.func 145) []) x) i [Ag x,AV.clo (.func 145) [],Ag x,.int .i64 (↑(List.length x):Int),.int .i64 (i+(1:Int))])) (rA LL x [.bool true,.top,.top])) (fun x=>by kernel_rfl) fun(x:List Int) (hx:x.length<2^62)=>(by
 dsimp only[cA,eA,eN,Ag,Dd,rA,LL,HE,Aw,Az,mvL,lnL,mvE,lnE,Bv]
 have hx:x.length<2^62:=hx
 (repeat' first|(with_reducible first|rfl|exact True.intro|apply AK|apply And.intro|((first|apply AA|apply AI|apply AB|apply AJ)<;>intro _))|(apply Ax<;>intro _)|apply AH|refine Af () ?_ ?_|((first|apply AO|apply AN|apply AM|apply AL|apply AG|apply AF|apply AE|apply AD|apply AC)<;>try dsimp only)|apply Af|(refine Prod.forall.2 ?_;intro _;try dsimp only)|(intro _;try dsimp only))
 all_goals first|exact LH|(rename_i i hi hl e he y _ hp;exact(LE he hp).symm)|(rename_i i hi hl e he y _ hp;exact LI hi he hp)|(rename_i i hi hl;exact LJ hi hl)|(obtain⟨_,_,_⟩:= ‹Ey _ _ _›;(try simp only[AQ] at*);omega)|skip)
def LM:Sig:= {X:=List Int,args:=fun x=>[Ag x,.clo (.func 115) []],pre:=fun x=>x.length<2^62,Y:=Unit,post:=fun x y=>True,res:=fun x y=> .bool (x.all EN),outs:=fun x y=>[.top,.top],keep:=false}
theorem a9L:Al G Tryz.prog 141 LM:=
 vcFun_okP [(115,0,Gu)] [] false (fun x=>[(2,Dd EN (.clo (.func 115) []) x)]) Tryz.func141 rfl (by decide) ⟨VO,trivial⟩ (fun(x:List Int)=>(∀(y:Unit),True→True∧True∧True∧True)∧eA (Dd EN (AV.clo (.func 115) []) x) [Ag x,AV.clo (.func 115) [],Ag x,.int .i64 (↑(List.length x):Int),.int .i64 (0:Int)]∧∀(i:Int),Ey EN x i→Ab (decide (i<(↑(List.length x):Int))) (((0:Int)≤i∧i<(↑(List.length x):Int))∧∀(e:Int),x[Int.toNat i]? =some e→cA Gu [.int .i64 e] fun x_1 y=>Ab (!EN x_1) (rA LM x [.bool false,.top,.top]) (inR IntKind.i64 (i+(1:Int))∧eN (Dd EN (AV.clo (.func 115) []) x) i [Ag x,AV.clo (.func 115) [],Ag x,.int .i64 (↑(List.length x):Int),.int .i64 (i+(1:Int))])) (rA LM x [.bool true,.top,.top])) (fun x=>by kernel_rfl) fun(x:List Int) (hx:x.length<2^62)=>(by
 dsimp only[cA,eA,eN,Ag,Dd,rA,LM,Gu,Aw,Az,mvL,lnL,mvE,lnE,Bv]
 have hx:x.length<2^62:=hx
 (repeat' first|(with_reducible first|rfl|exact True.intro|apply AK|apply And.intro|((first|apply AA|apply AI|apply AB|apply AJ)<;>intro _))|(apply Ax<;>intro _)|apply AH|refine Af () ?_ ?_|((first|apply AO|apply AN|apply AM|apply AL|apply AG|apply AF|apply AE|apply AD|apply AC)<;>try dsimp only)|apply Af|(refine Prod.forall.2 ?_;intro _;try dsimp only)|(intro _;try dsimp only))
 all_goals first|exact LH|(rename_i i hi hl e he y _ hp;exact(LE he hp).symm)|(rename_i i hi hl e he y _ hp;exact LI hi he hp)|(rename_i i hi hl;exact LJ hi hl)|(obtain⟨_,_,_⟩:= ‹Ey _ _ _›;(try simp only[AQ] at*);omega)|skip)
def LN:Sig:= {X:=List Int,args:=fun x=>[Ag x,.clo (.func 144) []],pre:=fun x=>x.length<2^62,Y:=Unit,post:=fun x y=>True,res:=fun x y=> .bool (x.all FU),outs:=fun x y=>[.top,.top],keep:=false}
theorem a9M:Al G Tryz.prog 141 LN:=
 vcFun_okP [(144,0,ND)] [] false (fun x=>[(2,Dd FU (.clo (.func 144) []) x)]) Tryz.func141 rfl (by decide) ⟨a9F,trivial⟩ (fun(x:List Int)=>(∀(y:Unit),True→True∧True∧True∧True)∧eA (Dd FU (AV.clo (.func 144) []) x) [Ag x,AV.clo (.func 144) [],Ag x,.int .i64 (↑(List.length x):Int),.int .i64 (0:Int)]∧∀(i:Int),Ey FU x i→Ab (decide (i<(↑(List.length x):Int))) (((0:Int)≤i∧i<(↑(List.length x):Int))∧∀(e:Int),x[Int.toNat i]? =some e→cA ND [.int .i64 e] fun x_1 y=>Ab (!FU x_1) (rA LN x [.bool false,.top,.top]) (inR IntKind.i64 (i+(1:Int))∧eN (Dd FU (AV.clo (.func 144) []) x) i [Ag x,AV.clo (.func 144) [],Ag x,.int .i64 (↑(List.length x):Int),.int .i64 (i+(1:Int))])) (rA LN x [.bool true,.top,.top])) (fun x=>by kernel_rfl) fun(x:List Int) (hx:x.length<2^62)=>(by
 dsimp only[cA,eA,eN,Ag,Dd,rA,LN,ND,Aw,Az,mvL,lnL,mvE,lnE,Bv]
 have hx:x.length<2^62:=hx
 (repeat' first|(with_reducible first|rfl|exact True.intro|apply AK|apply And.intro|((first|apply AA|apply AI|apply AB|apply AJ)<;>intro _))|(apply Ax<;>intro _)|apply AH|refine Af () ?_ ?_|((first|apply AO|apply AN|apply AM|apply AL|apply AG|apply AF|apply AE|apply AD|apply AC)<;>try dsimp only)|apply Af|(refine Prod.forall.2 ?_;intro _;try dsimp only)|(intro _;try dsimp only))
 all_goals first|exact LH|(rename_i i hi hl e he y _ hp;exact(LE he hp).symm)|(rename_i i hi hl e he y _ hp;exact LI hi he hp)|(rename_i i hi hl;exact LJ hi hl)|(obtain⟨_,_,_⟩:= ‹Ey _ _ _›;(try simp only[AQ] at*);omega)|skip)
def LO:Sig:= {X:=List Int,args:=fun x=>[Ag x,.clo (.func 146) []],pre:=fun x=>x.length<2^62,Y:=Unit,post:=fun x y=>True,res:=fun x y=> .bool (x.all DS),outs:=fun x y=>[.top,.top],keep:=false}
theorem a9N:Al G Tryz.prog 141 LO:=
 vcFun_okP [(146,0,LF)] [] false (fun x=>[(2,Dd DS (.clo (.func 146) []) x)]) Tryz.func141 rfl (by decide) ⟨a9G,trivial⟩ (fun(x:List Int)=>(∀(y:Unit),True→True∧True∧True∧True)∧eA (Dd DS (AV.clo (.func 146) []) x) [Ag x,AV.clo (.func 146) [],Ag x,.int .i64 (↑(List.length x):Int),.int .i64 (0:Int)]∧∀(i:Int),Ey DS x i→Ab (decide (i<(↑(List.length x):Int))) (((0:Int)≤i∧i<(↑(List.length x):Int))∧∀(e:Int),x[Int.toNat i]? =some e→cA LF [.int .i64 e] fun x_1 y=>Ab (!DS x_1) (rA LO x [.bool false,.top,.top]) (inR IntKind.i64 (i+(1:Int))∧eN (Dd DS (AV.clo (.func 146) []) x) i [Ag x,AV.clo (.func 146) [],Ag x,.int .i64 (↑(List.length x):Int),.int .i64 (i+(1:Int))])) (rA LO x [.bool true,.top,.top])) (fun x=>by kernel_rfl) fun(x:List Int) (hx:x.length<2^62)=>(by
 dsimp only[cA,eA,eN,Ag,Dd,rA,LO,LF,Aw,Az,mvL,lnL,mvE,lnE,Bv]
 have hx:x.length<2^62:=hx
 (repeat' first|(with_reducible first|rfl|exact True.intro|apply AK|apply And.intro|((first|apply AA|apply AI|apply AB|apply AJ)<;>intro _))|(apply Ax<;>intro _)|apply AH|refine Af () ?_ ?_|((first|apply AO|apply AN|apply AM|apply AL|apply AG|apply AF|apply AE|apply AD|apply AC)<;>try dsimp only)|apply Af|(refine Prod.forall.2 ?_;intro _;try dsimp only)|(intro _;try dsimp only))
 all_goals first|exact LH|(rename_i i hi hl e he y _ hp;exact(LE he hp).symm)|(rename_i i hi hl e he y _ hp;exact LI hi he hp)|(rename_i i hi hl;exact LJ hi hl)|(obtain⟨_,_,_⟩:= ‹Ey _ _ _›;(try simp only[AQ] at*);omega)|skip)
def LP:Sig:= {X:=List Int,args:=fun x=>[Ag x,.clo (.func 147) []],pre:=fun x=>x.length<2^62,Y:=Unit,post:=fun x y=>True,res:=fun x y=> .bool (x.all GR),outs:=fun x y=>[.top,.top],keep:=false}
theorem a9O:Al G Tryz.prog 141 LP:=
 vcFun_okP [(147,0,LG)] [] false (fun x=>[(2,Dd GR (.clo (.func 147) []) x)]) Tryz.func141 rfl (by decide) ⟨a9H,trivial⟩ (fun(x:List Int)=>(∀(y:Unit),True→True∧True∧True∧True)∧eA (Dd GR (AV.clo (.func 147) []) x) [Ag x,AV.clo (.func 147) [],Ag x,.int .i64 (↑(List.length x):Int),.int .i64 (0:Int)]∧∀(i:Int),Ey GR x i→Ab (decide (i<(↑(List.length x):Int))) (((0:Int)≤i∧i<(↑(List.length x):Int))∧∀(e:Int),x[Int.toNat i]? =some e→cA LG [.int .i64 e] fun x_1 y=>Ab (!GR x_1) (rA LP x [.bool false,.top,.top]) (inR IntKind.i64 (i+(1:Int))∧eN (Dd GR (AV.clo (.func 147) []) x) i [Ag x,AV.clo (.func 147) [],Ag x,.int .i64 (↑(List.length x):Int),.int .i64 (i+(1:Int))])) (rA LP x [.bool true,.top,.top])) (fun x=>by kernel_rfl) fun(x:List Int) (hx:x.length<2^62)=>(by
 dsimp only[cA,eA,eN,Ag,Dd,rA,LP,LG,Aw,Az,mvL,lnL,mvE,lnE,Bv]
 have hx:x.length<2^62:=hx
 (repeat' first|(with_reducible first|rfl|exact True.intro|apply AK|apply And.intro|((first|apply AA|apply AI|apply AB|apply AJ)<;>intro _))|(apply Ax<;>intro _)|apply AH|refine Af () ?_ ?_|((first|apply AO|apply AN|apply AM|apply AL|apply AG|apply AF|apply AE|apply AD|apply AC)<;>try dsimp only)|apply Af|(refine Prod.forall.2 ?_;intro _;try dsimp only)|(intro _;try dsimp only))
 all_goals first|exact LH|(rename_i i hi hl e he y _ hp;exact(LE he hp).symm)|(rename_i i hi hl e he y _ hp;exact LI hi he hp)|(rename_i i hi hl;exact LJ hi hl)|(obtain⟨_,_,_⟩:= ‹Ey _ _ _›;(try simp only[AQ] at*);omega)|skip)
def IV:Sig:= {X:=List Int,args:=fun x=>[Ag x,.clo (.func 183) []],pre:=fun x=>x.length<2^62,Y:=Unit,post:=fun x y=>True,res:=fun x y=> .bool (x.all Ew),outs:=fun x y=>[.top,.top],keep:=false}
theorem a0G:Al G Tryz.prog 141 IV:=
 vcFun_okP [(183,0,NE)] [] false (fun x=>[(2,Dd Ew (.clo (.func 183) []) x)]) Tryz.func141 rfl (by decide) ⟨a9I,trivial⟩ (fun(x:List Int)=>(∀(y:Unit),True→True∧True∧True∧True)∧eA (Dd Ew (AV.clo (.func 183) []) x) [Ag x,AV.clo (.func 183) [],Ag x,.int .i64 (↑(List.length x):Int),.int .i64 (0:Int)]∧∀(i:Int),Ey Ew x i→Ab (decide (i<(↑(List.length x):Int))) (((0:Int)≤i∧i<(↑(List.length x):Int))∧∀(e:Int),x[Int.toNat i]? =some e→cA NE [.int .i64 e] fun x_1 y=>Ab (!Ew x_1) (rA IV x [.bool false,.top,.top]) (inR IntKind.i64 (i+(1:Int))∧eN (Dd Ew (AV.clo (.func 183) []) x) i [Ag x,AV.clo (.func 183) [],Ag x,.int .i64 (↑(List.length x):Int),.int .i64 (i+(1:Int))])) (rA IV x [.bool true,.top,.top])) (fun x=>by kernel_rfl) fun(x:List Int) (hx:x.length<2^62)=>(by
 dsimp only[cA,eA,eN,Ag,Dd,rA,IV,NE,Aw,Az,mvL,lnL,mvE,lnE,Bv]
 have hx:x.length<2^62:=hx
 (repeat' first|(with_reducible first|rfl|exact True.intro|apply AK|apply And.intro|((first|apply AA|apply AI|apply AB|apply AJ)<;>intro _))|(apply Ax<;>intro _)|apply AH|refine Af () ?_ ?_|((first|apply AO|apply AN|apply AM|apply AL|apply AG|apply AF|apply AE|apply AD|apply AC)<;>try dsimp only)|apply Af|(refine Prod.forall.2 ?_;intro _;try dsimp only)|(intro _;try dsimp only))
 all_goals first|exact LH|(rename_i i hi hl e he y _ hp;exact(LE he hp).symm)|(rename_i i hi hl e he y _ hp;exact LI hi he hp)|(rename_i i hi hl;exact LJ hi hl)|(obtain⟨_,_,_⟩:= ‹Ey _ _ _›;(try simp only[AQ] at*);omega)|skip)
theorem a0H{p:Int→Bool}{x:List Int}(h:¬(0:Int)<x.length):false=EO p x:=by
 obtain rfl:x=[]:=List.length_eq_zero_iff.1 (by omega)
 rfl
theorem a0I{p:Int→Bool}{x:List Int}{e:Int}(he:x[(x.length-1:Int).toNat]? =some e):EO p x=(p e&&(x.take (x.length-1:Int).toNat).all Ew):=by
 have e1:(x.length-1:Int).toNat=x.length-1:=by omega
 rw[e1] at he ⊢
 unfold EO
 rw[List.getLast?_eq_getElem?,he,List.dropLast_eq_take]
def KA:Sig:= {X:=List Int,args:=fun x=>[Ag x,.clo (.func 142) []],pre:=fun x=>x.length<2^62,Y:=Unit,post:=fun x y=>True,res:=fun x y=> .bool (EO BH x),outs:=fun x y=>[.top,.top],keep:=false}
theorem a9P:Al G Tryz.prog 143 KA:=
 vcFun_okP [(142,0,Gt),(141,183+1,IV)] [] false (fun x=>[]) Tryz.func143 rfl (by decide) ⟨VM,a0G,trivial⟩ (fun(x:List Int)=>(∀(y:Unit),True→True∧True∧True∧True)∧Ab (decide ((↑(List.length x):Int)>(0:Int))) (inR IntKind.i64 ((↑(List.length x):Int)-(1:Int))∧((0:Int)≤(↑(List.length x):Int)-(1:Int)∧(↑(List.length x):Int)-(1:Int)<(↑(List.length x):Int))∧∀(e:Int),x[Int.toNat ((↑(List.length x):Int)-(1:Int))]? =some e→cA Gt [.int .i64 e] fun x_1 y=>Ab (BH x_1) (inR IntKind.i64 ((↑(List.length x):Int)-(1:Int))∧((0:Int)≤(0:Int)∧(0:Int)≤(↑(List.length x):Int)-(1:Int)∧(↑(List.length x):Int)-(1:Int)≤(↑(List.length x):Int))∧cA IV [Ag (List.take (Int.toNat ((↑(List.length x):Int)-(1:Int))) x),AV.clo (Fn.func (161:Nat)) []] fun x_2 y=>rA KA x [.bool (List.all x_2 Ew),.top,.top]) (rA KA x [.bool false,.top,.top])) (rA KA x [.bool false,.top,.top])) (fun x=>by kernel_rfl) fun(x:List Int) (hx:x.length<2^62)=>(by
 dsimp only[cA,Ag,rA,IV,Gt,KA,Aw,Az,mvL,lnL,mvE,lnE]
 have hx:x.length<2^62:=hx
 (repeat' first|(with_reducible first|rfl|exact True.intro|apply AK|apply And.intro|((first|apply AA|apply AI|apply AB|apply AJ)<;>intro _))|(apply Ax<;>intro _)|apply AH|refine Af () ?_ ?_|((first|apply AO|apply AN|apply AM|apply AL|apply AG|apply AF|apply AE|apply AD|apply AC)<;>try dsimp only)|apply Af|(refine Prod.forall.2 ?_;intro _;try dsimp only)|(intro _;try dsimp only))<;>(try dsimp only at*)<;>(try simp only[AQ,List.length_cons,List.length_nil])<;>(try omega)
 all_goals first|exact a0H (by omega)|(rw[a0I ‹_›];simp [*];done)|(rw[List.length_take];omega)|skip)
def KB:Sig:= {X:=List Int,args:=fun x=>[Ag x,.clo (.func 145) []],pre:=fun x=>x.length<2^62,Y:=Unit,post:=fun x y=>True,res:=fun x y=> .bool (EO CR x),outs:=fun x y=>[.top,.top],keep:=false}
theorem a9Q:Al G Tryz.prog 143 KB:=
 vcFun_okP [(145,0,HE),(141,183+1,IV)] [] false (fun x=>[]) Tryz.func143 rfl (by decide) ⟨VN,a0G,trivial⟩ (fun(x:List Int)=>(∀(y:Unit),True→True∧True∧True∧True)∧Ab (decide ((↑(List.length x):Int)>(0:Int))) (inR IntKind.i64 ((↑(List.length x):Int)-(1:Int))∧((0:Int)≤(↑(List.length x):Int)-(1:Int)∧(↑(List.length x):Int)-(1:Int)<(↑(List.length x):Int))∧∀(e:Int),x[Int.toNat ((↑(List.length x):Int)-(1:Int))]? =some e→cA HE [.int .i64 e] fun x_1 y=>Ab (CR x_1) (inR IntKind.i64 ((↑(List.length x):Int)-(1:Int))∧((0:Int)≤(0:Int)∧(0:Int)≤(↑(List.length x):Int)-(1:Int)∧(↑(List.length x):Int)-(1:Int)≤(↑(List.length x):Int))∧cA IV [Ag (List.take (Int.toNat ((↑(List.length x):Int)-(1:Int))) x),AV.clo (Fn.func (161:Nat)) []] fun x_2 y=>rA KB x [.bool (List.all x_2 Ew),.top,.top]) (rA KB x [.bool false,.top,.top])) (rA KB x [.bool false,.top,.top])) (fun x=>by kernel_rfl) fun(x:List Int) (hx:x.length<2^62)=>(by
 dsimp only[cA,Ag,rA,IV,HE,KB,Aw,Az,mvL,lnL,mvE,lnE]
 have hx:x.length<2^62:=hx
 (repeat' first|(with_reducible first|rfl|exact True.intro|apply AK|apply And.intro|((first|apply AA|apply AI|apply AB|apply AJ)<;>intro _))|(apply Ax<;>intro _)|apply AH|refine Af () ?_ ?_|((first|apply AO|apply AN|apply AM|apply AL|apply AG|apply AF|apply AE|apply AD|apply AC)<;>try dsimp only)|apply Af|(refine Prod.forall.2 ?_;intro _;try dsimp only)|(intro _;try dsimp only))<;>(try dsimp only at*)<;>(try simp only[AQ,List.length_cons,List.length_nil])<;>(try omega)
 all_goals first|exact a0H (by omega)|(rw[a0I ‹_›];simp [*];done)|(rw[List.length_take];omega)|skip)
def Ca:Sig:= {X:=Int×List Int,args:=fun x=>[.int .i64 x.1,Ag x.2],pre:=fun x=>x.2.length<2^62,Y:=Unit,post:=fun x y=>True,res:=fun x y=> .bool (Ci x.1 x.2),outs:=fun x y=>[.top,.top],keep:=false}
theorem a9R:Al G Tryz.prog 116 Ca:=
 vcFun_okP [(142,0,Gt),(145,0,HE),(66,0,DE),(141,142+1,LK),(141,145+1,LL),(141,115+1,LM),(141,144+1,LN),(141,146+1,LO),(141,147+1,LP),(143,142+1,KA),(143,145+1,KB)] [] false (fun x=>[]) Tryz.func116 rfl (by decide) ⟨VM,VN,Nz,a9J,a9K,a9L,a9M,a9N,a9O,a9P,a9Q,trivial⟩ (fun(x:Int×List Int)=>(∀(y:Unit),True→True∧True∧True∧True)∧cA LK [Ag x.2,AV.clo (Fn.func (126:Nat)) []] fun x_1 y=>Ab (x.1==(1:Int)) (rA Ca x [.bool ((↑(List.length x.2):Int)==(0:Int)),.top,.top]) (Ab (x.1==(2:Int)) (rA Ca x [.bool ((↑(List.length x.2):Int)==(0:Int)),.top,.top]) (Ab (x.1==(3:Int)) (rA Ca x [.bool ((↑(List.length x.2):Int)==(0:Int)),.top,.top]) (Ab (x.1==(19:Int)) (rA Ca x [.bool ((↑(List.length x.2):Int)==(0:Int)),.top,.top]) (Ab (x.1==(4:Int)) (rA Ca x [.bool (List.all x_1 BH),.top,.top]) (Ab (x.1==(5:Int)) (Ab (decide ((↑(List.length x.2):Int)≥(1:Int))) (rA Ca x [.bool (List.all x_1 BH),.top,.top]) (rA Ca x [.bool false,.top,.top])) (Ab (x.1==(7:Int)) (Ab (decide ((↑(List.length x.2):Int)≥(2:Int))) (rA Ca x [.bool (List.all x_1 BH),.top,.top]) (rA Ca x [.bool false,.top,.top])) (Ab (x.1==(8:Int)) (Ab ((↑(List.length x.2):Int)==(3:Int)) (rA Ca x [.bool (List.all x_1 BH),.top,.top]) (rA Ca x [.bool false,.top,.top])) (Ab (x.1==(6:Int)) (Ab ((↑(List.length x.2):Int)==(1:Int)) (rA Ca x [.bool (List.all x_1 BH),.top,.top]) (rA Ca x [.bool false,.top,.top])) (Ab (x.1==(11:Int)) (Ab ((↑(List.length x.2):Int)==(1:Int)) (rA Ca x [.bool (List.all x_1 BH),.top,.top]) (rA Ca x [.bool false,.top,.top])) (Ab (x.1==(13:Int)) (Ab ((↑(List.length x.2):Int)==(1:Int)) (rA Ca x [.bool (List.all x_1 BH),.top,.top]) (rA Ca x [.bool false,.top,.top])) (Ab (x.1==(14:Int)) (Ab ((↑(List.length x.2):Int)==(1:Int)) (rA Ca x [.bool (List.all x_1 BH),.top,.top]) (rA Ca x [.bool false,.top,.top])) (Ab (x.1==(12:Int)) (Ab (decide ((↑(List.length x.2):Int)≤(1:Int))) (rA Ca x [.bool (List.all x_1 BH),.top,.top]) (rA Ca x [.bool false,.top,.top])) (Ab (x.1==(15:Int)) (Ab (decide ((↑(List.length x.2):Int)≤(1:Int))) (rA Ca x [.bool (List.all x_1 BH),.top,.top]) (rA Ca x [.bool false,.top,.top])) (Ab (x.1==(9:Int)) (cA KA [Ag x.2,AV.clo (Fn.func (126:Nat)) []] fun x_2 y=>rA Ca x [.bool (EO BH x_2),.top,.top]) (Ab (x.1==(10:Int)) (Ab (decide ((↑(List.length x.2):Int)≥(2:Int))) (((0:Int)≤(0:Int)∧(0:Int)<(↑(List.length x.2):Int))∧∀(e:Int),x.2[(0:Nat)]? =some e→cA Gt [.int .i64 e] fun x_2 y=>Ab (BH x_2) (((0:Int)≤(1:Int)∧(1:Int)≤(↑(List.length x.2):Int)∧(↑(List.length x.2):Int)≤(↑(List.length x.2):Int))∧cA LN [Ag (List.drop (1:Nat) x.2),AV.clo (Fn.func (128:Nat)) []] fun x_3 y=>rA Ca x [.bool (List.all x_3 FU),.top,.top]) (rA Ca x [.bool false,.top,.top])) (rA Ca x [.bool false,.top,.top])) (Ab (x.1==(16:Int)) (cA DE [.int .i64 (↑(List.length x.2):Int),.int .i64 (2:Int),.int .i64 (3:Int)] fun x_2 y=>Ab (inn x_2.1 x_2.2.1 x_2.2.2) (((0:Int)≤(0:Int)∧(0:Int)<(↑(List.length x.2):Int))∧∀(e:Int),x.2[(0:Nat)]? =some e→cA Gt [.int .i64 e] fun x_3 y=>Ab (BH x_3) (((0:Int)≤(1:Int)∧(1:Int)≤(↑(List.length x.2):Int)∧(↑(List.length x.2):Int)≤(↑(List.length x.2):Int))∧cA LL [Ag (List.drop (1:Nat) x.2),AV.clo (Fn.func (129:Nat)) []] fun x_4 y=>rA Ca x [.bool (List.all x_4 CR),.top,.top]) (rA Ca x [.bool false,.top,.top])) (rA Ca x [.bool false,.top,.top])) (Ab (x.1==(17:Int)) (Ab ((↑(List.length x.2):Int)==(2:Int)) (((0:Int)≤(0:Int)∧(0:Int)<(↑(List.length x.2):Int))∧∀(e:Int),x.2[(0:Nat)]? =some e→cA Gt [.int .i64 e] fun x_2 y=>Ab (BH x_2) (((0:Int)≤(1:Int)∧(1:Int)<(↑(List.length x.2):Int))∧∀(e:Int),x.2[(1:Nat)]? =some e→cA HE [.int .i64 e] fun x_3 y=>rA Ca x [.bool (CR x_3),.top,.top]) (rA Ca x [.bool false,.top,.top])) (rA Ca x [.bool false,.top,.top])) (Ab (x.1==(18:Int)) (cA LO [Ag x.2,AV.clo (Fn.func (130:Nat)) []] fun x_2 y=>rA Ca x [.bool (List.all x_2 DS),.top,.top]) (Ab (x.1==(20:Int)) (cA KB [Ag x.2,AV.clo (Fn.func (129:Nat)) []] fun x_2 y=>rA Ca x [.bool (EO CR x_2),.top,.top]) (Ab (x.1==(21:Int)) (cA LM [Ag x.2,AV.clo (Fn.func (99:Nat)) []] fun x_2 y=>rA Ca x [.bool (List.all x_2 EN),.top,.top]) (Ab (x.1==(22:Int)) (cA LP [Ag x.2,AV.clo (Fn.func (131:Nat)) []] fun x_2 y=>rA Ca x [.bool (List.all x_2 GR),.top,.top]) (rA Ca x [.bool false,.top,.top]))))))))))))))))))))))) (fun x=>by kernel_rfl) fun(x:Int×List Int) (hx:x.2.length<2^62)=>(by
 dsimp only[cA,Ag,rA,LL,LN,LM,LO,LP,LK,DE,HE,Gt,Ca,KB,KA,Aw,Az,mvL,lnL,mvE,lnE]
 have hx:x.2.length<2^62:=hx
 obtain⟨k,l⟩:=x
 (repeat' first|(with_reducible first|rfl|exact True.intro|apply AK|apply And.intro|((first|apply AA|apply AI|apply AB|apply AJ)<;>intro _))|(apply Ax<;>intro _)|apply AH|refine Af () ?_ ?_|((first|apply AO|apply AN|apply AM|apply AL|apply AG|apply AF|apply AE|apply AD|apply AC)<;>try dsimp only)|apply Af|(refine Prod.forall.2 ?_;intro _;try dsimp only)|(intro _;try dsimp only))<;>(try dsimp only at*)<;>(try simp only[AQ,List.length_cons,List.length_nil])<;>(try omega)
 all_goals try(simp only[List.length_drop];omega)
 all_goals try(simp [Ci,Gq, *]<;>omega)
 all_goals(match l with
  |[]=>simp_all [Ci,inn]<;>omega
  |[a]=>simp_all [Ci,inn]<;>omega
  |[a,b]=>simp_all [Ci,inn]<;>omega
  |[a,b,c]=>simp_all [Ci,inn]<;>omega
  |a::b::c::d::m=>simp_all [Ci,inn]<;>omega))
def GX:Sig:= {X:=List Nd×Int,args:=fun x=>[nds x.1,.int .i64 x.2],pre:=fun x=>x.1.length<2^62,Y:=Unit,post:=fun x y=>True,res:=fun x y=> .bool (BK x.1 x.2),outs:=fun x y=>[.top,.top],keep:=false}
theorem VP:Al G Tryz.prog 93 GX:=
 vcFun_okP [] [] false (fun x=>[]) Tryz.func93 rfl (by decide) trivial (fun(x:List Nd×Int)=>(∀(y:Unit),True→True∧True∧True∧True)∧Ab (decide (x.2≥(0:Int))) (rA GX x [.bool (decide (x.2<(↑(List.length x.1):Int))),.top,.top]) (rA GX x [.bool false,.top,.top])) (fun x=>by kernel_rfl) fun(x:List Nd×Int) (hx:x.1.length<2^62)=>(by
 dsimp only[Bx,nds,rA,GX,Aw,Az]
 have hx:x.1.length<2^62:=hx
 (repeat' first|(with_reducible first|rfl|exact True.intro|apply AK|apply And.intro|((first|apply AA|apply AI|apply AB|apply AJ)<;>intro _))|(apply Ax<;>intro _)|apply AH|refine Af () ?_ ?_|((first|apply AO|apply AN|apply AM|apply AL|apply AG|apply AF|apply AE|apply AD|apply AC)<;>try dsimp only)|apply Af|(refine Prod.forall.2 ?_;intro _;try dsimp only)|(intro _;try dsimp only))<;>(try dsimp only at*)<;>(try simp only[AQ,List.length_cons,List.length_nil])<;>(try omega)
 all_goals simp [BK, *])
def NF(x:Nd):Prop:=x.text.length<2^62∧x.kids.length<2^62
def BD(l:List Nd):Prop:=l.length<2^62∧∀x∈l,NF x
theorem VQ{l:List Nd}{n:Nat}{x:Nd}(hx:l[n]? =some x)(h:BD l):NF x:=h.2 x (BJ hx)
theorem a9S{l:List Nd}{k:Int}(h:BD l):NF (Aa l k):=by
 unfold Aa
 rw[List.getD]
 cases hx:l[k.toNat]? with
 |none=>simp [NF]
 |some x=>exact VQ hx h
def HF(v:Int):List Int→Int→Int
 |[],_=> -1
 |c::l,i=>if v=c then i else HF v l (i+1)
theorem a0J{v:Int}:∀ {l:List Int} {i:Int},0≤i→(0≤HF v l i↔v∈l)
 |[],i,h=>by simp [HF]
 |c::l,i,h=>by
  unfold HF
  by_cases e:v=c
  ·simp [e,h]
  ·rw[if_neg e,a0J (by omega)];simp [e]
def LQ:Sig:= {X:=List Int×Int,args:=fun x=>[Ag x.1,.int .i64 x.2],pre:=fun x=>x.1.length<2^62,Y:=Unit,post:=fun x y=>True,res:=fun x y=> .int .i64 (HF x.2 x.1 0),outs:=fun x y=>[.top,.top],keep:=false}
def Rz(x:List Int×Int):LS:= {ι:=Int,inv:=fun i=>(0≤i∧i≤x.1.length)∧HF x.2 (x.1.drop i.toNat) i=HF x.2 x.1 0,regs:=fun i=>[(0,Ag x.1),(1,.int .i64 x.2),(7,.int .i64 x.1.length),(8,.int .i64 i)],als:=[],meas:=fun i=>x.1.length-i.toNat}
theorem a9T:Al G Tryz.prog 140 LQ:=
 vcFun_okP [] [] false (fun x=>[(2,Rz x)]) Tryz.func140 rfl (by decide) trivial (fun(x:List Int×Int)=>(∀(y:Unit),True→True∧True∧True∧True)∧eA (Rz x) [Ag x.1,.int .i64 x.2,.int .i64 (↑(List.length x.1):Int),.int .i64 (0:Int)]∧∀(i:Int),((0:Int)≤i∧i≤(↑(List.length x.1):Int))∧HF x.2 (List.drop (Int.toNat i) x.1) i=HF x.2 x.1 (0:Int)→Ab (decide (i<(↑(List.length x.1):Int))) (((0:Int)≤i∧i<(↑(List.length x.1):Int))∧∀(e:Int),x.1[Int.toNat i]? =some e→Ab (x.2==e) (rA LQ x [.int .i64 i,.top,.top]) (inR IntKind.i64 (i+(1:Int))∧eN (Rz x) i [Ag x.1,.int .i64 x.2,.int .i64 (↑(List.length x.1):Int),.int .i64 (i+(1:Int))])) (rA LQ x [.int .i64 (-1:Int),.top,.top])) (fun x=>by kernel_rfl) fun(x:List Int×Int) (hx:x.1.length<2^62)=>(by
 dsimp only[eA,eN,Rz,Ag,rA,LQ,Aw,Az,Bv]
 have hx:x.1.length<2^62:=hx
 (repeat' first|(with_reducible first|rfl|exact True.intro|apply AK|apply And.intro|((first|apply AA|apply AI|apply AB|apply AJ)<;>intro _))|(apply Ax<;>intro _)|apply AH|refine Af () ?_ ?_|((first|apply AO|apply AN|apply AM|apply AL|apply AG|apply AF|apply AE|apply AD|apply AC)<;>try dsimp only)|apply Af|(refine Prod.forall.2 ?_;intro _;try dsimp only)|(intro _;try dsimp only))<;>(try dsimp only at*)<;>(try simp only[AQ,List.length_cons,List.length_nil])<;>(try omega)
 all_goals first
  |(rename_i i hi hl e he h;rw[←hi.2,HA he];simp [HF,h];done)
  |(rename_i i hi hl e he h;rw[←hi.2,HA he,Da hi.1.1];simp [HF,h];done)
  |rfl
  |(rename_i i hi hl;rw[←hi.2,List.drop_eq_nil_of_le (by omega)];rfl)
  |skip)
def NG:Sig:= {X:=List Int×Int,args:=fun x=>[Ag x.1,.int .i64 x.2],pre:=fun x=>x.1.length<2^62,Y:=Unit,post:=fun x y=>True,res:=fun x y=> .bool (x.1.elem x.2),outs:=fun x y=>[.top,.top],keep:=false}
theorem a9U:Al G Tryz.prog 113 NG:=
 vcFun_okP [(140,0,LQ)] [] false (fun x=>[]) Tryz.func113 rfl (by decide) ⟨a9T,trivial⟩ (fun(x:List Int×Int)=>(∀(y:Unit),True→True∧True∧True∧True)∧cA LQ [Ag x.1,.int .i64 x.2] fun x_1 y=>rA NG x [.bool (decide (HF x_1.2 x_1.1 (0:Int)≥(0:Int))),.top,.top]) (fun x=>by kernel_rfl) fun(x:List Int×Int) (hx:x.1.length<2^62)=>(by
 dsimp only[cA,Ag,rA,NG,LQ,Aw,Az,mvL,lnL,mvE,lnE]
 have hx:x.1.length<2^62:=hx
 (repeat' first|(with_reducible first|rfl|exact True.intro|apply AK|apply And.intro|((first|apply AA|apply AI|apply AB|apply AJ)<;>intro _))|(apply Ax<;>intro _)|apply AH|refine Af () ?_ ?_|((first|apply AO|apply AN|apply AM|apply AL|apply AG|apply AF|apply AE|apply AD|apply AC)<;>try dsimp only)|apply Af|(refine Prod.forall.2 ?_;intro _;try dsimp only)|(intro _;try dsimp only))<;>(try dsimp only at*)<;>(try simp only[AQ,List.length_cons,List.length_nil])<;>(try omega)
 all_goals first|(rw[Bool.eq_iff_iff,decide_eq_true_iff,List.elem_iff];exact a0J (by omega))|skip)
theorem a0K{ns:List Nd}{x:Nd}:EP ns x=true↔∀(j:Nat) c,x.kids[j]? =some c→CV ns x j c=true:=by
 have e:EP ns x=BZ (fun i c=>CV ns x i.toNat c) x.kids 0:=by
  unfold EP
  have:(fun p:Int×Nat=>CV ns x p.2 p.1)=fun p:Int×Nat=>(fun(i c:Int)=>CV ns x i.toNat c) p.2 p.1:=by funext p;simp
  rw[this];exact VK (f:=fun i c=>CV ns x i.toNat c) (i:=0)
 rw[e,VL];simp
def cfI(ns:List Nd)(x:Nd)(i:Int):Prop:=0≤i∧i≤x.kids.length∧∀(j:Nat) c,(j:Int)<i→x.kids[j]? =some c→CV ns x j c=true
theorem a9V{ns:List Nd}{x:Nd}:cfI ns x 0:=⟨by omega,by omega,fun j c h=>by omega⟩
theorem RA{ns:List Nd}{x:Nd}{i c:Int}(h:cfI ns x i)(hc:x.kids[i.toNat]? =some c)(hk:CV ns x i.toNat c=true):cfI ns x (i+1):=by
 obtain⟨h1,h2,h3⟩:=h
 have:=(DW hc).1
 refine⟨by omega,by omega,fun j d hj hd=> ?_⟩
 by_cases e:(j:Int)<i
 ·exact h3 j d e hd
 ·obtain rfl:j=i.toNat:=by omega
  rw[hc] at hd;cases hd;exact hk
theorem a9W{ns:List Nd}{x:Nd}{i:Int}(h:cfI ns x i)(hl:¬i<x.kids.length):true=EP ns x:=by
 symm;rw[a0K];intro j c hc
 exact h.2.2 j c (by have:=(DW hc).1;omega) hc
theorem VR{ns:List Nd}{x:Nd}{i c:Int}(hc:x.kids[i.toNat]? =some c)(hk:CV ns x i.toNat c=false):false=EP ns x:=by
 symm;rw[Bool.eq_false_iff];intro h
 rw[a0K.1 h _ _ hc] at hk;cases hk
theorem a9X{ns:List Nd}{x y:Nd}{i c:Int}(hy:ns[c.toNat]? =some y)(h:y.kind≠5):CV ns x i.toNat c=true:=by
 simp [CV,Bo hy,h]
theorem a9Y{ns:List Nd}{x y:Nd}{i c:Int}(hy:ns[c.toNat]? =some y)(h:y.kind=5)(h0:(y.kids.length:Int)=0):CV ns x i.toNat c=false:=by
 have h0:=List.length_eq_zero_iff.1 (show y.kids.length=0 by omega)
 simp [CV,Bo hy,h,h0]
theorem a9Z{ns:List Nd}{x y:Nd}{i c d:Int}(hy:ns[c.toNat]? =some y)(h:y.kind=5)(hd:BK ns d=false)(h0:y.kids[0]? =some d):CV ns x i.toNat c=false:=by
 match hk:y.kids with
 |[]=>rw[hk] at h0;cases h0
 |e::t=>rw[hk] at h0;cases h0;simp [CV,Bo hy,h,hk,hd]
theorem b0a{ns:List Nd}{x y z:Nd}{i c d d':Int}(hy:ns[c.toNat]? =some y)(h:y.kind=5)(hd:BK ns d=true)(h0:y.kids[0]? =some d)(hz:ns[d'.toNat]? =some z)(h0':y.kids[0]? =some d')(h10:x.kind=10)(hi:i>0)(h1:z.kind≠1):CV ns x i.toNat c=false:=by
 match hk:y.kids with
 |[]=>rw[hk] at h0;cases h0
 |e::t=>rw[hk] at h0 h0';cases h0;cases h0';simp [CV,Bo hy,h,hk,hd,h10,AS,Bo hz,h1];omega
theorem b0b{ns:List Nd}{x y z:Nd}{i c d d':Int}(hy:ns[c.toNat]? =some y)(h:y.kind=5)(hd:BK ns d=true)(h0:y.kids[0]? =some d)(hz:ns[d'.toNat]? =some z)(h0':y.kids[0]? =some d')(h1:z.kind=1):CV ns x i.toNat c=true:=by
 match hk:y.kids with
 |[]=>rw[hk] at h0;cases h0
 |e::t=>rw[hk] at h0 h0';cases h0;cases h0';simp [CV,Bo hy,h,hk,hd,AS,Bo hz,h1]
theorem b0c{ns:List Nd}{x y:Nd}{i c d:Int}(hy:ns[c.toNat]? =some y)(h:y.kind=5)(hd:BK ns d=true)(h0:y.kids[0]? =some d)(h1:x.kind≠10):CV ns x i.toNat c=true:=by
 match hk:y.kids with
 |[]=>rw[hk] at h0;cases h0
 |e::t=>rw[hk] at h0;cases h0;simp [CV,Bo hy,h,hk,hd,h1]
theorem b0d{ns:List Nd}{x y:Nd}{i c d:Int}(hy:ns[c.toNat]? =some y)(h:y.kind=5)(hd:BK ns d=true)(h0:y.kids[0]? =some d)(h1:¬i>0):CV ns x i.toNat c=true:=by
 have:i.toNat=0:=by omega
 match hk:y.kids with
 |[]=>rw[hk] at h0;cases h0
 |e::t=>rw[hk] at h0;cases h0;simp [CV,Bo hy,h,hk,hd,this]
theorem ndB{ns:List Nd}{l:List Int}{d d':Int}(hd:BK ns d=true)(h0:l[0]? =some d)(h0':l[0]? =some d'):0≤d'∧d'<ns.length:=by
 rw[h0] at h0';cases h0';exact BX.1 hd
def Ig:Sig:= {X:=List Nd×Nd,args:=fun x=>[nds x.1,.agg (ndA false x.2)],pre:=fun x=>BD x.1∧NF x.2∧∀c∈x.2.kids,0≤c∧c<x.1.length,Y:=Unit,post:=fun x y=>True,res:=fun x y=> .bool (EP x.1 x.2),outs:=fun x y=>[.top,.top],keep:=false}
def LR(x:List Nd×Nd):LS:= {ι:=Int,inv:=cfI x.1 x.2,regs:=fun i=>[(0,nds x.1),(3,.box 0 (ndA false x.2)),(9,Ag x.2.kids),(10,.int .i64 x.2.kids.length),(11,.int .i64 i)],als:=[],meas:=fun i=>x.2.kids.length-i.toNat}
theorem b0e:Al G Tryz.prog 117 Ig:=
 vcFun_okP [(93,0,GX)] [] false (fun x=>[(2,LR x)]) Tryz.func117 rfl (by decide) ⟨VP,trivial⟩ (fun(x:List Nd×Nd)=>(∀(y:Unit),True→True∧True∧True∧True)∧eA (LR x) [nds x.1,.box 0 [.int .i64 x.2.kind,.str x.2.text,Ag x.2.kids,.bool x.2.blank],Ag x.2.kids,.int .i64 (↑(List.length x.2.kids):Int),.int .i64 (0:Int)]∧∀(i:Int),cfI x.1 x.2 i→Ab (decide (i<(↑(List.length x.2.kids):Int))) (((0:Int)≤i∧i<(↑(List.length x.2.kids):Int))∧∀(e:Int),x.2.kids[Int.toNat i]? =some e→((0:Int)≤e∧e<(↑(List.length x.1):Int))∧∀(e_1:Nd),x.1[Int.toNat e]? =some e_1→Ab (e_1.kind != (5:Int)) (inR IntKind.i64 (i+(1:Int))∧eN (LR x) i [nds x.1,.box 0 [.int .i64 x.2.kind,.str x.2.text,Ag x.2.kids,.bool x.2.blank],Ag x.2.kids,.int .i64 (↑(List.length x.2.kids):Int),.int .i64 (i+(1:Int))]) (Ab ((↑(List.length e_1.kids):Int)==(0:Int)) (rA Ig x [.bool false,.top,.top]) (((0:Int)≤(0:Int)∧(0:Int)<(↑(List.length e_1.kids):Int))∧∀(e:Int),e_1.kids[(0:Nat)]? =some e→cA GX [nds x.1,.int .i64 e] fun x_1 y=>Ab (!BK x_1.1 x_1.2) (rA Ig x [.bool false,.top,.top]) (Ab (x.2.kind==(10:Int)) (Ab (decide (i>(0:Int))) (((0:Int)≤(0:Int)∧(0:Int)<(↑(List.length e_1.kids):Int))∧∀(e:Int),e_1.kids[(0:Nat)]? =some e→((0:Int)≤e∧e<(↑(List.length x.1):Int))∧∀(e_2:Nd),x.1[Int.toNat e]? =some e_2→Ab (e_2.kind != (1:Int)) (rA Ig x [.bool false,.top,.top]) (inR IntKind.i64 (i+(1:Int))∧eN (LR x) i [nds x.1,.box 0 [.int .i64 x.2.kind,.str x.2.text,Ag x.2.kids,.bool x.2.blank],Ag x.2.kids,.int .i64 (↑(List.length x.2.kids):Int),.int .i64 (i+(1:Int))])) (inR IntKind.i64 (i+(1:Int))∧eN (LR x) i [nds x.1,.box 0 [.int .i64 x.2.kind,.str x.2.text,Ag x.2.kids,.bool x.2.blank],Ag x.2.kids,.int .i64 (↑(List.length x.2.kids):Int),.int .i64 (i+(1:Int))])) (inR IntKind.i64 (i+(1:Int))∧eN (LR x) i [nds x.1,.box 0 [.int .i64 x.2.kind,.str x.2.text,Ag x.2.kids,.bool x.2.blank],Ag x.2.kids,.int .i64 (↑(List.length x.2.kids):Int),.int .i64 (i+(1:Int))]))))) (rA Ig x [.bool true,.top,.top])) (fun x=>by kernel_rfl) fun(x:List Nd×Nd) (hx:BD x.1∧NF x.2∧∀c∈x.2.kids,0≤c∧c<x.1.length)=>(by
 dsimp only[cA,eA,eN,LR,Ag,Bx,nds,rA,Ig,GX,Aw,Az,mvL,lnL,mvE,lnE,Bv]
 obtain⟨h1,h2,h3⟩:=hx;have hl:=h1.1;have hk:=h2.2
 (repeat' first|(with_reducible first|rfl|exact True.intro|apply AK|apply And.intro|((first|apply AA|apply AI|apply AB|apply AJ)<;>intro _))|(apply Ax<;>intro _)|apply AH|refine Af () ?_ ?_|((first|apply AO|apply AN|apply AM|apply AL|apply AG|apply AF|apply AE|apply AD|apply AC)<;>try dsimp only)|apply Af|(refine Prod.forall.2 ?_;intro _;try dsimp only)|(intro _;try dsimp only))
 all_goals first
  |exact a9V
  |exact a9W ‹_› ‹_›
  |exact RA ‹_› ‹_› (a9X ‹_› ‹_›)
  |exact RA ‹_› ‹_› (b0d ‹_› ‹_› ‹_› ‹_› ‹_›)
  |exact RA ‹_› ‹_› (b0c ‹_› ‹_› ‹_› ‹_› ‹_›)
  |exact RA ‹_› ‹_› (b0b ‹_› ‹_› ‹_› ‹_› ‹_› ‹_› ‹_›)
  |exact VR ‹_› (a9Y ‹_› ‹_› ‹_›)
  |exact VR ‹_› (a9Z ‹_› ‹_› ‹_› ‹_›)
  |exact VR ‹_› (b0a ‹_› ‹_› ‹_› ‹_› ‹_› ‹_› ‹_› ‹_› ‹_›)
  |exact(h3 _ (BJ ‹_›)).1
  |exact(h3 _ (BJ ‹_›)).2
  |exact(ndB ‹_› ‹_› ‹_›).1
  |exact(ndB ‹_› ‹_› ‹_›).2
  |(obtain⟨_,_,_⟩:= ‹cfI _ _ _›;(try simp only[AQ] at*);omega)
  |skip)
def nkI(k:Int)(l:List Int)(i:Int):Prop:=0≤i∧i≤l.length∧(∀c∈l.take i.toNat,0≤c∧c<k)∧(l.take i.toNat).Nodup
theorem a0L{k:Int}{l:List Int}:nkI k l 0:=⟨by omega,by omega,by simp,by simp⟩
theorem a0M{k:Int}{l:List Int}{i c:Int}(h:nkI k l i)(hc:l[i.toNat]? =some c)(h1:¬c<0)(h2:¬c≥k)(h3:(l.take i.toNat).elem c=false):nkI k l (i+1):=by
 obtain⟨ha,hb,hd,he⟩:=h
 have:=(DW hc).1
 refine⟨by omega,by omega,?_,?_⟩
 ·rw[Da ha,EM hc];intro d hd'
  rcases List.mem_append.1 hd' with hd'|hd'
  ·exact hd d hd'
  ·simp at hd';subst hd';omega
 ·rw[Da ha,EM hc,List.nodup_append]
  refine⟨he,by simp,?_⟩
  intro a ha' b hb' hab
  simp at hb';subst hb';subst hab
  simp at h3;exact h3 ha'
theorem Py{k:Int}{l:List Int}{i:Int}(h:nkI k l i)(hl:¬i<l.length):DT l k=true∧l.Nodup:=by
 obtain⟨ha,hb,hd,he⟩:=h
 rw[List.take_of_length_le (by omega)] at hd he
 exact⟨by simpa [DT] using hd,he⟩
theorem b0f{k:Int}{l:List Int}{n:Nat}{c:Int}(hc:l[n]? =some c)(h1:c<0):DT l k=false:=by
 rw[Bool.eq_false_iff];intro h;simp only[DT,List.all_eq_true,Bool.and_eq_true,decide_eq_true_eq] at h
 have:=h c (BJ hc);omega
theorem b0g{k:Int}{l:List Int}{n:Nat}{c:Int}(hc:l[n]? =some c)(h1:c≥k):DT l k=false:=by
 rw[Bool.eq_false_iff];intro h;simp only[DT,List.all_eq_true,Bool.and_eq_true,decide_eq_true_eq] at h
 have:=h c (BJ hc);omega
theorem a0N{l:List Int}{n:Nat}{c:Int}(hc:l[n]? =some c)(h1:(l.take n).elem c=true):¬l.Nodup:=by
 intro h
 have e:l=l.take n++l.drop n:=(List.take_append_drop n l).symm
 rw[e,HA hc,List.nodup_append] at h
 exact h.2.2 c (by simpa using h1) c (by simp) rfl
theorem a0O{ns:List Nd}{k:Int}(h:BK ns k=false):false=BQ ns k:=by simp [BQ,h]
theorem NH{ns:List Nd}{k:Int}{x:Nd}(hx:ns[k.toNat]? =some x)(h:BK ns k=true):BQ ns k=GS ns k x:=by rw[BQ,h,Bo hx];rfl
theorem b0h{ns:List Nd}{k:Int}{x:Nd}(hx:ns[k.toNat]? =some x)(h:BK ns k=true)(h1:(x.kids.length:Int)>12):false=BQ ns k:=by
 rw[NH hx h,GS,decide_eq_false (by omega)];rfl
theorem b0i{ns:List Nd}{k:Int}{x:Nd}(hx:ns[k.toNat]? =some x)(h:BK ns k=true)(h1:Ev x.kind x.text=false):false=BQ ns k:=by
 rw[NH hx h,GS,h1];simp
theorem a0P{ns:List Nd}{k:Int}{x:Nd}(hx:ns[k.toNat]? =some x)(h:BK ns k=true)(h1:DT x.kids k=false):false=BQ ns k:=by
 rw[NH hx h,GS,h1];simp
theorem b0j{ns:List Nd}{k:Int}{x:Nd}(hx:ns[k.toNat]? =some x)(h:BK ns k=true)(h1:¬x.kids.Nodup):false=BQ ns k:=by
 rw[NH hx h,GS,decide_eq_false h1];simp
theorem a0Q{ns:List Nd}{k i:Int}{x:Nd}(hx:ns[k.toNat]? =some x)(h:BK ns k=true)(h1:(x.kids.length:Int)≤12)(h2:Ev x.kind x.text=true)(h3:nkI k x.kids i)(hl:¬i<x.kids.length):
 BQ ns k=(Ci x.kind ((x.kids.take i.toNat).map (AS ns))&&(EP ns x&&(HZ x.kind|| !x.blank))):=by
 obtain⟨ha,hb⟩:=Py h3 hl
 rw[List.take_of_length_le (by have:=h3.1;omega),NH hx h,GS,h2,ha,decide_eq_true hb,decide_eq_true (by omega)];simp
theorem VS{k:Int}{l:List Int}{i c n:Int}(h:nkI k l i)(hl:¬i<l.length)(hk:k<n)(hc:c∈l):0≤c∧c<n:=by
 have:=(Py h hl).1
 simp only[DT,List.all_eq_true,Bool.and_eq_true,decide_eq_true_eq] at this
 have:=this c hc;omega
theorem b0k{ns:List Nd}{l:List Int}{i c:Int}{y:Nd}(h0:0≤i)(hc:l[i.toNat]? =some c)(hy:ns[c.toNat]? =some y):(l.take i.toNat).map (AS ns)++[y.kind]=(l.take (i+1).toNat).map (AS ns):=by
 rw[Da h0,EM hc,List.map_append];simp [AS,Bo hy]
def RB(x:List Nd×Int):LS:= {
 ι:=Int,inv:=nkI x.2 (Aa x.1 x.2).kids,
 regs:=fun i=>[(0,nds x.1),(1,.int .i64 x.2),(5,.box 0 (ndA false (Aa x.1 x.2))),(6,Ad (((Aa x.1 x.2).kids.take i.toNat).map (AS x.1))),(28,Ag (Aa x.1 x.2).kids),(29,.int .i64 (Aa x.1 x.2).kids.length),(30,.int .i64 i)],als:=[],meas:=fun i=>(Aa x.1 x.2).kids.length-i.toNat}
def Eb:Sig:= {X:=List Nd×Int,args:=fun x=>[nds x.1,.int .i64 x.2],pre:=fun x=>BD x.1,Y:=Unit,post:=fun x y=>True,res:=fun x y=> .bool (BQ x.1 x.2),outs:=fun x y=>[.top,.top],keep:=false}
theorem b0l:Al G Tryz.prog 94 Eb:=
 vcFun_okP [(93,0,GX),(112,0,DL),(113,0,NG),(114,0,Jy),(115,0,Gu),(116,0,Ca),(117,0,Ig)] [(25,⟨Int,Bc⟩)] false (fun x=>[(8,RB x)]) Tryz.func94 rfl (by decide) ⟨VP,a9r,a9U,a0F,VO,a9R,b0e,trivial⟩ (fun(x:List Nd×Int)=>(∀(y:Unit),True→True∧True∧True∧True)∧cA GX [nds x.1,.int .i64 x.2] fun x_1 y=>Ab (!BK x_1.1 x_1.2) (rA Eb x [.bool false,.top,.top]) (((0:Int)≤x.2∧x.2<(↑(List.length x.1):Int))∧∀(e:Nd),x.1[Int.toNat x.2]? =some e→Ab (decide ((↑(List.length e.kids):Int)>(12:Int))) (rA Eb x [.bool false,.top,.top]) (cA DL [.agg [.int .i64 e.kind,.str e.text,Ag e.kids,.bool e.blank]] fun x_2 y=>Ab (!Ev x_2.kind x_2.text) (rA Eb x [.bool false,.top,.top]) (eA (RB x) [nds x.1,.int .i64 x.2,.box 0 [.int .i64 e.kind,.str e.text,Ag e.kids,.bool e.blank],.nil,Ag e.kids,.int .i64 (↑(List.length e.kids):Int),.int .i64 (0:Int)]∧∀(i:Int),nkI x.2 (Aa x.1 x.2).kids i→Ab (decide (i<(↑(List.length (Aa x.1 x.2).kids):Int))) (((0:Int)≤i∧i<(↑(List.length (Aa x.1 x.2).kids):Int))∧∀(e:Int),(Aa x.1 x.2).kids[Int.toNat i]? =some e→Ab (decide (e<(0:Int))) (rA Eb x [.bool false,.top,.top]) (Ab (decide (e≥x.2)) (rA Eb x [.bool false,.top,.top]) (((0:Int)≤(0:Int)∧(0:Int)≤i∧i≤(↑(List.length (Aa x.1 x.2).kids):Int))∧cA NG [Ag (List.take (Int.toNat i) (Aa x.1 x.2).kids),.int .i64 e] fun x_3 y=>Ab (List.elem x_3.2 x_3.1) (rA Eb x [.bool false,.top,.top]) (((0:Int)≤e∧e<(↑(List.length x.1):Int))∧∀(e_1:Nd),x.1[Int.toNat e]? =some e_1→∃(x_4:Int),e_1.kind=x_4∧∃(zs:List Int),Ad [x_4]=Ad zs∧Br Bc∧Ba (List.length (List.map (AS x.1) (List.take (Int.toNat i) (Aa x.1 x.2).kids))+List.length zs) (8:Nat)∧inR IntKind.i64 (i+(1:Int))∧eN (RB x) i [nds x.1,.int .i64 x.2,.box 0 [.int .i64 (Aa x.1 x.2).kind,.str (Aa x.1 x.2).text,Ag (Aa x.1 x.2).kids,.bool (Aa x.1 x.2).blank],Ad (List.map (AS x.1) (List.take (Int.toNat i) (Aa x.1 x.2).kids)++zs),Ag (Aa x.1 x.2).kids,.int .i64 (↑(List.length (Aa x.1 x.2).kids):Int),.int .i64 (i+(1:Int))])))) (cA Jy [.int .i64 (Aa x.1 x.2).kind] fun x_3 y=>Ab (Jv x_3) (cA Ca [.int .i64 (Aa x.1 x.2).kind,Ad (List.map (AS x.1) (List.take (Int.toNat i) (Aa x.1 x.2).kids))] fun x_4 y=>Ab (Ci x_4.1 x_4.2) (cA Ig [nds x.1,.agg [.int .i64 (Aa x.1 x.2).kind,.str (Aa x.1 x.2).text,Ag (Aa x.1 x.2).kids,.bool (Aa x.1 x.2).blank]] fun x_5 y=>Ab (EP x_5.1 x_5.2) (rA Eb x [.bool true,.top,.top]) (rA Eb x [.bool false,.top,.top])) (rA Eb x [.bool false,.top,.top])) (cA Gu [.int .i64 (Aa x.1 x.2).kind] fun x_4 y=>Ab (EN x_4) (cA Ca [.int .i64 (Aa x.1 x.2).kind,Ad (List.map (AS x.1) (List.take (Int.toNat i) (Aa x.1 x.2).kids))] fun x_5 y=>Ab (Ci x_5.1 x_5.2) (cA Ig [nds x.1,.agg [.int .i64 (Aa x.1 x.2).kind,.str (Aa x.1 x.2).text,Ag (Aa x.1 x.2).kids,.bool (Aa x.1 x.2).blank]] fun x_6 y=>Ab (EP x_6.1 x_6.2) (rA Eb x [.bool true,.top,.top]) (rA Eb x [.bool false,.top,.top])) (rA Eb x [.bool false,.top,.top])) (cA Ca [.int .i64 (Aa x.1 x.2).kind,Ad (List.map (AS x.1) (List.take (Int.toNat i) (Aa x.1 x.2).kids))] fun x_5 y=>Ab (Ci x_5.1 x_5.2) (cA Ig [nds x.1,.agg [.int .i64 (Aa x.1 x.2).kind,.str (Aa x.1 x.2).text,Ag (Aa x.1 x.2).kids,.bool (Aa x.1 x.2).blank]] fun x_6 y=>Ab (EP x_6.1 x_6.2) (Ab ((Aa x.1 x.2).kind==(21:Int)) (rA Eb x [.bool true,.top,.top]) (rA Eb x [.bool !(Aa x.1 x.2).blank,.top,.top])) (rA Eb x [.bool false,.top,.top])) (rA Eb x [.bool false,.top,.top])))))))) (fun x=>by kernel_rfl) fun(x:List Nd×Int) (hx:BD x.1)=>(by
 dsimp only[cA,eA,eN,Ag,RB,Bx,nds,Ad,rA,Ig,NG,Eb,Gu,GX,Jy,Ca,DL,Aw,Az,mvL,lnL,mvE,lnE,Bv]
 have h1:BD x.1:=hx;have hl:=h1.1
 (repeat' first|(with_reducible first|rfl|exact True.intro|apply AK|apply And.intro|((first|apply AA|apply AI|apply AB|apply AJ)<;>intro _))|(apply Ax<;>intro _)|apply AH|refine Af () ?_ ?_|((first|apply AO|apply AN|apply AM|apply AL|apply AG|apply AF|apply AE|apply AD|apply AC)<;>try dsimp only)|apply Af|(refine Prod.forall.2 ?_;intro _;try dsimp only)|(intro _;try dsimp only))
 all_goals try(simp only[Bo (show x.1[x.2.toNat]? =some _ by assumption)] at*)
 all_goals first
  |rfl
  |exact a0L
  |exact(h1.2 _ (BJ ‹_›)).1
  |exact(h1.2 _ (BJ ‹_›)).2
  |exact VQ ‹_› h1
  |exact(VS ‹_› ‹_› (BX.1 ‹BK _ _=true›).2 ‹_›).1
  |exact(VS ‹_› ‹_› (BX.1 ‹BK _ _=true›).2 ‹_›).2
  |exact a0O ‹_›
  |exact b0h ‹_› ‹_› ‹_›
  |exact b0i ‹_› ‹_› ‹_›
  |exact a0P ‹_› ‹_› (b0f ‹_› ‹_›)
  |exact a0P ‹_› ‹_› (b0g ‹_› ‹_›)
  |exact b0j ‹_› ‹_› (a0N ‹_› ‹_›)
  |exact a0M ‹_› ‹_› ‹_› ‹_› ‹_›
  |exact b0k (‹nkI _ _ _›.1) ‹_› ‹_›
  |(refine Eq.trans ?_ (a0Q (show x.1[x.2.toNat]? =some _ by assumption) ‹_› (by omega) ‹_› ‹_› ‹_›).symm;simp [-List.map_take,HZ,Gq, *];done)
  |omega
  |(have:=BX.1 ‹BK _ _=true›;omega)
  |(have:=BX.1 ‹BK _ _=true›;obtain⟨_,_,_⟩:= ‹nkI _ _ _›;(try simp only[AQ,Ba,List.length_take,List.length_map,List.length_append,List.length_cons,List.length_nil] at*);omega)
  |(refine Eq.trans ?_ (a0Q (show x.1[x.2.toNat]? =some _ by assumption) ‹_› (by omega) ‹_› ‹_› ‹_›).symm;rw[‹Ci _ _=true›,‹EP _ _=true›];simp [HZ, *]))
def dl(k i:Int)(ds:List Int):List Int:=ds++List.replicate (k+1-i).toNat 0
def dI(ns:List Nd)(k i:Int)(ds:List Int):Prop:=BK ns k=true∧0≤i∧i≤k+1∧CJ ns i.toNat=some ds
def dJ(ns:List Nd)(k i:Int)(ds:List Int)(j d:Int):Prop:=dI ns k i ds∧i≤k∧BQ ns i=true∧0≤j∧j≤(Aa ns i).kids.length∧0≤d∧d≤14∧mx ds ((Aa ns i).kids.drop j.toNat) d=mx ds (Aa ns i).kids 0
theorem b0m{ns:List Nd}{k:Int}(h:BK ns k=true):dI ns k 0 []:=⟨h,by omega,by have:=BX.1 h;omega,rfl⟩
theorem b0n{k:Int}:List.replicate (k+1).toNat 0=dl k 0 []:=by simp [dl]
theorem a0R{ns:List Nd}{k i:Int}{ds:List Int}(h:dI ns k i ds):((dl k i ds).length:Int)=k+1:=by
 obtain⟨h0,h1,h2,h3⟩:=h
 have:=Jw h3
 rw[dl,List.length_append,List.length_replicate];omega
theorem b0o{ns:List Nd}{k i:Int}{ds:List Int}(h:dI ns k i ds)(hl:i<k+1)(hn:BQ ns i=false):0=Bz ns k:=by
 obtain⟨h0,h1,h2,h3⟩:=h
 have:CJ ns (i.toNat+1)=none:=by
  unfold CJ;rw[h3];simp only
  rw[show((i.toNat:Nat):Int)=i by omega,hn];rfl
 unfold Bz;rw[if_pos h0,a0d this (by omega)]
theorem b0p{ns:List Nd}{k i:Int}{ds:List Int}(h:dI ns k i ds)(hl:i<k+1)(hn:BQ ns i=true):dJ ns k i ds 0 0:=
 ⟨h,by omega,hn,by omega,by omega,by omega,by omega,by simp⟩
theorem a0S{ns:List Nd}{k i:Int}{ds:List Int}{j d c:Int}(h:dJ ns k i ds j d)(hc:(Aa ns i).kids[j.toNat]? =some c):0≤c∧c<i:=by
 exact(DZ h.2.2.1).2.2.2.1 c (BJ hc)
theorem VT{ns:List Nd}{k i:Int}{ds:List Int}{j d c:Int}(h:dJ ns k i ds j d)(hc:(Aa ns i).kids[j.toNat]? =some c):0≤c∧c<(dl k i ds).length:=by
 have:=a0S h hc;have:=a0R h.1;have:=h.1.2.2;omega
theorem b0q{ns:List Nd}{k i:Int}{ds:List Int}{j d c v:Int}(h:dJ ns k i ds j d)(hc:(Aa ns i).kids[j.toNat]? =some c)(hv:(dl k i ds)[c.toNat]? =some v):ds.getD c.toNat 0=v∧1≤v∧v≤14:=by
 have h1:=a0S h hc
 have h2:=Jw h.1.2.2.2
 rw[dl,List.getElem?_append_left (by omega)] at hv
 refine⟨by simp [List.getD,hv],?_⟩
 exact Pv h.1.2.2.2 v (BJ hv)
theorem b0r{ns:List Nd}{k i:Int}{ds:List Int}{j d c v:Int}(h:dJ ns k i ds j d)(hc:(Aa ns i).kids[j.toNat]? =some c)(hv:(dl k i ds)[c.toNat]? =some v):dJ ns k i ds (j+1) (max d v):=by
 obtain⟨hv1,hv2,hv3⟩:=b0q h hc hv
 obtain⟨h1,h2,h3,h4,h5,h6,h7,h8⟩:=h
 have:=(DW hc).1
 refine⟨h1,h2,h3,by omega,by omega,by omega,by omega,?_⟩
 rw[←h8,HA hc,Da h4];simp only[mx,hv1]
theorem a0T{ns:List Nd}{k i:Int}{ds:List Int}{j d:Int}(h:dJ ns k i ds j d)(hl:¬j<(Aa ns i).kids.length):d=mx ds (Aa ns i).kids 0:=by
 obtain⟨h1,h2,h3,h4,h5,h6,h7,h8⟩:=h
 rw[List.drop_eq_nil_of_le (by omega)] at h8;exact h8
theorem b0s{ns:List Nd}{k i:Int}{ds:List Int}{j d:Int}(h:dJ ns k i ds j d)(hl:¬j<(Aa ns i).kids.length)(hd:d≥14):0=Bz ns k:=by
 have hm:=a0T h hl
 obtain⟨⟨ha,hb,he,hf⟩,h2,h3,_⟩:=h
 have e:((i.toNat:Nat):Int)=i:=by omega
 have:CJ ns (i.toNat+1)=none:=by
  unfold CJ;rw[hf];simp only
  rw[e,h3,if_pos rfl,if_pos (by omega)]
 unfold Bz;rw[if_pos ha,a0d this (by omega)]
theorem b0t{ns:List Nd}{k i:Int}{ds:List Int}{j d:Int}(h:dJ ns k i ds j d)(hl:¬j<(Aa ns i).kids.length)(hd:¬d≥14):dI ns k (i+1) (ds++[d+1]):=by
 have hm:=a0T h hl
 obtain⟨⟨ha,hb,he,hf⟩,h2,h3,_⟩:=h
 have e:((i.toNat:Nat):Int)=i:=by omega
 refine⟨ha,by omega,by omega,?_⟩
 rw[Da hb];unfold CJ;rw[hf];simp only
 rw[e,h3,if_pos rfl,if_neg (by omega),←hm]
theorem b0u{ns:List Nd}{k i:Int}{ds:List Int}{j d:Int}(h:dJ ns k i ds j d):(dl k i ds).set i.toNat (d+1)=dl k (i+1) (ds++[d+1]):=by
 obtain⟨⟨ha,hb,he,hf⟩,h2,h3,_⟩:=h
 have hl:=Jw hf
 have e:(k+1-i).toNat=(k+1-(i+1)).toNat+1:=by omega
 unfold dl;rw[List.set_append_right _ _ (by omega),e,hl];simp [List.replicate_succ]
theorem b0v{ns:List Nd}{k i v:Int}{ds:List Int}(h:dI ns k i ds)(hl:¬i<k+1)(hv:(dl k i ds)[k.toNat]? =some v):v=Bz ns k:=by
 obtain⟨h0,h1,h2,h3⟩:=h
 obtain rfl:i=k+1:=by omega
 have:=BX.1 h0
 rw[show(k+1).toNat=k.toNat+1 by omega] at h3
 unfold Bz;rw[if_pos h0,h3]
 simp [dl] at hv
 simp [List.getD,hv]
theorem a0U{ns:List Nd}{k:Int}(h:BK ns k=false):0=Bz ns k:=by simp [Bz,h]
theorem b0w{ns:List Nd}{k i:Int}{ds:List Int}{j d:Int}(h:dJ ns k i ds j d):((Aa ns i).kids.length:Int)≤12:=by
 have:=(DZ h.2.2.1).2.1;omega
def RC(x:List Nd×Int)(o:Int×List Int):LS:= {
 ι:=Int×Int,inv:=fun i=>dJ x.1 x.2 o.1 o.2 i.1 i.2,
 regs:=fun i=>[(0,nds x.1),(1,.int .i64 x.2),(5,Ad (dl x.2 o.1 o.2)),(18,.int .i64 (x.2+1)),(19,.int .i64 o.1),(6,.int .i64 o.1),(7,.int .i64 i.2),(30,Ag (Aa x.1 o.1).kids),(31,.int .i64 (Aa x.1 o.1).kids.length),(32,.int .i64 i.1)],als:=[],meas:=fun i=>(Aa x.1 o.1).kids.length-i.1.toNat}
def RD(x:List Nd×Int):LS:= {
 ι:=Int×List Int,inv:=fun i=>dI x.1 x.2 i.1 i.2,
 regs:=fun i=>[(0,nds x.1),(1,.int .i64 x.2),(5,Ad (dl x.2 i.1 i.2)),(18,.int .i64 (x.2+1)),(19,.int .i64 i.1)],als:=[],meas:=fun i=>x.2.toNat+1-i.1.toNat,
 sub:=fun i=>[(11,RC x i)]}
def Jz:Sig:= {X:=List Nd×Int,args:=fun x=>[nds x.1,.int .i64 x.2],pre:=fun x=>BD x.1∧x.1.length≤2^30,Y:=Unit,post:=fun x y=>True,res:=fun x y=> .int .i64 (Bz x.1 x.2),outs:=fun x y=>[.top,.top],keep:=false}
theorem b0x:Al G Tryz.prog 67 Jz:=
 vcFun_okP [(93,0,GX),(94,0,Eb)] [(25,⟨Int,Bc⟩)] false (fun x=>[(5,RD x)]) Tryz.func67 rfl (by decide) ⟨VP,b0l,trivial⟩ (fun(x:List Nd×Int)=>(∀(y:Unit),True→True∧True∧True∧True)∧cA GX [nds x.1,.int .i64 x.2] fun x_1 y=>Ab (!BK x_1.1 x_1.2) (rA Jz x [.int .i64 (0:Int),.top,.top]) (inR IntKind.i64 (x.2+(1:Int))∧((0:Int)≤x.2+(1:Int)∧x.2+(1:Int)≤x.2+(1:Int)∧(↑(8:Nat):Int)*(x.2+(1:Int))≤(2:Int)^(46:Nat)∧x.2+(1:Int)≤(2:Int)^(46:Nat))∧∃(x_2:Int),(0:Int)=x_2∧eA (RD x) [nds x.1,.int .i64 x.2,Ad (List.replicate (Int.toNat (x.2+(1:Int))) x_2),.int .i64 (↑(List.length (List.replicate (Int.toNat (x.2+(1:Int))) x_2)):Int),.int .i64 (0:Int)]∧∀(i:Int×List Int),dI x.1 x.2 i.1 i.2→Ab (decide (i.1<x.2+(1:Int))) (cA Eb [nds x.1,.int .i64 i.1] fun x_3 y=>Ab (!BQ x_3.1 x_3.2) (rA Jz x [.int .i64 (0:Int),.top,.top]) (((0:Int)≤i.1∧i.1<(↑(List.length x.1):Int))∧∀(e:Nd),x.1[Int.toNat i.1]? =some e→eA (RC x i) [nds x.1,.int .i64 x.2,Ad (dl x.2 i.1 i.2),.int .i64 (x.2+(1:Int)),.int .i64 i.1,.int .i64 i.1,.int .i64 (0:Int),Ag e.kids,.int .i64 (↑(List.length e.kids):Int),.int .i64 (0:Int)]∧∀(i_1:Int×Int),dJ x.1 x.2 i.1 i.2 i_1.1 i_1.2→Ab (decide (i_1.1<(↑(List.length (Aa x.1 i.1).kids):Int))) (((0:Int)≤i_1.1∧i_1.1<(↑(List.length (Aa x.1 i.1).kids):Int))∧∀(e:Int),(Aa x.1 i.1).kids[Int.toNat i_1.1]? =some e→((0:Int)≤e∧e<(↑(List.length (dl x.2 i.1 i.2)):Int))∧Int.toNat e<List.length (dl x.2 i.1 i.2)∧∀(x_4:Int),(dl x.2 i.1 i.2)[Int.toNat e]? =some x_4→inR IntKind.i64 (i_1.1+(1:Int))∧eN (RC x i) i_1 [nds x.1,.int .i64 x.2,Ad (dl x.2 i.1 i.2),.int .i64 (x.2+(1:Int)),.int .i64 i.1,.int .i64 i.1,.int .i64 (max i_1.2 x_4),Ag (Aa x.1 i.1).kids,.int .i64 (↑(List.length (Aa x.1 i.1).kids):Int),.int .i64 (i_1.1+(1:Int))]) (Ab (decide (i_1.2≥(14:Int))) (rA Jz x [.int .i64 (0:Int),.top,.top]) (inR IntKind.i64 (i_1.2+(1:Int))∧((0:Int)≤i.1∧i.1<(↑(List.length (dl x.2 i.1 i.2)):Int))∧Int.toNat i.1<List.length (dl x.2 i.1 i.2)∧∀(x_4:Int),(dl x.2 i.1 i.2)[Int.toNat i.1]? =some x_4→∃(x':Int),((@List.nil AV)=[]∧(@List.nil AV)=[])∧i_1.2+(1:Int)=x'∧inR IntKind.i64 (i.1+(1:Int))∧eN (RD x) i [nds x.1,.int .i64 x.2,Ad (List.set (dl x.2 i.1 i.2) (Int.toNat i.1) x'),.int .i64 (x.2+(1:Int)),.int .i64 (i.1+(1:Int))])))) (((0:Int)≤x.2∧x.2<(↑(List.length (dl x.2 i.1 i.2)):Int))∧Int.toNat x.2<List.length (dl x.2 i.1 i.2)∧∀(x_3:Int),(dl x.2 i.1 i.2)[Int.toNat x.2]? =some x_3→rA Jz x [.int .i64 x_3,.top,.top]))) (fun x=>by kernel_rfl) fun(x:List Nd×Int) (hx:BD x.1∧x.1.length≤2^30)=>(by
 dsimp only[cA,eA,eN,Ag,RD,RC,Bx,nds,Ad,rA,Jz,Eb,GX,Aw,Az,mvL,lnL,mvE,lnE,Bv]
 obtain⟨h1,h2⟩:=hx;have hl:=h1.1
 (repeat' first|(with_reducible first|rfl|exact True.intro|apply AK|apply And.intro|((first|apply AA|apply AI|apply AB|apply AJ)<;>intro _))|(apply Ax<;>intro _)|apply AH|refine Af () ?_ ?_|((first|apply AO|apply AN|apply AM|apply AL|apply AG|apply AF|apply AE|apply AD|apply AC)<;>try dsimp only)|apply Af|(refine Prod.forall.2 ?_;intro _;try dsimp only)|(intro _;try dsimp only))
 all_goals try(have nd0:=BX.1 (show BK x.1 x.2=true by assumption))
 all_goals first
  |rfl
  |exact a0U ‹_›
  |exact b0m ‹_›
  |exact b0n
  |exact b0o ‹_› ‹_› ‹_›
  |exact b0p ‹_› ‹_› ‹_›
  |exact(VT ‹_› ‹_›).1
  |exact(VT ‹_› ‹_›).2
  |exact b0r ‹_› ‹_› ‹_›
  |exact b0s ‹_› ‹_› ‹_›
  |exact b0t ‹_› ‹_› ‹_›
  |exact b0u ‹_›
  |exact b0v ‹_› ‹_› ‹_›
  |(rw[Bo ‹_›];done)
  |(rw[List.length_replicate];omega)
  |(have:=b0w ‹_›;obtain⟨⟨_,_,_,_⟩,_,_,_,_,_,_,_⟩:= ‹dJ _ _ _ _ _ _›;(try simp only[AQ,Ba] at*);omega)
  |(have:=a0R ‹_›;obtain⟨_,_,_,_⟩:= ‹dI _ _ _ _›;(try simp only[AQ,Ba] at*);omega)
  |(have:=VT ‹_› ‹_›;omega)
  |((try simp only[AQ,Ba] at*);omega)
  |skip)
def cnt(n:Nat)(l:List Int):List Int:=(List.range n).map fun(c:Nat)=>(l.count (c:Int):Int)
theorem GY{n:Nat}{l:List Int}:(cnt n l).length=n:=by simp [cnt]
theorem LT{n:Nat}{l:List Int}{c:Nat}(h:c<n):(cnt n l)[c]? =some (l.count (c:Int):Int):=by
 simp [cnt,List.getElem?_map,List.getElem?_range,h]
theorem a0V{n:Nat}:List.replicate n 0=cnt n []:=by
 apply List.ext_getElem?
 intro c
 by_cases h:c<n
 ·rw[LT h];simp [h]
 ·rw[List.getElem?_eq_none (by simp;omega),List.getElem?_eq_none (by simp [cnt];omega)]
theorem a0W{n:Nat}{l:List Int}{c v:Int}(h0:0≤c)(h1:c<n)(hv:(cnt n l)[c.toNat]? =some v):(cnt n l).set c.toNat (v+1)=cnt n (l++[c]):=by
 apply List.ext_getElem?
 intro d
 rw[List.getElem?_set]
 by_cases hd:d<n
 ·rw[LT hd,LT hd,List.count_append]
  rw[LT (by omega)] at hv
  by_cases e:c.toNat=d
  ·subst e
   rw[if_pos rfl,if_pos (by rw[GY];omega)]
   have e2:((c.toNat:Nat):Int)=c:=by omega
   rw[e2] at hv ⊢
   simp at hv ⊢;omega
  ·rw[if_neg e]
   have:¬c=(d:Int):=by omega
   simp [List.count_cons,this]
 ·rw[if_neg (by omega),List.getElem?_eq_none (by rw[GY];omega),List.getElem?_eq_none (by rw[GY];omega)]
def tk(ns:List Nd)(i j:Int):List Int:=BW (ns.take i.toNat)++(Aa ns i).kids.take j.toNat
def tI(ns:List Nd):Prop:=1≤ns.length∧ns.length≤300∧AS ns (ns.length-1)=22∧Bz ns (ns.length-1)≠0
theorem b0y{ns:List Nd}{n:Nat}{y:Nd}(h:tI ns)(hy:ns[n]? =some y):BQ ns n=true:=by
 exact(Nt h.2.2.2).2.2 n (by have:=(DW hy).1;omega)
theorem Pz{ns:List Nd}{n:Nat}{y:Nd}(h:tI ns)(hy:ns[n]? =some y):y.kids.length≤12∧∀c∈y.kids,0≤c∧c<ns.length:=by
 obtain⟨h1,h2,h3,h4,h5⟩:=DZ (b0y h hy)
 rw[Bo (by simpa using hy)] at h2 h4
 exact⟨h2,fun c hc=>by have:=h4 c hc;omega⟩
theorem b0z{l:List Nd}(h:∀y∈l,y.kids.length≤12):(BW l).length≤12*l.length:=by
 induction l with
 |nil=>simp [BW]
 |cons y l ih=>
  have h1:=h y (by simp)
  have h2:=ih fun z hz=>h z (by simp [hz])
  simp only[BW,List.flatMap_cons,List.length_append,List.length_cons] at h2 ⊢;omega
theorem b0A{ns:List Nd}{i j:Int}(h:tI ns):(BW (ns.take i.toNat)).length≤3600:=by
 have h1:∀y∈ns.take i.toNat,y.kids.length≤12:=by
  intro y hy
  obtain⟨n,hn⟩:=List.mem_iff_getElem?.1 (List.mem_of_mem_take hy)
  exact(Pz h hn).1
 have:=b0z h1
 have h2:(ns.take i.toNat).length≤300:=by have:=h.2.1;simp;omega
 omega
theorem b0B{n:Nat}{l:List Int}{c:Nat}{v:Int}(hv:(cnt n l)[c]? =some v):0≤v∧v≤l.length:=by
 have h:c<n:=by have:=(DW hv).1;rwa [GY] at this
 rw[LT h] at hv;cases hv
 have:=List.count_le_length (a:=(c:Int)) (l:=l)
 omega
theorem a0X{ns:List Nd}{i:Int}:tk ns i 0=BW (ns.take i.toNat):=by simp [tk]
theorem a0Y{ns:List Nd}{i j c:Int}(h0:0≤j)(hc:(Aa ns i).kids[j.toNat]? =some c):tk ns i (j+1)=tk ns i j++[c]:=by
 rw[tk,Da h0,EM hc,tk,List.append_assoc]
theorem a0Z{ns:List Nd}{i j:Int}{y:Nd}(h0:0≤i)(hy:ns[i.toNat]? =some y)(hl:¬j<(Aa ns i).kids.length):tk ns i j=BW (ns.take (i+1).toNat):=by
 rw[tk,List.take_of_length_le (l:=(Aa ns i).kids) (by omega),Da h0,EM hy,Bo hy];simp [BW]
def tE(ns:List Nd)(i:Int):Prop:=0≤i∧i≤ns.length-1∧∀c:Nat,(c:Int)<i→(BW ns).count (c:Int)=1
theorem a1a{ns:List Nd}{i v:Int}(hv:(((cnt ns.length (BW ns)).take (ns.length-1:Int).toNat)[i.toNat]?)=some v)(h0:0≤i)(hl:i<(ns.length-1:Int)):((BW ns).count i:Int)=v:=by
 rw[List.getElem?_take_of_lt (by omega),LT (by omega)] at hv
 have e2:((i.toNat:Nat):Int)=i:=by omega
 rw[e2] at hv;exact Option.some.inj hv
theorem a1b{ns:List Nd}{i:Int}(h:tI ns)(he:tE ns i)(hl:¬i<(ns.length-1:Int)):true=BB ns:=by
 symm;unfold BB
 have h1:decide (1≤ns.length)=true:=decide_eq_true h.1
 have h2:decide (ns.length≤300)=true:=decide_eq_true h.2.1
 have h3:decide (AS ns (ns.length-1)=22)=true:=decide_eq_true h.2.2.1
 have h4:decide (Bz ns (ns.length-1)=0)=false:=decide_eq_false h.2.2.2
 rw[h1,h2,h3,h4]
 simp only[Bool.and_true,Bool.not_false,Bool.true_and,List.all_eq_true,decide_eq_true_eq,List.mem_range]
 exact fun c hc=>he.2.2 c (by omega)
theorem a1c{ns:List Nd}{i v:Int}(hv:(BW ns).count i=v)(h0:0≤i)(hl:i<(ns.length-1:Int))(hne:v≠1):false=BB ns:=by
 symm;rw[Bool.eq_false_iff];intro h
 unfold BB at h
 simp only[Bool.and_eq_true,List.all_eq_true,decide_eq_true_eq,List.mem_range] at h
 have:=h.2.2.2 i.toNat (by omega)
 have e2:((i.toNat:Nat):Int)=i:=by omega
 rw[e2] at this;omega
theorem NI{ns:List Nd}(h:¬tI ns):false=BB ns:=by
 symm;rw[Bool.eq_false_iff];intro hh
 unfold BB at hh
 simp only[Bool.and_eq_true,decide_eq_true_eq,Bool.not_eq_true',decide_eq_false_iff_not] at hh
 exact h ⟨hh.1.1,hh.1.2,hh.2.1,hh.2.2.1⟩
theorem PA{ns:List Nd}{i j c:Int}{y:Nd}(h:tI ns)(hc:(Aa ns i).kids[j.toNat]? =some c)(hy:ns[i.toNat]? =some y):0≤c∧c<ns.length:=by
 rw[Bo hy] at hc;exact(Pz h hy).2 c (BJ hc)
theorem a1d{ns:List Nd}{i:Int}{y:Nd}(h:tI ns)(hy:ns[i.toNat]? =some y):(Aa ns i).kids.length≤12:=by
 rw[Bo hy];exact(Pz h hy).1
theorem b0C{ns:List Nd}{i j:Int}{y:Nd}(h:tI ns)(hy:ns[i.toNat]? =some y):(tk ns i j).length≤3612:=by
 have h1:= @b0A ns i j h;have h2:=a1d h hy
 rw[tk,List.length_append,List.length_take];omega
theorem a1e{ns:List Nd}{i j v:Int}{c:Nat}{y:Nd}(h:tI ns)(hv:(cnt ns.length (tk ns i j))[c]? =some v)(hy:ns[i.toNat]? =some y):0≤v∧v≤3612:=by
 have h1:=b0B hv;have h2:= @b0C ns i j y h hy;omega
theorem Ih{x a b:Int}:inn x a b=true↔a≤x∧x≤b:=by simp [inn]
theorem a1f{ns:List Nd}{y:Nd}(h:inn ns.length 1 300=true)(hy:ns[(ns.length-1:Int).toNat]? =some y)(hk:y.kind=22)(hd:Bz ns (ns.length-1)≠0):tI ns:=by
 have:=Ih.1 h
 exact⟨by omega,by omega,by rw[AS,Bo hy,hk],hd⟩
theorem a1g{ns:List Nd}(h:inn ns.length 1 300=false):¬tI ns:=by
 intro hh;have:inn ns.length 1 300=true:=Ih.2 ⟨by have:=hh.1;omega,by have:=hh.2.1;omega⟩
 rw[h] at this;cases this
theorem a1h{ns:List Nd}{y:Nd}(hy:ns[(ns.length-1:Int).toNat]? =some y)(hk:y.kind≠22):¬tI ns:=by
 intro hh;have:=hh.2.2.1;rw[AS,Bo hy] at this;exact hk this
theorem a1i{ns:List Nd}{i:Int}(hl:¬i<ns.length):BW (ns.take i.toNat)=BW ns:=by rw[List.take_of_length_le (by omega)]
theorem b0D{ns:List Nd}{i v:Int}(h:tE ns i)(hl:i<(ns.length-1:Int))(hv:(((cnt ns.length (BW ns)).take (ns.length-1:Int).toNat)[i.toNat]?)=some v)(h1:v=1):tE ns (i+1):=by
 have:=a1a hv h.1 hl
 refine⟨by have:=h.1;omega,by omega,fun c hc=> ?_⟩
 by_cases e:(c:Int)<i
 ·exact h.2.2 c e
 ·have:=h.1
  obtain rfl:i=(c:Int):=by omega
  omega
def RE(x:List Nd)(o:Int):LS:= {
 ι:=Int,inv:=fun j=>0≤j∧j≤(Aa x o).kids.length,
 regs:=fun j=>[(0,nds x),(3,.int .i64 x.length),(4,Ad (cnt x.length (tk x o j))),(34,nds x),(35,.int .i64 x.length),(36,.int .i64 o),(41,Ag (Aa x o).kids),(42,.int .i64 (Aa x o).kids.length),(43,.int .i64 j)],als:=[],meas:=fun j=>(Aa x o).kids.length-j.toNat}
def RF(x:List Nd):LS:= {
 ι:=Int,inv:=fun i=>0≤i∧i≤x.length,
 regs:=fun i=>[(0,nds x),(3,.int .i64 x.length),(4,Ad (cnt x.length (BW (x.take i.toNat)))),(34,nds x),(35,.int .i64 x.length),(36,.int .i64 i)],als:=[],meas:=fun i=>x.length-i.toNat,
 sub:=fun i=>[(9,RE x i)]}
def RG(x:List Nd):LS:= {
 ι:=Int,inv:=tE x,
 regs:=fun i=>[(58,Ad ((cnt x.length (BW x)).take (x.length-1:Int).toNat)),(59,.int .i64 (x.length-1)),(60,.int .i64 i)],als:=[],meas:=fun i=>x.length-1-i.toNat}
def GZ:Sig:= {X:=List Nd,args:=fun x=>[nds x],pre:=fun x=>BD x∧x.length≤2^30,Y:=Unit,post:=fun x y=>True,res:=fun x y=> .bool (BB x),outs:=fun x y=>[.top],keep:=false}
theorem a1j:Al G Tryz.prog 37 GZ:=
 vcFun_okP [(66,0,DE),(67,0,Jz)] [(25,⟨Int,Bc⟩)] false (fun x=>[(6,RF x),(15,RG x)]) Tryz.func37 rfl (by decide) ⟨Nz,b0x,trivial⟩ (fun(x:List Nd)=>(∀(y:Unit),True→True∧True∧True)∧cA DE [.int .i64 (↑(List.length x):Int),.int .i64 (1:Int),.int .i64 (300:Int)] fun x_1 y=>Ab (!inn x_1.1 x_1.2.1 x_1.2.2) (rA GZ x [.bool false,.top]) (inR IntKind.i64 ((↑(List.length x):Int)-(1:Int))∧((0:Int)≤(↑(List.length x):Int)-(1:Int)∧(↑(List.length x):Int)-(1:Int)<(↑(List.length x):Int))∧∀(e:Nd),x[Int.toNat ((↑(List.length x):Int)-(1:Int))]? =some e→Ab (e.kind != (22:Int)) (rA GZ x [.bool false,.top]) (inR IntKind.i64 ((↑(List.length x):Int)-(1:Int))∧cA Jz [nds x,.int .i64 ((↑(List.length x):Int)-(1:Int))] fun x_2 y=>Ab (Bz x_2.1 x_2.2==(0:Int)) (rA GZ x [.bool false,.top]) (((0:Int)≤(↑(List.length x):Int)∧(↑(List.length x):Int)≤(↑(List.length x):Int)∧(↑(8:Nat):Int)*(↑(List.length x):Int)≤(2:Int)^(46:Nat)∧(↑(List.length x):Int)≤(2:Int)^(46:Nat))∧∃(x_3:Int),(0:Int)=x_3∧eA (RF x) [nds x,.int .i64 (↑(List.length x):Int),Ad (List.replicate (Int.toNat (↑(List.length x):Int)) x_3),nds x,.int .i64 (↑(List.length x):Int),.int .i64 (0:Int)]∧∀(i:Int),(0:Int)≤i∧i≤(↑(List.length x):Int)→Ab (decide (i<(↑(List.length x):Int))) (((0:Int)≤i∧i<(↑(List.length x):Int))∧∀(e:Nd),x[Int.toNat i]? =some e→eA (RE x i) [nds x,.int .i64 (↑(List.length x):Int),Ad (cnt (List.length x) (BW (List.take (Int.toNat i) x))),nds x,.int .i64 (↑(List.length x):Int),.int .i64 i,Ag e.kids,.int .i64 (↑(List.length e.kids):Int),.int .i64 (0:Int)]∧∀(i_1:Int),(0:Int)≤i_1∧i_1≤(↑(List.length (Aa x i).kids):Int)→Ab (decide (i_1<(↑(List.length (Aa x i).kids):Int))) (((0:Int)≤i_1∧i_1<(↑(List.length (Aa x i).kids):Int))∧∀(e:Int),(Aa x i).kids[Int.toNat i_1]? =some e→((0:Int)≤e∧e<(↑(List.length (cnt (List.length x) (tk x i i_1))):Int))∧Int.toNat e<List.length (cnt (List.length x) (tk x i i_1))∧∀(x_4:Int),(cnt (List.length x) (tk x i i_1))[Int.toNat e]? =some x_4→inR IntKind.i64 (x_4+(1:Int))∧((0:Int)≤e∧e<(↑(List.length (cnt (List.length x) (tk x i i_1))):Int))∧Int.toNat e<List.length (cnt (List.length x) (tk x i i_1))∧∀(x_5:Int),(cnt (List.length x) (tk x i i_1))[Int.toNat e]? =some x_5→∃(x':Int),((@List.nil AV)=[]∧(@List.nil AV)=[])∧x_4+(1:Int)=x'∧inR IntKind.i64 (i_1+(1:Int))∧eN (RE x i) i_1 [nds x,.int .i64 (↑(List.length x):Int),Ad (List.set (cnt (List.length x) (tk x i i_1)) (Int.toNat e) x'),nds x,.int .i64 (↑(List.length x):Int),.int .i64 i,Ag (Aa x i).kids,.int .i64 (↑(List.length (Aa x i).kids):Int),.int .i64 (i_1+(1:Int))]) (inR IntKind.i64 (i+(1:Int))∧eN (RF x) i [nds x,.int .i64 (↑(List.length x):Int),Ad (cnt (List.length x) (tk x i i_1)),nds x,.int .i64 (↑(List.length x):Int),.int .i64 (i+(1:Int))])) (inR IntKind.i64 ((↑(List.length x):Int)-(1:Int))∧((0:Int)≤(0:Int)∧(0:Int)≤(↑(List.length x):Int)-(1:Int)∧(↑(List.length x):Int)-(1:Int)≤(↑(List.length (cnt (List.length x) (BW (List.take (Int.toNat i) x)))):Int))∧eA (RG x) [Ad (List.take (Int.toNat ((↑(List.length x):Int)-(1:Int))) (cnt (List.length x) (BW (List.take (Int.toNat i) x)))),.int .i64 (↑(List.length (List.take (Int.toNat ((↑(List.length x):Int)-(1:Int))) (cnt (List.length x) (BW (List.take (Int.toNat i) x))))):Int),.int .i64 (0:Int)]∧∀(i:Int),tE x i→Ab (decide (i<(↑(List.length x):Int)-(1:Int))) (((0:Int)≤i∧i<(↑(List.length (List.take (Int.toNat ((↑(List.length x):Int)-(1:Int))) (cnt (List.length x) (BW x)))):Int))∧Int.toNat i<List.length (List.take (Int.toNat ((↑(List.length x):Int)-(1:Int))) (cnt (List.length x) (BW x)))∧∀(x_4:Int),(List.take (Int.toNat ((↑(List.length x):Int)-(1:Int))) (cnt (List.length x) (BW x)))[Int.toNat i]? =some x_4→Ab (x_4 != (1:Int)) (rA GZ x [.bool false,.top]) (inR IntKind.i64 (i+(1:Int))∧eN (RG x) i [Ad (List.take (Int.toNat ((↑(List.length x):Int)-(1:Int))) (cnt (List.length x) (BW x))),.int .i64 ((↑(List.length x):Int)-(1:Int)),.int .i64 (i+(1:Int))])) (rA GZ x [.bool true,.top])))))) (fun x=>by kernel_rfl) fun(x:List Nd) (hx:BD x∧x.length≤2^30)=>(by
 dsimp only[cA,eA,eN,Ag,RF,RE,RG,Bx,nds,Ad,rA,Jz,GZ,DE,Aw,Az,mvL,lnL,mvE,lnE,Bv]
 obtain⟨h1,h2⟩:=hx;have hl:=h1.1
 (repeat' first|(with_reducible first|rfl|exact True.intro|apply AK|apply And.intro|((first|apply AA|apply AI|apply AB|apply AJ)<;>intro _))|(apply Ax<;>intro _)|apply AH|refine Af () ?_ ?_|((first|apply AO|apply AN|apply AM|apply AL|apply AG|apply AF|apply AE|apply AD|apply AC)<;>try dsimp only)|apply Af|(refine Prod.forall.2 ?_;intro _;try dsimp only)|(intro _;try dsimp only))
 all_goals try(have t1:=Ih.1 (show inn x.length 1 300=true by assumption))
 all_goals try(have t0:=a1f ‹_› ‹_› ‹_› ‹_›)
 all_goals first
  |rfl
  |exact NI (a1g ‹_›)
  |exact NI (a1h ‹_› ‹_›)
  |exact NI (fun h=>h.2.2.2 ‹_›)
  |exact a0V
  |(rw[a0X];done)
  |(rw[Bo ‹_›];done)
  |exact(PA ‹_› ‹_› ‹_›).1
  |(rw[GY];exact(PA ‹_› ‹_› ‹_›).2)
  |(have:=PA ‹_› (show(Aa x _).kids[_]? =some _ by assumption) ‹_›;rw[GY];omega)
  |(rw[a0Y (by omega) ‹_›];exact a0W (PA ‹_› ‹_› ‹_›).1 (PA ‹_› ‹_› ‹_›).2 ‹_›)
  |(rw[a0Z (by omega) ‹_› ‹_›];done)
  |(rw[a1i ‹_›];done)
  |(have:=a1e ‹_› ‹_› ‹_›;omega)
  |(have:=a1d ‹_› ‹_›;(try simp only[AQ] at*);omega)
  |exact a1b ‹_› ‹_› ‹_›
  |exact a1c (a1a ‹_› (‹tE _ _›.1) ‹_›) (‹tE _ _›.1) ‹_› ‹_›
  |exact b0D ‹_› ‹_› ‹_› ‹_›
  |exact⟨by omega,by omega,fun c hc=>by omega⟩
  |(rw[List.length_take,GY];omega)
  |((try simp only[AQ,Ba,List.length_replicate,GY] at*);omega)
  |(obtain⟨_,_,_⟩:= ‹tE _ _›;(try rw[List.length_take,GY]);(try simp only[AQ] at*);omega)
  |skip)
def IW:Sig:= {X:=Int,args:=fun x=>[.int .i64 x],pre:=fun x=>True,Y:=Unit,post:=fun x y=>True,res:=fun x y=> .bool (BH x),outs:=fun x y=>[.top],keep:=false}
theorem b0E:Al G Tryz.prog 158 IW:=
 vcFun_okP [(46,0,CN)] [] false (fun x=>[]) Tryz.func158 rfl (by decide) ⟨Kx,trivial⟩ (fun(x:Int)=>(∀(y:Unit),True→True∧True∧True)∧cA CN [.int .i64 x,.int .i64 (1:Int),.int .i64 (11:Int)] fun x_1 y=>rA IW x [.bool (inn x_1.1 x_1.2.1 x_1.2.2),.top]) (fun x=>by kernel_rfl) fun(x:Int) (hx:True)=>(by
 dsimp only[cA,rA,CN,IW,Aw,Az,mvL,lnL,mvE,lnE]
 (repeat' first|(with_reducible first|rfl|exact True.intro|apply AK|apply And.intro|((first|apply AA|apply AI|apply AB|apply AJ)<;>intro _))|(apply Ax<;>intro _)|apply AH|refine Af () ?_ ?_|((first|apply AO|apply AN|apply AM|apply AL|apply AG|apply AF|apply AE|apply AD|apply AC)<;>try dsimp only)|apply Af|(refine Prod.forall.2 ?_;intro _;try dsimp only)|(intro _;try dsimp only))<;>(try dsimp only at*)<;>(try simp only[AQ,List.length_cons,List.length_nil])<;>(try omega)
 all_goals simp [BH,Gq, *])
def IX:Sig:= {X:=Int,args:=fun x=>[.int .i64 x],pre:=fun x=>True,Y:=Unit,post:=fun x y=>True,res:=fun x y=> .bool (DS x),outs:=fun x y=>[.top],keep:=false}
theorem a1k:Al G Tryz.prog 129 IX:=
 vcFun_okP [(46,0,CN)] [] false (fun x=>[]) Tryz.func129 rfl (by decide) ⟨Kx,trivial⟩ (fun(x:Int)=>(∀(y:Unit),True→True∧True∧True)∧cA CN [.int .i64 x,.int .i64 (12:Int),.int .i64 (17:Int)] fun x_1 y=>Ab (inn x_1.1 x_1.2.1 x_1.2.2) (rA IX x [.bool true,.top]) (rA IX x [.bool (x==(19:Int)),.top])) (fun x=>by kernel_rfl) fun(x:Int) (hx:True)=>(by
 dsimp only[cA,rA,CN,IX,Aw,Az,mvL,lnL,mvE,lnE]
 (repeat' first|(with_reducible first|rfl|exact True.intro|apply AK|apply And.intro|((first|apply AA|apply AI|apply AB|apply AJ)<;>intro _))|(apply Ax<;>intro _)|apply AH|refine Af () ?_ ?_|((first|apply AO|apply AN|apply AM|apply AL|apply AG|apply AF|apply AE|apply AD|apply AC)<;>try dsimp only)|apply Af|(refine Prod.forall.2 ?_;intro _;try dsimp only)|(intro _;try dsimp only))<;>(try dsimp only at*)<;>(try simp only[AQ,List.length_cons,List.length_nil])<;>(try omega)
 all_goals simp [DS,Jv,Gq, *])
def DF:Sig:= {X:=Int,args:=fun x=>[.int .i64 x],pre:=fun x=>True,Y:=Unit,post:=fun x y=>True,res:=fun x y=> .tup [.int .i64 (FB x).1,.int .i64 (FB x).2],outs:=fun x y=>[.top],keep:=false}
theorem b0F:Al G Tryz.prog 127 DF:=
 vcFun_okP [] [] false (fun x=>[]) Tryz.func127 rfl (by decide) trivial (fun(x:Int)=>(∀(y:Unit),True→(True∧True∧True)∧True∧True)∧Ab (x==(4:Int)) (rA DF x [.tup [.int .i64 (0:Int),.int .i64 (12:Int)],.top]) (Ab (x==(18:Int)) (rA DF x [.tup [.int .i64 (0:Int),.int .i64 (12:Int)],.top]) (Ab (x==(21:Int)) (rA DF x [.tup [.int .i64 (0:Int),.int .i64 (12:Int)],.top]) (Ab (x==(22:Int)) (rA DF x [.tup [.int .i64 (0:Int),.int .i64 (12:Int)],.top]) (Ab (x==(5:Int)) (rA DF x [.tup [.int .i64 (1:Int),.int .i64 (12:Int)],.top]) (Ab (x==(9:Int)) (rA DF x [.tup [.int .i64 (1:Int),.int .i64 (12:Int)],.top]) (Ab (x==(20:Int)) (rA DF x [.tup [.int .i64 (1:Int),.int .i64 (12:Int)],.top]) (Ab (x==(6:Int)) (rA DF x [.tup [.int .i64 (1:Int),.int .i64 (1:Int)],.top]) (Ab (x==(11:Int)) (rA DF x [.tup [.int .i64 (1:Int),.int .i64 (1:Int)],.top]) (Ab (x==(13:Int)) (rA DF x [.tup [.int .i64 (1:Int),.int .i64 (1:Int)],.top]) (Ab (x==(14:Int)) (rA DF x [.tup [.int .i64 (1:Int),.int .i64 (1:Int)],.top]) (Ab (x==(7:Int)) (rA DF x [.tup [.int .i64 (2:Int),.int .i64 (12:Int)],.top]) (Ab (x==(10:Int)) (rA DF x [.tup [.int .i64 (2:Int),.int .i64 (12:Int)],.top]) (Ab (x==(8:Int)) (rA DF x [.tup [.int .i64 (3:Int),.int .i64 (3:Int)],.top]) (Ab (x==(12:Int)) (rA DF x [.tup [.int .i64 (0:Int),.int .i64 (1:Int)],.top]) (Ab (x==(15:Int)) (rA DF x [.tup [.int .i64 (0:Int),.int .i64 (1:Int)],.top]) (Ab (x==(16:Int)) (rA DF x [.tup [.int .i64 (2:Int),.int .i64 (3:Int)],.top]) (Ab (x==(17:Int)) (rA DF x [.tup [.int .i64 (2:Int),.int .i64 (2:Int)],.top]) (rA DF x [.tup [.int .i64 (0:Int),.int .i64 (0:Int)],.top]))))))))))))))))))) (fun x=>by kernel_rfl) fun(x:Int) (hx:True)=>(by
 dsimp only[rA,DF,Aw,Az]
 (repeat' first|(with_reducible first|rfl|exact True.intro|apply AK|apply And.intro|((first|apply AA|apply AI|apply AB|apply AJ)<;>intro _))|(apply Ax<;>intro _)|apply AH|refine Af () ?_ ?_|((first|apply AO|apply AN|apply AM|apply AL|apply AG|apply AF|apply AE|apply AD|apply AC)<;>try dsimp only)|apply Af|(refine Prod.forall.2 ?_;intro _;try dsimp only)|(intro _;try dsimp only))<;>(try dsimp only at*)<;>(try simp only[AQ,List.length_cons,List.length_nil])<;>(try omega)
 all_goals simp [FB, *])
def Ii(x:List Nd×Int×Int):Prop:=BD x.1∧BK x.1 x.2.1=true∧((Aa x.1 x.2.1).kind=10→∀c,(Aa x.1 x.2.1).kids[x.2.2.toNat]? =some c→AS x.1 c=5→∃h t,(Aa x.1 c).kids=h::t∧BK x.1 h=true)∧
 (0≤x.2.2∧x.2.2<(Aa x.1 x.2.1).kids.length)∧∀c,(Aa x.1 x.2.1).kids[x.2.2.toNat]? =some c→0≤c∧c<x.1.length
theorem VU{x:List Nd×Int×Int}{y:Nd}(h:Ii x)(hy:x.1[x.2.1.toNat]? =some y):0≤x.2.2∧x.2.2<y.kids.length:=by
 have:=h.2.2.2.1;rwa [Bo hy] at this
theorem a1l{x:List Nd×Int×Int}{y:Nd}{c:Int}(h:Ii x)(hy:x.1[x.2.1.toNat]? =some y)(hc:y.kids[x.2.2.toNat]? =some c):0≤c∧c<x.1.length:=by
 have:=h.2.2.2.2 c;rw[Bo hy] at this;exact this hc
theorem a1m{x:List Nd×Int×Int}{y z:Nd}{c:Int}(h:Ii x)(hy:x.1[x.2.1.toNat]? =some y)(hc:y.kids[x.2.2.toNat]? =some c)(hz:x.1[c.toNat]? =some z)(hk:y.kind=10)(hz5:z.kind=5):∃h t,z.kids=h::t∧BK x.1 h=true:=by
 have:=h.2.2.1;rw[Bo hy] at this
 have:=this hk c hc;rw[AS,Bo hz] at this;exact this hz5
theorem a1n{x:List Nd×Int×Int}{y z:Nd}{c d:Int}(h:Ii x)(hy:x.1[x.2.1.toNat]? =some y)(hc:y.kids[x.2.2.toNat]? =some c)(hz:x.1[c.toNat]? =some z)(hk:y.kind=10)(hz5:z.kind=5)(hd:z.kids[0]? =some d):(0≤d∧d<x.1.length)∧z.kids.headD 0=d:=by
 obtain⟨a,t,e,ha⟩:=a1m h hy hc hz hk hz5
 rw[e] at hd ⊢;cases hd;exact⟨BX.1 ha,rfl⟩
theorem a1o{x:List Nd×Int×Int}{y z:Nd}{c:Int}(h:Ii x)(hy:x.1[x.2.1.toNat]? =some y)(hc:y.kids[x.2.2.toNat]? =some c)(hz:x.1[c.toNat]? =some z)(hk:y.kind=10)(hz5:z.kind=5):0<z.kids.length:=by
 obtain⟨a,t,e,ha⟩:=a1m h hy hc hz hk hz5
 rw[e];simp
def LU(x:List Nd×Int×Int):Bool:=LD x.1 (Aa x.1 x.2.1) x.2.2 ((Aa x.1 x.2.1).kids.getD x.2.2.toNat 0)
theorem a1p{x:List Nd×Int×Int}{y z:Nd}{c:Int}(hy:x.1[x.2.1.toNat]? =some y)(hc:y.kids[x.2.2.toNat]? =some c)(hz:x.1[c.toNat]? =some z):
 LU x=(GW y.kind y.kids.length x.2.2 z.kind&&(if y.kind=10∧0<x.2.2 then decide (AS x.1 (z.kids.headD 0)=1) else true)):=by
 rw[LU,Bo hy,List.getD,hc,Option.getD_some,LD,AS,Bo hz]
def Dv:Sig:= {X:=List Nd×Int×Int,args:=fun x=>[nds x.1,.int .i64 x.2.1,.int .i64 x.2.2],pre:=fun x=>Ii x,Y:=Unit,post:=fun x y=>True,res:=fun x y=> .bool (LU x),outs:=fun x y=>[.top,.top,.top],keep:=false}
theorem b0G:Al G Tryz.prog 130 Dv:=
 vcFun_okP [(158,0,IW),(129,0,IX)] [] false (fun x=>[]) Tryz.func130 rfl (by decide) ⟨b0E,a1k,trivial⟩ (fun(x:List Nd×Int×Int)=>(∀(y:Unit),True→True∧True∧True∧True∧True)∧((0:Int)≤x.2.1∧x.2.1<(↑(List.length x.1):Int))∧∀(e:Nd),x.1[Int.toNat x.2.1]? =some e→((0:Int)≤x.2.2∧x.2.2<(↑(List.length e.kids):Int))∧∀(e_1:Int),e.kids[Int.toNat x.2.2]? =some e_1→((0:Int)≤e_1∧e_1<(↑(List.length x.1):Int))∧∀(e_2:Nd),x.1[Int.toNat e_1]? =some e_2→Ab (e.kind==(9:Int)) (inR IntKind.i64 (x.2.2+(1:Int))∧Ab (decide (x.2.2+(1:Int)<(↑(List.length e.kids):Int))) (rA Dv x [.bool (e_2.kind==(1:Int)),.top,.top,.top]) (cA IW [.int .i64 e_2.kind] fun x_1 y=>rA Dv x [.bool (BH x_1),.top,.top,.top])) (Ab (e.kind==(20:Int)) (inR IntKind.i64 (x.2.2+(1:Int))∧Ab (decide (x.2.2+(1:Int)<(↑(List.length e.kids):Int))) (rA Dv x [.bool (e_2.kind==(1:Int)),.top,.top,.top]) (rA Dv x [.bool (e_2.kind==(18:Int)),.top,.top,.top])) (Ab (e.kind==(10:Int)) (Ab (decide (x.2.2>(0:Int))) (Ab (e_2.kind==(5:Int)) (((0:Int)≤(0:Int)∧(0:Int)<(↑(List.length e_2.kids):Int))∧∀(e:Int),e_2.kids[(0:Nat)]? =some e→((0:Int)≤e∧e<(↑(List.length x.1):Int))∧∀(e_3:Nd),x.1[Int.toNat e]? =some e_3→rA Dv x [.bool (e_3.kind==(1:Int)),.top,.top,.top]) (rA Dv x [.bool false,.top,.top,.top])) (cA IW [.int .i64 e_2.kind] fun x_1 y=>rA Dv x [.bool (BH x_1),.top,.top,.top])) (Ab (e.kind==(16:Int)) (Ab (decide (x.2.2>(0:Int))) (rA Dv x [.bool (e_2.kind==(18:Int)),.top,.top,.top]) (cA IW [.int .i64 e_2.kind] fun x_1 y=>rA Dv x [.bool (BH x_1),.top,.top,.top])) (Ab (e.kind==(17:Int)) (Ab (decide (x.2.2>(0:Int))) (rA Dv x [.bool (e_2.kind==(18:Int)),.top,.top,.top]) (cA IW [.int .i64 e_2.kind] fun x_1 y=>rA Dv x [.bool (BH x_1),.top,.top,.top])) (Ab (e.kind==(18:Int)) (cA IX [.int .i64 e_2.kind] fun x_1 y=>rA Dv x [.bool (DS x_1),.top,.top,.top]) (Ab (e.kind==(21:Int)) (Ab (e_2.kind==(12:Int)) (rA Dv x [.bool true,.top,.top,.top]) (Ab (e_2.kind==(20:Int)) (rA Dv x [.bool true,.top,.top,.top]) (rA Dv x [.bool (e_2.kind==(19:Int)),.top,.top,.top]))) (Ab (e.kind==(22:Int)) (Ab (e_2.kind==(21:Int)) (rA Dv x [.bool true,.top,.top,.top]) (Ab (e_2.kind==(12:Int)) (rA Dv x [.bool true,.top,.top,.top]) (Ab (e_2.kind==(20:Int)) (rA Dv x [.bool true,.top,.top,.top]) (rA Dv x [.bool (e_2.kind==(19:Int)),.top,.top,.top])))) (cA IW [.int .i64 e_2.kind] fun x_1 y=>rA Dv x [.bool (BH x_1),.top,.top,.top]))))))))) (fun x=>by kernel_rfl) fun(x:List Nd×Int×Int) (hx:Ii x)=>(by
 dsimp only[cA,Bx,nds,rA,Dv,IX,IW,Aw,Az,mvL,lnL,mvE,lnE]
 have h:=hx;have h1:=h.1;have hl:=h1.1;have hn:=BX.1 h.2.1
 (repeat' first|(with_reducible first|rfl|exact True.intro|apply AK|apply And.intro|((first|apply AA|apply AI|apply AB|apply AJ)<;>intro _))|(apply Ax<;>intro _)|apply AH|refine Af () ?_ ?_|((first|apply AO|apply AN|apply AM|apply AL|apply AG|apply AF|apply AE|apply AD|apply AC)<;>try dsimp only)|apply Af|(refine Prod.forall.2 ?_;intro _;try dsimp only)|(intro _;try dsimp only))
 all_goals first
  |omega
  |exact(VU h ‹_›).1
  |exact(VU h ‹_›).2
  |exact(a1l h ‹_› ‹_›).1
  |exact(a1l h ‹_› ‹_›).2
  |exact a1o h ‹_› ‹_› ‹_› ‹_› ‹_›
  |(have:=a1o h ‹_› ‹_› ‹_› ‹_› ‹_›;omega)
  |(have:=(a1n h ‹_› ‹_› ‹_› ‹_› ‹_› ‹_›).1;omega)
  |(have hk:=(h1.2 _ (BJ (show x.1[x.2.1.toNat]? =some _ by assumption))).2;have:=VU h ‹_›;(try simp only[AQ]);omega)
  |(rw[a1p ‹_› ‹_› ‹_›];simp [GW,Ew,CR,EN,GR,FU,Gq, *];done)
  |(rw[a1p ‹_› ‹_› ‹_›,(a1n h ‹_› ‹_› ‹_› ‹_› ‹_› ‹_›).2,AS,Bo ‹_›];simp [GW,FU,Gq, *];done)
  |skip)
def koI(ns:List Nd)(x:Nd)(i:Int):Prop:=0≤i∧i≤x.kids.length∧∀(j:Nat) c,(j:Int)<i→x.kids[j]? =some c→Ea ns x j c=true
theorem b0H{ns:List Nd}{x:Nd}:koI ns x 0:=⟨by omega,by omega,fun j c h=>by omega⟩
theorem a1q{ns:List Nd}{x:Nd}{i c:Int}(h:koI ns x i)(hc:x.kids[i.toNat]? =some c)(hk:Ea ns x i c=true):koI ns x (i+1):=by
 obtain⟨h1,h2,h3⟩:=h
 have:=(DW hc).1
 refine⟨by omega,by omega,fun j d hj hd=> ?_⟩
 by_cases e:(j:Int)<i
 ·exact h3 j d e hd
 ·obtain rfl:j=i.toNat:=by omega
  rw[hc] at hd;cases hd
  rwa [show((i.toNat:Nat):Int)=i by omega]
theorem b0I{ns:List Nd}{x:Nd}{i:Int}(h:koI ns x i)(hl:¬i<x.kids.length):BZ (Ea ns x) x.kids 0=true:=by
 rw[VL];intro j c hc
 exact h.2.2 j c (by have:=(DW hc).1;omega) hc
theorem RH{ns:List Nd}{x:Nd}{i c:Int}(h0:0≤i)(hc:x.kids[i.toNat]? =some c)(hk:Ea ns x i c=false):BZ (Ea ns x) x.kids 0=false:=by
 rw[Bool.eq_false_iff];intro h
 rw[VL] at h
 have:=h _ _ hc
 rw[show((i.toNat:Nat):Int)=i by omega,hk] at this;cases this
theorem ko1{ns:List Nd}{x y:Nd}{i c:Int}(hy:ns[c.toNat]? =some y)(h:y.kind=5)(h0:(y.kids.length:Int)=0):Ea ns x i c=false:=by
 have h0:=List.length_eq_zero_iff.1 (show y.kids.length=0 by omega)
 simp [Ea,AS,Bo hy,h,h0]
theorem JA{ns:List Nd}{d:Int}:inn d 0 (ns.length-1)=BK ns d:=by
 rw[Bool.eq_iff_iff];simp only[inn,BK,Bool.and_eq_true,decide_eq_true_eq];omega
theorem ko2{ns:List Nd}{x y:Nd}{i c d:Int}(hy:ns[c.toNat]? =some y)(h:y.kind=5)(h0:y.kids[0]? =some d)(hd:inn d 0 (ns.length-1)=false):Ea ns x i c=false:=by
 rw[JA] at hd
 match hk:y.kids with
 |[]=>rw[hk] at h0;cases h0
 |e::t=>rw[hk] at h0;cases h0;simp [Ea,AS,Bo hy,h,hk,hd]
theorem ko3{ns:List Nd}{x y:Nd}{i c d:Int}(hy:ns[c.toNat]? =some y)(h:y.kind=5)(h0:y.kids[0]? =some d)(hd:inn d 0 (ns.length-1)=true):Ea ns x i c=LD ns x i c:=by
 rw[JA] at hd
 match hk:y.kids with
 |[]=>rw[hk] at h0;cases h0
 |e::t=>rw[hk] at h0;cases h0;simp [Ea,AS,Bo hy,h,hk,hd]
theorem ko4{ns:List Nd}{x y:Nd}{i c:Int}(hy:ns[c.toNat]? =some y)(h:y.kind≠5):Ea ns x i c=LD ns x i c:=by
 simp [Ea,AS,Bo hy,h]
theorem RI{ns:List Nd}{x:Nd}{k i c:Int}{b:Bool}(hx:ns[k.toNat]? =some x)(hc:x.kids[i.toNat]? =some c)(hb:LU (ns,k,i)=b):LD ns x i c=b:=by
 rw[←hb,LU,Bo hx,List.getD,hc,Option.getD_some]
theorem b0J{ns:List Nd}{x y:Nd}{k i c d:Int}(h1:BD ns)(hn:BK ns k=true)(hx:ns[k.toNat]? =some x)(hin:DT x.kids k=true)(hi:koI ns x i)(hc:x.kids[i.toNat]? =some c)(hy:ns[c.toNat]? =some y)(h0:y.kids[0]? =some d)(hd:inn d 0 (ns.length-1)=true):Ii (ns,k,i):=by
 have hk:=BX.1 hn
 have:=(DW hc).1
 unfold Ii;simp only[Bo hx]
 refine⟨h1,hn,fun h10 c' hc' h5=> ?_,⟨hi.1,by omega⟩,fun c' hc'=> ?_⟩
 ·rw[hc] at hc';cases hc'
  rw[Bo hy]
  match hkk:y.kids with
  |[]=>rw[hkk] at h0;cases h0
  |e::t=>rw[hkk] at h0;cases h0;exact⟨_,_,rfl,by rw[←JA];exact hd⟩
 ·simp only[DT,List.all_eq_true,Bool.and_eq_true,decide_eq_true_eq] at hin
  have:=hin c' (BJ hc');omega
theorem b0K{ns:List Nd}{x y:Nd}{k i c:Int}(h1:BD ns)(hn:BK ns k=true)(hx:ns[k.toNat]? =some x)(hin:DT x.kids k=true)(hi:koI ns x i)(hc:x.kids[i.toNat]? =some c)(hy:ns[c.toNat]? =some y)(h5:y.kind≠5):Ii (ns,k,i):=by
 have hk:=BX.1 hn
 have:=(DW hc).1
 unfold Ii;simp only[Bo hx]
 refine⟨h1,hn,fun h10 c' hc' h5'=> ?_,⟨hi.1,by omega⟩,fun c' hc'=> ?_⟩
 ·rw[hc] at hc';cases hc'
  rw[AS,Bo hy] at h5';exact(h5 h5').elim
 ·simp only[DT,List.all_eq_true,Bool.and_eq_true,decide_eq_true_eq] at hin
  have:=hin c' (BJ hc');omega
theorem a1r{k:Int}:HZ k=(DS k||(decide (k=20)||decide (k=21))):=by
 rw[Bool.eq_iff_iff]
 simp only[HZ,DS,EN,Jv,inn,Bool.or_eq_true,Bool.and_eq_true,decide_eq_true_eq];omega
theorem a1s{ns:List Nd}{k:Int}(h:inn k 0 (ns.length-1)=false):false=BQ ns k:=by rw[JA] at h;exact a0O h
theorem PB{ns:List Nd}{k:Int}{x:Nd}(hx:ns[k.toNat]? =some x)(h:inn k 0 (ns.length-1)=true):BQ ns k=(inn x.kind 1 22&&(inn x.kids.length (FB x.kind).1 (FB x.kind).2&&(Ev x.kind x.text&&((HZ x.kind|| !x.blank)&&((DT x.kids k&&decide x.kids.Nodup)&&BZ (Ea ns x) x.kids 0))))):=by
 rw[JA] at h;rw[NH hx h,a9C]
theorem b0L{ns:List Nd}{k:Int}{x:Nd}(hx:ns[k.toNat]? =some x)(h:inn k 0 (ns.length-1)=true)(h1:DT x.kids k=false):false=BQ ns k:=by
 rw[PB hx h,h1];simp
theorem b0M{ns:List Nd}{k:Int}{x:Nd}(hx:ns[k.toNat]? =some x)(h:inn k 0 (ns.length-1)=true)(h1:¬x.kids.Nodup):false=BQ ns k:=by
 rw[PB hx h,decide_eq_false h1];simp
theorem RJ{ns:List Nd}{k:Int}{x:Nd}(hx:ns[k.toNat]? =some x)(h:inn k 0 (ns.length-1)=true)(h1:BZ (Ea ns x) x.kids 0=false):false=BQ ns k:=by
 rw[PB hx h,h1];simp
theorem b0N{ns:List Nd}{k:Int}{x:Nd}(hx:ns[k.toNat]? =some x)(h:inn k 0 (ns.length-1)=true)(h1:inn x.kind 1 22=true)(h2:inn x.kids.length (FB x.kind).1 (FB x.kind).2=true)(h3:Ev x.kind x.text=true)(h4:(HZ x.kind|| !x.blank)=true)
 (h5:DT x.kids k=true∧x.kids.Nodup) (h6:BZ (Ea ns x) x.kids 0=true):true=BQ ns k:=by
 rw[PB hx h,h1,h2,h3,h4,h5.1,h6,decide_eq_true h5.2];rfl
theorem b0O{k c:Int}{l:List Int}{n:Nat}(hc:l[n]? =some c)(h:inn c 0 (k-1)=false):DT l k=false:=by
 rw[Bool.eq_false_iff];intro hh;simp only[DT,List.all_eq_true,Bool.and_eq_true,decide_eq_true_eq] at hh
 have:=hh c (BJ hc)
 have:inn c 0 (k-1)=true:=Ih.2 (by omega)
 rw[h] at this;cases this
def djI(l:List Int)(i j:Int):Prop:=0≤j∧j≤i∧∀c,l[i.toNat]? =some c→(l.take j.toNat).elem c=false
theorem b0P{l:List Int}{i:Int}(h:0≤i):djI l i 0:=⟨by omega,h,by simp⟩
theorem b0Q{l:List Int}{i j c d:Int}(h:djI l i j)(hl:j<i)(hc:l[i.toNat]? =some c)(hd:l[j.toNat]? =some d)(hne:c≠d):djI l i (j+1):=by
 refine⟨by have:=h.1;omega,by omega,fun c' hc'=> ?_⟩
 have h3:=h.2.2 c' hc'
 rw[hc] at hc';cases hc'
 rw[Da h.1,EM hd]
 simp at h3 ⊢
 exact⟨h3,hne⟩
theorem b0R{l:List Int}{i j c d:Int}(h0:djI l i j)(hl:j<i)(hc:l[i.toNat]? =some c)(hd:l[j.toNat]? =some d)(he:c=d):¬l.Nodup:=by
 refine a0N hc ?_
 subst he
 rw[List.elem_iff]
 rw[List.mem_take_iff_getElem]
 obtain⟨hj,e⟩:=DW hd
 have:=h0.1
 exact⟨j.toNat,by omega,e⟩
theorem b0S{k:Int}{l:List Int}{i j c:Int}(h:nkI k l i)(hd:djI l i j)(hl:¬j<i)(hc:l[i.toNat]? =some c)(hin:inn c 0 (k-1)=true):nkI k l (i+1):=by
 have:=Ih.1 hin
 have h3:=hd.2.2 c hc
 obtain rfl:j=i:=by have:=hd.2.1;omega
 exact a0M h hc (by omega) (by omega) h3
def RK(x:List Nd×Int)(i:Int):LS:= {
 ι:=Int,inv:=djI (Aa x.1 x.2).kids i,
 regs:=fun j=>[(0,nds x.1),(1,.int .i64 x.2),(5,.box 0 (ndA false (Aa x.1 x.2))),(8,.int .i64 i),(9,.int .i64 j)],als:=[],meas:=fun j=>i.toNat-j.toNat}
def RL(x:List Nd×Int):LS:= {
 ι:=Int,inv:=nkI x.2 (Aa x.1 x.2).kids,
 regs:=fun i=>[(0,nds x.1),(1,.int .i64 x.2),(5,.box 0 (ndA false (Aa x.1 x.2))),(8,.int .i64 i)],als:=[],meas:=fun i=>(Aa x.1 x.2).kids.length-i.toNat,sub:=fun i=>[(15,RK x i)]}
def PC(x:List Nd×Int):LS:= {
 ι:=Int,inv:=koI x.1 (Aa x.1 x.2),
 regs:=fun i=>[(0,nds x.1),(1,.int .i64 x.2),(5,.box 0 (ndA false (Aa x.1 x.2))),(10,.int .i64 i)],als:=[],meas:=fun i=>(Aa x.1 x.2).kids.length-i.toNat}
def jI(x:Nd):Prop:=inn x.kind 1 22=true∧inn x.kids.length (FB x.kind).1 (FB x.kind).2=true∧Ev x.kind x.text=true∧(HZ x.kind|| !x.blank)=true
def NJ(x:List Nd×Int):LS:= {
 ι:=Unit,inv:=fun _=>jI (Aa x.1 x.2),
 regs:=fun _=>[(0,nds x.1),(1,.int .i64 x.2),(5,.box 0 (ndA false (Aa x.1 x.2)))],als:=[],meas:=fun _=>0}
def Ff:Sig:= {X:=List Nd×Int,args:=fun x=>[nds x.1,.int .i64 x.2],pre:=fun x=>BD x.1,Y:=Unit,post:=fun x y=>True,res:=fun x y=> .bool (BQ x.1 x.2),outs:=fun x y=>[.top,.top],keep:=false}
set_option maxHeartbeats 4000000 in
theorem b0T:Al G Tryz.prog 101 Ff:=
 vcFun_okP [(46,0,CN),(127,0,DF),(128,0,FA),(129,0,IX),(130,0,Dv)] [] false (fun x=>[(10,RL x),(20,PC x),(200009,NJ x)]) Tryz.func101 rfl (by decide) ⟨Kx,b0F,a9x,a1k,b0G,trivial⟩ (fun(x:List Nd×Int)=>(∀(y:Unit),True→True∧True∧True∧True)∧inR IntKind.i64 ((↑(List.length x.1):Int)-(1:Int))∧cA CN [.int .i64 x.2,.int .i64 (0:Int),.int .i64 ((↑(List.length x.1):Int)-(1:Int))] fun x_1 y=>Ab (!inn x_1.1 x_1.2.1 x_1.2.2) (rA Ff x [.bool false,.top,.top]) (((0:Int)≤x.2∧x.2<(↑(List.length x.1):Int))∧∀(e:Nd),x.1[Int.toNat x.2]? =some e→cA CN [.int .i64 e.kind,.int .i64 (1:Int),.int .i64 (22:Int)] fun x_2 y=>Ab (!inn x_2.1 x_2.2.1 x_2.2.2) (rA Ff x [.bool false,.top,.top]) (((0:Int)≤x.2∧x.2<(↑(List.length x.1):Int))∧∀(e:Nd),x.1[Int.toNat x.2]? =some e→cA DF [.int .i64 e.kind] fun x_3 y=>cA CN [.int .i64 (↑(List.length e.kids):Int),.int .i64 (FB x_3).1,.int .i64 (FB x_3).2] fun x_4 y=>Ab (!inn x_4.1 x_4.2.1 x_4.2.2) (rA Ff x [.bool false,.top,.top]) (cA FA [.int .i64 e.kind,.str e.text] fun x_5 y=>Ab (!Ev x_5.1 x_5.2) (rA Ff x [.bool false,.top,.top]) (Ab e.blank (cA IX [.int .i64 e.kind] fun x_6 y=>Ab (!DS x_6) (Ab (e.kind != (20:Int)) (Ab (e.kind != (21:Int)) (rA Ff x [.bool false,.top,.top]) (eA (NJ x) [nds x.1,.int .i64 x.2,.box 0 [.int .i64 e.kind,.str e.text,Ag e.kids,.bool e.blank]])) (eA (NJ x) [nds x.1,.int .i64 x.2,.box 0 [.int .i64 e.kind,.str e.text,Ag e.kids,.bool e.blank]])) (eA (NJ x) [nds x.1,.int .i64 x.2,.box 0 [.int .i64 e.kind,.str e.text,Ag e.kids,.bool e.blank]])) (eA (NJ x) [nds x.1,.int .i64 x.2,.box 0 [.int .i64 e.kind,.str e.text,Ag e.kids,.bool e.blank]])∧∀(i:Unit),jI (Aa x.1 x.2)→eA (RL x) [nds x.1,.int .i64 x.2,.box 0 [.int .i64 (Aa x.1 x.2).kind,.str (Aa x.1 x.2).text,Ag (Aa x.1 x.2).kids,.bool (Aa x.1 x.2).blank],.int .i64 (0:Int)]∧∀(i:Int),nkI x.2 (Aa x.1 x.2).kids i→Ab (decide (i<(↑(List.length (Aa x.1 x.2).kids):Int))) (((0:Int)≤i∧i<(↑(List.length (Aa x.1 x.2).kids):Int))∧∀(e:Int),(Aa x.1 x.2).kids[Int.toNat i]? =some e→inR IntKind.i64 (x.2-(1:Int))∧cA CN [.int .i64 e,.int .i64 (0:Int),.int .i64 (x.2-(1:Int))] fun x_6 y=>Ab (!inn x_6.1 x_6.2.1 x_6.2.2) (rA Ff x [.bool false,.top,.top]) (eA (RK x i) [nds x.1,.int .i64 x.2,.box 0 [.int .i64 (Aa x.1 x.2).kind,.str (Aa x.1 x.2).text,Ag (Aa x.1 x.2).kids,.bool (Aa x.1 x.2).blank],.int .i64 i,.int .i64 (0:Int)]∧∀(i_1:Int),djI (Aa x.1 x.2).kids i i_1→Ab (decide (i_1<i)) (true=true∧true=true∧((0:Int)≤i∧i<(↑(List.length (Aa x.1 x.2).kids):Int))∧∀(e:Int),(Aa x.1 x.2).kids[Int.toNat i]? =some e→((0:Int)≤i_1∧i_1<(↑(List.length (Aa x.1 x.2).kids):Int))∧∀(e_1:Int),(Aa x.1 x.2).kids[Int.toNat i_1]? =some e_1→Ab (e==e_1) (rA Ff x [.bool false,.top,.top]) (inR IntKind.i64 (i_1+(1:Int))∧eN (RK x i) i_1 [nds x.1,.int .i64 x.2,.box 0 [.int .i64 (Aa x.1 x.2).kind,.str (Aa x.1 x.2).text,Ag (Aa x.1 x.2).kids,.bool (Aa x.1 x.2).blank],.int .i64 i,.int .i64 (i_1+(1:Int))])) (inR IntKind.i64 (i+(1:Int))∧eN (RL x) i [nds x.1,.int .i64 x.2,.box 0 [.int .i64 (Aa x.1 x.2).kind,.str (Aa x.1 x.2).text,Ag (Aa x.1 x.2).kids,.bool (Aa x.1 x.2).blank],.int .i64 (i+(1:Int))]))) (eA (PC x) [nds x.1,.int .i64 x.2,.box 0 [.int .i64 (Aa x.1 x.2).kind,.str (Aa x.1 x.2).text,Ag (Aa x.1 x.2).kids,.bool (Aa x.1 x.2).blank],.int .i64 (0:Int)]∧∀(i:Int),koI x.1 (Aa x.1 x.2) i→Ab (decide (i<(↑(List.length (Aa x.1 x.2).kids):Int))) (((0:Int)≤i∧i<(↑(List.length (Aa x.1 x.2).kids):Int))∧∀(e:Int),(Aa x.1 x.2).kids[Int.toNat i]? =some e→((0:Int)≤e∧e<(↑(List.length x.1):Int))∧∀(e_1:Nd),x.1[Int.toNat e]? =some e_1→Ab (e_1.kind==(5:Int)) (Ab ((↑(List.length e_1.kids):Int)==(0:Int)) (rA Ff x [.bool false,.top,.top]) (((0:Int)≤(0:Int)∧(0:Int)<(↑(List.length e_1.kids):Int))∧∀(e:Int),e_1.kids[(0:Nat)]? =some e→inR IntKind.i64 ((↑(List.length x.1):Int)-(1:Int))∧cA CN [.int .i64 e,.int .i64 (0:Int),.int .i64 ((↑(List.length x.1):Int)-(1:Int))] fun x_6 y=>Ab (!inn x_6.1 x_6.2.1 x_6.2.2) (rA Ff x [.bool false,.top,.top]) (cA Dv [nds x.1,.int .i64 x.2,.int .i64 i] fun x_7 y=>Ab (!LU x_7) (rA Ff x [.bool false,.top,.top]) (inR IntKind.i64 (i+(1:Int))∧eN (PC x) i [nds x.1,.int .i64 x.2,.box 0 [.int .i64 (Aa x.1 x.2).kind,.str (Aa x.1 x.2).text,Ag (Aa x.1 x.2).kids,.bool (Aa x.1 x.2).blank],.int .i64 (i+(1:Int))])))) (cA Dv [nds x.1,.int .i64 x.2,.int .i64 i] fun x_6 y=>Ab (!LU x_6) (rA Ff x [.bool false,.top,.top]) (inR IntKind.i64 (i+(1:Int))∧eN (PC x) i [nds x.1,.int .i64 x.2,.box 0 [.int .i64 (Aa x.1 x.2).kind,.str (Aa x.1 x.2).text,Ag (Aa x.1 x.2).kids,.bool (Aa x.1 x.2).blank],.int .i64 (i+(1:Int))]))) (rA Ff x [.bool true,.top,.top]))))))) (fun x=>by kernel_rfl) fun(x:List Nd×Int) (hx:BD x.1)=>(by
 dsimp only[cA,eA,eN,Ag,NJ,RL,RK,PC,Bx,nds,rA,CN,DF,Dv,IX,FA,Ff,Aw,Az,mvL,lnL,mvE,lnE,Bv]
 have h1:BD x.1:=hx;have hl:=h1.1
 by_cases hn:BK x.1 x.2=true
 case neg=>
  (repeat' first|(with_reducible first|rfl|exact True.intro|apply AK|apply And.intro|((first|apply AA|apply AI|apply AB|apply AJ)<;>intro _))|(apply Ax<;>intro _)|apply AH|refine Af () ?_ ?_|((first|apply AO|apply AN|apply AM|apply AL|apply AG|apply AF|apply AE|apply AD|apply AC)<;>try dsimp only)|apply Af|(refine Prod.forall.2 ?_;intro _;try dsimp only)|(intro _;try dsimp only))
  all_goals first
   |exact a1s ‹_›
   |(have hh:=(show inn x.2 0 (x.1.length-1)=true by assumption);rw[JA] at hh;exact(hn hh).elim)
   |((try simp only[AQ]);omega)
 case pos=>
 have hr:=BX.1 hn
 obtain⟨z,hz⟩:∃z,x.1[x.2.toNat]? =some z:=⟨x.1[x.2.toNat],by simp⟩
 have hzo:=h1.2 _ (BJ hz)
 have hi:inn x.2 0 (x.1.length-1)=true:=by rw[JA];exact hn
 simp only[hz,Option.some.injEq,forall_eq',Bo hz]
 (repeat' first|(with_reducible first|rfl|exact True.intro|apply AK|apply And.intro|((first|apply AA|apply AI|apply AB|apply AJ)<;>intro _))|(apply Ax<;>intro _)|apply AH|refine Af () ?_ ?_|((first|apply AO|apply AN|apply AM|apply AL|apply AG|apply AF|apply AE|apply AD|apply AC)<;>try dsimp only)|apply Af|(refine Prod.forall.2 ?_;intro _;try dsimp only)|(intro _;try dsimp only))
 all_goals first
  |rfl
  |assumption
  |exact a0L
  |exact b0H
  |exact b0P (‹nkI _ _ _›.1)
  |exact a1s ‹_›
  |exact⟨by assumption,by assumption,by assumption,by simp [a1r, *]⟩
  |exact b0L hz hi (b0O ‹_› ‹_›)
  |exact b0M hz hi (b0R ‹_› ‹_› ‹_› ‹_› ‹_›)
  |exact b0Q ‹_› ‹_› ‹_› ‹_› ‹_›
  |exact b0S ‹_› ‹_› ‹_› ‹_› ‹_›
  |exact RJ hz hi (RH (‹koI _ _ _›.1) ‹_› (ko1 ‹_› ‹_› ‹_›))
  |exact RJ hz hi (RH (‹koI _ _ _›.1) ‹_› (ko2 ‹_› ‹_› ‹_› ‹_›))
  |exact RJ hz hi (RH (‹koI _ _ _›.1) ‹_› ((ko4 ‹_› ‹_›).trans (RI hz ‹_› ‹_›)))
  |exact RJ hz hi (RH (‹koI _ _ _›.1) ‹_› ((ko3 ‹_› ‹_› ‹_› ‹_›).trans (RI hz ‹_› ‹_›)))
  |exact a1q ‹_› ‹_› ((ko4 ‹_› ‹_›).trans (RI hz ‹_› ‹_›))
  |exact a1q ‹_› ‹_› ((ko3 ‹_› ‹_› ‹_› ‹_›).trans (RI hz ‹_› ‹_›))
  |exact b0J h1 hn hz (Py ‹_› ‹_›).1 ‹_› ‹_› ‹_› ‹_› ‹_›
  |exact b0K h1 hn hz (Py ‹_› ‹_›).1 ‹_› ‹_› ‹_› ‹_›
  |exact b0N hz hi (‹jI _›.1) (‹jI _›.2.1) (‹jI _›.2.2.1) (‹jI _›.2.2.2) (Py ‹_› ‹_›) (b0I ‹_› ‹_›)
  |(rw[PB hz hi];simp [a1r, *];done)
  |exact hzo.1
  |(have:=VS ‹_› ‹_› hr.2 (BJ (show z.kids[_]? =some _ by assumption));omega)
  |((try simp only[AQ]);omega)
  |(have hko:=(show koI _ _ _ by assumption);have hk2:=hzo.2;have:=hko.1;have:=hko.2.1;(try simp only[AQ]);omega)
  |(have hko:=(show djI _ _ _ by assumption);have hk1:=(show nkI _ _ _ by assumption);have hk2:=hzo.2;have:=hko.1;have:=hko.2.1;have:=hk1.1;have:=hk1.2.1;(try simp only[AQ]);omega)
  |(have hk1:=(show nkI _ _ _ by assumption);have hk2:=hzo.2;have:=hk1.1;have:=hk1.2.1;(try simp only[AQ]);omega)
  |skip)
end Go.My
end
