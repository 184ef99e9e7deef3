/- joined -/
import Derived.Test.YtglbamflbnldhaaGreatDoorQM
import Derived.Shelf.Strconv.Itoa0
import Derived.Shelf.Strconv.Itoa1
import Derived.Shelf.LaysM
import Derived.Shelf.Strconv.Itoa2
import Derived.Shelf.Strconv.Itoa3
import Derived.Test.YtglbamflbnldhaaGreatDoorProg
import Derived.ProofKit
set_option linter.unusedSimpArgs false
set_option linter.unusedVariables false
section
namespace Go.My
open Go.Eng Go.Proofs
variable {G:GInv}
def Jm:Sig:= {X:=List UInt8,args:=fun x=>[.sl false 0 1 UInt8 byA x],pre:=fun x=>x.length≤2^21,Y:=Int,post:=fun x y=>True,res:=fun x y=> .box 0 (cur x 0 y),outs:=fun x y=>[.top],keep:=true}
def TI(x:List UInt8):LS:= {ι:=Int×Int,inv:=fun i=>(0≤i.1∧i.1≤x.length)∧0≤i.2∧i.2≤2^31,regs:=fun i=>[(0,.sl false 0 1 UInt8 byA x),(3,.int .i64 i.2),(4,.int .i64 i.1)],als:=[],meas:=fun i=>x.length-i.1.toNat}
theorem a6B:Al G Tryz.prog 28 Jm:=
 vcFun_okP [] [] false (fun x=>[(3,TI x)]) Tryz.func28 rfl (by decide) trivial (fun(x:List UInt8)=>True∧inR IntKind.i64 ((78601:Int)+(↑(List.length x):Int))∧eA (TI x) [byL x,.int .i64 ((78601:Int)+(↑(List.length x):Int)),.int .i64 (0:Int)]∧∀(i:Int×Int),((0:Int)≤i.1∧i.1≤(↑(List.length x):Int))∧(0:Int)≤i.2∧i.2≤(2:Int)^(31:Nat)→Ab (decide (i.1<(↑(List.length x):Int))) (Ab (decide (i.1<(4000:Int))) (inR IntKind.i64 (i.2*(131:Int))∧((0:Int)≤i.1∧i.1<(↑(List.length x):Int))∧∀(e:UInt8),x[Int.toNat i.1]? =some e→inR IntKind.i64 (↑(UInt8.toNat e):Int)∧inR IntKind.i64 (i.2*(131:Int)+(↑(UInt8.toNat e):Int))∧inR IntKind.i64 (i.2*(131:Int)+(↑(UInt8.toNat e):Int)+(7:Int))∧inR IntKind.i64 (i.1+(1:Int))∧eN (TI x) i [byL x,.int .i64 (DV BinOp.and IntKind.i64 (i.2*(131:Int)+(↑(UInt8.toNat e):Int)+(7:Int)) (1073741823:Int)),.int .i64 (i.1+(1:Int))]) (rA Jm x [.box 0 (cur x (0:Int) i.2),.top])) (rA Jm x [.box 0 (cur x (0:Int) i.2),.top])) (fun x=>by kernel_rfl) fun(x:List UInt8) (hx:x.length≤2^21)=>(by
 dsimp only[HP,byL,cur,eA,eN,TI,rA,Jm,Aw,Az,Bv]
 have hx:x.length≤2^21:=hx
 (repeat' first|(with_reducible first|rfl|exact True.intro|apply AK|apply And.intro|((first|apply AA|apply AI|apply AB|apply AJ)<;>intro _))|(apply Ax<;>intro _)|apply AH|refine Af () ?_ ?_|((first|apply AO|apply AN|apply AM|apply AL|apply AG|apply AF|apply AE|apply AD|apply AC)<;>try dsimp only)|apply Af|(refine Prod.forall.2 ?_;intro _;try dsimp only)|(intro _;try dsimp only))
 all_goals first
  |rfl
  |omega
  |(have hq:=UInt8.toNat_lt ‹_›;omega)
  |(have hq:=Xy (_:Int);exact hq.1)
  |exact(Xy _).1
  |exact Int.le_trans (Xy _).2 (by decide)
  |skip)
theorem a6C{b:List UInt8}(h:b.length≤2^21):BN b 0:=⟨by omega,h⟩
def Jn(o:List Int)(i:Int):Prop:=((0≤i∧i≤12)∧o.length=i)∧∀e∈o,0≤e∧e<10000
theorem c1u:Jn [] 0:=⟨by simp,by simp⟩
theorem c1v{o:List Int}{i:Int}(h:Jn o i):(0≤i∧i≤12)∧o.length≤12:=by have:=h.1;omega
theorem c1w{o:List Int}{i v:Int}(h:Jn o i)(hi:i<12)(hv:0≤v∧v<10000):Jn (o++[v]) (i+1):=by
 refine⟨⟨by have:=h.1;omega,by rw[List.length_append];have:=h.1.2;simp;omega⟩,fun e he=> ?_⟩
 rcases List.mem_append.1 he with he|he
 ·exact h.2 e he
 ·simp at he;subst he;exact hv
def OA:Sig:= {X:=List UInt8,args:=fun x=>[.sl false 0 1 UInt8 byA x],pre:=fun x=>x.length≤2^21,Y:=List Int×Unit,post:=fun x y=>y.1.length=12∧∀e∈y.1,0≤e∧e<10000,res:=fun x y=>Ad y.1,outs:=fun x y=>[.top],keep:=true}
def TJ(x:List UInt8):LS:= {ι:=Int×Int×Int×List Int,inv:=fun i=>Jn i.2.2.2 i.1∧BN x i.2.1,regs:=fun i=>[(3,.box 0 (cur x i.2.1 i.2.2.1)),(4,Ad i.2.2.2),(5,.int .i64 i.1)],als:=[],meas:=fun i=>12-i.1.toNat}
theorem c1x:Al G Tryz.prog 9 OA:=
 vcFun_okP [(28,0,Jm),(30,0,GG),(31,0,Ef)] [(25,⟨Int,Bc⟩)] false (fun x=>[(5,TJ x)]) Tryz.func9 rfl (by decide) ⟨a6B,a5s,Qo,trivial⟩ (fun(x:List UInt8)=>True∧cA Jm [byL x] fun x_1 y=>cA GG [.box 0 (cur x_1 (0:Int) y)] fun x_2 y=>eA (TJ x) [.box 0 (cur x_2.1 y.2.1 y.2.2),Ad [],.int .i64 (0:Int)]∧∀(i:Int×Int×Int×List Int),Jn i.2.2.2 i.1∧BN x i.2.1→Ab (decide (i.1<(12:Int))) (cA Ef [.box 0 (cur x i.2.1 i.2.2.1),.int .i64 (10000:Int)] fun x_3 y=>∃(x_4:Int),y.1=x_4∧∃(zs:List Int),Ad [x_4]=Ad zs∧Br Bc∧Ba (List.length i.2.2.2+List.length zs) (8:Nat)∧inR IntKind.i64 (i.1+(1:Int))∧eN (TJ x) i [.box 0 (cur x_3.1 y.2.1 y.2.2),Ad (i.2.2.2++zs),.int .i64 (i.1+(1:Int))]) (rA OA x [Ad i.2.2.2,.top])) (fun x=>by kernel_rfl) fun(x:List UInt8) (hx:x.length≤2^21)=>(by
 dsimp only[HP,byL,cA,cur,eA,eN,TJ,Ad,rA,Ef,GG,Jm,OA,Aw,Az,mvL,lnL,mvE,lnE,Bv]
 have hx:x.length≤2^21:=hx
 (repeat' first|(with_reducible first|rfl|exact True.intro|apply AK|apply And.intro|((first|apply AA|apply AI|apply AB|apply AJ)<;>intro _))|(apply Ax<;>intro _)|apply AH|refine Af () ?_ ?_|((first|apply AO|apply AN|apply AM|apply AL|apply AG|apply AF|apply AE|apply AD|apply AC)<;>try dsimp only)|apply Af|(refine Prod.forall.2 ?_;intro _;try dsimp only)|(intro _;try dsimp only))
 all_goals first
  |rfl
  |exact hx
  |exact a6C hx
  |exact()
  |skip
 all_goals(try(have hb:=c1v (And.left (show Jn _ _∧_ by assumption))))
 all_goals(repeat(rename _∧BN _ _=>hq;obtain⟨_,_⟩:=hq))
 all_goals first
  |exact c1u
  |(with_reducible assumption)
  |exact c1w ‹_› (by omega) (by omega)
  |((try simp only[AQ,Ba,List.length_append,List.length_cons,List.length_nil]);omega)
  |exact(And.right (show Jn _ _ by assumption) _ ‹_›).1
  |exact(And.right (show Jn _ _ by assumption) _ ‹_›).2
  |(have hq:=(show Jn _ _ by assumption).1;omega)
  |skip)
def OB:Sig:= {X:=List UInt8,args:=fun x=>[.sl false 0 1 UInt8 byA x],pre:=fun x=>True,Y:=Unit,post:=fun x y=>True,res:=fun x y=> .bool (decide ((x.length:Int)>1048576)),outs:=fun x y=>[.top],keep:=false}
theorem c1y:Al G Tryz.prog 6 OB:=
 vcFun_okP [] [] false (fun x=>[]) Tryz.func6 rfl (by decide) trivial (fun(x:List UInt8)=>(∀(y:Unit),True→True∧True∧True)∧rA OB x [.bool (decide ((↑(List.length x):Int)>(1048576:Int))),.top]) (fun x=>by kernel_rfl) fun(x:List UInt8) (hx:True)=>(by
 dsimp only[HP,rA,OB,Aw,Az]
 (repeat' first|(with_reducible first|rfl|exact True.intro|apply AK|apply And.intro|((first|apply AA|apply AI|apply AB|apply AJ)<;>intro _))|(apply Ax<;>intro _)|apply AH|refine Af () ?_ ?_|((first|apply AO|apply AN|apply AM|apply AL|apply AG|apply AF|apply AE|apply AD|apply AC)<;>try dsimp only)|apply Af|(refine Prod.forall.2 ?_;intro _;try dsimp only)|(intro _;try dsimp only))<;>(try dsimp only at*)<;>(try simp only[AQ,List.length_cons,List.length_nil])<;>(try omega))
theorem Yp{l:List (List UInt8)}{n:Nat}{s:List UInt8}(h:s∈l)(hl:l.all (fun e=>decide (e.length≤n))=true):s.length≤n:=by
 have:=List.all_eq_true.1 hl s h;simpa using this
def cdI(l:Cls)(i:Int):Prop:=(0≤i∧i≤4)∧(l.length:Int)=i
attribute [local irreducible] cdI
def zvL:Nat→Nat
 |0=>20
 |n+1=>3*zvL n+20
theorem a6D{n:Nat}(h:n≤2):20≤zvL n∧zvL n≤260:=by
 have:n=0∨n=1∨n=2:=by omega
 rcases this with rfl|rfl|rfl<;>decide
theorem c1z(n:Nat):zvL (n+1)=3*zvL n+20:=rfl
def CY(n:Nat):Sig:= {X:=List UInt8×Int×Int×Int,args:=fun x=>[.box 0 (cur x.1 x.2.1 x.2.2.1),.int .i64 x.2.2.2],pre:=fun x=>(BN x.1 x.2.1∧n≤2)∧x.2.2.2≤n∧ -5≤x.2.2.2,Y:=List UInt8×Int×Int,post:=fun x y=>y.1.length≤zvL n∧BN x.1 y.2.1,res:=fun x y=> .str y.1,outs:=fun x y=>[.box 0 (cur x.1 y.2.1 y.2.2),.top],keep:=true}
theorem a6E{k:Int}(h:((0:Int)<12→0≤k∧k<12)∧((12:Int)≤0→k=0)):0≤k∧k<12:=h.1 (by decide)
theorem a6F{k:Int}(h:0≤k):0≤k.tmod 4∧k.tmod 4<4:=Tc h (by decide)
def HT:Sig:= {X:=List UInt8×Int×Int×Int,args:=fun x=>[.box 0 (cur x.1 x.2.1 x.2.2.1),.int .i64 x.2.2.2],pre:=fun x=>(BN x.1 x.2.1∧0≤2)∧x.2.2.2≤(0:Nat)∧ -5≤x.2.2.2,Y:=List UInt8×Int×Int,post:=fun x y=>y.1.length≤zvL 0∧BN x.1 y.2.1,res:=fun x y=> .str y.1,outs:=fun x y=>[.box 0 (cur x.1 y.2.1 y.2.2),.top],keep:=true}
theorem c1A:Al G Tryz.prog 54 HT:=
 vcFun_okP [(31,0,Ef),(55,0,Cv)] [(91,⟨List UInt8,BA⟩)] false (fun x=>[]) Tryz.func54 rfl (by decide) ⟨Qo,Xz,trivial⟩ (fun(x:List UInt8×Int×Int×Int)=>True∧cA Ef [.box 0 (cur x.1 x.2.1 x.2.2.1),.int .i64 (12:Int)] fun x_1 y=>Ab (decide (x.2.2.2≤(0:Int))) ((4:Int)≠(0:Int)∧Ab (Int.tmod y.1 (4:Int)==(0:Int)) (∃(x_2:List UInt8),#[(110:UInt8)].toList=x_2∧∃(x_3:List UInt8),#[(105:UInt8)].toList=x_3∧∃(x_4:List UInt8),#[(107:UInt8)].toList=x_4∧cA Cv [.box 0 (cur x_1.1 y.2.1 y.2.2),AV.sl true 0 1 (List UInt8) BA [x_2,x_3,x_4]] fun x_5 y=>rA HT x [.str y.1,.box 0 (cur x_5.1 y.2.1 y.2.2),.top]) (Ab (Int.tmod y.1 (4:Int)==(1:Int)) (∃(x_2:List UInt8),#[(110:UInt8)].toList=x_2∧∃(x_3:List UInt8),#[(105:UInt8)].toList=x_3∧∃(x_4:List UInt8),#[(107:UInt8)].toList=x_4∧cA Cv [.box 0 (cur x_1.1 y.2.1 y.2.2),AV.sl true 0 1 (List UInt8) BA [x_2,x_3,x_4]] fun x_5 y=>rA HT x [.str y.1,.box 0 (cur x_5.1 y.2.1 y.2.2),.top]) (Ab (Int.tmod y.1 (4:Int)==(2:Int)) (∃(x_2:List UInt8),#[(48:UInt8)].toList=x_2∧∃(x_3:List UInt8),#[(49:UInt8)].toList=x_3∧∃(x_4:List UInt8),#[(50:UInt8)].toList=x_4∧∃(x_5:List UInt8),#[(55:UInt8)].toList=x_5∧∃(x_6:List UInt8),#[(57:UInt8),(57:UInt8),(57:UInt8),(57:UInt8),(57:UInt8),(57:UInt8),(57:UInt8),(57:UInt8),(57:UInt8)].toList=x_6∧cA Cv [.box 0 (cur x_1.1 y.2.1 y.2.2),AV.sl true 0 1 (List UInt8) BA [x_2,x_3,x_4,x_5,x_6]] fun x_7 y=>rA HT x [.str y.1,.box 0 (cur x_7.1 y.2.1 y.2.2),.top]) (Ab (Int.tmod y.1 (4:Int)==(3:Int)) (∃(x_2:List UInt8),#[(48:UInt8)].toList=x_2∧∃(x_3:List UInt8),#[(49:UInt8)].toList=x_3∧∃(x_4:List UInt8),#[(50:UInt8)].toList=x_4∧∃(x_5:List UInt8),#[(55:UInt8)].toList=x_5∧∃(x_6:List UInt8),#[(57:UInt8),(57:UInt8),(57:UInt8),(57:UInt8),(57:UInt8),(57:UInt8),(57:UInt8),(57:UInt8),(57:UInt8)].toList=x_6∧cA Cv [.box 0 (cur x_1.1 y.2.1 y.2.2),AV.sl true 0 1 (List UInt8) BA [x_2,x_3,x_4,x_5,x_6]] fun x_7 y=>rA HT x [.str y.1,.box 0 (cur x_7.1 y.2.1 y.2.2),.top]) (Ab (Int.tmod y.1 (4:Int)==(4:Int)) (∃(x_2:List UInt8),#[(43:UInt8)].toList=x_2∧∃(x_3:List UInt8),#[(45:UInt8)].toList=x_3∧∃(x_4:List UInt8),#[(42:UInt8)].toList=x_4∧∃(x_5:List UInt8),#[(60:UInt8)].toList=x_5∧∃(x_6:List UInt8),#[(61:UInt8),(61:UInt8)].toList=x_6∧∃(x_7:List UInt8),#[(38:UInt8),(38:UInt8)].toList=x_7∧∃(x_8:List UInt8),#[(124:UInt8),(124:UInt8)].toList=x_8∧cA Cv [.box 0 (cur x_1.1 y.2.1 y.2.2),AV.sl true 0 1 (List UInt8) BA [x_2,x_3,x_4,x_5,x_6,x_7,x_8]] fun x_9 y=>inR IntKind.i64 (x.2.2.2-(1:Int))∧False) (Ab (Int.tmod y.1 (4:Int)==(5:Int)) (∃(x_2:List UInt8),#[(43:UInt8)].toList=x_2∧∃(x_3:List UInt8),#[(45:UInt8)].toList=x_3∧∃(x_4:List UInt8),#[(42:UInt8)].toList=x_4∧∃(x_5:List UInt8),#[(60:UInt8)].toList=x_5∧∃(x_6:List UInt8),#[(61:UInt8),(61:UInt8)].toList=x_6∧∃(x_7:List UInt8),#[(38:UInt8),(38:UInt8)].toList=x_7∧∃(x_8:List UInt8),#[(124:UInt8),(124:UInt8)].toList=x_8∧cA Cv [.box 0 (cur x_1.1 y.2.1 y.2.2),AV.sl true 0 1 (List UInt8) BA [x_2,x_3,x_4,x_5,x_6,x_7,x_8]] fun x_9 y=>inR IntKind.i64 (x.2.2.2-(1:Int))∧False) (Ab (Int.tmod y.1 (4:Int)==(6:Int)) (∃(x_2:List UInt8),#[(43:UInt8)].toList=x_2∧∃(x_3:List UInt8),#[(45:UInt8)].toList=x_3∧∃(x_4:List UInt8),#[(42:UInt8)].toList=x_4∧∃(x_5:List UInt8),#[(60:UInt8)].toList=x_5∧∃(x_6:List UInt8),#[(61:UInt8),(61:UInt8)].toList=x_6∧∃(x_7:List UInt8),#[(38:UInt8),(38:UInt8)].toList=x_7∧∃(x_8:List UInt8),#[(124:UInt8),(124:UInt8)].toList=x_8∧cA Cv [.box 0 (cur x_1.1 y.2.1 y.2.2),AV.sl true 0 1 (List UInt8) BA [x_2,x_3,x_4,x_5,x_6,x_7,x_8]] fun x_9 y=>inR IntKind.i64 (x.2.2.2-(1:Int))∧False) (Ab (Int.tmod y.1 (4:Int)==(7:Int)) (inR IntKind.i64 (x.2.2.2-(1:Int))∧False) (Ab (Int.tmod y.1 (4:Int)==(8:Int)) (inR IntKind.i64 (x.2.2.2-(1:Int))∧False) (Ab (Int.tmod y.1 (4:Int)==(9:Int)) (inR IntKind.i64 (x.2.2.2-(1:Int))∧False) (Ab (Int.tmod y.1 (4:Int)==(10:Int)) (rA HT x [.str #[(40:UInt8),(50:UInt8),(32:UInt8),(43:UInt8),(32:UInt8),(51:UInt8),(41:UInt8),(32:UInt8),(42:UInt8),(32:UInt8),(40:UInt8),(52:UInt8),(32:UInt8),(45:UInt8),(32:UInt8),(49:UInt8),(41:UInt8)].toList,.box 0 (cur x_1.1 y.2.1 y.2.2),.top]) (inR IntKind.i64 (x.2.2.2-(1:Int))∧False)))))))))))) (Ab (y.1==(0:Int)) (∃(x_2:List UInt8),#[(110:UInt8)].toList=x_2∧∃(x_3:List UInt8),#[(105:UInt8)].toList=x_3∧∃(x_4:List UInt8),#[(107:UInt8)].toList=x_4∧cA Cv [.box 0 (cur x_1.1 y.2.1 y.2.2),AV.sl true 0 1 (List UInt8) BA [x_2,x_3,x_4]] fun x_5 y=>rA HT x [.str y.1,.box 0 (cur x_5.1 y.2.1 y.2.2),.top]) (Ab (y.1==(1:Int)) (∃(x_2:List UInt8),#[(110:UInt8)].toList=x_2∧∃(x_3:List UInt8),#[(105:UInt8)].toList=x_3∧∃(x_4:List UInt8),#[(107:UInt8)].toList=x_4∧cA Cv [.box 0 (cur x_1.1 y.2.1 y.2.2),AV.sl true 0 1 (List UInt8) BA [x_2,x_3,x_4]] fun x_5 y=>rA HT x [.str y.1,.box 0 (cur x_5.1 y.2.1 y.2.2),.top]) (Ab (y.1==(2:Int)) (∃(x_2:List UInt8),#[(48:UInt8)].toList=x_2∧∃(x_3:List UInt8),#[(49:UInt8)].toList=x_3∧∃(x_4:List UInt8),#[(50:UInt8)].toList=x_4∧∃(x_5:List UInt8),#[(55:UInt8)].toList=x_5∧∃(x_6:List UInt8),#[(57:UInt8),(57:UInt8),(57:UInt8),(57:UInt8),(57:UInt8),(57:UInt8),(57:UInt8),(57:UInt8),(57:UInt8)].toList=x_6∧cA Cv [.box 0 (cur x_1.1 y.2.1 y.2.2),AV.sl true 0 1 (List UInt8) BA [x_2,x_3,x_4,x_5,x_6]] fun x_7 y=>rA HT x [.str y.1,.box 0 (cur x_7.1 y.2.1 y.2.2),.top]) (Ab (y.1==(3:Int)) (∃(x_2:List UInt8),#[(48:UInt8)].toList=x_2∧∃(x_3:List UInt8),#[(49:UInt8)].toList=x_3∧∃(x_4:List UInt8),#[(50:UInt8)].toList=x_4∧∃(x_5:List UInt8),#[(55:UInt8)].toList=x_5∧∃(x_6:List UInt8),#[(57:UInt8),(57:UInt8),(57:UInt8),(57:UInt8),(57:UInt8),(57:UInt8),(57:UInt8),(57:UInt8),(57:UInt8)].toList=x_6∧cA Cv [.box 0 (cur x_1.1 y.2.1 y.2.2),AV.sl true 0 1 (List UInt8) BA [x_2,x_3,x_4,x_5,x_6]] fun x_7 y=>rA HT x [.str y.1,.box 0 (cur x_7.1 y.2.1 y.2.2),.top]) (Ab (y.1==(4:Int)) (∃(x_2:List UInt8),#[(43:UInt8)].toList=x_2∧∃(x_3:List UInt8),#[(45:UInt8)].toList=x_3∧∃(x_4:List UInt8),#[(42:UInt8)].toList=x_4∧∃(x_5:List UInt8),#[(60:UInt8)].toList=x_5∧∃(x_6:List UInt8),#[(61:UInt8),(61:UInt8)].toList=x_6∧∃(x_7:List UInt8),#[(38:UInt8),(38:UInt8)].toList=x_7∧∃(x_8:List UInt8),#[(124:UInt8),(124:UInt8)].toList=x_8∧cA Cv [.box 0 (cur x_1.1 y.2.1 y.2.2),AV.sl true 0 1 (List UInt8) BA [x_2,x_3,x_4,x_5,x_6,x_7,x_8]] fun x_9 y=>inR IntKind.i64 (x.2.2.2-(1:Int))∧False) (Ab (y.1==(5:Int)) (∃(x_2:List UInt8),#[(43:UInt8)].toList=x_2∧∃(x_3:List UInt8),#[(45:UInt8)].toList=x_3∧∃(x_4:List UInt8),#[(42:UInt8)].toList=x_4∧∃(x_5:List UInt8),#[(60:UInt8)].toList=x_5∧∃(x_6:List UInt8),#[(61:UInt8),(61:UInt8)].toList=x_6∧∃(x_7:List UInt8),#[(38:UInt8),(38:UInt8)].toList=x_7∧∃(x_8:List UInt8),#[(124:UInt8),(124:UInt8)].toList=x_8∧cA Cv [.box 0 (cur x_1.1 y.2.1 y.2.2),AV.sl true 0 1 (List UInt8) BA [x_2,x_3,x_4,x_5,x_6,x_7,x_8]] fun x_9 y=>inR IntKind.i64 (x.2.2.2-(1:Int))∧False) (Ab (y.1==(6:Int)) (∃(x_2:List UInt8),#[(43:UInt8)].toList=x_2∧∃(x_3:List UInt8),#[(45:UInt8)].toList=x_3∧∃(x_4:List UInt8),#[(42:UInt8)].toList=x_4∧∃(x_5:List UInt8),#[(60:UInt8)].toList=x_5∧∃(x_6:List UInt8),#[(61:UInt8),(61:UInt8)].toList=x_6∧∃(x_7:List UInt8),#[(38:UInt8),(38:UInt8)].toList=x_7∧∃(x_8:List UInt8),#[(124:UInt8),(124:UInt8)].toList=x_8∧cA Cv [.box 0 (cur x_1.1 y.2.1 y.2.2),AV.sl true 0 1 (List UInt8) BA [x_2,x_3,x_4,x_5,x_6,x_7,x_8]] fun x_9 y=>inR IntKind.i64 (x.2.2.2-(1:Int))∧False) (Ab (y.1==(7:Int)) (inR IntKind.i64 (x.2.2.2-(1:Int))∧False) (Ab (y.1==(8:Int)) (inR IntKind.i64 (x.2.2.2-(1:Int))∧False) (Ab (y.1==(9:Int)) (inR IntKind.i64 (x.2.2.2-(1:Int))∧False) (Ab (y.1==(10:Int)) (rA HT x [.str #[(40:UInt8),(50:UInt8),(32:UInt8),(43:UInt8),(32:UInt8),(51:UInt8),(41:UInt8),(32:UInt8),(42:UInt8),(32:UInt8),(40:UInt8),(52:UInt8),(32:UInt8),(45:UInt8),(32:UInt8),(49:UInt8),(41:UInt8)].toList,.box 0 (cur x_1.1 y.2.1 y.2.2),.top]) (inR IntKind.i64 (x.2.2.2-(1:Int))∧False))))))))))))) (fun x=>by kernel_rfl) fun(x:List UInt8×Int×Int×Int) (hx:(BN x.1 x.2.1∧0≤2)∧x.2.2.2≤(0:Nat)∧ -5≤x.2.2.2)=>(by
 dsimp only[HP,cA,cur,rA,Ef,Cv,HT,Aw,Az,mvL,lnL,mvE,lnE]
 obtain⟨b,i,h,d⟩:=x;dsimp only at hx ⊢
 obtain⟨⟨hx,hn⟩,hd,hd2⟩:=hx
 have hx:BN b i:=hx
 have hv:=a6D (n:=0) (by omega)
 (repeat' first|(with_reducible first|rfl|exact True.intro|apply AK|apply And.intro|((first|apply AA|apply AI|apply AB|apply AJ)<;>intro _))|(apply Ax<;>intro _)|apply AH|refine Af () ?_ ?_|((first|apply AO|apply AN|apply AM|apply AL|apply AG|apply AF|apply AE|apply AD|apply AC)<;>try dsimp only)|apply Af|(refine Prod.forall.2 ?_;intro _;try dsimp only)|(intro _;try dsimp only))
 all_goals(try(have hk:=a6E (And.left (show(((0:Int)<12→_)∧(_→_))∧BN _ _ by assumption));have hk5:=a6F hk.1))
 all_goals(repeat(rename _∈_∧BN _ _=>hq;obtain⟨hq1,_⟩:=hq;have hq2:=Yp (n:=20) hq1 (by decide);clear hq1))
 all_goals(repeat(rename _∧BN _ _=>hq;obtain⟨_,_⟩:=hq))
 all_goals first
  |rfl
  |(with_reducible assumption)
  |exact hx
  |(show BN _ _;with_reducible assumption)
  |(rename _=[]=>hq;cases hq;done)
  |omega
  |(simp only[AQ,List.length_append,List.length_cons,List.length_nil];omega)
  |skip)
def Dx(n:Nat):Sig:= {X:=List UInt8×Int×Int×Int,args:=fun x=>[.box 0 (cur x.1 x.2.1 x.2.2.1),.int .i64 x.2.2.2],pre:=fun x=>(BN x.1 x.2.1∧n+1≤2)∧x.2.2.2≤(n+1:Nat)∧ -5≤x.2.2.2,Y:=List UInt8×Int×Int,post:=fun x y=>y.1.length≤zvL (n+1)∧BN x.1 y.2.1,res:=fun x y=> .str y.1,outs:=fun x y=>[.box 0 (cur x.1 y.2.1 y.2.2),.top],keep:=true}
theorem c1B(n:Nat)(hc:Al G Go.Proofs.Tryz.prog 54 (CY n)):Al G Tryz.prog 54 (Dx n):=
 vcFun_okP [(31,0,Ef),(55,0,Cv),(54,0,(CY n))] [(91,⟨List UInt8,BA⟩)] false (fun x=>[]) Tryz.func54 rfl (by decide) ⟨Qo,Xz,hc,trivial⟩ (fun(x:List UInt8×Int×Int×Int)=>True∧cA Ef [.box 0 (cur x.1 x.2.1 x.2.2.1),.int .i64 (12:Int)] fun x_1 y=>Ab (decide (x.2.2.2≤(0:Int))) ((4:Int)≠(0:Int)∧Ab (Int.tmod y.1 (4:Int)==(0:Int)) (∃(x_2:List UInt8),#[(110:UInt8)].toList=x_2∧∃(x_3:List UInt8),#[(105:UInt8)].toList=x_3∧∃(x_4:List UInt8),#[(107:UInt8)].toList=x_4∧cA Cv [.box 0 (cur x_1.1 y.2.1 y.2.2),AV.sl true 0 1 (List UInt8) BA [x_2,x_3,x_4]] fun x_5 y=>rA (Dx n) x [.str y.1,.box 0 (cur x_5.1 y.2.1 y.2.2),.top]) (Ab (Int.tmod y.1 (4:Int)==(1:Int)) (∃(x_2:List UInt8),#[(110:UInt8)].toList=x_2∧∃(x_3:List UInt8),#[(105:UInt8)].toList=x_3∧∃(x_4:List UInt8),#[(107:UInt8)].toList=x_4∧cA Cv [.box 0 (cur x_1.1 y.2.1 y.2.2),AV.sl true 0 1 (List UInt8) BA [x_2,x_3,x_4]] fun x_5 y=>rA (Dx n) x [.str y.1,.box 0 (cur x_5.1 y.2.1 y.2.2),.top]) (Ab (Int.tmod y.1 (4:Int)==(2:Int)) (∃(x_2:List UInt8),#[(48:UInt8)].toList=x_2∧∃(x_3:List UInt8),#[(49:UInt8)].toList=x_3∧∃(x_4:List UInt8),#[(50:UInt8)].toList=x_4∧∃(x_5:List UInt8),#[(55:UInt8)].toList=x_5∧∃(x_6:List UInt8),#[(57:UInt8),(57:UInt8),(57:UInt8),(57:UInt8),(57:UInt8),(57:UInt8),(57:UInt8),(57:UInt8),(57:UInt8)].toList=x_6∧cA Cv [.box 0 (cur x_1.1 y.2.1 y.2.2),AV.sl true 0 1 (List UInt8) BA [x_2,x_3,x_4,x_5,x_6]] fun x_7 y=>rA (Dx n) x [.str y.1,.box 0 (cur x_7.1 y.2.1 y.2.2),.top]) (Ab (Int.tmod y.1 (4:Int)==(3:Int)) (∃(x_2:List UInt8),#[(48:UInt8)].toList=x_2∧∃(x_3:List UInt8),#[(49:UInt8)].toList=x_3∧∃(x_4:List UInt8),#[(50:UInt8)].toList=x_4∧∃(x_5:List UInt8),#[(55:UInt8)].toList=x_5∧∃(x_6:List UInt8),#[(57:UInt8),(57:UInt8),(57:UInt8),(57:UInt8),(57:UInt8),(57:UInt8),(57:UInt8),(57:UInt8),(57:UInt8)].toList=x_6∧cA Cv [.box 0 (cur x_1.1 y.2.1 y.2.2),AV.sl true 0 1 (List UInt8) BA [x_2,x_3,x_4,x_5,x_6]] fun x_7 y=>rA (Dx n) x [.str y.1,.box 0 (cur x_7.1 y.2.1 y.2.2),.top]) (Ab (Int.tmod y.1 (4:Int)==(4:Int)) (∃(x_2:List UInt8),#[(43:UInt8)].toList=x_2∧∃(x_3:List UInt8),#[(45:UInt8)].toList=x_3∧∃(x_4:List UInt8),#[(42:UInt8)].toList=x_4∧∃(x_5:List UInt8),#[(60:UInt8)].toList=x_5∧∃(x_6:List UInt8),#[(61:UInt8),(61:UInt8)].toList=x_6∧∃(x_7:List UInt8),#[(38:UInt8),(38:UInt8)].toList=x_7∧∃(x_8:List UInt8),#[(124:UInt8),(124:UInt8)].toList=x_8∧cA Cv [.box 0 (cur x_1.1 y.2.1 y.2.2),AV.sl true 0 1 (List UInt8) BA [x_2,x_3,x_4,x_5,x_6,x_7,x_8]] fun x_9 y=>inR IntKind.i64 (x.2.2.2-(1:Int))∧cA (CY n) [.box 0 (cur x_9.1 y.2.1 y.2.2),.int .i64 (x.2.2.2-(1:Int))] fun x_10 y_1=>(↑((1:Nat)+List.length y_1.1):Int)≤IntKind.max IntKind.i64∧(↑(List.length (#[(40:UInt8)].toList++y_1.1)+(2:Nat)):Int)≤IntKind.max IntKind.i64∧(↑(List.length (#[(40:UInt8)].toList++y_1.1++ #[(41:UInt8),(32:UInt8)].toList)+List.length y.1):Int)≤IntKind.max IntKind.i64∧(↑(List.length (#[(40:UInt8)].toList++y_1.1++ #[(41:UInt8),(32:UInt8)].toList++y.1)+(2:Nat)):Int)≤IntKind.max IntKind.i64∧inR IntKind.i64 (x.2.2.2-(1:Int))∧cA (CY n) [.box 0 (cur x_10.1 y_1.2.1 y_1.2.2),.int .i64 (x.2.2.2-(1:Int))] fun x_11 y_2=>(↑(List.length (#[(40:UInt8)].toList++y_1.1++ #[(41:UInt8),(32:UInt8)].toList++y.1++ #[(32:UInt8),(40:UInt8)].toList)+List.length y_2.1):Int)≤IntKind.max IntKind.i64∧(↑(List.length (#[(40:UInt8)].toList++y_1.1++ #[(41:UInt8),(32:UInt8)].toList++y.1++ #[(32:UInt8),(40:UInt8)].toList++y_2.1)+(1:Nat)):Int)≤IntKind.max IntKind.i64∧rA (Dx n) x [.str (#[(40:UInt8)].toList++y_1.1++ #[(41:UInt8),(32:UInt8)].toList++y.1++ #[(32:UInt8),(40:UInt8)].toList++y_2.1++ #[(41:UInt8)].toList),.box 0 (cur x_11.1 y_2.2.1 y_2.2.2),.top]) (Ab (Int.tmod y.1 (4:Int)==(5:Int)) (∃(x_2:List UInt8),#[(43:UInt8)].toList=x_2∧∃(x_3:List UInt8),#[(45:UInt8)].toList=x_3∧∃(x_4:List UInt8),#[(42:UInt8)].toList=x_4∧∃(x_5:List UInt8),#[(60:UInt8)].toList=x_5∧∃(x_6:List UInt8),#[(61:UInt8),(61:UInt8)].toList=x_6∧∃(x_7:List UInt8),#[(38:UInt8),(38:UInt8)].toList=x_7∧∃(x_8:List UInt8),#[(124:UInt8),(124:UInt8)].toList=x_8∧cA Cv [.box 0 (cur x_1.1 y.2.1 y.2.2),AV.sl true 0 1 (List UInt8) BA [x_2,x_3,x_4,x_5,x_6,x_7,x_8]] fun x_9 y=>inR IntKind.i64 (x.2.2.2-(1:Int))∧cA (CY n) [.box 0 (cur x_9.1 y.2.1 y.2.2),.int .i64 (x.2.2.2-(1:Int))] fun x_10 y_1=>(↑((1:Nat)+List.length y_1.1):Int)≤IntKind.max IntKind.i64∧(↑(List.length (#[(40:UInt8)].toList++y_1.1)+(2:Nat)):Int)≤IntKind.max IntKind.i64∧(↑(List.length (#[(40:UInt8)].toList++y_1.1++ #[(41:UInt8),(32:UInt8)].toList)+List.length y.1):Int)≤IntKind.max IntKind.i64∧(↑(List.length (#[(40:UInt8)].toList++y_1.1++ #[(41:UInt8),(32:UInt8)].toList++y.1)+(2:Nat)):Int)≤IntKind.max IntKind.i64∧inR IntKind.i64 (x.2.2.2-(1:Int))∧cA (CY n) [.box 0 (cur x_10.1 y_1.2.1 y_1.2.2),.int .i64 (x.2.2.2-(1:Int))] fun x_11 y_2=>(↑(List.length (#[(40:UInt8)].toList++y_1.1++ #[(41:UInt8),(32:UInt8)].toList++y.1++ #[(32:UInt8),(40:UInt8)].toList)+List.length y_2.1):Int)≤IntKind.max IntKind.i64∧(↑(List.length (#[(40:UInt8)].toList++y_1.1++ #[(41:UInt8),(32:UInt8)].toList++y.1++ #[(32:UInt8),(40:UInt8)].toList++y_2.1)+(1:Nat)):Int)≤IntKind.max IntKind.i64∧rA (Dx n) x [.str (#[(40:UInt8)].toList++y_1.1++ #[(41:UInt8),(32:UInt8)].toList++y.1++ #[(32:UInt8),(40:UInt8)].toList++y_2.1++ #[(41:UInt8)].toList),.box 0 (cur x_11.1 y_2.2.1 y_2.2.2),.top]) (Ab (Int.tmod y.1 (4:Int)==(6:Int)) (∃(x_2:List UInt8),#[(43:UInt8)].toList=x_2∧∃(x_3:List UInt8),#[(45:UInt8)].toList=x_3∧∃(x_4:List UInt8),#[(42:UInt8)].toList=x_4∧∃(x_5:List UInt8),#[(60:UInt8)].toList=x_5∧∃(x_6:List UInt8),#[(61:UInt8),(61:UInt8)].toList=x_6∧∃(x_7:List UInt8),#[(38:UInt8),(38:UInt8)].toList=x_7∧∃(x_8:List UInt8),#[(124:UInt8),(124:UInt8)].toList=x_8∧cA Cv [.box 0 (cur x_1.1 y.2.1 y.2.2),AV.sl true 0 1 (List UInt8) BA [x_2,x_3,x_4,x_5,x_6,x_7,x_8]] fun x_9 y=>inR IntKind.i64 (x.2.2.2-(1:Int))∧cA (CY n) [.box 0 (cur x_9.1 y.2.1 y.2.2),.int .i64 (x.2.2.2-(1:Int))] fun x_10 y_1=>(↑((1:Nat)+List.length y_1.1):Int)≤IntKind.max IntKind.i64∧(↑(List.length (#[(40:UInt8)].toList++y_1.1)+(2:Nat)):Int)≤IntKind.max IntKind.i64∧(↑(List.length (#[(40:UInt8)].toList++y_1.1++ #[(41:UInt8),(32:UInt8)].toList)+List.length y.1):Int)≤IntKind.max IntKind.i64∧(↑(List.length (#[(40:UInt8)].toList++y_1.1++ #[(41:UInt8),(32:UInt8)].toList++y.1)+(2:Nat)):Int)≤IntKind.max IntKind.i64∧inR IntKind.i64 (x.2.2.2-(1:Int))∧cA (CY n) [.box 0 (cur x_10.1 y_1.2.1 y_1.2.2),.int .i64 (x.2.2.2-(1:Int))] fun x_11 y_2=>(↑(List.length (#[(40:UInt8)].toList++y_1.1++ #[(41:UInt8),(32:UInt8)].toList++y.1++ #[(32:UInt8),(40:UInt8)].toList)+List.length y_2.1):Int)≤IntKind.max IntKind.i64∧(↑(List.length (#[(40:UInt8)].toList++y_1.1++ #[(41:UInt8),(32:UInt8)].toList++y.1++ #[(32:UInt8),(40:UInt8)].toList++y_2.1)+(1:Nat)):Int)≤IntKind.max IntKind.i64∧rA (Dx n) x [.str (#[(40:UInt8)].toList++y_1.1++ #[(41:UInt8),(32:UInt8)].toList++y.1++ #[(32:UInt8),(40:UInt8)].toList++y_2.1++ #[(41:UInt8)].toList),.box 0 (cur x_11.1 y_2.2.1 y_2.2.2),.top]) (Ab (Int.tmod y.1 (4:Int)==(7:Int)) (inR IntKind.i64 (x.2.2.2-(1:Int))∧cA (CY n) [.box 0 (cur x_1.1 y.2.1 y.2.2),.int .i64 (x.2.2.2-(1:Int))] fun x_2 y=>(↑((2:Nat)+List.length y.1):Int)≤IntKind.max IntKind.i64∧(↑(List.length (#[(40:UInt8),(40:UInt8)].toList++y.1)+(9:Nat)):Int)≤IntKind.max IntKind.i64∧inR IntKind.i64 (x.2.2.2-(1:Int))∧cA (CY n) [.box 0 (cur x_2.1 y.2.1 y.2.2),.int .i64 (x.2.2.2-(1:Int))] fun x_3 y_1=>(↑(List.length (#[(40:UInt8),(40:UInt8)].toList++y.1++ #[(41:UInt8),(41:UInt8),(32:UInt8),(43:UInt8),(32:UInt8),(49:UInt8),(32:UInt8),(43:UInt8),(32:UInt8)].toList)+List.length y_1.1):Int)≤IntKind.max IntKind.i64∧rA (Dx n) x [.str (#[(40:UInt8),(40:UInt8)].toList++y.1++ #[(41:UInt8),(41:UInt8),(32:UInt8),(43:UInt8),(32:UInt8),(49:UInt8),(32:UInt8),(43:UInt8),(32:UInt8)].toList++y_1.1),.box 0 (cur x_3.1 y_1.2.1 y_1.2.2),.top]) (Ab (Int.tmod y.1 (4:Int)==(8:Int)) (inR IntKind.i64 (x.2.2.2-(1:Int))∧cA (CY n) [.box 0 (cur x_1.1 y.2.1 y.2.2),.int .i64 (x.2.2.2-(1:Int))] fun x_2 y=>(↑(List.length y.1+(7:Nat)):Int)≤IntKind.max IntKind.i64∧inR IntKind.i64 (x.2.2.2-(1:Int))∧cA (CY n) [.box 0 (cur x_2.1 y.2.1 y.2.2),.int .i64 (x.2.2.2-(1:Int))] fun x_3 y_1=>(↑(List.length (y.1++ #[(32:UInt8),(60:UInt8),(32:UInt8),(51:UInt8),(32:UInt8),(63:UInt8),(32:UInt8)].toList)+List.length y_1.1):Int)≤IntKind.max IntKind.i64∧(↑(List.length (y.1++ #[(32:UInt8),(60:UInt8),(32:UInt8),(51:UInt8),(32:UInt8),(63:UInt8),(32:UInt8)].toList++y_1.1)+(3:Nat)):Int)≤IntKind.max IntKind.i64∧inR IntKind.i64 (x.2.2.2-(1:Int))∧cA (CY n) [.box 0 (cur x_3.1 y_1.2.1 y_1.2.2),.int .i64 (x.2.2.2-(1:Int))] fun x_4 y_2=>(↑(List.length (y.1++ #[(32:UInt8),(60:UInt8),(32:UInt8),(51:UInt8),(32:UInt8),(63:UInt8),(32:UInt8)].toList++y_1.1++ #[(32:UInt8),(58:UInt8),(32:UInt8)].toList)+List.length y_2.1):Int)≤IntKind.max IntKind.i64∧rA (Dx n) x [.str (y.1++ #[(32:UInt8),(60:UInt8),(32:UInt8),(51:UInt8),(32:UInt8),(63:UInt8),(32:UInt8)].toList++y_1.1++ #[(32:UInt8),(58:UInt8),(32:UInt8)].toList++y_2.1),.box 0 (cur x_4.1 y_2.2.1 y_2.2.2),.top]) (Ab (Int.tmod y.1 (4:Int)==(9:Int)) (inR IntKind.i64 (x.2.2.2-(1:Int))∧cA (CY n) [.box 0 (cur x_1.1 y.2.1 y.2.2),.int .i64 (x.2.2.2-(1:Int))] fun x_2 y=>(↑((6:Nat)+List.length y.1):Int)≤IntKind.max IntKind.i64∧(↑(List.length (#[(116:UInt8),(119:UInt8),(105:UInt8),(99:UInt8),(101:UInt8),(40:UInt8)].toList++y.1)+(1:Nat)):Int)≤IntKind.max IntKind.i64∧rA (Dx n) x [.str (#[(116:UInt8),(119:UInt8),(105:UInt8),(99:UInt8),(101:UInt8),(40:UInt8)].toList++y.1++ #[(41:UInt8)].toList),.box 0 (cur x_2.1 y.2.1 y.2.2),.top]) (Ab (Int.tmod y.1 (4:Int)==(10:Int)) (rA (Dx n) x [.str #[(40:UInt8),(50:UInt8),(32:UInt8),(43:UInt8),(32:UInt8),(51:UInt8),(41:UInt8),(32:UInt8),(42:UInt8),(32:UInt8),(40:UInt8),(52:UInt8),(32:UInt8),(45:UInt8),(32:UInt8),(49:UInt8),(41:UInt8)].toList,.box 0 (cur x_1.1 y.2.1 y.2.2),.top]) (inR IntKind.i64 (x.2.2.2-(1:Int))∧cA (CY n) [.box 0 (cur x_1.1 y.2.1 y.2.2),.int .i64 (x.2.2.2-(1:Int))] fun x_2 y=>(↑((1:Nat)+List.length y.1):Int)≤IntKind.max IntKind.i64∧(↑(List.length (#[(40:UInt8)].toList++y.1)+(1:Nat)):Int)≤IntKind.max IntKind.i64∧rA (Dx n) x [.str (#[(40:UInt8)].toList++y.1++ #[(41:UInt8)].toList),.box 0 (cur x_2.1 y.2.1 y.2.2),.top])))))))))))) (Ab (y.1==(0:Int)) (∃(x_2:List UInt8),#[(110:UInt8)].toList=x_2∧∃(x_3:List UInt8),#[(105:UInt8)].toList=x_3∧∃(x_4:List UInt8),#[(107:UInt8)].toList=x_4∧cA Cv [.box 0 (cur x_1.1 y.2.1 y.2.2),AV.sl true 0 1 (List UInt8) BA [x_2,x_3,x_4]] fun x_5 y=>rA (Dx n) x [.str y.1,.box 0 (cur x_5.1 y.2.1 y.2.2),.top]) (Ab (y.1==(1:Int)) (∃(x_2:List UInt8),#[(110:UInt8)].toList=x_2∧∃(x_3:List UInt8),#[(105:UInt8)].toList=x_3∧∃(x_4:List UInt8),#[(107:UInt8)].toList=x_4∧cA Cv [.box 0 (cur x_1.1 y.2.1 y.2.2),AV.sl true 0 1 (List UInt8) BA [x_2,x_3,x_4]] fun x_5 y=>rA (Dx n) x [.str y.1,.box 0 (cur x_5.1 y.2.1 y.2.2),.top]) (Ab (y.1==(2:Int)) (∃(x_2:List UInt8),#[(48:UInt8)].toList=x_2∧∃(x_3:List UInt8),#[(49:UInt8)].toList=x_3∧∃(x_4:List UInt8),#[(50:UInt8)].toList=x_4∧∃(x_5:List UInt8),#[(55:UInt8)].toList=x_5∧∃(x_6:List UInt8),#[(57:UInt8),(57:UInt8),(57:UInt8),(57:UInt8),(57:UInt8),(57:UInt8),(57:UInt8),(57:UInt8),(57:UInt8)].toList=x_6∧cA Cv [.box 0 (cur x_1.1 y.2.1 y.2.2),AV.sl true 0 1 (List UInt8) BA [x_2,x_3,x_4,x_5,x_6]] fun x_7 y=>rA (Dx n) x [.str y.1,.box 0 (cur x_7.1 y.2.1 y.2.2),.top]) (Ab (y.1==(3:Int)) (∃(x_2:List UInt8),#[(48:UInt8)].toList=x_2∧∃(x_3:List UInt8),#[(49:UInt8)].toList=x_3∧∃(x_4:List UInt8),#[(50:UInt8)].toList=x_4∧∃(x_5:List UInt8),#[(55:UInt8)].toList=x_5∧∃(x_6:List UInt8),#[(57:UInt8),(57:UInt8),(57:UInt8),(57:UInt8),(57:UInt8),(57:UInt8),(57:UInt8),(57:UInt8),(57:UInt8)].toList=x_6∧cA Cv [.box 0 (cur x_1.1 y.2.1 y.2.2),AV.sl true 0 1 (List UInt8) BA [x_2,x_3,x_4,x_5,x_6]] fun x_7 y=>rA (Dx n) x [.str y.1,.box 0 (cur x_7.1 y.2.1 y.2.2),.top]) (Ab (y.1==(4:Int)) (∃(x_2:List UInt8),#[(43:UInt8)].toList=x_2∧∃(x_3:List UInt8),#[(45:UInt8)].toList=x_3∧∃(x_4:List UInt8),#[(42:UInt8)].toList=x_4∧∃(x_5:List UInt8),#[(60:UInt8)].toList=x_5∧∃(x_6:List UInt8),#[(61:UInt8),(61:UInt8)].toList=x_6∧∃(x_7:List UInt8),#[(38:UInt8),(38:UInt8)].toList=x_7∧∃(x_8:List UInt8),#[(124:UInt8),(124:UInt8)].toList=x_8∧cA Cv [.box 0 (cur x_1.1 y.2.1 y.2.2),AV.sl true 0 1 (List UInt8) BA [x_2,x_3,x_4,x_5,x_6,x_7,x_8]] fun x_9 y=>inR IntKind.i64 (x.2.2.2-(1:Int))∧cA (CY n) [.box 0 (cur x_9.1 y.2.1 y.2.2),.int .i64 (x.2.2.2-(1:Int))] fun x_10 y_1=>(↑((1:Nat)+List.length y_1.1):Int)≤IntKind.max IntKind.i64∧(↑(List.length (#[(40:UInt8)].toList++y_1.1)+(2:Nat)):Int)≤IntKind.max IntKind.i64∧(↑(List.length (#[(40:UInt8)].toList++y_1.1++ #[(41:UInt8),(32:UInt8)].toList)+List.length y.1):Int)≤IntKind.max IntKind.i64∧(↑(List.length (#[(40:UInt8)].toList++y_1.1++ #[(41:UInt8),(32:UInt8)].toList++y.1)+(2:Nat)):Int)≤IntKind.max IntKind.i64∧inR IntKind.i64 (x.2.2.2-(1:Int))∧cA (CY n) [.box 0 (cur x_10.1 y_1.2.1 y_1.2.2),.int .i64 (x.2.2.2-(1:Int))] fun x_11 y_2=>(↑(List.length (#[(40:UInt8)].toList++y_1.1++ #[(41:UInt8),(32:UInt8)].toList++y.1++ #[(32:UInt8),(40:UInt8)].toList)+List.length y_2.1):Int)≤IntKind.max IntKind.i64∧(↑(List.length (#[(40:UInt8)].toList++y_1.1++ #[(41:UInt8),(32:UInt8)].toList++y.1++ #[(32:UInt8),(40:UInt8)].toList++y_2.1)+(1:Nat)):Int)≤IntKind.max IntKind.i64∧rA (Dx n) x [.str (#[(40:UInt8)].toList++y_1.1++ #[(41:UInt8),(32:UInt8)].toList++y.1++ #[(32:UInt8),(40:UInt8)].toList++y_2.1++ #[(41:UInt8)].toList),.box 0 (cur x_11.1 y_2.2.1 y_2.2.2),.top]) (Ab (y.1==(5:Int)) (∃(x_2:List UInt8),#[(43:UInt8)].toList=x_2∧∃(x_3:List UInt8),#[(45:UInt8)].toList=x_3∧∃(x_4:List UInt8),#[(42:UInt8)].toList=x_4∧∃(x_5:List UInt8),#[(60:UInt8)].toList=x_5∧∃(x_6:List UInt8),#[(61:UInt8),(61:UInt8)].toList=x_6∧∃(x_7:List UInt8),#[(38:UInt8),(38:UInt8)].toList=x_7∧∃(x_8:List UInt8),#[(124:UInt8),(124:UInt8)].toList=x_8∧cA Cv [.box 0 (cur x_1.1 y.2.1 y.2.2),AV.sl true 0 1 (List UInt8) BA [x_2,x_3,x_4,x_5,x_6,x_7,x_8]] fun x_9 y=>inR IntKind.i64 (x.2.2.2-(1:Int))∧cA (CY n) [.box 0 (cur x_9.1 y.2.1 y.2.2),.int .i64 (x.2.2.2-(1:Int))] fun x_10 y_1=>(↑((1:Nat)+List.length y_1.1):Int)≤IntKind.max IntKind.i64∧(↑(List.length (#[(40:UInt8)].toList++y_1.1)+(2:Nat)):Int)≤IntKind.max IntKind.i64∧(↑(List.length (#[(40:UInt8)].toList++y_1.1++ #[(41:UInt8),(32:UInt8)].toList)+List.length y.1):Int)≤IntKind.max IntKind.i64∧(↑(List.length (#[(40:UInt8)].toList++y_1.1++ #[(41:UInt8),(32:UInt8)].toList++y.1)+(2:Nat)):Int)≤IntKind.max IntKind.i64∧inR IntKind.i64 (x.2.2.2-(1:Int))∧cA (CY n) [.box 0 (cur x_10.1 y_1.2.1 y_1.2.2),.int .i64 (x.2.2.2-(1:Int))] fun x_11 y_2=>(↑(List.length (#[(40:UInt8)].toList++y_1.1++ #[(41:UInt8),(32:UInt8)].toList++y.1++ #[(32:UInt8),(40:UInt8)].toList)+List.length y_2.1):Int)≤IntKind.max IntKind.i64∧(↑(List.length (#[(40:UInt8)].toList++y_1.1++ #[(41:UInt8),(32:UInt8)].toList++y.1++ #[(32:UInt8),(40:UInt8)].toList++y_2.1)+(1:Nat)):Int)≤IntKind.max IntKind.i64∧rA (Dx n) x [.str (#[(40:UInt8)].toList++y_1.1++ #[(41:UInt8),(32:UInt8)].toList++y.1++ #[(32:UInt8),(40:UInt8)].toList++y_2.1++ #[(41:UInt8)].toList),.box 0 (cur x_11.1 y_2.2.1 y_2.2.2),.top]) (Ab (y.1==(6:Int)) (∃(x_2:List UInt8),#[(43:UInt8)].toList=x_2∧∃(x_3:List UInt8),#[(45:UInt8)].toList=x_3∧∃(x_4:List UInt8),#[(42:UInt8)].toList=x_4∧∃(x_5:List UInt8),#[(60:UInt8)].toList=x_5∧∃(x_6:List UInt8),#[(61:UInt8),(61:UInt8)].toList=x_6∧∃(x_7:List UInt8),#[(38:UInt8),(38:UInt8)].toList=x_7∧∃(x_8:List UInt8),#[(124:UInt8),(124:UInt8)].toList=x_8∧cA Cv [.box 0 (cur x_1.1 y.2.1 y.2.2),AV.sl true 0 1 (List UInt8) BA [x_2,x_3,x_4,x_5,x_6,x_7,x_8]] fun x_9 y=>inR IntKind.i64 (x.2.2.2-(1:Int))∧cA (CY n) [.box 0 (cur x_9.1 y.2.1 y.2.2),.int .i64 (x.2.2.2-(1:Int))] fun x_10 y_1=>(↑((1:Nat)+List.length y_1.1):Int)≤IntKind.max IntKind.i64∧(↑(List.length (#[(40:UInt8)].toList++y_1.1)+(2:Nat)):Int)≤IntKind.max IntKind.i64∧(↑(List.length (#[(40:UInt8)].toList++y_1.1++ #[(41:UInt8),(32:UInt8)].toList)+List.length y.1):Int)≤IntKind.max IntKind.i64∧(↑(List.length (#[(40:UInt8)].toList++y_1.1++ #[(41:UInt8),(32:UInt8)].toList++y.1)+(2:Nat)):Int)≤IntKind.max IntKind.i64∧inR IntKind.i64 (x.2.2.2-(1:Int))∧cA (CY n) [.box 0 (cur x_10.1 y_1.2.1 y_1.2.2),.int .i64 (x.2.2.2-(1:Int))] fun x_11 y_2=>(↑(List.length (#[(40:UInt8)].toList++y_1.1++ #[(41:UInt8),(32:UInt8)].toList++y.1++ #[(32:UInt8),(40:UInt8)].toList)+List.length y_2.1):Int)≤IntKind.max IntKind.i64∧(↑(List.length (#[(40:UInt8)].toList++y_1.1++ #[(41:UInt8),(32:UInt8)].toList++y.1++ #[(32:UInt8),(40:UInt8)].toList++y_2.1)+(1:Nat)):Int)≤IntKind.max IntKind.i64∧rA (Dx n) x [.str (#[(40:UInt8)].toList++y_1.1++ #[(41:UInt8),(32:UInt8)].toList++y.1++ #[(32:UInt8),(40:UInt8)].toList++y_2.1++ #[(41:UInt8)].toList),.box 0 (cur x_11.1 y_2.2.1 y_2.2.2),.top]) (Ab (y.1==(7:Int)) (inR IntKind.i64 (x.2.2.2-(1:Int))∧cA (CY n) [.box 0 (cur x_1.1 y.2.1 y.2.2),.int .i64 (x.2.2.2-(1:Int))] fun x_2 y=>(↑((2:Nat)+List.length y.1):Int)≤IntKind.max IntKind.i64∧(↑(List.length (#[(40:UInt8),(40:UInt8)].toList++y.1)+(9:Nat)):Int)≤IntKind.max IntKind.i64∧inR IntKind.i64 (x.2.2.2-(1:Int))∧cA (CY n) [.box 0 (cur x_2.1 y.2.1 y.2.2),.int .i64 (x.2.2.2-(1:Int))] fun x_3 y_1=>(↑(List.length (#[(40:UInt8),(40:UInt8)].toList++y.1++ #[(41:UInt8),(41:UInt8),(32:UInt8),(43:UInt8),(32:UInt8),(49:UInt8),(32:UInt8),(43:UInt8),(32:UInt8)].toList)+List.length y_1.1):Int)≤IntKind.max IntKind.i64∧rA (Dx n) x [.str (#[(40:UInt8),(40:UInt8)].toList++y.1++ #[(41:UInt8),(41:UInt8),(32:UInt8),(43:UInt8),(32:UInt8),(49:UInt8),(32:UInt8),(43:UInt8),(32:UInt8)].toList++y_1.1),.box 0 (cur x_3.1 y_1.2.1 y_1.2.2),.top]) (Ab (y.1==(8:Int)) (inR IntKind.i64 (x.2.2.2-(1:Int))∧cA (CY n) [.box 0 (cur x_1.1 y.2.1 y.2.2),.int .i64 (x.2.2.2-(1:Int))] fun x_2 y=>(↑(List.length y.1+(7:Nat)):Int)≤IntKind.max IntKind.i64∧inR IntKind.i64 (x.2.2.2-(1:Int))∧cA (CY n) [.box 0 (cur x_2.1 y.2.1 y.2.2),.int .i64 (x.2.2.2-(1:Int))] fun x_3 y_1=>(↑(List.length (y.1++ #[(32:UInt8),(60:UInt8),(32:UInt8),(51:UInt8),(32:UInt8),(63:UInt8),(32:UInt8)].toList)+List.length y_1.1):Int)≤IntKind.max IntKind.i64∧(↑(List.length (y.1++ #[(32:UInt8),(60:UInt8),(32:UInt8),(51:UInt8),(32:UInt8),(63:UInt8),(32:UInt8)].toList++y_1.1)+(3:Nat)):Int)≤IntKind.max IntKind.i64∧inR IntKind.i64 (x.2.2.2-(1:Int))∧cA (CY n) [.box 0 (cur x_3.1 y_1.2.1 y_1.2.2),.int .i64 (x.2.2.2-(1:Int))] fun x_4 y_2=>(↑(List.length (y.1++ #[(32:UInt8),(60:UInt8),(32:UInt8),(51:UInt8),(32:UInt8),(63:UInt8),(32:UInt8)].toList++y_1.1++ #[(32:UInt8),(58:UInt8),(32:UInt8)].toList)+List.length y_2.1):Int)≤IntKind.max IntKind.i64∧rA (Dx n) x [.str (y.1++ #[(32:UInt8),(60:UInt8),(32:UInt8),(51:UInt8),(32:UInt8),(63:UInt8),(32:UInt8)].toList++y_1.1++ #[(32:UInt8),(58:UInt8),(32:UInt8)].toList++y_2.1),.box 0 (cur x_4.1 y_2.2.1 y_2.2.2),.top]) (Ab (y.1==(9:Int)) (inR IntKind.i64 (x.2.2.2-(1:Int))∧cA (CY n) [.box 0 (cur x_1.1 y.2.1 y.2.2),.int .i64 (x.2.2.2-(1:Int))] fun x_2 y=>(↑((6:Nat)+List.length y.1):Int)≤IntKind.max IntKind.i64∧(↑(List.length (#[(116:UInt8),(119:UInt8),(105:UInt8),(99:UInt8),(101:UInt8),(40:UInt8)].toList++y.1)+(1:Nat)):Int)≤IntKind.max IntKind.i64∧rA (Dx n) x [.str (#[(116:UInt8),(119:UInt8),(105:UInt8),(99:UInt8),(101:UInt8),(40:UInt8)].toList++y.1++ #[(41:UInt8)].toList),.box 0 (cur x_2.1 y.2.1 y.2.2),.top]) (Ab (y.1==(10:Int)) (rA (Dx n) x [.str #[(40:UInt8),(50:UInt8),(32:UInt8),(43:UInt8),(32:UInt8),(51:UInt8),(41:UInt8),(32:UInt8),(42:UInt8),(32:UInt8),(40:UInt8),(52:UInt8),(32:UInt8),(45:UInt8),(32:UInt8),(49:UInt8),(41:UInt8)].toList,.box 0 (cur x_1.1 y.2.1 y.2.2),.top]) (inR IntKind.i64 (x.2.2.2-(1:Int))∧cA (CY n) [.box 0 (cur x_1.1 y.2.1 y.2.2),.int .i64 (x.2.2.2-(1:Int))] fun x_2 y=>(↑((1:Nat)+List.length y.1):Int)≤IntKind.max IntKind.i64∧(↑(List.length (#[(40:UInt8)].toList++y.1)+(1:Nat)):Int)≤IntKind.max IntKind.i64∧rA (Dx n) x [.str (#[(40:UInt8)].toList++y.1++ #[(41:UInt8)].toList),.box 0 (cur x_2.1 y.2.1 y.2.2),.top]))))))))))))) (fun x=>by kernel_rfl) fun(x:List UInt8×Int×Int×Int) (hx:(BN x.1 x.2.1∧n+1≤2)∧x.2.2.2≤(n+1:Nat)∧ -5≤x.2.2.2)=>(by
 dsimp only[HP,cA,cur,rA,Ef,Cv,Dx,CY,Aw,Az,mvL,lnL,mvE,lnE]
 obtain⟨b,i,h,d⟩:=x;dsimp only at hx ⊢
 obtain⟨⟨hx,hn⟩,hd,hd2⟩:=hx
 have hx:BN b i:=hx
 have hv:=a6D (n:=n) (by omega);have hv2:=c1z n
 (repeat' first|(with_reducible first|rfl|exact True.intro|apply AK|apply And.intro|((first|apply AA|apply AI|apply AB|apply AJ)<;>intro _))|(apply Ax<;>intro _)|apply AH|refine Af () ?_ ?_|((first|apply AO|apply AN|apply AM|apply AL|apply AG|apply AF|apply AE|apply AD|apply AC)<;>try dsimp only)|apply Af|(refine Prod.forall.2 ?_;intro _;try dsimp only)|(intro _;try dsimp only))
 all_goals(try(have hk:=a6E (And.left (show(((0:Int)<12→_)∧(_→_))∧BN _ _ by assumption));have hk5:=a6F hk.1))
 all_goals(repeat(rename _∈_∧BN _ _=>hq;obtain⟨hq1,_⟩:=hq;have hq2:=Yp (n:=20) hq1 (by decide);clear hq1))
 all_goals(repeat(rename _∧BN _ _=>hq;obtain⟨_,_⟩:=hq))
 all_goals first
  |rfl
  |(with_reducible assumption)
  |exact hx
  |(show BN _ _;with_reducible assumption)
  |(rename _=[]=>hq;cases hq;done)
  |omega
  |(simp only[AQ,List.length_append,List.length_cons,List.length_nil];omega)
  |skip)
theorem a6G:∀n,Al G Go.Proofs.Tryz.prog 54 (CY n)
 |0=>c1A
 |n+1=>c1B n (a6G n)
end Go.My
end
section
namespace Go.My
open Go.Eng Go.Proofs
variable {G:GInv}
def Kd:Sig:= {X:=List UInt8×Int×Int×Int,args:=fun x=>[.box 0 (cur x.1 x.2.1 x.2.2.1),.int .i64 x.2.2.2],pre:=fun x=>(BN x.1 x.2.1∧2≤2)∧x.2.2.2≤2∧ -5≤x.2.2.2,Y:=List UInt8×Int×Int,post:=fun x y=>y.1.length≤260∧BN x.1 y.2.1,res:=fun x y=> .str y.1,outs:=fun x y=>[.box 0 (cur x.1 y.2.1 y.2.2),.top],keep:=true}
theorem c1C:Al G Go.Proofs.Tryz.prog 54 Kd:=a6G 2
theorem c1D{k:Int}(h:((0:Int)<5→0≤k∧k<5)∧((5:Int)≤0→k=0)):0≤k∧k<5:=h.1 (by decide)
def OC:Sig:= {X:=List UInt8×Int×Int,args:=fun x=>[.box 0 (cur x.1 x.2.1 x.2.2)],pre:=fun x=>BN x.1 x.2.1,Y:=List UInt8×Int×Int,post:=fun x y=>y.1.length≤4000∧BN x.1 y.2.1,res:=fun x y=> .str y.1,outs:=fun x y=>[.box 0 (cur x.1 y.2.1 y.2.2)],keep:=true}
def Ke(x:List UInt8×Int×Int):LS:= {ι:=Int×Int×Int×List UInt8,inv:=fun i=>((0≤i.1∧i.1≤5)∧(i.2.2.2.length:Int)≤60+600*i.1)∧BN x.1 i.2.1,regs:=fun i=>[(0,.box 0 (cur x.1 i.2.1 i.2.2.1)),(3,.str i.2.2.2),(4,.int .i64 i.1)],als:=[],meas:=fun i=>6-i.1.toNat}
theorem c1E:Al G Tryz.prog 27 OC:=
 vcFun_okP [(31,0,Ef),(55,0,Cv),(54,0,Kd)] [(91,⟨List UInt8,BA⟩)] false (fun x=>[(3,Ke x)]) Tryz.func27 rfl (by decide) ⟨Qo,Xz,c1C,trivial⟩ (fun(x:List UInt8×Int×Int)=>True∧eA (Ke x) [.box 0 (cur x.1 x.2.1 x.2.2),.str #[(116:UInt8),(119:UInt8),(105:UInt8),(99:UInt8),(101:UInt8),(40:UInt8),(120:UInt8),(41:UInt8),(32:UInt8),(123:UInt8),(32:UInt8),(114:UInt8),(101:UInt8),(116:UInt8),(117:UInt8),(114:UInt8),(110:UInt8),(32:UInt8),(120:UInt8),(32:UInt8),(43:UInt8),(32:UInt8),(120:UInt8),(59:UInt8),(32:UInt8),(125:UInt8),(10:UInt8),(10:UInt8),(109:UInt8),(97:UInt8),(105:UInt8),(110:UInt8),(40:UInt8),(110:UInt8),(44:UInt8),(32:UInt8),(107:UInt8),(41:UInt8),(32:UInt8),(123:UInt8),(32:UInt8),(118:UInt8),(97:UInt8),(114:UInt8),(32:UInt8),(105:UInt8),(32:UInt8),(61:UInt8),(32:UInt8),(48:UInt8),(59:UInt8),(32:UInt8)].toList,.int .i64 (0:Int)]∧∀(i:Int×Int×Int×List UInt8),(((0:Int)≤i.1∧i.1≤(5:Int))∧(↑(List.length i.2.2.2):Int)≤(60:Int)+(600:Int)*i.1)∧BN x.1 i.2.1→cA Ef [.box 0 (cur x.1 i.2.1 i.2.2.1),.int .i64 (5:Int)] fun x_1 y=>inR IntKind.i64 ((1:Int)+y.1)∧Ab (decide (i.1<(1:Int)+y.1)) (cA Ef [.box 0 (cur x_1.1 y.2.1 y.2.2),.int .i64 (6:Int)] fun x_2 y=>Ab (y.1==(0:Int)) ((↑(List.length i.2.2.2+(6:Nat)):Int)≤IntKind.max IntKind.i64∧cA Kd [.box 0 (cur x_2.1 y.2.1 y.2.2),.int .i64 (2:Int)] fun x_3 y=>(↑(List.length (i.2.2.2++ #[(112:UInt8),(114:UInt8),(105:UInt8),(110:UInt8),(116:UInt8),(40:UInt8)].toList)+List.length y.1):Int)≤IntKind.max IntKind.i64∧(↑(List.length (i.2.2.2++ #[(112:UInt8),(114:UInt8),(105:UInt8),(110:UInt8),(116:UInt8),(40:UInt8)].toList++y.1)+(3:Nat)):Int)≤IntKind.max IntKind.i64∧inR IntKind.i64 (i.1+(1:Int))∧eN (Ke x) i [.box 0 (cur x_3.1 y.2.1 y.2.2),.str (i.2.2.2++ #[(112:UInt8),(114:UInt8),(105:UInt8),(110:UInt8),(116:UInt8),(40:UInt8)].toList++y.1++ #[(41:UInt8),(59:UInt8),(32:UInt8)].toList),.int .i64 (i.1+(1:Int))]) (Ab (y.1==(1:Int)) ((↑(List.length i.2.2.2+(4:Nat)):Int)≤IntKind.max IntKind.i64∧cA Kd [.box 0 (cur x_2.1 y.2.1 y.2.2),.int .i64 (2:Int)] fun x_3 y=>(↑(List.length (i.2.2.2++ #[(105:UInt8),(32:UInt8),(61:UInt8),(32:UInt8)].toList)+List.length y.1):Int)≤IntKind.max IntKind.i64∧(↑(List.length (i.2.2.2++ #[(105:UInt8),(32:UInt8),(61:UInt8),(32:UInt8)].toList++y.1)+(2:Nat)):Int)≤IntKind.max IntKind.i64∧inR IntKind.i64 (i.1+(1:Int))∧eN (Ke x) i [.box 0 (cur x_3.1 y.2.1 y.2.2),.str (i.2.2.2++ #[(105:UInt8),(32:UInt8),(61:UInt8),(32:UInt8)].toList++y.1++ #[(59:UInt8),(32:UInt8)].toList),.int .i64 (i.1+(1:Int))]) (Ab (y.1==(2:Int)) ((↑(List.length i.2.2.2+(4:Nat)):Int)≤IntKind.max IntKind.i64∧cA Kd [.box 0 (cur x_2.1 y.2.1 y.2.2),.int .i64 (1:Int)] fun x_3 y=>(↑(List.length (i.2.2.2++ #[(105:UInt8),(102:UInt8),(32:UInt8),(40:UInt8)].toList)+List.length y.1):Int)≤IntKind.max IntKind.i64∧(↑(List.length (i.2.2.2++ #[(105:UInt8),(102:UInt8),(32:UInt8),(40:UInt8)].toList++y.1)+(27:Nat)):Int)≤IntKind.max IntKind.i64∧cA Kd [.box 0 (cur x_3.1 y.2.1 y.2.2),.int .i64 (1:Int)] fun x_4 y_1=>(↑(List.length (i.2.2.2++ #[(105:UInt8),(102:UInt8),(32:UInt8),(40:UInt8)].toList++y.1++ #[(41:UInt8),(32:UInt8),(123:UInt8),(32:UInt8),(112:UInt8),(114:UInt8),(105:UInt8),(110:UInt8),(116:UInt8),(40:UInt8),(105:UInt8),(41:UInt8),(59:UInt8),(32:UInt8),(125:UInt8),(32:UInt8),(101:UInt8),(108:UInt8),(115:UInt8),(101:UInt8),(32:UInt8),(123:UInt8),(32:UInt8),(107:UInt8),(32:UInt8),(61:UInt8),(32:UInt8)].toList)+List.length y_1.1):Int)≤IntKind.max IntKind.i64∧(↑(List.length (i.2.2.2++ #[(105:UInt8),(102:UInt8),(32:UInt8),(40:UInt8)].toList++y.1++ #[(41:UInt8),(32:UInt8),(123:UInt8),(32:UInt8),(112:UInt8),(114:UInt8),(105:UInt8),(110:UInt8),(116:UInt8),(40:UInt8),(105:UInt8),(41:UInt8),(59:UInt8),(32:UInt8),(125:UInt8),(32:UInt8),(101:UInt8),(108:UInt8),(115:UInt8),(101:UInt8),(32:UInt8),(123:UInt8),(32:UInt8),(107:UInt8),(32:UInt8),(61:UInt8),(32:UInt8)].toList++y_1.1)+(4:Nat)):Int)≤IntKind.max IntKind.i64∧inR IntKind.i64 (i.1+(1:Int))∧eN (Ke x) i [.box 0 (cur x_4.1 y_1.2.1 y_1.2.2),.str (i.2.2.2++ #[(105:UInt8),(102:UInt8),(32:UInt8),(40:UInt8)].toList++y.1++ #[(41:UInt8),(32:UInt8),(123:UInt8),(32:UInt8),(112:UInt8),(114:UInt8),(105:UInt8),(110:UInt8),(116:UInt8),(40:UInt8),(105:UInt8),(41:UInt8),(59:UInt8),(32:UInt8),(125:UInt8),(32:UInt8),(101:UInt8),(108:UInt8),(115:UInt8),(101:UInt8),(32:UInt8),(123:UInt8),(32:UInt8),(107:UInt8),(32:UInt8),(61:UInt8),(32:UInt8)].toList++y_1.1++ #[(59:UInt8),(32:UInt8),(125:UInt8),(32:UInt8)].toList),.int .i64 (i.1+(1:Int))]) (Ab (y.1==(3:Int)) ((↑(List.length i.2.2.2+(33:Nat)):Int)≤IntKind.max IntKind.i64∧cA Kd [.box 0 (cur x_2.1 y.2.1 y.2.2),.int .i64 (1:Int)] fun x_3 y=>(↑(List.length (i.2.2.2++ #[(119:UInt8),(104:UInt8),(105:UInt8),(108:UInt8),(101:UInt8),(32:UInt8),(40:UInt8),(105:UInt8),(32:UInt8),(60:UInt8),(32:UInt8),(51:UInt8),(41:UInt8),(32:UInt8),(123:UInt8),(32:UInt8),(105:UInt8),(32:UInt8),(61:UInt8),(32:UInt8),(105:UInt8),(32:UInt8),(43:UInt8),(32:UInt8),(49:UInt8),(59:UInt8),(32:UInt8),(112:UInt8),(114:UInt8),(105:UInt8),(110:UInt8),(116:UInt8),(40:UInt8)].toList)+List.length y.1):Int)≤IntKind.max IntKind.i64∧(↑(List.length (i.2.2.2++ #[(119:UInt8),(104:UInt8),(105:UInt8),(108:UInt8),(101:UInt8),(32:UInt8),(40:UInt8),(105:UInt8),(32:UInt8),(60:UInt8),(32:UInt8),(51:UInt8),(41:UInt8),(32:UInt8),(123:UInt8),(32:UInt8),(105:UInt8),(32:UInt8),(61:UInt8),(32:UInt8),(105:UInt8),(32:UInt8),(43:UInt8),(32:UInt8),(49:UInt8),(59:UInt8),(32:UInt8),(112:UInt8),(114:UInt8),(105:UInt8),(110:UInt8),(116:UInt8),(40:UInt8)].toList++y.1)+(5:Nat)):Int)≤IntKind.max IntKind.i64∧inR IntKind.i64 (i.1+(1:Int))∧eN (Ke x) i [.box 0 (cur x_3.1 y.2.1 y.2.2),.str (i.2.2.2++ #[(119:UInt8),(104:UInt8),(105:UInt8),(108:UInt8),(101:UInt8),(32:UInt8),(40:UInt8),(105:UInt8),(32:UInt8),(60:UInt8),(32:UInt8),(51:UInt8),(41:UInt8),(32:UInt8),(123:UInt8),(32:UInt8),(105:UInt8),(32:UInt8),(61:UInt8),(32:UInt8),(105:UInt8),(32:UInt8),(43:UInt8),(32:UInt8),(49:UInt8),(59:UInt8),(32:UInt8),(112:UInt8),(114:UInt8),(105:UInt8),(110:UInt8),(116:UInt8),(40:UInt8)].toList++y.1++ #[(41:UInt8),(59:UInt8),(32:UInt8),(125:UInt8),(32:UInt8)].toList),.int .i64 (i.1+(1:Int))]) (Ab (y.1==(4:Int)) ((↑(List.length i.2.2.2+(8:Nat)):Int)≤IntKind.max IntKind.i64∧inR IntKind.i64 (i.1+(1:Int))∧eN (Ke x) i [.box 0 (cur x_2.1 y.2.1 y.2.2),.str (i.2.2.2++ #[(47:UInt8),(47:UInt8),(32:UInt8),(115:UInt8),(97:UInt8),(105:UInt8),(100:UInt8),(10:UInt8)].toList),.int .i64 (i.1+(1:Int))]) (∃(x_3:List UInt8),#[(112:UInt8),(114:UInt8),(105:UInt8),(110:UInt8),(116:UInt8),(40:UInt8),(39:UInt8),(110:UInt8),(111:UInt8),(39:UInt8),(41:UInt8),(59:UInt8),(32:UInt8)].toList=x_3∧∃(x_4:List UInt8),#[(114:UInt8),(101:UInt8),(116:UInt8),(117:UInt8),(114:UInt8),(110:UInt8),(32:UInt8),(110:UInt8),(59:UInt8),(32:UInt8)].toList=x_4∧∃(x_5:List UInt8),#[(122:UInt8),(32:UInt8),(61:UInt8),(32:UInt8),(49:UInt8),(59:UInt8),(32:UInt8)].toList=x_5∧∃(x_6:List UInt8),#[(109:UInt8),(97:UInt8),(105:UInt8),(110:UInt8),(40:UInt8),(49:UInt8),(44:UInt8),(32:UInt8),(50:UInt8),(41:UInt8),(59:UInt8),(32:UInt8)].toList=x_6∧cA Cv [.box 0 (cur x_2.1 y.2.1 y.2.2),AV.sl true 0 1 (List UInt8) BA [x_3,x_4,x_5,x_6]] fun x_7 y=>(↑(List.length i.2.2.2+List.length y.1):Int)≤IntKind.max IntKind.i64∧inR IntKind.i64 (i.1+(1:Int))∧eN (Ke x) i [.box 0 (cur x_7.1 y.2.1 y.2.2),.str (i.2.2.2++y.1),.int .i64 (i.1+(1:Int))])))))) ((↑(List.length i.2.2.2+(7:Nat)):Int)≤IntKind.max IntKind.i64∧cA Kd [.box 0 (cur x_1.1 y.2.1 y.2.2),.int .i64 (2:Int)] fun x_2 y=>(↑(List.length (i.2.2.2++ #[(114:UInt8),(101:UInt8),(116:UInt8),(117:UInt8),(114:UInt8),(110:UInt8),(32:UInt8)].toList)+List.length y.1):Int)≤IntKind.max IntKind.i64∧(↑(List.length (i.2.2.2++ #[(114:UInt8),(101:UInt8),(116:UInt8),(117:UInt8),(114:UInt8),(110:UInt8),(32:UInt8)].toList++y.1)+(4:Nat)):Int)≤IntKind.max IntKind.i64∧rA OC x [.str (i.2.2.2++ #[(114:UInt8),(101:UInt8),(116:UInt8),(117:UInt8),(114:UInt8),(110:UInt8),(32:UInt8)].toList++y.1++ #[(59:UInt8),(32:UInt8),(125:UInt8),(10:UInt8)].toList),.box 0 (cur x_2.1 y.2.1 y.2.2)])) (fun x=>by kernel_rfl) fun(x:List UInt8×Int×Int) (hx:BN x.1 x.2.1)=>(by
 dsimp only[HP,cA,cur,eA,eN,Ke,rA,Ef,Cv,OC,Kd,Aw,Az,mvL,lnL,mvE,lnE,Bv]
 obtain⟨b,i,h⟩:=x;dsimp only at hx ⊢
 have hx:BN b i:=hx
 (repeat' first|(with_reducible first|rfl|exact True.intro|apply AK|apply And.intro|((first|apply AA|apply AI|apply AB|apply AJ)<;>intro _))|(apply Ax<;>intro _)|apply AH|refine Af () ?_ ?_|((first|apply AO|apply AN|apply AM|apply AL|apply AG|apply AF|apply AE|apply AD|apply AC)<;>try dsimp only)|apply Af|(refine Prod.forall.2 ?_;intro _;try dsimp only)|(intro _;try dsimp only))
 all_goals(try(have hk:=c1D (And.left (show(((0:Int)<5→_)∧(_→_))∧BN _ _ by assumption))))
 all_goals(repeat(rename _∈_∧BN _ _=>hq;obtain⟨hq1,_⟩:=hq;have hq2:=Yp (n:=20) hq1 (by decide);clear hq1))
 all_goals(repeat(rename _∧BN _ _=>hq;obtain⟨_,_⟩:=hq))
 all_goals first
  |rfl
  |(with_reducible assumption)
  |exact hx
  |(show BN _ _;with_reducible assumption)
  |(rename _=[]=>hq;cases hq;done)
  |omega
  |((try simp only[AQ,List.length_append,List.length_cons,List.length_nil] at*);omega)
  |skip
 all_goals trace_state)
end Go.My
end
section
namespace Go.Proofs
open Go.Shelf
def Tryz.laysM246_ren:Go.Shelf.Ren:=⟨fun|246=>152|283=>187|284=>188|285=>189|286=>190|129=>208|317=>207|318=>209|319=>210|320=>211|337=>226|338=>227|n=>n,fun|2=>2|3=>3|9=>9|4=>4|171=>170|0=>0|53=>171|37=>22|5=>5|173=>174|212=>180|51=>181|20=>20|213=>182|46=>95|232=>195|233=>196|n=>n,fun|17=>0|18=>1|19=>2|n=>n⟩
def Tryz.laysM243_ren:Go.Shelf.Ren:=⟨fun|243=>126|246=>152|283=>187|284=>188|285=>189|286=>190|129=>208|317=>207|318=>209|319=>210|320=>211|337=>226|338=>227|n=>n,fun|3=>3|9=>9|2=>2|4=>4|171=>170|0=>0|53=>171|37=>22|5=>5|173=>174|212=>180|51=>181|20=>20|213=>182|46=>95|232=>195|233=>196|n=>n,fun|17=>0|18=>1|19=>2|n=>n⟩
def Tryz.laysM171_ren:Go.Shelf.Ren:=⟨fun|171=>100|243=>126|246=>152|283=>187|284=>188|285=>189|286=>190|129=>208|317=>207|318=>209|319=>210|320=>211|337=>226|338=>227|n=>n,fun|3=>3|9=>9|2=>2|4=>4|171=>170|0=>0|53=>171|37=>22|5=>5|173=>174|212=>180|51=>181|20=>20|213=>182|46=>95|232=>195|233=>196|n=>n,fun|17=>0|18=>1|19=>2|n=>n⟩
theorem Tryz.laysM171:Go.Proofs.LaysM.n171 Tryz.prog Tryz.laysM171_ren:= {
 mixed:=by kernel_rfl
 f129:=Tryz.func208.trans (congrArg some (by kernel_rfl))
 f171:=Tryz.func100.trans (congrArg some (by kernel_rfl))
 f243:=Tryz.func126.trans (congrArg some (by kernel_rfl))
 f246:=Tryz.func152.trans (congrArg some (by kernel_rfl))
 f283:=Tryz.func187.trans (congrArg some (by kernel_rfl))
 f284:=Tryz.func188.trans (congrArg some (by kernel_rfl))
 f285:=Tryz.func189.trans (congrArg some (by kernel_rfl))
 f286:=Tryz.func190.trans (congrArg some (by kernel_rfl))
 f317:=Tryz.func207.trans (congrArg some (by kernel_rfl))
 f318:=Tryz.func209.trans (congrArg some (by kernel_rfl))
 f319:=Tryz.func210.trans (congrArg some (by kernel_rfl))
 f320:=Tryz.func211.trans (congrArg some (by kernel_rfl))
 f337:=Tryz.func226.trans (congrArg some (by kernel_rfl))
 f338:=Tryz.func227.trans (congrArg some (by kernel_rfl))
 t0:=Tryz.underlying0
 a0:=Tryz.isAgg0
 z0:=Tryz.sizeOf0
 v0:=Tryz.zeroValue0
 t2:=Tryz.underlying2
 a2:=Tryz.isAgg2
 z2:=Tryz.sizeOf2
 v2:=Tryz.zeroValue2
 t3:=Tryz.underlying3
 a3:=Tryz.isAgg3
 z3:=Tryz.sizeOf3
 v3:=Tryz.zeroValue3
 t4:=Tryz.underlying4
 a4:=Tryz.isAgg4
 z4:=Tryz.sizeOf4
 v4:=Tryz.zeroValue4
 t5:=Tryz.underlying5
 a5:=Tryz.isAgg5
 z5:=Tryz.sizeOf5
 v5:=Tryz.zeroValue5
 t9:=Tryz.underlying9
 a9:=Tryz.isAgg9
 z9:=Tryz.sizeOf9
 v9:=Tryz.zeroValue9
 t20:=Tryz.underlying20
 a20:=Tryz.isAgg20
 z20:=Tryz.sizeOf20
 v20:=Tryz.zeroValue20
 t37:=Tryz.underlying22
 a37:=Tryz.isAgg22
 z37:=Tryz.sizeOf22
 v37:=Tryz.zeroValue22
 t46:=Tryz.underlying95
 a46:=Tryz.isAgg95
 z46:=Tryz.sizeOf95
 v46:=Tryz.zeroValue95
 t51:=Tryz.underlying181
 a51:=Tryz.isAgg181
 z51:=Tryz.sizeOf181
 v51:=Tryz.zeroValue181
 t53:=Tryz.underlying171
 a53:=Tryz.isAgg171
 z53:=Tryz.sizeOf171
 v53:=Tryz.zeroValue171
 t171:=Tryz.underlying170
 a171:=Tryz.isAgg170
 z171:=Tryz.sizeOf170
 v171:=Tryz.zeroValue170
 t173:=Tryz.underlying174
 a173:=Tryz.isAgg174
 z173:=Tryz.sizeOf174
 v173:=Tryz.zeroValue174
 t212:=Tryz.underlying180
 a212:=Tryz.isAgg180
 z212:=Tryz.sizeOf180
 v212:=Tryz.zeroValue180
 t213:=Tryz.underlying182
 a213:=Tryz.isAgg182
 z213:=Tryz.sizeOf182
 t232:=Tryz.underlying195
 a232:=Tryz.isAgg195
 z232:=Tryz.sizeOf195
 v232:=Tryz.zeroValue195
 t233:=Tryz.underlying196
 a233:=Tryz.isAgg196
 z233:=Tryz.sizeOf196
 v233:=Tryz.zeroValue196
 g17:=by kernel_rfl
 g18:=by kernel_rfl
 g19:=by kernel_rfl
 i0:=by kernel_rfl
 i2:=by kernel_rfl
 i3:=by kernel_rfl
 i4:=by kernel_rfl
 i5:=by kernel_rfl
 i9:=by kernel_rfl
 i20:=by kernel_rfl
 i37:=by kernel_rfl
 i46:=by kernel_rfl
 i51:=by kernel_rfl
 i53:=by kernel_rfl
 i171:=by kernel_rfl
 i173:=by kernel_rfl
 i212:=by kernel_rfl
 i232:=by kernel_rfl
 i233:=by kernel_rfl
 m17:=by kernel_rfl
 m18:=by kernel_rfl
 m19:=by kernel_rfl}
open Go.RowKit Go.Sort Go.Lib in
theorem Tryz.strconv_Itoa(n:Int)(h0: -9223372036854775808≤n)(h1:n≤9223372036854775807)(w:World)(htab:Lib.TabIs Tryz.prog w "internal/strconv.uint64pow10" .u64 Lib.pow10Tab):
 Calls Tryz.prog 100 #[.int .i64 n] w fun e w'=>e= .returned (.string ⟨(Lib.itoa n).toArray⟩)∧∃k os,w'=grow (w.drewN k) os:=Any.strconv_Itoa Tryz.laysM171 n h0 h1 w htab
end Go.Proofs
end
section
namespace Go.Eng
def Old(w:World):FP:=fun b=>w.heap.size≤b
def Kf(P:Program)(t:TypeId){α:Type}(f:α→List AV)(good:α→Prop):Prop:=
 ∀ {H:Type} (enc:TypeId×Value→H) (w:World) (spare:Nat→Bool) (held:Bool) (Ct:Nat) (cs:List Value) (y:DataW H×List MemPlace),
   DataW.trod enc P w 0 spare held Ct t cs=some y→∃x:α,good x∧AY (Old w) w (f x) cs (fun _=>False)
theorem TK{Z:FP}{w:World}{a:AV}{v:Value}:AY Z w [a] [v] (fun _=>False)↔Aj Z w a v (fun _=>False):=by
 simp only[AY]
 constructor
 ·rintro⟨u,cs',A,B,e,hj,h1,h2,h3⟩
  simp only[List.cons.injEq] at e
  obtain⟨rfl,rfl⟩:=e
  have:=(IJ hj AP).1
  rwa [EG this] at h1
 ·intro h
  exact⟨v,[],fun _=>False,fun _=>False,rfl,BV _,h,rfl,AP⟩
theorem c1F{Z:FP}{w:World}{a:AV}{azs:List AV}{v:Value}{vs:List Value}(h1:Aj Z w a v (fun _=>False))(h2:AY Z w azs vs (fun _=>False)):
 AY Z w (a::azs) (v::vs) (fun _=>False):=by
 simp only[AY]
 exact⟨v,vs,_,_,rfl,BV _,h1,h2⟩
theorem c1G{k:IntKind}{n:Int}(h:(Lit.int k n).wf=true):inR k n:=by
 unfold inR
 simpa [Lit.wf] using h
theorem c1H{P:Program}{t:TypeId}{k:IntKind}(ht:P.underlying t=some (.int k)):Kf P t (fun n:Int=>[.int k n]) (fun n=>inR k n):=by
 intro H enc w spare held Ct cs y h
 obtain⟨n,rfl,_,hw⟩:=DataW.trod_int ht h
 exact⟨n,c1G hw,TK.2 (by simp [Aj,emp])⟩
theorem a6H{α:Type}{p:Nat→α→Prop}:∀n,(∀i,i<n→∃x,p i x)→∃l:List α,l.length=n∧∀i x,l[i]? =some x→p i x
 |0,_=>⟨[],rfl,fun i x h=>by simp at h⟩
 |n+1,h=>by
  obtain⟨l,hl,hp⟩:=a6H n fun i hi=>h i (by omega)
  obtain⟨x,hx⟩:=h n (by omega)
  refine⟨l++[x],by simp [hl],fun i y hy=> ?_⟩
  by_cases hi:i<l.length
  ·rw[List.getElem?_append_left hi] at hy;exact hp i y hy
  ·rw[List.getElem?_append_right (by omega)] at hy
   have:i-l.length=0:=by
    rcases Nat.eq_zero_or_pos (i-l.length) with h|h
    ·exact h
    ·rw[List.getElem?_eq_none (by simp;omega)] at hy;cases hy
   rw[this] at hy;simp at hy;subst hy
   rwa [show i=n by omega]
theorem a6I{α:Type}{sz:Nat}{R:α→List Value→FP→Prop}:∀(xs:List α) (arr:List Value),
 (∀(i:Nat) (x:α),xs[i]? =some x→((arr.drop (i*sz)).take sz).length=sz∧R x ((arr.drop (i*sz)).take sz) (fun _=>False))→Rows sz R xs arr (fun _=>False)
 |[],arr,h=>AP
 |x::xs,arr,h=>by
  have h0:=h 0 x rfl
  simp only[Nat.zero_mul,List.drop_zero] at h0
  refine⟨_,_,BV _,h0.1,h0.2,a6I xs (arr.drop sz) fun i y hy=> ?_⟩
  have:=h (i+1) y (by simpa using hy)
  rwa [Nat.succ_mul,Nat.add_comm,←List.drop_drop] at this
theorem c1I{P:Program}{t e:TypeId}{sz:Nat}{α:Type}{f:α→List AV}{good:α→Prop}(ht:P.underlying t=some (.slice e))(hc:P.cellsOf e=sz)(hpos:0<sz)
 (ho:Kf P e f good):Kf P t (fun l:List α=>[.sl false 0 sz α f l]) (fun l=>l.length<2^63∧∀x∈l,good x):=by
 intro H enc w spare held Ct cs y h
 rcases DataW.trod_slice ht h with⟨rfl,_⟩|⟨a,len,cap,elems,rest,n,_,rfl,_,hb,hl,hm,hlen,hel,_,_⟩
 ·refine⟨[],⟨by simp,by simp⟩,TK.2 ?_⟩
  simp only[Aj]
  exact⟨none,0,0,rfl,rfl,Nat.le_refl _,.inr ⟨trivial,AP,.inl trivial⟩⟩
 ·have each:∀i,i<len→∃x:α,good x∧∃cs,w.cells? 0 (a.add (i*sz)) sz=some cs∧AY (Old w) w (f x) cs (fun _=>False):=by
   intro i hi
   have h1:=hel i hi
   rw[hc] at h1
   rw[List.getElem?_eq_getElem (by omega:i<elems.length),Option.bind_eq_some_iff] at h1
   obtain⟨cs,h2,h3⟩:=h1
   obtain⟨x,hg,hr⟩:=ho enc w spare held n cs _ h3
   exact⟨x,hg,cs,h2,hr⟩
  obtain⟨l,hll,hp⟩:=a6H len each
  refine⟨l,⟨?_,?_⟩,TK.2 ?_⟩
  ·unfold maxLen at hm;omega
  ·intro x hx
   obtain⟨i,hi⟩:=List.getElem?_of_mem hx
   exact(hp i x hi).1
  ·simp only[Aj]
   refine⟨some a,len,cap,rfl,hll.symm,hl,.inr ⟨trivial,AP,?_⟩⟩
   rcases Nat.eq_zero_or_pos len with h0|h0
   ·exact .inl (List.length_eq_zero_iff.1 (by omega))
   ·refine .inr ?_
    obtain⟨x0,_,c0,hc0,_⟩:=each 0 h0
    have h00:=(World.cells?_some hc0).2.2 0 hpos
    have hcl:=(World.cells?_some hc0).2.1
    simp only[Nat.zero_mul,Addr.add] at h00
    obtain⟨b,off,sp⟩:=a
    simp only[World.cell?,if_true] at h00
    split at h00
    ·rename_i arr ty fr harr
     split at h00
     ·rw[List.getElem?_eq_getElem (by omega)] at h00;cases h00
     ·rename_i hsp
      have hsp:sp=none:=by simpa using hsp
      subst hsp
      have hlt:b<w.heap.size:=by
       rcases Nat.lt_or_ge b w.heap.size with h|h
       ·exact h
       ·rw[Array.getElem?_eq_none h] at harr;cases harr
      refine⟨b,off,arr,ty,fr,rfl,by unfold Old;omega,harr,a6I l _ fun i x hx=> ?_⟩
      have hi:i<l.length:=(List.getElem?_eq_some_iff.1 hx).1
      obtain⟨hg,cs,hcs,hr⟩:=hp i x hx
      obtain⟨_,hcl,hce⟩:=World.cells?_some hcs
      have e:((arr.toList.drop off).drop (i*sz)).take sz=cs:=by
       refine List.ext_getElem? fun j=> ?_
       rw[List.getElem?_take]
       split
       ·rename_i hj
        have:=hce j hj
        rw[←this]
        simp only[List.getElem?_drop,Array.getElem?_toList]
        have ea:((⟨b,off,none⟩:Addr).add (i*sz)).add j=⟨b,off+i*sz+j,none⟩:=by
         unfold Addr.add
         by_cases h1:i*sz=0<;>by_cases h2:j=0<;>simp [h1,h2]
        rw[ea]
        simp only[World.cell?,harr]
        simp [Nat.add_assoc]
       ·rw[List.getElem?_eq_none (by omega)]
      rw[e]
      exact⟨hcl,hr⟩
    ·rw[List.getElem?_eq_getElem (by omega)] at h00;cases h00
end Go.Eng
end
section
namespace Go.My
open Go.Eng Go.Proofs
variable {G:GInv}
theorem a6J{P:Program}{w:World}{name:String}{k:IntKind}{zs:List Int}(h:Lib.TabIs P w name k zs):∃g cs e p,P.globalNamed name=some g∧w.heap[g]? =some (.cells cs e p)∧cs=(zs.map fun z=>Value.int k z).toArray:=by
 unfold Lib.TabIs World.var? at h
 cases hg:P.globalNamed name with
 |none=>rw[hg] at h;cases h
 |some g=>
  rw[hg] at h
  simp only[Option.bind_some] at h
  split at h
  ·rename_i cs e p hc
   exact⟨g,cs,e,p,rfl,hc,Option.some.inj h⟩
  ·cases h
def c1J(P:Program)(name:String)(k:IntKind)(zs:List Int):GInv:=⟨fun Z w=>Lib.TabIs P w name k zs∧∀g,P.globalNamed name=some g→¬Z g,by
 rintro Z Z' w w' hz ⟨h1,h2⟩
 obtain⟨g,cs,e,p,hg,hc,hcs⟩:=a6J h1
 have hlt:g<w.heap.size:=by
  rcases Nat.lt_or_ge g w.heap.size with hh|hh
  ·exact hh
  ·rw[Array.getElem?_eq_none hh] at hc;cases hc
 obtain⟨q1,q2⟩:=hz g (h2 g hg) hlt
 refine⟨?_,fun g' hg'=> ?_⟩
 ·unfold Lib.TabIs World.var?
  rw[hg]
  simp only[Option.bind_some]
  rw[q2,hc,hcs]
 ·have:g'=g:=by rw[hg] at hg';exact(Option.some.inj hg').symm
  rw[this];exact q1⟩
def Yq:GInv:=c1J Go.Proofs.Tryz.prog "internal/strconv.uint64pow10" .u64 Lib.pow10Tab
def Ld(G:GInv):Prop:=∀Z w,G.p Z w→Lib.TabIs Go.Proofs.Tryz.prog w "internal/strconv.uint64pow10" .u64 Lib.pow10Tab
theorem c1K:Ld Yq:=fun Z w h=>h.1
theorem c1L{W:World}(h:Lib.TabIs Go.Proofs.Tryz.prog W "internal/strconv.uint64pow10" .u64 Lib.pow10Tab):Yq.p (Old W) W:=by
 refine⟨h,fun g hg hz=> ?_⟩
 obtain⟨g',cs,e,p,hg',hc,hcs⟩:=a6J h
 have:g'=g:=by rw[hg] at hg';exact(Option.some.inj hg').symm
 subst this
 have hz:W.heap.size≤g':=hz
 rw[Array.getElem?_eq_none hz] at hc;cases hc
def OD:Sig:= {X:=Int,args:=fun x=>[.int .i64 x],pre:=fun x=> -9223372036854775808≤x∧x≤9223372036854775807,Y:=Unit,post:=fun _ _=>True,res:=fun x _=> .str (FF x),outs:=fun _ _=>[.top],keep:=false}
theorem c1M(hT:Ld G):Al G Go.Proofs.Tryz.prog 100 OD:=by
 refine⟨⟨⟨_,Go.Proofs.Tryz.func100,by kernel_rfl,by kernel_rfl⟩,fun x y _ _=>⟨trivial,trivial,trivial⟩⟩,?_⟩
 rintro x ⟨h0,h1⟩ Z w vals A hG h hA _
 simp only[OD,AY,Aj] at h
 obtain⟨v,cs,A1,A2,rfl,_,⟨rfl,_⟩,rfl,_⟩:=h
 refine(Any.strconv_Itoa Go.Proofs.Tryz.laysM171 x h0 h1 w (hT Z w hG)).mono ?_
 rintro e w' ⟨rfl,k,os,rfl⟩
 refine⟨(),_,Z,(fun _=>False),trivial,rfl,?_,⟨rfl,rfl,rfl,?_,fun b hb _=>⟨?_,Iff.rfl⟩,fun _ h=>h.elim⟩⟩
 ·simp only[OD,AY,Aj]
  exact⟨_,_,_,_,rfl,BV _,⟨rfl,AP⟩,_,_,_,_,rfl,BV _,AP,rfl,AP⟩
 ·show w.heap.size≤(w.heap++os).size
  rw[Array.size_append];omega
 ·show(w.heap++os)[b]? =w.heap[b]?
  rw[Array.getElem?_append_left hb]
def OE:Sig:= {X:=Int,args:=fun x=>[.int .i64 x],pre:=fun x=> -9223372036854775808≤x∧x≤9223372036854775807,Y:=Unit,post:=fun x y=>True,res:=fun x y=> .str (FF x),outs:=fun x y=>[.top],keep:=false}
theorem c1N(hT:Ld G):Al G Tryz.prog 77 OE:=
 vcFun_okP [(100,0,OD)] [] false (fun x=>[]) Tryz.func77 rfl (by decide) ⟨(c1M hT),trivial⟩ (fun(x:Int)=>(∀(y:Unit),True→True∧True∧True)∧cA OD [.int .i64 x] fun x_1 y=>rA OE x [.str (FF x_1),.top]) (fun x=>by kernel_rfl) fun(x:Int) (hx: -9223372036854775808≤x∧x≤9223372036854775807)=>(by
 dsimp only[cA,rA,OE,OD,Aw,Az,mvL,lnL,mvE,lnE]
 obtain⟨h1,h2⟩:=hx
 (repeat' first|(with_reducible first|rfl|exact True.intro|apply AK|apply And.intro|((first|apply AA|apply AI|apply AB|apply AJ)<;>intro _))|(apply Ax<;>intro _)|apply AH|refine Af () ?_ ?_|((first|apply AO|apply AN|apply AM|apply AL|apply AG|apply AF|apply AE|apply AD|apply AC)<;>try dsimp only)|apply Af|(refine Prod.forall.2 ?_;intro _;try dsimp only)|(intro _;try dsimp only))<;>(try dsimp only at*)<;>(try simp only[AQ,List.length_cons,List.length_nil])<;>(try omega))
theorem a6K{ns:List Nd}{k:Int}(h:BD ns)(hl:ns.length≤2^30)(hu:Cj ns k):Ip KD (ns,k):=by
 have:=BX.1 hu.1
 refine⟨h,hu,?_⟩
 simp only[KD];omega
def Le:Sig:= {X:=List Nd×Int,args:=fun x=>[nds x.1,.int .i64 x.2],pre:=fun x=>BD x.1∧x.1.length≤2^30∧Cj x.1 x.2,Y:=Unit,post:=fun x y=>True,res:=fun x y=> .bool (CW x.1 x.2),outs:=fun x y=>[.top,.top],keep:=false}
theorem c1O:Al G Tryz.prog 75 Le:=
 vcFun_okP [(76,0,(Fl KD)),(66,0,DE)] [] false (fun x=>[]) Tryz.func75 rfl (by decide) ⟨(Wt KD),Nz,trivial⟩ (fun(x:List Nd×Int)=>(∀(y:Unit),True→True∧True∧True∧True)∧((0:Int)≤x.2∧x.2<(↑(List.length x.1):Int))∧∀(e:Nd),x.1[Int.toNat x.2]? =some e→Ab (e.kind != (7:Int)) (rA Le x [.bool false,.top,.top]) (cA (Fl KD) [nds x.1,.int .i64 x.2] fun x_1 y=>Ab (Option.isSome (cV x_1.1 x_1.2)) (cA DE [.int .i64 (oI (cV x_1.1 x_1.2)),.int .i64 (0:Int),.int .i64 (999999999:Int)] fun x_2 y=>rA Le x [.bool (inn x_2.1 x_2.2.1 x_2.2.2),.top,.top]) (rA Le x [.bool false,.top,.top]))) (fun x=>by kernel_rfl) fun(x:List Nd×Int) (hx:BD x.1∧x.1.length≤2^30∧Cj x.1 x.2)=>(by
 dsimp only[cA,Bx,nds,rA,Fl,Le,DE,Aw,Az,mvL,lnL,mvE,lnE]
 obtain⟨h1,h2,h3⟩:=hx
 have hr:=BX.1 h3.1
 (repeat' first|(with_reducible first|rfl|exact True.intro|apply AK|apply And.intro|((first|apply AA|apply AI|apply AB|apply AJ)<;>intro _))|(apply Ax<;>intro _)|apply AH|refine Af () ?_ ?_|((first|apply AO|apply AN|apply AM|apply AL|apply AG|apply AF|apply AE|apply AD|apply AC)<;>try dsimp only)|apply Af|(refine Prod.forall.2 ?_;intro _;try dsimp only)|(intro _;try dsimp only))
 all_goals first
  |exact h1
  |exact h2
  |omega
  |exact a6K h1 h2 h3
  |(simp [CW,AS,Bo (show x.1[Int.toNat x.2]? =some _ by assumption),oI, *];done)
  |skip)
def IG(n:Nat):Sig:= {X:=List Nd×Int×List Nd×Int,args:=fun x=>[.box 0 [nds x.1,AZ x.2.2.1,.int .i64 x.2.2.2],.int .i64 x.2.1],pre:=fun x=>fdP n x,Y:=Unit,post:=fun x y=>True,res:=fun x y=> .int .i64 ((Bb x.1 (rFd x.1) n x.2.1 x.2.2.1).length-1),outs:=fun x y=>[.box 0 [nds x.1,AZ (Bb x.1 (rFd x.1) n x.2.1 x.2.2.1),.int .i64 (x.2.2.2+Ck x.1 n x.2.1)],.top],keep:=true}
def c1P:Sig:= {X:=List Nd×Int×List Nd×Int,args:=fun x=>[.box 0 [nds x.1,AZ x.2.2.1,.int .i64 x.2.2.2],.int .i64 x.2.1],pre:=fun x=>fdP 0 x,Y:=Unit,post:=fun x y=>True,res:=fun x y=> .int .i64 ((Bb x.1 (rFd x.1) 0 x.2.1 x.2.2.1).length-1),outs:=fun x y=>[.box 0 [nds x.1,AZ (Bb x.1 (rFd x.1) 0 x.2.1 x.2.2.1),.int .i64 (x.2.2.2+Ck x.1 0 x.2.1)],.top],keep:=true}
theorem c1Q:Al G Tryz.prog 45 c1P:=
 vcFun_okP [] [] false (fun x=>[]) Tryz.func45 rfl (by decide) trivial (fun(x:List Nd×Int×List Nd×Int)=>True∧((0:Int)≤x.2.1∧x.2.1<(↑(List.length x.1):Int))∧∀(e:Nd),x.1[Int.toNat x.2.1]? =some e→False) (fun x=>by kernel_rfl) fun(x:List Nd×Int×List Nd×Int) (hx:fdP 0 x)=>(by
 have h1:=hx.1.2.2.1;have h2:=BX.1 hx.1.2.1.1
 simp only at h1 h2
 omega)
def fF(x:List Nd×Int×List Nd×Int):Int:=if CW x.1 x.2.1 then x.2.2.2+1 else x.2.2.2
def TL(x:List Nd×Int×List Nd×Int):LS:= {
 ι:=Unit,inv:=fun _=>True,
 regs:=fun _=>[(0,.box 0 [nds x.1,AZ x.2.2.1,.int .i64 (fF x)]),(5,.box 0 (ndA false (fNd x.1 x.2.1)))],als:=[],meas:=fun _=>0}
def TM(n:Nat)(x:List Nd×Int×List Nd×Int):LS:= {
 ι:=Int×List Nd×List Int×Int,inv:=fun i=>fkI x.1 n x.2.1 x.2.2.1 x.2.2.2 i.1 i.2.1 i.2.2.1 i.2.2.2,
 regs:=fun i=>[(0,.box 0 [nds x.1,AZ i.2.1,.int .i64 i.2.2.2]),(5,.box 0 (ndA false (fNd x.1 x.2.1))),(8,Ad i.2.2.1),(45,Ag (fNd x.1 x.2.1).kids),(46,.int .i64 (fNd x.1 x.2.1).kids.length),(47,.int .i64 i.1)],als:=[],meas:=fun i=>(fNd x.1 x.2.1).kids.length-i.1.toNat}
def c1R(n:Nat)(x:List Nd×Int×List Nd×Int):LS:= {
 ι:=Unit,inv:=fun _=>True,
 regs:=fun _=>[(0,.box 0 [nds x.1,AZ (Bb x.1 (rFd x.1) (n+1) x.2.1 x.2.2.1),.int .i64 (x.2.2.2+Ck x.1 (n+1) x.2.1)])],als:=[],meas:=fun _=>0}
theorem c1S{x:List Nd×Int×List Nd×Int}(h:CW x.1 x.2.1=true):fF x=x.2.2.2+1:=by rw[fF,if_pos h]
theorem c1T{x:List Nd×Int×List Nd×Int}(h:CW x.1 x.2.1=false):fF x=x.2.2.2:=by rw[fF,if_neg (by simp [h])]
theorem c1U{x:List Nd×Int×List Nd×Int}{n:Nat}:fkI x.1 n x.2.1 x.2.2.1 x.2.2.2 0 x.2.2.1 [] (fF x):=b2I
def Yr(n:Nat):Sig:= {X:=List Nd×Int×List Nd×Int,args:=fun x=>[.box 0 [nds x.1,AZ x.2.2.1,.int .i64 x.2.2.2],.int .i64 x.2.1],pre:=fun x=>fdP (n+1) x,Y:=Unit,post:=fun x y=>True,res:=fun x y=> .int .i64 ((Bb x.1 (rFd x.1) (n+1) x.2.1 x.2.2.1).length-1),outs:=fun x y=>[.box 0 [nds x.1,AZ (Bb x.1 (rFd x.1) (n+1) x.2.1 x.2.2.1),.int .i64 (x.2.2.2+Ck x.1 (n+1) x.2.1)],.top],keep:=true}
set_option maxHeartbeats 4000000 in
theorem c1V(n:Nat)(hT:Ld G)(hc:Al G Go.Proofs.Tryz.prog 45 (IG n)):Al G Tryz.prog 45 (Yr n):=
 vcFun_okP [(45,0,(IG n)),(75,0,Le),(76,0,(Fl KD)),(77,0,OE)] [(25,⟨Int,Bc⟩),(27,⟨Nd,ndA true⟩)] false (fun x=>[(200006,TL x),(8,TM n x),(100014,c1R n x)]) Tryz.func45 rfl (by decide) ⟨hc,c1O,(Wt KD),(c1N hT),trivial⟩ (fun(x:List Nd×Int×List Nd×Int)=>True∧((0:Int)≤x.2.1∧x.2.1<(↑(List.length x.1):Int))∧∀(e:Nd),x.1[Int.toNat x.2.1]? =some e→(cA Le [nds x.1,.int .i64 x.2.1] fun x_1 y=>Ab (CW x_1.1 x_1.2) (cA (Fl KD) [nds x.1,.int .i64 x.2.1] fun x_2 y=>cA OE [.int .i64 (oI (cV x_2.1 x_2.2))] fun x_3 y=>inR IntKind.i64 (x.2.2.2+(1:Int))∧eA (TL x) [.box 0 [nds x.1,AZ x.2.2.1,.int .i64 (x.2.2.2+(1:Int))],.box 0 [.int .i64 (2:Int),.str (FF x_3),.nil,.bool false]]) (eA (TL x) [.box 0 [nds x.1,AZ x.2.2.1,.int .i64 x.2.2.2],.box 0 [.int .i64 e.kind,.str e.text,Ag e.kids,.bool e.blank]]))∧∀(i:Unit),True→eA (TM n x) [.box 0 [nds x.1,AZ x.2.2.1,.int .i64 (fF x)],.box 0 [.int .i64 (fNd x.1 x.2.1).kind,.str (fNd x.1 x.2.1).text,Ag (fNd x.1 x.2.1).kids,.bool (fNd x.1 x.2.1).blank],.nil,Ag (fNd x.1 x.2.1).kids,.int .i64 (↑(List.length (fNd x.1 x.2.1).kids):Int),.int .i64 (0:Int)]∧∀(i:Int×List Nd×List Int×Int),fkI x.1 n x.2.1 x.2.2.1 x.2.2.2 i.1 i.2.1 i.2.2.1 i.2.2.2→Ab (decide (i.1<(↑(List.length (fNd x.1 x.2.1).kids):Int))) (((0:Int)≤i.1∧i.1<(↑(List.length (fNd x.1 x.2.1).kids):Int))∧∀(e:Int),(fNd x.1 x.2.1).kids[Int.toNat i.1]? =some e→cA (IG n) [.box 0 [nds x.1,AZ i.2.1,.int .i64 i.2.2.2],.int .i64 e] fun x_1 y=>∃(x_2:Int),(↑(List.length (Bb x_1.1 (rFd x_1.1) n x_1.2.1 x_1.2.2.1)):Int)-(1:Int)=x_2∧∃(zs:List Int),Ad [x_2]=Ad zs∧Br Bc∧Ba (List.length i.2.2.1+List.length zs) (8:Nat)∧inR IntKind.i64 (i.1+(1:Int))∧eN (TM n x) i [.box 0 [nds x_1.1,AZ (Bb x_1.1 (rFd x_1.1) n x_1.2.1 x_1.2.2.1),.int .i64 (x_1.2.2.2+Ck x_1.1 n x_1.2.1)],.box 0 [.int .i64 (fNd x.1 x.2.1).kind,.str (fNd x.1 x.2.1).text,Ag (fNd x.1 x.2.1).kids,.bool (fNd x.1 x.2.1).blank],Ad (i.2.2.1++zs),Ag (fNd x.1 x.2.1).kids,.int .i64 (↑(List.length (fNd x.1 x.2.1).kids):Int),.int .i64 (i.1+(1:Int))]) (true=true∧((∃(x_1:Nd),(fNd x.1 x.2.1).kind=x_1.kind∧(fNd x.1 x.2.1).text=x_1.text∧Ad i.2.2.1=Ad x_1.kids∧(fNd x.1 x.2.1).blank=x_1.blank∧∃(zs:List Nd),AZ [x_1]=AZ zs∧Br (ndA true)∧Ba (List.length i.2.1+List.length zs) (56:Nat)∧true=true∧∃(i_1:Unit),True∧(nds x.1=nds x.1∧AZ (i.2.1++zs)=AZ (Bb x.1 (rFd x.1) (n+(1:Nat)) x.2.1 x.2.2.1)∧i.2.2.2=x.2.2.2+Ck x.1 (n+(1:Nat)) x.2.1∧True)∧True)∧(∃(x_1:Nd),(fNd x.1 x.2.1).kind=x_1.kind∧(fNd x.1 x.2.1).text=x_1.text∧Ad i.2.2.1=Ad x_1.kids∧(fNd x.1 x.2.1).blank=x_1.blank∧∃(zs:List Nd),AZ [x_1]=AZ zs∧Br (ndA true)∧Ba (List.length i.2.1+List.length zs) (56:Nat)∧true=true∧∃(i_1:Unit),True∧(nds x.1=nds x.1∧AZ (i.2.1++zs)=AZ (Bb x.1 (rFd x.1) (n+(1:Nat)) x.2.1 x.2.2.1)∧i.2.2.2=x.2.2.2+Ck x.1 (n+(1:Nat)) x.2.1∧True)∧True)∧∃(x_1:Nd),(fNd x.1 x.2.1).kind=x_1.kind∧(fNd x.1 x.2.1).text=x_1.text∧Ad i.2.2.1=Ad x_1.kids∧(fNd x.1 x.2.1).blank=x_1.blank∧∃(zs:List Nd),AZ [x_1]=AZ zs∧Br (ndA true)∧Ba (List.length i.2.1+List.length zs) (56:Nat)∧true=true∧∃(i_1:Unit),True∧(nds x.1=nds x.1∧AZ (i.2.1++zs)=AZ (Bb x.1 (rFd x.1) (n+(1:Nat)) x.2.1 x.2.2.1)∧i.2.2.2=x.2.2.2+Ck x.1 (n+(1:Nat)) x.2.1∧True)∧True)∧∀(i:Unit),True→inR IntKind.i64 ((↑(List.length (Bb x.1 (rFd x.1) (n+(1:Nat)) x.2.1 x.2.2.1)):Int)-(1:Int))∧rA (Yr n) x [.int .i64 ((↑(List.length (Bb x.1 (rFd x.1) (n+(1:Nat)) x.2.1 x.2.2.1)):Int)-(1:Int)),.box 0 [nds x.1,AZ (Bb x.1 (rFd x.1) (n+(1:Nat)) x.2.1 x.2.2.1),.int .i64 (x.2.2.2+Ck x.1 (n+(1:Nat)) x.2.1)],.top])) (fun x=>by kernel_rfl) fun(x:List Nd×Int×List Nd×Int) (hx:fdP (n+1) x)=>(by
 dsimp only[cA,eA,eN,Ag,TL,TM,Bx,nds,Ad,AZ,rA,Fl,IG,Yr,OE,Le,Aw,Az,mvL,lnL,mvE,lnE,Bv]
 have hx1:=hx.1;have h1:=hx1.1;have hl:=h1.1;have hu:=hx1.2.1;have hn:=BX.1 hu.1
 simp only at h1 hl hu hn
 have hl30:x.1.length≤2^30:=hx.2.2
 have hf0:=hx.2.1
 obtain⟨z,hz⟩:∃z,x.1[x.2.1.toNat]? =some z:=⟨x.1[x.2.1.toNat],by simp⟩
 simp only[hz,Option.some.injEq,forall_eq']
 (repeat' first|refine b1H ?_|(with_reducible first|rfl|exact True.intro|apply AK|apply And.intro|((first|apply AA|apply AI|apply AB|apply AJ)<;>intro _))|(apply Ax<;>intro _)|apply AH|refine Af () ?_ ?_|((first|apply AO|apply AN|apply AM|apply AL|apply AG|apply AF|apply AE|apply AD|apply AC)<;>try dsimp only)|apply Af|(refine Prod.forall.2 ?_;intro _;try dsimp only)|(intro _;try dsimp only))
 all_goals first
  |rfl
  |omega
  |exact h1
  |exact hl
  |exact hl30
  |exact hu
  |exact a6K h1 hl30 hu
  |exact c1U
  |exact b2J hx ‹_› ‹_›
  |exact a2Y hx ‹_› ‹_›
  |(have hq:=a2Z hx ‹_›;(try simp only[AQ,Ba,List.length_append,List.length_cons,List.length_nil]);omega)
  |(rw[Si ‹_›];rfl)
  |(rw[Sj ‹_›,Bo hz];done)
  |(rw[c1S ‹_›];done)
  |(rw[c1T ‹_›];done)
  |exact(Ww ‹_› ‹_›).1
  |exact(Ww ‹_› ‹_›).2
  |(have hq:=a2Z hx ‹_›;have hd:=(Ww ‹_› ‹_›).1;rw[←hd];(try simp only[AQ,List.length_append,List.length_cons,List.length_nil]);omega)
  |(have hc0:=a2U (show CW x.1 x.2.1=true by assumption);omega)
  |(have hq:=a2Y hx ‹_› ‹_›;have hq2:=b2K hq;(try simp only[AQ,Ba,List.length_append,List.length_cons,List.length_nil]);omega)
  |skip)
theorem Ys(hT:Ld G):∀n:Nat,Al G Go.Proofs.Tryz.prog 45 (IG n)
 |0=>c1Q
 |n+1=>c1V n hT (Ys hT n)
def Lf:Sig:= {X:=List Nd,args:=fun x=>[nds x],pre:=fun x=>BD x∧JC x,Y:=Unit,post:=fun x y=>True,res:=fun x y=>AZ (Dz x),outs:=fun x y=>[.top],keep:=false}
theorem c1W(hT:Ld G):Al G Tryz.prog 16 Lf:=
 vcFun_okP [(37,0,GZ),(38,0,NN),(45,0,(IG De))] [(27,⟨Nd,ndA true⟩)] false (fun x=>[]) Tryz.func16 rfl (by decide) ⟨a1j,b1G,(Ys hT De),trivial⟩ (fun(x:List Nd)=>(∀(y:Unit),True→(∀(x:Nd),True∧True∧(∀(x:Int),True∧True)∧True∧True)∧True∧True)∧cA GZ [nds x] fun x_1 y=>Ab (!BB x_1) (cA NN [nds x] fun x_2 y=>rA Lf x [AZ x_2,.top]) (inR IntKind.i64 ((↑(List.length x):Int)-(1:Int))∧cA (IG De) [.box 0 [nds x,.nil,.int .i64 (0:Int)],.int .i64 ((↑(List.length x):Int)-(1:Int))] fun x_2 y=>rA Lf x [AZ (Bb x_2.1 (rFd x_2.1) De x_2.2.1 x_2.2.2.1),.top])) (fun x=>by kernel_rfl) fun(x:List Nd) (hx:BD x∧JC x)=>(by
 dsimp only[cA,Bx,nds,AZ,rA,NN,IG,Lf,GZ,Aw,Az,mvL,lnL,mvE,lnE]
 obtain⟨h1,h2⟩:=hx;have hl:=h1.1;have h3:=h2.1
 (repeat' first|(with_reducible first|rfl|exact True.intro|apply AK|apply And.intro|((first|apply AA|apply AI|apply AB|apply AJ)<;>intro _))|(apply Ax<;>intro _)|apply AH|refine Af () ?_ ?_|((first|apply AO|apply AN|apply AM|apply AL|apply AG|apply AF|apply AE|apply AD|apply AC)<;>try dsimp only)|apply Af|(refine Prod.forall.2 ?_;intro _;try dsimp only)|(intro _;try dsimp only))
 all_goals first
  |rfl
  |exact h1
  |exact h2
  |exact h3
  |exact a3a ‹_› h1
  |(rw[Dz,if_pos ‹_›];done)
  |(rw[Dz,if_neg (by simp [*])];done)
  |(have ht:=We ‹_›;(try simp only[AQ]);omega)
  |((try simp only[AQ]);omega)
  |skip)
def Lg:Sig:= {X:=List Nd,args:=fun x=>[nds x],pre:=fun x=>BD x∧JC x,Y:=Unit,post:=fun x y=>True,res:=fun x y=> .int .i64 (DM x),outs:=fun x y=>[.top],keep:=false}
theorem c1X(hT:Ld G):Al G Tryz.prog 19 Lg:=
 vcFun_okP [(37,0,GZ),(45,0,(IG De))] [(27,⟨Nd,ndA true⟩)] false (fun x=>[]) Tryz.func19 rfl (by decide) ⟨a1j,(Ys hT De),trivial⟩ (fun(x:List Nd)=>(∀(y:Unit),True→True∧True∧True)∧cA GZ [nds x] fun x_1 y=>Ab (!BB x_1) (rA Lg x [.int .i64 (0:Int),.top]) (inR IntKind.i64 ((↑(List.length x):Int)-(1:Int))∧cA (IG De) [.box 0 [nds x,.nil,.int .i64 (0:Int)],.int .i64 ((↑(List.length x):Int)-(1:Int))] fun x_2 y=>rA Lg x [.int .i64 (x_2.2.2.2+Ck x_2.1 De x_2.2.1),.top])) (fun x=>by kernel_rfl) fun(x:List Nd) (hx:BD x∧JC x)=>(by
 dsimp only[cA,Bx,nds,AZ,rA,IG,Lg,GZ,Aw,Az,mvL,lnL,mvE,lnE]
 obtain⟨h1,h2⟩:=hx;have hl:=h1.1;have h3:=h2.1
 (repeat' first|(with_reducible first|rfl|exact True.intro|apply AK|apply And.intro|((first|apply AA|apply AI|apply AB|apply AJ)<;>intro _))|(apply Ax<;>intro _)|apply AH|refine Af () ?_ ?_|((first|apply AO|apply AN|apply AM|apply AL|apply AG|apply AF|apply AE|apply AD|apply AC)<;>try dsimp only)|apply Af|(refine Prod.forall.2 ?_;intro _;try dsimp only)|(intro _;try dsimp only))
 all_goals first
  |rfl
  |exact h1
  |exact h2
  |exact h3
  |exact a3a ‹_› h1
  |(rw[DM,if_pos ‹_›];simp;done)
  |(rw[DM,if_neg (by simp [*])];done)
  |(have ht:=We ‹_›;(try simp only[AQ]);omega)
  |((try simp only[AQ]);omega)
  |skip)
def eqF{α:Type}(p:α→α→Bool):List α→List α→Bool
 |[],[]=>true
 |x::a,y::b=>p x y&&eqF p a b
 |_,_=>false
def eqW{α:Type}(p:α→α→Bool)(a b:List α)(i:Int):Prop:=((0≤i∧i≤a.length)∧a.length=b.length)∧eqF p a b=eqF p (a.drop i.toNat) (b.drop i.toNat)
attribute [local irreducible] eqW
end Go.My
end
section
namespace Go.My
open Go.Eng Go.Proofs
variable {G:GInv}
def fwQ(y z:RnY):Prop:=((y=z∨y.2.2.1=2)∧y.1 <+: z.1)∧y.2.2.2≤z.2.2.2
def fwI(y z:RnY)(i:Int):Prop:=(fwQ y z∧(y.1.length<2^62∧z.1.length<2^62))∧0≤i∧i≤y.1.length
theorem a6L{v:Int}{n:Int}{o:List Int}{i:Nat}(ho:o.length=12∧∀e∈o,0≤e∧e<10000)(hv:o[i]? =some v)(hn:0<n):0≤v.tmod n∧v.tmod n<n:=Tc (ho.2 v (BJ hv)).1 hn
theorem c1Y{v w:Int}(h1:0≤v∧v<5)(h2:0≤w∧w<5):∀a∈[v,w],bdd a:=by
 intro a ha
 simp only[List.mem_cons,List.not_mem_nil,or_false] at ha
 unfold bdd
 rcases ha with rfl|rfl<;>omega
def TN(az:List Int):Prop:=(∀a∈az,bdd a)∧az.length≤12
theorem c1Z{v w:Int}(h1:0≤v∧v<5)(h2:0≤w∧w<5):TN [v,w]:=⟨c1Y h1 h2,by simp⟩
def plQ(o:List Int):Prop:=o.length=12∧∀e∈o,0≤e∧e<10000
theorem c2a{v w:Int}{o:List Int}(ho:o.length=12∧∀e∈o,0≤e∧e<10000)(hv:o[0]? =some v)(hw:o[1]? =some w):TN [v.tmod 5,w.tmod 5]:=c1Z (a6L ho hv (by omega)) (a6L ho hw (by omega))
theorem c2b{p q:(List Int×Int×Int×Int)×Unit→Prop}(a:List Int)(b c d:Int)(h2:q ((a,b,c,d),()))(h1:p ((a,b,c,d),())):∃x,p x∧q x:=⟨_,h1,h2⟩
attribute [local irreducible] TN
attribute [local irreducible] zsQ fwQ fwI Cs Cy
end Go.My
end
section
namespace Go.My
open Go.Eng Go.Proofs
variable {G:GInv}
theorem a6M{a b:List Nd}(h:a=b∨a.length≠b.length)(hl:(a.length:Int)=b.length):a=b:=by
 rcases h with h|h
 ·exact h
 ·omega
def c2c:List UInt8:=[109,97,105,110,40,110,44,32,107,41,32,123,32,112,114,105,110,116,40,40,110,32,43,32,50,41,32,42,32,40,51,32,45,32,49,41,41,59,32,114,101,116,117,114,110,32,107,59,32,125]
theorem c2d:(CA c2c).isSome=true:=by decide+kernel
theorem c2e{t:List UInt8}{L:List Nd}(h:CA t=some L):BB L=true:=by
 unfold CA at h
 obtain⟨sg,h1,h2⟩:=Option.bind_eq_some_iff.1 h
 rw[Option.map_eq_some_iff] at h2
 obtain⟨⟨ms,L'⟩,h3,h4⟩:=h2
 simp only at h4;subst h4
 unfold JJ at h3
 obtain⟨p,h5,h6⟩:=Option.bind_eq_some_iff.1 h3
 obtain⟨q,h7,h8⟩:=Option.bind_eq_some_iff.1 h6
 split at h8
 ·simp only[Option.some.injEq,Prod.mk.injEq] at h8
  rw[←h8.2];assumption
 ·cases h8
structure FoB (L A:List Nd):Prop where
 t:tOk L
 ta:tOk A
 k:JC L
 ka:JC A
 self:Dz A=A
 zero:DM A=0
 len:A.length≤L.length
 cnt:A.length=L.length↔¬0<DM L
 same:A=L∨A.length≠L.length
 run:∀ {t az st y z},ruQ L t az st y→ruQ A t az st z→y=z
theorem Yt{L:List Nd}(h:BB L=true):JC L:=by
 have t:=Gw h
 refine⟨by have:=t.2.2.1;omega,fun e he=> ?_⟩
 obtain⟨i,hi⟩:=List.mem_iff_getElem?.1 he
 have hl:=(List.getElem?_eq_some_iff.1 hi).1
 have:=(DZ (t.1.1 i hl)).2.1
 rw[Bo (c:=(i:Int)) (by simpa using hi)] at this;omega
theorem c2f{ns A:List Nd}{fo:List Int}(ho:BD ns)(ht:BB A=true)(hF:Fd ns A fo):BD A:=by
 have hk:=Yt ht
 refine⟨by have:=hk.1;omega,fun e he=> ?_⟩
 obtain⟨i,hi⟩:=List.mem_iff_getElem?.1 he
 have hl:=(List.getElem?_eq_some_iff.1 hi).1
 have e1:Aa A (i:Int)=e:=Bo (by simpa using hi)
 have hkk:=hk.2 e he
 rcases(hF.im.2 i (by omega) (by omega)).2 with h|⟨_,⟨_,g2,_⟩,_⟩
 ·obtain⟨f1,f2⟩:=Sl h
  obtain⟨_,v,f4,f5,f6⟩:=PQ f1
  have hi:=Sk f5 f6
  rw[Sm f4,e1] at f2
  subst f2
  exact⟨by simp only;omega,by simp⟩
 ·rw[e1] at g2
  have:=a9S (k:=oAt fo i) ho
  exact⟨by rw[g2];exact this.1,by omega⟩
theorem c2g{t:List UInt8}{L:List Nd}(hs:(CA t).isSome=true)(hL:L=(CA t).getD []∧BD L):FoB L (Dz L):=by
 cases hr:CA t with
 |none=>rw[hr] at hs;cases hs
 |some M=>
  rw[hr] at hL
  obtain⟨h1,h2⟩:=hL
  simp only[Option.getD_some] at h1
  subst h1
  have ht:=c2e hr
  obtain⟨fo,hF⟩:=b2N ht
  have hta:=Wx ht hF
  have hl:=b2U ht
  have hg:=a3b (ns:=L)
  have hcnt:(Dz L).length=L.length↔¬0<DM L:=by
   constructor
   ·intro e;omega
   ·intro e;rw[a3m ht (a3v hr) (by omega)]
  refine⟨⟨⟨ht,h2⟩,(Gw ht).2.1,(Gw ht).2.2.1⟩,⟨⟨hta,c2f h2 hta hF⟩,hF.len⟩,Yt ht,Yt hta,b2Q ht hF,b2R ht hF,by omega,hcnt,?_,fun h g=>b5N (b2W ht hF) h g⟩
  by_cases e:0<DM L
  ·exact .inr fun x=>(hcnt.1 x) e
  ·exact .inl (a3m ht (a3v hr) (by omega))
def OF:Sig:= {X:=List Int×Unit,args:=fun x=>[Ag x.1,Ag x.1],pre:=fun x=>x.1.length<2^62,Y:=Unit,post:=fun x y=>True,res:=fun x y=> .bool true,outs:=fun x y=>[.top,.top],keep:=false}
def TO(x:List Int×Unit):LS:= {ι:=Int,inv:=fun i=>0≤i∧i≤x.1.length,regs:=fun i=>[(0,Ag x.1),(1,Ag x.1),(5,.int .i64 i)],als:=[],meas:=fun i=>x.1.length-i.toNat}
theorem c2h:Al G Tryz.prog 48 OF:=
 vcFun_okP [] [] false (fun x=>[(4,TO x)]) Tryz.func48 rfl (by decide) trivial (fun(x:List Int×Unit)=>(∀(y:Unit),True→True∧True∧True∧True)∧Ab ((↑(List.length x.1):Int) != (↑(List.length x.1):Int)) (rA OF x [.bool false,.top,.top]) (eA (TO x) [Ag x.1,Ag x.1,.int .i64 (0:Int)]∧∀(i:Int),(0:Int)≤i∧i≤(↑(List.length x.1):Int)→Ab (decide (i<(↑(List.length x.1):Int))) (true=true∧true=true∧((0:Int)≤i∧i<(↑(List.length x.1):Int))∧∀(e:Int),x.1[Int.toNat i]? =some e→((0:Int)≤i∧i<(↑(List.length x.1):Int))∧∀(e_1:Int),x.1[Int.toNat i]? =some e_1→Ab (e != e_1) (rA OF x [.bool false,.top,.top]) (inR IntKind.i64 (i+(1:Int))∧eN (TO x) i [Ag x.1,Ag x.1,.int .i64 (i+(1:Int))])) (rA OF x [.bool true,.top,.top]))) (fun x=>by kernel_rfl) fun(x:List Int×Unit) (hx:x.1.length<2^62)=>(by
 dsimp only[eA,eN,TO,Ag,rA,OF,Aw,Az,Bv]
 obtain⟨x,_⟩:=x;dsimp only at hx ⊢
 have hx:x.length<2^62:=hx
 (repeat' first|(with_reducible first|rfl|exact True.intro|apply AK|apply And.intro|((first|apply AA|apply AI|apply AB|apply AJ)<;>intro _))|(apply Ax<;>intro _)|apply AH|refine Af () ?_ ?_|((first|apply AO|apply AN|apply AM|apply AL|apply AG|apply AF|apply AE|apply AD|apply AC)<;>try dsimp only)|apply Af|(refine Prod.forall.2 ?_;intro _;try dsimp only)|(intro _;try dsimp only))
 all_goals(try(repeat(rename(_:List Int)[_]? =some _=>hq;revert hq;rename(_:List Int)[_]? =some _=>hr;intro hq;rw[hr] at hq;cases hq)))
 all_goals first
  |rfl
  |omega
  |(exfalso;rename _≠_=>hq;exact hq rfl)
  |(exfalso;rename(_==_)=false=>hq;rw[beq_self_eq_true] at hq;cases hq;done)
  |((try simp only[AQ]);omega)
  |skip)
def IH:Sig:= {X:=List Nd×List Nd,args:=fun x=>[nds x.1,nds x.2],pre:=fun x=>(BD x.1∧BD x.2)∧(x.1=x.2∨x.1.length≠x.2.length),Y:=Unit,post:=fun x y=>True,res:=fun x y=> .bool (decide (x.1.length=x.2.length)),outs:=fun x y=>[.top,.top],keep:=false}
def TP(x:List Nd×List Nd):LS:= {ι:=Int,inv:=fun i=>(0≤i∧i≤x.1.length)∧x.1=x.2,regs:=fun i=>[(0,nds x.1),(1,nds x.2),(5,.int .i64 i)],als:=[],meas:=fun i=>x.1.length-i.toNat}
theorem c2i:Al G Tryz.prog 18 IH:=
 vcFun_okP [(48,0,OF)] [] false (fun x=>[(4,TP x)]) Tryz.func18 rfl (by decide) ⟨c2h,trivial⟩ (fun(x:List Nd×List Nd)=>(∀(y:Unit),True→True∧True∧True∧True)∧Ab ((↑(List.length x.1):Int) != (↑(List.length x.2):Int)) (rA IH x [.bool false,.top,.top]) (eA (TP x) [nds x.1,nds x.2,.int .i64 (0:Int)]∧∀(i:Int),((0:Int)≤i∧i≤(↑(List.length x.1):Int))∧x.1=x.2→Ab (decide (i<(↑(List.length x.1):Int))) (true=true∧true=true∧((0:Int)≤i∧i<(↑(List.length x.1):Int))∧∀(e:Nd),x.1[Int.toNat i]? =some e→((0:Int)≤i∧i<(↑(List.length x.2):Int))∧∀(e_1:Nd),x.2[Int.toNat i]? =some e_1→Ab (e.kind != e_1.kind) (rA IH x [.bool false,.top,.top]) (((0:Int)≤i∧i<(↑(List.length x.1):Int))∧∀(e:Nd),x.1[Int.toNat i]? =some e→((0:Int)≤i∧i<(↑(List.length x.2):Int))∧∀(e_2:Nd),x.2[Int.toNat i]? =some e_2→Ab (!e.text==e_2.text) (rA IH x [.bool false,.top,.top]) (((0:Int)≤i∧i<(↑(List.length x.1):Int))∧∀(e:Nd),x.1[Int.toNat i]? =some e→((0:Int)≤i∧i<(↑(List.length x.2):Int))∧∀(e_3:Nd),x.2[Int.toNat i]? =some e_3→Ab (!e.blank==e_3.blank) (rA IH x [.bool false,.top,.top]) (((0:Int)≤i∧i<(↑(List.length x.1):Int))∧∀(e:Nd),x.1[Int.toNat i]? =some e→((0:Int)≤i∧i<(↑(List.length x.2):Int))∧∀(e_4:Nd),x.2[Int.toNat i]? =some e_4→∃(x_1:List Int×Unit),List.length x_1.1<(4611686018427387904:Nat)∧Ag e.kids=Ag x_1.1∧Ag e_4.kids=Ag x_1.1∧∃(y0:Unit),(∀(y:Unit),True→AV.bool true=AV.bool true)∧true=true∧inR IntKind.i64 (i+(1:Int))∧eN (TP x) i [nds x.1,nds x.2,.int .i64 (i+(1:Int))])))) (rA IH x [.bool true,.top,.top]))) (fun x=>by kernel_rfl) fun(x:List Nd×List Nd) (hx:(BD x.1∧BD x.2)∧(x.1=x.2∨x.1.length≠x.2.length))=>(by
 dsimp only[eA,eN,TP,Ag,Bx,nds,rA,IH,Aw,Az,Bv]
 obtain⟨x,z⟩:=x;dsimp only at hx ⊢
 obtain⟨⟨hx,hz⟩,he⟩:=hx
 have h1:=hx.1;have h2:=hz.1
 (repeat' first|(with_reducible first|rfl|exact True.intro|apply AK|apply And.intro|((first|apply AA|apply AI|apply AB|apply AJ)<;>intro _))|(apply Ax<;>intro _)|apply AH|refine Af () ?_ ?_|((first|apply AO|apply AN|apply AM|apply AL|apply AG|apply AF|apply AE|apply AD|apply AC)<;>try dsimp only)|apply Af|(refine Prod.forall.2 ?_;intro _;try dsimp only)|(intro _;try dsimp only))
 all_goals(repeat(rename _∧x=z=>hq;obtain⟨_,hxz⟩:=hq;subst hxz))
 all_goals(try((repeat(rename(_:List Nd)[Int.toNat _]? =some _=>hq;have hqe:=Bo hq;subst hqe;revert hq));intros))
 all_goals first
  |rfl
  |omega
  |exact()
  |exact⟨by omega,a6M he (by omega)⟩
  |exact a6M he (by omega)
  |exact(decide_eq_false (by omega)).symm
  |exact(decide_eq_true (by omega)).symm
  |exact decide_eq_false (by omega)
  |exact decide_eq_true (by omega)
  |(exfalso;rename _≠_=>hq;exact hq rfl)
  |(exfalso;rename(_==_)=false=>hq;rw[beq_self_eq_true] at hq;cases hq;done)
  |exact(hx.2 _ (BJ ‹_›)).2
  |((try simp only[AQ]);omega)
  |skip)
def II:Sig:= {X:=RuY×Unit,args:=fun x=>[.agg [Ag x.1.1,.int .i64 x.1.2.1,.int .i64 x.1.2.2.1,.int .i64 x.1.2.2.2],.agg [Ag x.1.1,.int .i64 x.1.2.1,.int .i64 x.1.2.2.1,.int .i64 x.1.2.2.2]],pre:=fun x=>x.1.1.length<2^62,Y:=Unit,post:=fun x y=>True,res:=fun x y=> .bool true,outs:=fun x y=>[.top,.top],keep:=false}
def TQ(x:RuY×Unit):LS:= {ι:=Int,inv:=fun i=>0≤i∧i≤x.1.1.length,regs:=fun i=>[(2,.box 0 [Ag x.1.1,.int .i64 x.1.2.1,.int .i64 x.1.2.2.1,.int .i64 x.1.2.2.2]),(3,.box 0 [Ag x.1.1,.int .i64 x.1.2.1,.int .i64 x.1.2.2.1,.int .i64 x.1.2.2.2]),(5,.int .i64 i)],als:=[],meas:=fun i=>x.1.1.length-i.toNat}
theorem c2j:Al G Tryz.prog 12 II:=
 vcFun_okP [] [] false (fun x=>[(4,TQ x)]) Tryz.func12 rfl (by decide) trivial (fun(x:RuY×Unit)=>(∀(y:Unit),True→True∧True∧True∧True)∧Ab ((↑(List.length x.1.1):Int) != (↑(List.length x.1.1):Int)) (rA II x [.bool false,.top,.top]) (Ab (x.1.2.1 != x.1.2.1) (rA II x [.bool false,.top,.top]) (Ab (x.1.2.2.1 != x.1.2.2.1) (rA II x [.bool false,.top,.top]) (Ab (x.1.2.2.2 != x.1.2.2.2) (rA II x [.bool false,.top,.top]) (eA (TQ x) [.box 0 [Ag x.1.1,.int .i64 x.1.2.1,.int .i64 x.1.2.2.1,.int .i64 x.1.2.2.2],.box 0 [Ag x.1.1,.int .i64 x.1.2.1,.int .i64 x.1.2.2.1,.int .i64 x.1.2.2.2],.int .i64 (0:Int)]∧∀(i:Int),(0:Int)≤i∧i≤(↑(List.length x.1.1):Int)→Ab (decide (i<(↑(List.length x.1.1):Int))) (true=true∧true=true∧((0:Int)≤i∧i<(↑(List.length x.1.1):Int))∧∀(e:Int),x.1.1[Int.toNat i]? =some e→((0:Int)≤i∧i<(↑(List.length x.1.1):Int))∧∀(e_1:Int),x.1.1[Int.toNat i]? =some e_1→Ab (e != e_1) (rA II x [.bool false,.top,.top]) (inR IntKind.i64 (i+(1:Int))∧eN (TQ x) i [.box 0 [Ag x.1.1,.int .i64 x.1.2.1,.int .i64 x.1.2.2.1,.int .i64 x.1.2.2.2],.box 0 [Ag x.1.1,.int .i64 x.1.2.1,.int .i64 x.1.2.2.1,.int .i64 x.1.2.2.2],.int .i64 (i+(1:Int))])) (rA II x [.bool true,.top,.top])))))) (fun x=>by kernel_rfl) fun(x:RuY×Unit) (hx:x.1.1.length<2^62)=>(by
 dsimp only[eA,eN,TQ,Ag,rA,II,Aw,Az,Bv]
 obtain⟨⟨o,r,c,s⟩,_⟩:=x;dsimp only at hx ⊢
 have hx:o.length<2^62:=hx
 (repeat' first|(with_reducible first|rfl|exact True.intro|apply AK|apply And.intro|((first|apply AA|apply AI|apply AB|apply AJ)<;>intro _))|(apply Ax<;>intro _)|apply AH|refine Af () ?_ ?_|((first|apply AO|apply AN|apply AM|apply AL|apply AG|apply AF|apply AE|apply AD|apply AC)<;>try dsimp only)|apply Af|(refine Prod.forall.2 ?_;intro _;try dsimp only)|(intro _;try dsimp only))
 all_goals(try(repeat(rename(_:List Int)[_]? =some _=>hq;revert hq;rename(_:List Int)[_]? =some _=>hr;intro hq;rw[hr] at hq;cases hq)))
 all_goals first
  |rfl
  |omega
  |exact()
  |(exfalso;rename _≠_=>hq;exact hq rfl)
  |(exfalso;simp at*;done)
  |((try simp only[AQ]);omega)
  |skip)
def MK:Sig:= {X:=List UInt8,args:=fun x=>[.sl false 0 1 UInt8 byA x],pre:=fun x=>x.length≤2^21,Y:=List UInt8×Unit,post:=fun x y=>y.1.length≤4000∧(CA y.1).isSome=true,res:=fun x y=> .str y.1,outs:=fun x y=>[.top],keep:=true}
theorem c2k:Al G Tryz.prog 7 MK:=
 vcFun_okP [(28,0,Jm),(27,0,OC),(10,0,Fu)] [] false (fun x=>[]) Tryz.func7 rfl (by decide) ⟨a6B,c1E,a6A,trivial⟩ (fun(x:List UInt8)=>True∧cA Jm [byL x] fun x_1 y=>cA OC [.box 0 (cur x_1 (0:Int) y)] fun x_2 y=>cA Fu [.str y.1] fun x_3 y_1=>Ab (Option.isSome (CA x_3)) (rA MK x [.str y.1,.top]) (rA MK x [.str #[(109:UInt8),(97:UInt8),(105:UInt8),(110:UInt8),(40:UInt8),(110:UInt8),(44:UInt8),(32:UInt8),(107:UInt8),(41:UInt8),(32:UInt8),(123:UInt8),(32:UInt8),(112:UInt8),(114:UInt8),(105:UInt8),(110:UInt8),(116:UInt8),(40:UInt8),(40:UInt8),(110:UInt8),(32:UInt8),(43:UInt8),(32:UInt8),(50:UInt8),(41:UInt8),(32:UInt8),(42:UInt8),(32:UInt8),(40:UInt8),(51:UInt8),(32:UInt8),(45:UInt8),(32:UInt8),(49:UInt8),(41:UInt8),(41:UInt8),(59:UInt8),(32:UInt8),(114:UInt8),(101:UInt8),(116:UInt8),(117:UInt8),(114:UInt8),(110:UInt8),(32:UInt8),(107:UInt8),(59:UInt8),(32:UInt8),(125:UInt8)].toList,.top])) (fun x=>by kernel_rfl) fun(x:List UInt8) (hx:x.length≤2^21)=>(by
 dsimp only[HP,byL,cA,cur,Bx,nds,Ad,AZ,rA,Fu,Jm,MK,OC,Df,sgs,srd,Aw,Az,mvL,lnL,mvE,lnE]
 have hx:x.length≤2^21:=hx
 (repeat' first|(with_reducible first|rfl|exact True.intro|apply AK|apply And.intro|((first|apply AA|apply AI|apply AB|apply AJ)<;>intro _))|(apply Ax<;>intro _)|apply AH|refine Af () ?_ ?_|((first|apply AO|apply AN|apply AM|apply AL|apply AG|apply AF|apply AE|apply AD|apply AC)<;>try dsimp only)|apply Af|(refine Prod.forall.2 ?_;intro _;try dsimp only)|(intro _;try dsimp only))
 all_goals(repeat(rename _∧BN _ _=>hq;obtain⟨_,_⟩:=hq))
 all_goals first
  |rfl
  |exact hx
  |exact a6C hx
  |exact()
  |omega
  |(with_reducible assumption)
  |exact c2d
  |((try simp only[List.length_cons,List.length_nil]);omega)
  |skip
 all_goals trace_state)
def ML(t:List UInt8)(o az:List Int):Prop:=(t.length≤4000∧(CA t).isSome=true)∧plQ o∧TN az
theorem c2l{t:List UInt8}{o:List Int}{v w:Int}(h:t.length≤4000∧(CA t).isSome=true)(ho:o.length=12∧∀e∈o,0≤e∧e<10000)(hv:o[0]? =some v)(hw:o[1]? =some w):ML t o [v.tmod 5,w.tmod 5]:=⟨h,ho,c2a ho hv hw⟩
theorem c2m{t:List UInt8}{o az:List Int}(h:ML t o az):((∀a∈az,bdd a)∧az.length≤12)∧t.length≤4000:=⟨h.2.2,h.1.1⟩
theorem c2n{t:List UInt8}{o az:List Int}{L:List Nd}(h:ML t o az)(hL:L=(CA t).getD []∧BD L):FoB L (Dz L):=c2g h.1.2 hL
theorem c2o{ns:List Nd}{t:List UInt8}{az:List Int}{st:Int}{y:RuY}(h:ruQ ns t az st y):y.1.length<2^62:=by have:=h.2;omega
theorem c2p{ns:List Nd}{t:List UInt8}{az o:List Int}{st r c s:Int}(h:ruQ ns t az st (o,r,c,s)):o.length<2^62:=c2o h
theorem c2q{L A:List Nd}(h:FoB L A):decide (DM L>0)= !decide (A.length=L.length):=by
 have e:=h.cnt
 by_cases h1:A.length=L.length
 ·rw[decide_eq_true h1,decide_eq_false (e.1 h1)];rfl
 ·rw[decide_eq_false h1,decide_eq_true (show DM L>0 from Classical.byContradiction fun x=>h1 (e.2 x))];rfl
theorem OG{L A:List Nd}(h:FoB L A):(((BD L∧L.length≤2^30)∧(BD A∧A.length≤2^30))∧(BB A=true∧BB L=true))∧A.length≤L.length:=⟨⟨⟨⟨h.t.1.2,by have:=h.t.2;omega⟩,h.ta.1.2,by have:=h.ta.2;omega⟩,h.ta.1.1,h.t.1.1⟩,h.len⟩
theorem c2r{L:List Nd}:0≤DM L∧DM L≤300:=a3b
theorem Lh{L A:List Nd}(h:FoB L A){t:List UInt8}{az:List Int}{st:Int}{y z:RuY}(hy:ruQ L t az st y)(hz:ruQ A t az st z):(y.1=z.1∧y.2.1=z.2.1)∧y.2.2.1=z.2.2.1∧y.2.2.2=z.2.2.2:=by rw[h.run hy hz];exact⟨⟨rfl,rfl⟩,rfl,rfl⟩
attribute [local irreducible] ML ruQ BB Dz DM CA
def Kg:Sig:= {X:=List UInt8,args:=fun x=>[.sl false 0 1 UInt8 byA x],pre:=fun x=>x.length<2^63,Y:=Unit,post:=fun x y=>True,res:=fun x y=> .bool true,outs:=fun x y=>[.top],keep:=false}
def TR(x:List UInt8):LS:= {ι:=List UInt8×List Int×List Int,inv:=fun i=>ML i.1 i.2.1 i.2.2,regs:=fun i=>[(0,.sl false 0 1 UInt8 byA x),(3,.str i.1),(4,Ad i.2.1),(5,Ad i.2.2)],als:=[],meas:=fun _=>0}
theorem c2s(hT:Ld G):Al G Tryz.prog 4 Kg:=
 vcFun_okP [(6,0,OB),(7,0,MK),(9,0,OA),(10,0,Fu),(16,0,Lf),(17,0,Fg),(18,0,IH),(19,0,Lg),(13,0,Qh),(12,0,II)] [(25,⟨Int,Bc⟩)] false (fun x=>[(100005,TR x)]) Tryz.func4 rfl (by decide) ⟨c1y,c2k,c1x,a6A,(c1W hT),VX,c2i,(c1X hT),b6e,c2j,trivial⟩ (fun(x:List UInt8)=>(∀(y:Unit),True→True∧True∧True)∧cA OB [byL x] fun x_1 y=>Ab (decide ((↑(List.length x_1):Int)>(1048576:Int))) (rA Kg x [.bool true,.top]) (cA MK [byL x] fun x_2 y=>cA OA [byL x] fun x_3 y_1=>true=true∧(((0:Int)≤(0:Int)∧(0:Int)<(↑(List.length y_1.1):Int))∧((0:Int)≤(1:Int)∧(1:Int)<(↑(List.length y_1.1):Int))∧((0:Nat)<List.length y_1.1∧∀(x_4:Int),y_1.1[(0:Nat)]? =some x_4→(5:Int)≠(0:Int)∧(1:Nat)<List.length y_1.1∧∀(x_5:Int),y_1.1[(1:Nat)]? =some x_5→(5:Int)≠(0:Int)∧∃(x_6:Int),Int.tmod x_4 (5:Int)=x_6∧∃(x_7:Int),Int.tmod x_5 (5:Int)=x_7∧true=true∧eA (TR x) [byL x,.str y.1,Ad y_1.1,Ad [x_6,x_7]])∧(1:Nat)<List.length y_1.1∧∀(x_4:Int),y_1.1[(1:Nat)]? =some x_4→(5:Int)≠(0:Int)∧(0:Nat)<List.length y_1.1∧∀(x_5:Int),y_1.1[(0:Nat)]? =some x_5→(5:Int)≠(0:Int)∧∃(x_6:Int),Int.tmod x_5 (5:Int)=x_6∧∃(x_7:Int),Int.tmod x_4 (5:Int)=x_7∧true=true∧eA (TR x) [byL x,.str y.1,Ad y_1.1,Ad [x_6,x_7]])∧∀(i:List UInt8×List Int×List Int),ML i.1 i.2.1 i.2.2→cA Fu [.str i.1] fun x_4 y=>cA Lf [nds y.1] fun x_5 y_2=>cA Lf [AZ (Dz x_5)] fun x_6 y_3=>cA Fg [AZ (Dz x_5)] fun x_7 y_4=>Ab (BB x_7) (cA IH [AZ (Dz x_5),AZ (Dz x_6)] fun x_8 y_5=>Ab (decide (List.length x_8.1=List.length x_8.2)) (cA Lg [AZ (Dz x_5)] fun x_9 y_6=>Ab (DM x_9==(0:Int)) (cA Lg [nds y.1] fun x_10 y_7=>cA IH [AZ (Dz x_5),nds y.1] fun x_11 y_8=>Ab (decide (DM x_10>(0:Int))== !decide (List.length x_11.1=List.length x_11.2)) (Ab (decide ((↑(List.length (Dz x_5)):Int)≤(↑(List.length y.1):Int))) (cA Qh [nds y.1,.str #[(109:UInt8),(97:UInt8),(105:UInt8),(110:UInt8)].toList,Ad i.2.2,.int .i64 (60:Int)] fun x_12 y=>cA Qh [AZ (Dz x_5),.str #[(109:UInt8),(97:UInt8),(105:UInt8),(110:UInt8)].toList,AV.sl false 0 1 Int (fun(x:Int)=>fzL (Bc x)) i.2.2,.int .i64 (60:Int)] fun x_13 y_9=>cA II [.agg [Ag y.1,.int .i64 y.2.1,.int .i64 y.2.2.1,.int .i64 y.2.2.2],.agg [Ag y_9.1,.int .i64 y_9.2.1,.int .i64 y_9.2.2.1,.int .i64 y_9.2.2.2]] fun x_14 y=>rA Kg x [.bool true,.top]) (rA Kg x [.bool false,.top])) (rA Kg x [.bool false,.top])) (rA Kg x [.bool false,.top])) (rA Kg x [.bool false,.top])) (rA Kg x [.bool false,.top]))) (fun x=>by kernel_rfl) fun(x:List UInt8) (hx:x.length<2^63)=>(by
 dsimp only[HP,byL,cA,Ai,cls,cur,eA,TR,Ag,Bx,nds,Ad,AZ,rA,Lf,Lg,Kg,Fu,Fg,IH,Qh,II,OB,OA,MK,Df,sgs,srd,usA,Aw,Az,mvL,lnL,mvE,lnE,Bv]
 have hx:x.length<2^63:=hx
 (repeat' first|(apply c2b<;>try dsimp only)|(with_reducible first|rfl|exact True.intro|apply AK|apply And.intro|((first|apply AA|apply AI|apply AB|apply AJ)<;>intro _))|(apply Ax<;>intro _)|apply AH|refine Af () ?_ ?_|((first|apply AO|apply AN|apply AM|apply AL|apply AG|apply AF|apply AE|apply AD|apply AC)<;>try dsimp only)|apply Af|(refine Prod.forall.2 ?_;intro _;try dsimp only)|(intro _;try dsimp only))
 all_goals(try(have hF:=c2n (show ML _ _ _ by assumption) (show _=(CA _).getD []∧BD _ by assumption)))
 all_goals(try simp only[hF.self] at*)
 all_goals first
  |rfl
  |exact()
  |assumption
  |omega
  |exact c2l ‹_› ‹_› ‹_› ‹_›
  |(have hA:=c2m ‹_›;first|exact hA.1.1|exact hA.1.2|exact hA.1|exact hA.1.1 _ ‹_› |omega)
  |exact hF.t
  |exact hF.ta
  |exact hF.k
  |exact hF.ka
  |exact⟨(OG hF).1.1.1.1,hF.k⟩
  |exact⟨(OG hF).1.1.2.1,hF.ka⟩
  |exact(OG hF).1.1.1.1
  |exact(OG hF).1.1.1.2
  |exact(OG hF).1.1.2.1
  |exact(OG hF).1.1.2.2
  |exact hF.same
  |exact .inl rfl
  |exact c2p ‹_›
  |exact .inl trivial
  |(exfalso;have hq:=hF.len;omega)
  |(exfalso;rename _≠_=>hq;exact hq (c2q hF))
  |(exfalso;rename _≠_=>hq;exact hq hF.zero)
  |(exfalso;rename¬True=>hq;exact hq trivial)
  |(exfalso;rename BB _=false=>hq;rw[hF.ta.1.1] at hq;cases hq;done)
  |exact(Lh hF ‹_› ‹_›).1.1
  |exact(Lh hF ‹_› ‹_›).1.2
  |exact(Lh hF ‹_› ‹_›).2.1
  |exact(Lh hF ‹_› ‹_›).2.2
  |exact(Lh hF ‹_› ‹_›).1.1.symm
  |exact(Lh hF ‹_› ‹_›).1.2.symm
  |exact(Lh hF ‹_› ‹_›).2.1.symm
  |exact(Lh hF ‹_› ‹_›).2.2.symm
  |(have hq:= @c2r;(try simp only[AQ]);omega)
  |skip)
end Go.My
end
section
namespace Go.Eng
open Go.ChangeShapes Go.WideShapes Go.ChangeAt Go.RowKit
theorem c2t{Z Z' A':FP}{w w':World}(h:After Z w (fun _=>False) Z' w' A'):Below w.heap.size w w':=
 ⟨h.os,h.tape,h.output,h.size,fun b hb=>(h.old b hb (fun x=>x)).1⟩
theorem a6N{H:Type}{enc:TypeId×Value→H}{P:Program}(hl:laidOutB P=true){W W':World}(hb:Below W.heap.size W W'):
 ∀(ts:List TypeId) (vs:List Value) (ds:List (DataW H)) (ps:List MemPlace),ts.all (fun t=>P.readableRec t&&decide (t<P.types.size))=true→
 DataW.TrodAll enc P W 0 (fun _=>true) true ts vs ds ps→(∀x∈ps,x.block<W.heap.size)→DataW.TrodAll enc P W' 0 (fun b=>decide (b<W.heap.size)) true ts vs ds ps
 |[],[],[],ps,ht,h,hp=>h
 |t::ts,v::vs,d::ds,ps,ht,h,hp=>by
  obtain⟨p,q,h1,h2,rfl⟩:=h
  simp only[List.all_cons,Bool.and_eq_true,decide_eq_true_eq] at ht
  exact⟨p,q,Below.trod hl ht.1.1 ht.1.2 h1 hb (fun x hx=>hp x (List.mem_append_left _ hx)),a6N hl hb ts vs ds q ht.2 h2 (fun x hx=>hp x (List.mem_append_right _ hx)),rfl⟩
 |[],_::_,_,_,ht,h,hp=>h.elim
 |[],[],_::_,_,ht,h,hp=>h.elim
 |_::_,[],_,_,ht,h,hp=>h.elim
 |_::_,_::_,[],_,ht,h,hp=>h.elim
theorem c2u{H:Type}{enc:TypeId×Value→H}{P:Program}{f:Func}{s:ChangeSpec}{W W':World}{args:Array Value}{ds gs:List (DataW H)}{before:List MemPlace}{tb:TypeId}
 (hl:laidOutB P=true) (ht:f.params.toList.all (fun t=>P.readableRec t&&decide (t<P.types.size))=true) (hv:s.vars=[])
 (hs:s.fn H ds= {results:=[.lit (.bool true)],args:=ds}) (hr:f.resultTypes= #[tb]) (htb:P.underlying tb=some .bool)
 (hW:DataW.Whole enc P f.params.toList s.vars false W args.toList ds gs before) (hb:Below W.heap.size W W'):s.post enc P f false true false false W args (.bool true) W':=by
 have hW0:=hW
 obtain⟨p,q,hA,hV,rfl,hfz,hnd⟩:=hW
 rw[hv] at hV
 obtain⟨rfl,rfl⟩:=trodVars_none hV
 refine⟨ds,[],p++[],[],p,[],hW0,?_,?_,?_,hb.frame _,fun h=>by cases h⟩
 ·simp only[List.append_nil]
  rw[hs,hr]
  exact trodAll_mk1 (shut_bool htb _)
 ·simp only[List.append_nil]
  rw[hs]
  exact a6N hl hb _ _ _ _ ht hA (fun x hx=>by simpa using hW0.lt x (by simpa using hx))
 ·simp only[List.append_nil]
  rw[hs,hv]
  rfl
def c2v(X:Type)(args:X→List AV)(pre:X→Prop)(n:Nat):Sig:=
 {X:=X,args:=args,pre:=pre,Y:=Unit,post:=fun _ _=>True,res:=fun _ _=> .bool true,outs:=fun _ _=>List.replicate n .top,keep:=false}
theorem c2w{H:Type}{enc:TypeId×Value→H}{P:Program}{fi:FuncId}{f:Func}{s:ChangeSpec}{W:World}{args:Array Value}{ds gs:List (DataW H)}{before:List MemPlace}{tb:TypeId}
 {X:Type} {azs:X→List AV} {pre:X→Prop} {n:Nat} {G:GInv} (hc:Al G P fi (c2v X azs pre n)) (hG:G.p (Old W) W)
 (hl:laidOutB P=true) (ht:f.params.toList.all (fun t=>P.readableRec t&&decide (t<P.types.size))=true) (hv:s.vars=[])
 (hs:s.fn H ds= {results:=[.lit (.bool true)],args:=ds}) (hr:f.resultTypes= #[tb]) (htb:P.underlying tb=some .bool)
 (hW:DataW.Whole enc P f.params.toList s.vars false W args.toList ds gs before)
 (ho:∃x,pre x∧AY (Old W) W (azs x) args.toList (fun _=>False)):
 Calls P fi args W fun e W'=>∃v,e= .returned v∧s.post enc P f false true false false W args v W':=by
 obtain⟨x,hx,hrel⟩:=ho
 refine(hc.2 x hx (Old W) W args.toList _ hG hrel (fun b h=>h.elim) trivial).mono fun e W' h=> ?_
 obtain⟨y,v,Z',A',_,rfl,hr2,hafter⟩:=h
 simp only[AY] at hr2
 obtain⟨v',us,A1,A2,e1,_,h1,_⟩:=hr2
 simp only[List.cons.injEq] at e1
 obtain⟨rfl,_⟩:=e1
 have:v= .bool true:=by
  have h1:Aj Z' W' (.bool true) v A1:=h1
  simp only[Aj] at h1;exact h1.1
 subst this
 exact⟨_,rfl,c2u hl ht hv hs hr htb hW (c2t hafter)⟩
end Go.Eng
end
section
namespace Go.Eng
open Go.ChangeShapes Go.WideShapes Go.ChangeAt Go.RowKit
theorem c2x{H:Type}{enc:TypeId×Value→H}{P:Program}{t:TypeId}{α:Type}{f:α→AV}{good:α→Prop}(hO:Kf P t (fun x=>[f x]) good){W:World}{v:Value}(hc:CM v)
 {d:DataW H} {ps:List MemPlace} (h:DataW.Trod enc P W 0 (fun _=>true) true t v d ps):∃x,good x∧Aj (Old W) W (f x) v (fun _=>False):=by
 obtain⟨Ct,hf⟩:=h
 rw[MV hc] at hf
 obtain⟨x,hg,hr⟩:=hO enc W _ _ Ct _ _ hf
 exact⟨x,hg,TK.1 hr⟩
theorem c2y{H:Type}{enc:TypeId×Value→H}{P:Program}{t e:TypeId}{α:Type}{f:α→AV}{good:α→Prop}(ht:P.underlying t=some (.slice e))(hO:Kf P t (fun x=>[f x]) good)
 {W:World} {r:Reach} {base:Nat} {v:Value} (hv:Value.okWide P W r base t v)
 {d:DataW H} {ps:List MemPlace} (h:DataW.Trod enc P W 0 (fun _=>true) true t v d ps):∃x,good x∧Aj (Old W) W (f x) v (fun _=>False):=
 c2x hO (by obtain⟨a,l,c,rfl⟩:=okWide_slice ht hv;trivial) h
theorem c2z{Z:FP}{w:World}:AY Z w [] [] (fun _=>False):=⟨rfl,AP⟩
end Go.Eng
end
section
set_option maxRecDepth 100000
namespace Go.My
open Go.Eng Go.Proofs
variable {G:GInv}
theorem opens_mapP{P:Program}{t:TypeId}{α β:Type}{f:α→List AV}{g:β→List AV}{p:α→Prop}{q:β→Prop}(m:α→β)(ho:Kf P t f p)(hf:∀x,p x→f x=g (m x))(hg:∀x,p x→q (m x)):Kf P t g q:=by
 intro H enc w spare held Ct cs y h
 obtain⟨x,hx,hr⟩:=ho enc w _ _ Ct _ _ h
 exact⟨m x,hg x hx,by rw[←hf x hx];exact hr⟩
theorem c2A:Kf Tryz.prog 5 byA (fun _=>True):=
 opens_mapP (fun n:Int=>UInt8.ofNat n.toNat) (c1H (k:= .u8) rfl) (fun x h=>by
  have h1:0≤x∧x≤255:=by have h1:IntKind.min .u8≤x:=h.1;have h2:x≤IntKind.max .u8:=h.2;have e1:IntKind.min .u8=0:=rfl;have e2:IntKind.max .u8=255:=rfl;omega
  have:(UInt8.ofNat x.toNat).toNat=x.toNat:=by simp;omega
  rw[HP,this];congr 2;omega) (fun _ _=>trivial)
theorem c2B:Kf Tryz.prog 22 (fun l:List UInt8=>[.sl false 0 1 UInt8 byA l]) (fun l=>l.length<2^63):=
 opens_mapP (fun l=>l) (c1I (e:=5) rfl (by kernel_rfl) (by decide) c2A) (fun _ _=>rfl) (fun _ h=>h.1)
end Go.My
end
