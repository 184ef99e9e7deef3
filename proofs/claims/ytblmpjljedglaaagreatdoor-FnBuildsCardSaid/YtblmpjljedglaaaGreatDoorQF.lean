/- joined -/
import Derived.Test.YtblmpjljedglaaaGreatDoorQE
set_option linter.unusedSimpArgs false
set_option linter.unusedVariables false
section
namespace Go.My
open Go.Eng Go.Proofs
variable {G:GInv}
def HM:Sig:= {X:=List UInt8,args:=fun x=>[.str x],pre:=fun x=>True,Y:=Unit,post:=fun x y=>True,res:=fun x y=> .bool (kw x),outs:=fun x y=>[.top],keep:=false}
theorem b2T:Ai G Tryz.prog 189 HM:=
 vcFun_okP [] [] false (fun x=>[]) Tryz.func189 rfl (by decide) trivial (fun(x:List UInt8)=>(∀(y:Unit),True→True∧True∧True)∧Aa (x== #[(99:UInt8),108,97,115,115].toList) (rA HM x [.bool true,.top]) (Aa (x== #[(118:UInt8),97,114].toList) (rA HM x [.bool true,.top]) (Aa (x== #[(105:UInt8),102].toList) (rA HM x [.bool true,.top]) (Aa (x== #[(101:UInt8),108,115,101].toList) (rA HM x [.bool true,.top]) (Aa (x== #[(119:UInt8),104,105,108,101].toList) (rA HM x [.bool true,.top]) (Aa (x== #[(114:UInt8),101,116,117,114,110].toList) (rA HM x [.bool true,.top]) (rA HM x [.bool false,.top]))))))) (fun x=>by kernel_rfl) fun(x:List UInt8) (hx:True)=>(by
 dsimp only[rA,HM,As,Az]
 (repeat' first|(with_reducible first|rfl|exact True.intro|apply AK|apply And.intro|((first|apply AA|apply AI|apply AB|apply AJ)<;>intro _))|(apply Av<;>intro _)|apply AH|refine Ae () ?_ ?_|((first|apply AO|apply AN|apply AM|apply AL|apply AG|apply AF|apply AE|apply AD|apply AC)<;>try dsimp only)|apply Ae|(refine Prod.forall.2 ?_;intro _;try dsimp only)|(intro _;try dsimp only))<;>(try dsimp only at*)<;>(try simp only[An,List.length_cons,List.length_nil])<;>(try omega)
 all_goals simp [kw, *])
def GB:Sig:= {X:=List UInt8,args:=fun x=>[.str x],pre:=fun x=>True,Y:=Unit,post:=fun x y=>True,res:=fun x y=> .bool (kw x),outs:=fun x y=>[.top],keep:=false}
theorem Yi:Ai G Tryz.prog 175 GB:=
 vcFun_okP [] [] false (fun x=>[]) Tryz.func175 rfl (by decide) trivial (fun(x:List UInt8)=>(∀(y:Unit),True→True∧True∧True)∧Aa (x== #[(99:UInt8),108,97,115,115].toList) (rA GB x [.bool true,.top]) (Aa (x== #[(118:UInt8),97,114].toList) (rA GB x [.bool true,.top]) (Aa (x== #[(105:UInt8),102].toList) (rA GB x [.bool true,.top]) (Aa (x== #[(101:UInt8),108,115,101].toList) (rA GB x [.bool true,.top]) (Aa (x== #[(119:UInt8),104,105,108,101].toList) (rA GB x [.bool true,.top]) (Aa (x== #[(114:UInt8),101,116,117,114,110].toList) (rA GB x [.bool true,.top]) (rA GB x [.bool false,.top]))))))) (fun x=>by kernel_rfl) fun(x:List UInt8) (hx:True)=>(by
 dsimp only[rA,GB,As,Az]
 (repeat' first|(with_reducible first|rfl|exact True.intro|apply AK|apply And.intro|((first|apply AA|apply AI|apply AB|apply AJ)<;>intro _))|(apply Av<;>intro _)|apply AH|refine Ae () ?_ ?_|((first|apply AO|apply AN|apply AM|apply AL|apply AG|apply AF|apply AE|apply AD|apply AC)<;>try dsimp only)|apply Ae|(refine Prod.forall.2 ?_;intro _;try dsimp only)|(intro _;try dsimp only))<;>(try dsimp only at*)<;>(try simp only[An,List.length_cons,List.length_nil])<;>(try omega)
 all_goals simp [kw, *])
theorem b2U{c:UInt8}:decide (CR mk1 c≥0)=mk1.elem c:=by
 unfold CR
 cases h:Eo (fun d=>decide (d.toNat=c.toNat)) mk1 with
 |none=>
  have:=XG.1 h
  symm
  simp only[Int.reduceNeg,ge_iff_le,Int.reduceLE,decide_false]
  rw[Bool.eq_false_iff]
  intro h2
  have h3:=this c (by simpa using h2)
  simp at h3
 |some i=>
  obtain⟨_,e,he,hq⟩:=LQ.1 h
  have h3:e=c:=by simpa [UInt8.toNat_inj] using hq
  subst h3
  have:=List.mem_of_getElem? he
  simp [this]
def HN:Sig:= {X:=List UInt8,args:=fun x=>[.str x],pre:=fun x=>x.length<2^63,Y:=Unit,post:=fun x y=>True,res:=fun x y=> .bool (CP x),outs:=fun x y=>[.top],keep:=false}
theorem b2V:Ai G Tryz.prog 211 HN:=
 vcFun_okP [(225,0,NS)] [] false (fun x=>[]) Tryz.func211 rfl (by decide) ⟨b1Q,trivial⟩ (fun(x:List UInt8)=>(∀(y:Unit),True→True∧True∧True)∧Aa (x== #[(38:UInt8),38].toList) (rA HN x [.bool true,.top]) (Aa (x== #[(124:UInt8),124].toList) (rA HN x [.bool true,.top]) (Aa (x== #[(61:UInt8),61].toList) (rA HN x [.bool true,.top]) (Aa (x== #[(61:UInt8),62].toList) (rA HN x [.bool true,.top]) (Aa (x== #[(46:UInt8),46].toList) (rA HN x [.bool true,.top]) (Aa ((x.length:Int)==(1:Int)) (cA NS [.str #[(40:UInt8),41,123,125,91,93,59,44,46,61,43,45,42,60,63,58].toList,.str x] fun x_1 y=>rA HN x [.bool (decide (CR x_1.1 (List.headD x_1.2 (0:UInt8))≥0)),.top]) (rA HN x [.bool false,.top]))))))) (fun x=>by kernel_rfl) fun(x:List UInt8) (hx:x.length<2^63)=>(by
 dsimp only[cA,rA,HN,NS,As,Az,mvL,lnL,mvE,lnE]
 (repeat' first|(with_reducible first|rfl|exact True.intro|apply AK|apply And.intro|((first|apply AA|apply AI|apply AB|apply AJ)<;>intro _))|(apply Av<;>intro _)|apply AH|refine Ae () ?_ ?_|((first|apply AO|apply AN|apply AM|apply AL|apply AG|apply AF|apply AE|apply AD|apply AC)<;>try dsimp only)|apply Ae|(refine Prod.forall.2 ?_;intro _;try dsimp only)|(intro _;try dsimp only))<;>(try dsimp only at*)<;>(try simp only[An,List.length_cons,List.length_nil])<;>(try omega)
 ·rename_i h;simp [CP,mk2,h]
 ·rename_i h;simp [CP,mk2,h]
 ·rename_i h;simp [CP,mk2,h]
 ·rename_i h;simp [CP,mk2,h]
 ·rename_i h;simp [CP,mk2,h]
 ·rename_i h1 h2 h3 h4 h5 h _ _
  have h:x.length=1:=by omega
  match x,h with
  |[c],_=>exact b2U.trans (by simp [CP,mk2])
 ·rename_i h1 h2 h3 h4 h5 h
  symm;simp only[CP,mk2,Bool.or_eq_false_iff,beq_eq_false_iff_ne]
  refine⟨⟨h1,h2,h3,h4,h5⟩,?_⟩
  split
  ·simp at h
  ·rfl)
def Me:Sig:= {X:=List UInt8,args:=fun x=>[.str x,.int .u8 32],pre:=fun x=>x.length<2^63,Y:=Unit,post:=fun x y=>True,res:=fun x y=> .str (CQ x),outs:=fun x y=>[.top,.top],keep:=false}
def SH(x:List UInt8):LS:= {ι:=List UInt8,inv:=fun s=>s.length≤x.length∧CQ s=CQ x,regs:=fun s=>[(0,.str s),(1,.int .u8 32)],als:=[],meas:=fun s=>s.length}
theorem b2W:Ai G Tryz.prog 236 Me:=
 vcFun_okP [] [] false (fun x=>[(1,SH x)]) Tryz.func236 rfl (by decide) trivial (fun(x:List UInt8)=>(∀(y:Unit),True→True∧True∧True∧True)∧eA (SH x) [.str x,AV.int IntKind.u8 (32:Int)]∧∀(i:List UInt8),i.length≤x.length∧CQ i=CQ x→Aa (decide ((i.length:Int)>(0:Int))) (inR .i64 ((i.length:Int)-(1:Int))∧(0≤(i.length:Int)-(1:Int)∧(i.length:Int)-1<(i.length:Int))∧∀(c:UInt8),i[Int.toNat ((i.length:Int)-(1:Int))]? =some c→Aa ((↑(UInt8.toNat c):Int)==(32:Int)) (inR .i64 ((i.length:Int)-(1:Int))∧((0:Int)≤(0:Int)∧0≤(i.length:Int)-(1:Int)∧(i.length:Int)-1≤(i.length:Int))∧eN (SH x) i [.str (List.take (Int.toNat ((i.length:Int)-(1:Int))) i),AV.int IntKind.u8 (32:Int)]) (rA Me x [.str i,.top,.top])) (rA Me x [.str i,.top,.top])) (fun x=>by kernel_rfl) fun(x:List UInt8) (hx:x.length<2^63)=>(by
 dsimp only[eA,eN,SH,rA,Me,As,Az,Bl]
 (repeat' first|(with_reducible first|rfl|exact True.intro|apply AK|apply And.intro|((first|apply AA|apply AI|apply AB|apply AJ)<;>intro _))|(apply Av<;>intro _)|apply AH|refine Ae () ?_ ?_|((first|apply AO|apply AN|apply AM|apply AL|apply AG|apply AF|apply AE|apply AD|apply AC)<;>try dsimp only)|apply Ae|(refine Prod.forall.2 ?_;intro _;try dsimp only)|(intro _;try dsimp only))<;>(try dsimp only at*)<;>(try simp only[An,List.length_cons,List.length_nil])<;>(try omega)
 ·rename_i s hs h c hc h2;simp;omega
 ·rename_i s hs h c hc h2;simp;omega
 ·rename_i s hs h c hc h2
  have e:((s.length:Int)-1).toNat=s.length-1:=by omega
  rw[e] at hc ⊢
  rw[←hs.2,a3D hc,if_pos (by omega)]
 ·rename_i s hs h c hc h2
  have e:((s.length:Int)-1).toNat=s.length-1:=by omega
  rw[e] at hc
  rw[←hs.2,a3D hc,if_neg (by omega)]
 ·rename_i s hs h
  have:s=[]:=List.length_eq_zero_iff.1 (by omega)
  rw[←hs.2,this];rfl)
def Mf:Sig:= {X:=List UInt8,args:=fun x=>[.str x,.str [32]],pre:=fun x=>x.length<2^63,Y:=Unit,post:=fun x y=>True,res:=fun x y=> .str (CQ x),outs:=fun x y=>[.top,.top],keep:=false}
theorem b2X:Ai G Tryz.prog 224 Mf:=
 vcFun_okP [(236,0,Me)] [] false (fun x=>[]) Tryz.func224 rfl (by decide) ⟨b2W,trivial⟩ (fun(x:List UInt8)=>(∀(y:Unit),True→True∧True∧True∧True)∧Aa (x== #[].toList) (rA Mf x [.str x,.top,.top]) (((0:Int)≤(0:Int)∧0<(↑(1:Nat):Int))∧∀(c:UInt8),[(32:UInt8)][(0:Nat)]? =some c→Aa (decide ((↑(UInt8.toNat c):Int)<(128:Int))) (((0:Int)≤(0:Int)∧0<(↑(1:Nat):Int))∧∀(c:UInt8),[(32:UInt8)][(0:Nat)]? =some c→cA Me [.str x,AV.int IntKind.u8 (↑(UInt8.toNat c):Int)] fun x_1 y=>rA Mf x [.str (CQ x_1),.top,.top]) False)) (fun x=>by kernel_rfl) fun(x:List UInt8) (hx:x.length<2^63)=>(by
 dsimp only[cA,rA,Me,Mf,As,Az,mvL,lnL,mvE,lnE]
 refine⟨fun _ _=>⟨trivial,trivial,trivial,trivial⟩,AB (fun h=>⟨(),trivial,by rw[h];rfl,trivial⟩) (fun h=>⟨by omega,fun c hc=> ?_⟩)⟩
 have hc:32=c:=by simpa using hc
 subst hc
 refine AA (fun _=>⟨by omega,fun c hc=> ?_⟩) (fun h=>(h (by decide)).elim)
 have hc:32=c:=by simpa using hc
 subst hc
 exact⟨x,hx,rfl,rfl,fun _ _=>⟨(),trivial,rfl,trivial⟩⟩)
def NZ:Sig:= {X:=List UInt8,args:=fun x=>[.str x],pre:=fun x=>x.length<2^63,Y:=Unit,post:=fun x y=>True,res:=fun x y=> .str (CQ x),outs:=fun x y=>[.top],keep:=false}
theorem b2Y:Ai G Tryz.prog 210 NZ:=
 vcFun_okP [(224,0,Mf)] [] false (fun x=>[]) Tryz.func210 rfl (by decide) ⟨b2X,trivial⟩ (fun(x:List UInt8)=>(∀(y:Unit),True→True∧True∧True)∧cA Mf [.str x,.str #[(32:UInt8)].toList] fun x_1 y=>rA NZ x [.str (CQ x_1),.top]) (fun x=>by kernel_rfl) fun(x:List UInt8) (hx:x.length<2^63)=>(by
 dsimp only[cA,rA,NZ,Mf,As,Az,mvL,lnL,mvE,lnE]
 (repeat' first|(with_reducible first|rfl|exact True.intro|apply AK|apply And.intro|((first|apply AA|apply AI|apply AB|apply AJ)<;>intro _))|(apply Av<;>intro _)|apply AH|refine Ae () ?_ ?_|((first|apply AO|apply AN|apply AM|apply AL|apply AG|apply AF|apply AE|apply AD|apply AC)<;>try dsimp only)|apply Ae|(refine Prod.forall.2 ?_;intro _;try dsimp only)|(intro _;try dsimp only))<;>(try dsimp only at*)<;>(try simp only[An,List.length_cons,List.length_nil])<;>(try omega))
def Ji:Sig:= {X:=List UInt8,args:=fun x=>[.str x],pre:=fun x=>x.length<2^63,Y:=Unit,post:=fun x y=>True,res:=fun x y=> .str (CQ x),outs:=fun x y=>[.top],keep:=false}
def SI(x:List UInt8):LS:= {ι:=Int,inv:=fun i=>0≤i∧i≤x.length∧CQ (x.take i.toNat)=CQ x,regs:=fun i=>[(0,.str x),(3,.q i)],als:=[],meas:=fun i=>i.toNat}
theorem a3N:Ai G Tryz.prog 170 Ji:=
 vcFun_okP [] [] false (fun x=>[(2,SI x)]) Tryz.func170 rfl (by decide) trivial (fun(x:List UInt8)=>(∀(y:Unit),True→True∧True∧True)∧eA (SI x) [.str x,.q (x.length:Int)]∧∀(i:Int),0≤i∧i≤(x.length:Int)∧CQ (List.take (Int.toNat i) x)=CQ x→Aa (decide (i>0)) (inR .i64 (i-1)∧(0≤i-1∧i-1<(x.length:Int))∧∀(c:UInt8),x[Int.toNat (i-1)]? =some c→Aa ((↑(UInt8.toNat c):Int)==(32:Int)) (inR .i64 (i-1)∧eN (SI x) i [.str x,.q (i-1)]) (((0:Int)≤(0:Int)∧0≤i∧i≤(x.length:Int))∧rA Ji x [.str (List.take (Int.toNat i) x),.top])) (((0:Int)≤(0:Int)∧0≤i∧i≤(x.length:Int))∧rA Ji x [.str (List.take (Int.toNat i) x),.top])) (fun x=>by kernel_rfl) fun(x:List UInt8) (hx:x.length<2^63)=>(by
 dsimp only[eA,eN,SI,rA,Ji,As,Az,Bl,AV.q]
 (repeat' first|(with_reducible first|rfl|exact True.intro|apply AK|apply And.intro|((first|apply AA|apply AI|apply AB|apply AJ)<;>intro _))|(apply Av<;>intro _)|apply AH|refine Ae () ?_ ?_|((first|apply AO|apply AN|apply AM|apply AL|apply AG|apply AF|apply AE|apply AD|apply AC)<;>try dsimp only)|apply Ae|(refine Prod.forall.2 ?_;intro _;try dsimp only)|(intro _;try dsimp only))<;>(try dsimp only at*)<;>(try simp only[An,List.length_cons,List.length_nil])<;>(try omega)
 ·simp
 ·rename_i i hi h c hc h2
  rw[←hi.2.2,show i.toNat=(i-1).toNat+1 by omega,a3E hc,if_pos (by omega)]
 ·rename_i i hi h c hc h2
  have:=hi.2.2
  rw[show i.toNat=(i-1).toNat+1 by omega,a3E hc,if_neg (by omega)] at this
  rw[←this,show i.toNat=(i-1).toNat+1 by omega]
 ·rename_i i hi h
  rw[←hi.2.2,show i.toNat=0 by omega];rfl)
theorem b2Z(s:List UInt8)(c:UInt8):CR s c= -1∨(0≤CR s c∧CR s c<s.length):=by
 unfold CR
 split
 ·exact .inl rfl
 ·rename_i i h;have:=Yb h;omega
theorem a3O{s:List UInt8}:DK s=if CR (s.drop 1) 39<0 then([],false) else(s.take (CR (s.drop 1) 39+2).toNat,(s.take (CR (s.drop 1) 39+2).toNat).all BJ):=by
 unfold DK CR
 have e:(fun c:UInt8=>decide (c.toNat=39))=fun d:UInt8=>decide (d.toNat=(39:UInt8).toNat):=rfl
 rw[e]
 cases Eo (fun d:UInt8=>decide (d.toNat=(39:UInt8).toNat)) (s.drop 1) with
 |none=>simp
 |some i=>
  have h1:¬(i:Int)<0:=by omega
  have h2:((i:Int)+2).toNat=i+2:=by omega
  simp only[if_neg h1,h2]
def Mg:Sig:= {X:=List UInt8,args:=fun x=>[.str x],pre:=fun x=>1≤x.length∧x.length<2^62,Y:=Unit,post:=fun x y=>True,res:=fun x y=> .tup [.str (DK x).1,.bool (DK x).2],outs:=fun x y=>[.top],keep:=false}
theorem b3a:Ai G Tryz.prog 208 Mg:=
 vcFun_okP [(223,0,NQ),(77,0,Fz)] [] false (fun x=>[]) Tryz.func208 rfl (by decide) ⟨b1N,SC,trivial⟩ (fun(x:List UInt8)=>(∀(y:Unit),True→(True∧True∧True)∧True∧True)∧((0:Int)≤(1:Int)∧1≤(x.length:Int)∧(x.length:Int)≤(x.length:Int))∧cA NQ [.str (List.drop (1:Nat) x),AV.int IntKind.u8 (39:Int)] fun x_1 y=>Aa (decide (CR x_1 (39:UInt8)<0)) (rA Mg x [.tup [.str #[].toList,.bool false],.top]) (inR .i64 (CR x_1 (39:UInt8)+2)∧((0:Int)≤(0:Int)∧0≤CR x_1 (39:UInt8)+2∧CR x_1 (39:UInt8)+2≤(x.length:Int))∧cA Fz [.str (List.take (Int.toNat (CR x_1 (39:UInt8)+2)) x)] fun x_2 y=>rA Mg x [.tup [.str (List.take (Int.toNat (CR x_1 (39:UInt8)+2)) x),.bool (List.all x_2 BJ)],.top])) (fun x=>by kernel_rfl) fun(x:List UInt8) (hx:1≤x.length∧x.length<2^62)=>(by
 dsimp only[cA,rA,Fz,Mg,NQ,As,Az,mvL,lnL,mvE,lnE]
 obtain⟨h1,h2⟩:=hx
 have hq:=b2Z (x.drop 1) 39;have hl:(x.drop 1).length=x.length-1:=by simp
 (repeat' first|(with_reducible first|rfl|exact True.intro|apply AK|apply And.intro|((first|apply AA|apply AI|apply AB|apply AJ)<;>intro _))|(apply Av<;>intro _)|apply AH|refine Ae () ?_ ?_|((first|apply AO|apply AN|apply AM|apply AL|apply AG|apply AF|apply AE|apply AD|apply AC)<;>try dsimp only)|apply Ae|(refine Prod.forall.2 ?_;intro _;try dsimp only)|(intro _;try dsimp only))<;>(try dsimp only at*)<;>(try simp only[An,List.length_cons,List.length_nil])<;>(try omega)
 all_goals first
  |omega
  |(rw[a3O,if_neg ‹¬CR _ 39<0›];done)
  |(rw[a3O,if_pos ‹CR _ 39<0›];done)
  |(simp;omega))
def Iw:Sig:= {X:=List UInt8,args:=fun x=>[.str x],pre:=fun x=>1≤x.length∧x.length<2^62,Y:=Unit,post:=fun x y=>True,res:=fun x y=> .tup [.q (Bg x).kind,.str (Bg x).text,.q (Bg x).size,.bool (Bg x).ok],outs:=fun x y=>[.top],keep:=false}
def SJ(x:List UInt8):LS:= {ι:=Int,inv:=fun i=>Iv x i,regs:=fun i=>[(0,.str x),(12,.q i)],als:=[],meas:=fun i=>i.toNat}
theorem b3b:Ai G Tryz.prog 190 Iw:=
 vcFun_okP [(204,0,Gl),(205,206+1,LU),(207,0,GW),(205,207+1,LV),(208,0,Mg),(193,0,NU),(205,209+1,LW),(210,0,NZ),(77,0,Fz),(211,0,HN)] [] false (fun x=>[(15,SJ x)]) Tryz.func190 rfl (by decide) ⟨a3y,b1V,XL,b1W,b3a,b1S,b1X,b2Y,SC,b2V,trivial⟩ (fun(x:List UInt8)=>(∀(y:Unit),True→(True∧True∧True∧True∧True)∧True∧True)∧((0:Int)≤(0:Int)∧0<(x.length:Int))∧∀(c:UInt8),x[(0:Nat)]? =some c→cA Gl [AV.int IntKind.u8 (↑(UInt8.toNat c):Int)] fun x_1 y=>Aa (Ck x_1) (cA LU [.str x,AV.clo (Fn.func (84:Nat)) []] fun x_2 y=>rA Iw x [.tup [.q 1,.str (List.takeWhile BM x_2),.q (↑((List.takeWhile BM x_2).length):Int),.bool (decide ((↑((List.takeWhile BM x_2).length):Int)≤(30:Int)))],.top]) (cA GW [AV.int IntKind.u8 (↑(UInt8.toNat c):Int)] fun x_2 y=>Aa (Bn x_2) (cA LV [.str x,AV.clo (Fn.func (85:Nat)) []] fun x_3 y=>rA Iw x [.tup [.q 2,.str (List.takeWhile Bn x_3),.q (↑((List.takeWhile Bn x_3).length):Int),.bool (decide ((↑((List.takeWhile Bn x_3).length):Int)≤(12:Int)))],.top]) (Aa ((↑(UInt8.toNat c):Int)==(39:Int)) (cA Mg [.str x] fun x_3 y=>rA Iw x [.tup [.q 3,.str (DK x_3).1,.q (↑((DK x_3).1.length):Int),.bool (DK x_3).2],.top]) (cA NU [.str x,.str #[(47:UInt8),47].toList] fun x_3 y=>Aa (List.take (x_3.2.length) x_3.1==x_3.2) (cA LW [.str x,AV.clo (Fn.func (88:Nat)) []] fun x_4 y=>cA NZ [.str (List.takeWhile Cj x_4)] fun x_5 y=>cA Fz [.str (List.takeWhile Cj x_4)] fun x_6 y=>rA Iw x [.tup [.q 5,.str (CQ x_5),.q (↑((List.takeWhile Cj x_4).length):Int),.bool (List.all x_6 BJ)],.top]) (eA (SJ x) [.str x,.q (min (2:Int) (x.length:Int))]∧∀(i:Int),Iv x i→Aa (decide (i>0)) (((0:Int)≤(0:Int)∧0≤i∧i≤(x.length:Int))∧cA HN [.str (List.take (Int.toNat i) x)] fun x_4 y=>Aa (CP x_4) (true=true∧true=true∧((0:Int)≤(0:Int)∧0≤i∧i≤(x.length:Int))∧rA Iw x [.tup [.q 4,.str (List.take (Int.toNat i) x),.q i,.bool true],.top]) (inR .i64 (i-1)∧eN (SJ x) i [.str x,.q (i-1)])) (rA Iw x [.tup [.q 0,.str #[].toList,.q 0,.bool false],.top])))))) (fun x=>by kernel_rfl) fun(x:List UInt8) (hx:1≤x.length∧x.length<2^62)=>(by
 dsimp only[cA,eA,eN,SJ,rA,NZ,GW,Gl,Fz,HN,Mg,LV,LU,LW,NU,Iw,As,Az,mvL,lnL,mvE,lnE,Bl,AV.q]
 obtain⟨h1,h2⟩:=hx
 have h3:x.length<9223372036854775808:=by omega
 match x,h1,h2,h3 with
 |b::t,h1,h2,h3=>
 (repeat' first|(with_reducible first|rfl|exact True.intro|apply AK|apply And.intro|((first|apply AA|apply AI|apply AB|apply AJ)<;>intro _))|(apply Av<;>intro _)|apply AH|refine Ae () ?_ ?_|((first|apply AO|apply AN|apply AM|apply AL|apply AG|apply AF|apply AE|apply AD|apply AC)<;>try dsimp only)|apply Ae|(refine Prod.forall.2 ?_;intro _;try dsimp only)|(intro _;try dsimp only))<;>(try dsimp only at*)<;>(try simp only[An,List.length_cons,List.length_nil])<;>(try omega)
 all_goals(try simp only[List.getElem?_cons_zero,Option.some.injEq] at*)
 all_goals(try subst_vars)
 all_goals first
  |exact h3
  |(rw[b2n ‹_›];done)
  |(rw[b2o ‹_› ‹_›];done)
  |(rw[b2p ‹_› ‹_› ‹_›];done)
  |(rw[b2q ‹_› ‹_› ‹_› ‹_›];done)
  |(rw[b2j ‹_› h1 ‹_› ‹_›];done)
  |(rw[b2k ‹_› h1 ‹_›];done)
  |exact b2l ‹_› ‹_› ‹_›
  |exact b2m ‹_› ‹_› (by omega) ‹_›
  |exact Nat.lt_of_le_of_lt (List.takeWhile_prefix _).length_le h3
  |(have hI:=(‹Iv _ _› :Iv _ _).1;rw[List.length_cons] at hI;omega)
  |(have hI:=(‹Iv _ _› :Iv _ _).1;rw[List.length_take];omega)
  |trace_state)
def Gm:Sig:= {X:=List UInt8×Int,args:=fun x=>[.str x.1,.q x.2],pre:=fun x=>x.1.length<2^62,Y:=Unit,post:=fun x y=>True,res:=fun x y=> .bool (Cr x.1 x.2),outs:=fun x y=>[.top,.top],keep:=false}
theorem a3P:Ai G Tryz.prog 155 Gm:=
 vcFun_okP [(190,0,Iw)] [] false (fun x=>[]) Tryz.func155 rfl (by decide) ⟨b3b,trivial⟩ (fun(x:List UInt8×Int)=>(∀(y:Unit),True→True∧True∧True∧True)∧Aa (x.1== #[].toList) (rA Gm x [.bool false,.top,.top]) (cA Iw [.str x.1] fun x_1 y=>Aa (Bg x_1).ok (Aa ((Bg x_1).kind==x.2) (Aa ((Bg x_1).text==x.1) (rA Gm x [.bool ((Bg x_1).size==(x.1.length:Int)),.top,.top]) (rA Gm x [.bool false,.top,.top])) (rA Gm x [.bool false,.top,.top])) (rA Gm x [.bool false,.top,.top]))) (fun x=>by kernel_rfl) fun(x:List UInt8×Int) (hx:x.1.length<2^62)=>(by
 dsimp only[cA,rA,Gm,Iw,As,Az,mvL,lnL,mvE,lnE,AV.q]
 (repeat' first|(with_reducible first|rfl|exact True.intro|apply AK|apply And.intro|((first|apply AA|apply AI|apply AB|apply AJ)<;>intro _))|(apply Av<;>intro _)|apply AH|refine Ae () ?_ ?_|((first|apply AO|apply AN|apply AM|apply AL|apply AG|apply AF|apply AE|apply AD|apply AC)<;>try dsimp only)|apply Ae|(refine Prod.forall.2 ?_;intro _;try dsimp only)|(intro _;try dsimp only))<;>(try dsimp only at*)<;>(try simp only[An,List.length_cons,List.length_nil])<;>(try omega)
 all_goals first
  |exact List.length_pos_iff.2 ‹_›
  |(simp [Cr, *];done)
  |(rw[Bool.eq_iff_iff];simp [Cr, *];done))
def HO:Sig:= {X:=List UInt8,args:=fun x=>[.str x],pre:=fun x=>x.length<2^62,Y:=Unit,post:=fun x y=>True,res:=fun x y=> .bool (DL x),outs:=fun x y=>[.top],keep:=false}
theorem b3c:Ai G Tryz.prog 154 HO:=
 vcFun_okP [(155,0,Gm),(189,0,HM)] [] false (fun x=>[]) Tryz.func154 rfl (by decide) ⟨a3P,b2T,trivial⟩ (fun(x:List UInt8)=>(∀(y:Unit),True→True∧True∧True)∧cA Gm [.str x,.q 1] fun x_1 y=>Aa (Cr x_1.1 x_1.2) (cA HM [.str x] fun x_2 y=>rA HO x [.bool !kw x_2,.top]) (rA HO x [.bool false,.top])) (fun x=>by kernel_rfl) fun(x:List UInt8) (hx:x.length<2^62)=>(by
 dsimp only[cA,rA,HM,HO,Gm,As,Az,mvL,lnL,mvE,lnE,AV.q]
 (repeat' first|(with_reducible first|rfl|exact True.intro|apply AK|apply And.intro|((first|apply AA|apply AI|apply AB|apply AJ)<;>intro _))|(apply Av<;>intro _)|apply AH|refine Ae () ?_ ?_|((first|apply AO|apply AN|apply AM|apply AL|apply AG|apply AF|apply AE|apply AD|apply AC)<;>try dsimp only)|apply Ae|(refine Prod.forall.2 ?_;intro _;try dsimp only)|(intro _;try dsimp only))<;>(try dsimp only at*)<;>(try simp only[An,List.length_cons,List.length_nil])<;>(try omega)
 all_goals simp [DL, *])
def Ed:Sig:= {X:=Nd,args:=fun x=>[.agg (ndA false x)],pre:=fun x=>x.text.length<2^62,Y:=Unit,post:=fun x y=>True,res:=fun x y=> .bool (EO x.kind x.text),outs:=fun x y=>[.top],keep:=false}
theorem b3d:Ai G Tryz.prog 122 Ed:=
 vcFun_okP [(155,0,Gm),(154,0,HO)] [] false (fun x=>[]) Tryz.func122 rfl (by decide) ⟨a3P,b3c,trivial⟩ (fun(x:Nd)=>(∀(y:Unit),True→True∧True∧True)∧Aa (x.kind==1) (cA HO [.str x.text] fun x_1 y=>rA Ed x [.bool (DL x_1),.top]) (Aa (x.kind==6) (cA HO [.str x.text] fun x_1 y=>rA Ed x [.bool (DL x_1),.top]) (Aa (x.kind==12) (cA HO [.str x.text] fun x_1 y=>rA Ed x [.bool (DL x_1),.top]) (Aa (x.kind==13) (cA HO [.str x.text] fun x_1 y=>rA Ed x [.bool (DL x_1),.top]) (Aa (x.kind==20) (cA HO [.str x.text] fun x_1 y=>rA Ed x [.bool (DL x_1),.top]) (Aa (x.kind==21) (cA HO [.str x.text] fun x_1 y=>rA Ed x [.bool (DL x_1),.top]) (Aa (x.kind==2) (cA Gm [.str x.text,.q 2] fun x_1 y=>rA Ed x [.bool (Cr x_1.1 x_1.2),.top]) (Aa (x.kind==3) (cA Gm [.str x.text,.q 3] fun x_1 y=>rA Ed x [.bool (Cr x_1.1 x_1.2),.top]) (Aa (x.kind==19) (cA Gm [.str x.text,.q 5] fun x_1 y=>rA Ed x [.bool (Cr x_1.1 x_1.2),.top]) (Aa (x.kind==7) (Aa (x.text== #[(38:UInt8),38].toList) (rA Ed x [.bool true,.top]) (Aa (x.text== #[(124:UInt8),124].toList) (rA Ed x [.bool true,.top]) (Aa (x.text== #[(61:UInt8),61].toList) (rA Ed x [.bool true,.top]) (Aa (x.text== #[(60:UInt8)].toList) (rA Ed x [.bool true,.top]) (Aa (x.text== #[(43:UInt8)].toList) (rA Ed x [.bool true,.top]) (Aa (x.text== #[(45:UInt8)].toList) (rA Ed x [.bool true,.top]) (Aa (x.text== #[(42:UInt8)].toList) (rA Ed x [.bool true,.top]) (rA Ed x [.bool false,.top])))))))) (rA Ed x [.bool (x.text== #[].toList),.top]))))))))))) (fun x=>by kernel_rfl) fun(x:Nd) (hx:x.text.length<2^62)=>(by
 dsimp only[cA,Br,rA,HO,Gm,Ed,As,Az,mvL,lnL,mvE,lnE,mvG,mvH,lnG,lnH,AV.q]
 (repeat' first|(with_reducible first|rfl|exact True.intro|apply AK|apply And.intro|((first|apply AA|apply AI|apply AB|apply AJ)<;>intro _))|(apply Av<;>intro _)|apply AH|refine Ae () ?_ ?_|((first|apply AO|apply AN|apply AM|apply AL|apply AG|apply AF|apply AE|apply AD|apply AC)<;>try dsimp only)|apply Ae|(refine Prod.forall.2 ?_;intro _;try dsimp only)|(intro _;try dsimp only))<;>(try dsimp only at*)<;>(try simp only[An,List.length_cons,List.length_nil])<;>(try omega)
 all_goals simp [EO,JG, *])
def Ix:Sig:= {X:=List UInt8×Int,args:=fun x=>[.str x.1,.q x.2],pre:=fun x=>0≤x.2∧x.2≤x.1.length∧x.1.length<2^62,Y:=Unit,post:=fun x y=>True,res:=fun x y=> .q (CK (x.1.drop x.2.toNat)),outs:=fun x y=>[.top,.top],keep:=false}
def SK(x:List UInt8×Int):LS:= {ι:=Int,inv:=fun i=>qI x i,regs:=fun i=>[(0,.str x.1),(1,.q x.2),(5,.q i)],als:=[],meas:=fun i=>x.1.length-i.toNat}
theorem a3Q:Ai G Tryz.prog 173 Ix:=
 vcFun_okP [(85,0,GX)] [] false (fun x=>[(2,SK x)]) Tryz.func173 rfl (by decide) ⟨XN,trivial⟩ (fun(x:List UInt8×Int)=>(∀(y:Unit),True→True∧True∧True∧True)∧inR .i64 (x.2+(1:Int))∧eA (SK x) [.str x.1,.q x.2,.q (x.2+(1:Int))]∧∀(i:Int),qI x i→Aa (decide (i<(x.1.length:Int))) ((0≤i∧i<(x.1.length:Int))∧∀(c:UInt8),x.1[Int.toNat i]? =some c→Aa ((↑(UInt8.toNat c):Int)==(39:Int)) (inR .i64 (i+1)∧inR .i64 (i+1-x.2)∧rA Ix x [.q (i+1-x.2),.top,.top]) ((0≤i∧i<(x.1.length:Int))∧∀(c:UInt8),x.1[Int.toNat i]? =some c→cA GX [AV.int IntKind.u8 (↑(UInt8.toNat c):Int)] fun x_1 y=>Aa (!BJ x_1) (rA Ix x [.q 0,.top,.top]) (inR .i64 (i+1)∧eN (SK x) i [.str x.1,.q x.2,.q (i+1)]))) (rA Ix x [.q 0,.top,.top])) (fun x=>by kernel_rfl) fun(x:List UInt8×Int) (hx:0≤x.2∧x.2≤x.1.length∧x.1.length<2^62)=>(by
 dsimp only[cA,eA,eN,SK,rA,GX,Ix,As,Az,mvL,lnL,mvE,lnE,Bl,AV.q]
 obtain⟨h1,h2,h3⟩:=hx
 (repeat' first|(with_reducible first|rfl|exact True.intro|apply AK|apply And.intro|((first|apply AA|apply AI|apply AB|apply AJ)<;>intro _))|(apply Av<;>intro _)|apply AH|refine Ae () ?_ ?_|((first|apply AO|apply AN|apply AM|apply AL|apply AG|apply AF|apply AE|apply AD|apply AC)<;>try dsimp only)|apply Ae|(refine Prod.forall.2 ?_;intro _;try dsimp only)|(intro _;try dsimp only))<;>(try dsimp only at*)<;>(try simp only[An,List.length_cons,List.length_nil])<;>(try omega)
 all_goals first
  |exact b2x
  |exact b2z h1 ‹_› ‹_› ‹_›
  |exact b2A h1 ‹_› ‹_› ‹_› ‹_› ‹_›
  |exact b2B h1 ‹_› ‹_› ‹_› ‹_› ‹_› ‹_›
  |exact b2C h1 ‹_› ‹_›
  |(have hI:=b2y ‹_›;omega))
def GY:Sig:= {X:=List UInt8×Int,args:=fun x=>[.str x.1,.q x.2],pre:=fun x=>0≤x.2∧x.2≤x.1.length∧x.1.length<2^62,Y:=Unit,post:=fun x y=>True,res:=fun x y=> .q (Cy (x.1.drop x.2.toNat)),outs:=fun x y=>[.top,.top],keep:=false}
def SL(x:List UInt8×Int):LS:= {ι:=Int,inv:=fun i=>nI x i,regs:=fun i=>[(0,.str x.1),(1,.q x.2),(5,.q i)],als:=[],meas:=fun i=>x.1.length-i.toNat}
theorem a3R:Ai G Tryz.prog 169 GY:=
 vcFun_okP [(85,0,GX)] [] false (fun x=>[(4,SL x)]) Tryz.func169 rfl (by decide) ⟨XN,trivial⟩ (fun(x:List UInt8×Int)=>(∀(y:Unit),True→True∧True∧True∧True)∧inR .i64 (x.2+(2:Int))∧Aa (decide (x.2+2>(x.1.length:Int))) (rA GY x [.q 0,.top,.top]) (inR .i64 (x.2+(2:Int))∧(0≤x.2∧x.2≤x.2+(2:Int)∧x.2+2≤(x.1.length:Int))∧Aa (!List.drop (Int.toNat x.2) (List.take (Int.toNat (x.2+(2:Int))) x.1)== #[(47:UInt8),47].toList) (rA GY x [.q 0,.top,.top]) (eA (SL x) [.str x.1,.q x.2,.q x.2]∧∀(i:Int),nI x i→Aa (decide (i<(x.1.length:Int))) ((0≤i∧i<(x.1.length:Int))∧∀(c:UInt8),x.1[Int.toNat i]? =some c→Aa ((↑(UInt8.toNat c):Int) != (10:Int)) ((0≤i∧i<(x.1.length:Int))∧∀(c:UInt8),x.1[Int.toNat i]? =some c→cA GX [AV.int IntKind.u8 (↑(UInt8.toNat c):Int)] fun x_1 y=>Aa (!BJ x_1) (rA GY x [.q 0,.top,.top]) (inR .i64 (i+1)∧eN (SL x) i [.str x.1,.q x.2,.q (i+1)])) (inR .i64 (i-x.2)∧rA GY x [.q (i-x.2),.top,.top])) (inR .i64 (i-x.2)∧rA GY x [.q (i-x.2),.top,.top])))) (fun x=>by kernel_rfl) fun(x:List UInt8×Int) (hx:0≤x.2∧x.2≤x.1.length∧x.1.length<2^62)=>(by
 dsimp only[cA,eA,eN,SL,rA,GY,GX,As,Az,mvL,lnL,mvE,lnE,Bl,AV.q]
 obtain⟨h1,h2,h3⟩:=hx
 (repeat' first|(with_reducible first|rfl|exact True.intro|apply AK|apply And.intro|((first|apply AA|apply AI|apply AB|apply AJ)<;>intro _))|(apply Av<;>intro _)|apply AH|refine Ae () ?_ ?_|((first|apply AO|apply AN|apply AM|apply AL|apply AG|apply AF|apply AE|apply AD|apply AC)<;>try dsimp only)|apply Ae|(refine Prod.forall.2 ?_;intro _;try dsimp only)|(intro _;try dsimp only))<;>(try dsimp only at*)<;>(try simp only[An,List.length_cons,List.length_nil])<;>(try omega)
 all_goals first
  |exact b2F h1 ‹_›
  |exact b2E h1 ‹_›
  |exact b2D h1 h2 ‹_›
  |exact b2G h1 ‹_› ‹_› ‹_› ‹_› ‹_›
  |exact b2H h1 ‹_› ‹_› ‹_› ‹_› ‹_› ‹_›
  |exact b2I h1 ‹_› ‹_› ‹_›
  |exact b2J h1 ‹_› ‹_›
  |(have hI:=(‹nI _ _› :nI _ _).1;omega))
def Gn:Sig:= {X:=List UInt8,args:=fun x=>[.str x],pre:=fun x=>x.length<2^62,Y:=Unit,post:=fun x y=>True,res:=fun x y=> .bool (DL x),outs:=fun x y=>[.top],keep:=false}
def Qq(x:List UInt8):LS:= {ι:=Int,inv:=fun i=>nmI x i,regs:=fun i=>[(0,.str x),(3,.q i)],als:=[],meas:=fun i=>x.length-i.toNat}
theorem b3e:Ai G Tryz.prog 180 Gn:=
 vcFun_okP [(45,0,BU),(171,0,Fy),(175,0,GB),(172,0,Gk)] [] false (fun x=>[(4,Qq x)]) Tryz.func180 rfl (by decide) ⟨Ir,a3z,Yi,XM,trivial⟩ (fun(x:List UInt8)=>(∀(y:Unit),True→True∧True∧True)∧cA BU [.q (x.length:Int),.q 1,.q 30] fun x_1 y=>Aa (!inn x_1.1 x_1.2.1 x_1.2.2) (rA Gn x [.bool false,.top]) (((0:Int)≤(0:Int)∧0<(x.length:Int))∧∀(c:UInt8),x[(0:Nat)]? =some c→cA Fy [AV.int IntKind.u8 (↑(UInt8.toNat c):Int)] fun x_2 y=>Aa (!Ck x_2) (rA Gn x [.bool false,.top]) (cA GB [.str x] fun x_3 y=>Aa (kw x_3) (rA Gn x [.bool false,.top]) (eA (Qq x) [.str x,.q 0]∧∀(i:Int),nmI x i→Aa (decide (i<(x.length:Int))) ((0≤i∧i<(x.length:Int))∧∀(c:UInt8),x[Int.toNat i]? =some c→cA Fy [AV.int IntKind.u8 (↑(UInt8.toNat c):Int)] fun x_4 y=>Aa (!Ck x_4) ((0≤i∧i<(x.length:Int))∧∀(c:UInt8),x[Int.toNat i]? =some c→cA Gk [AV.int IntKind.u8 (↑(UInt8.toNat c):Int)] fun x_5 y=>Aa (!Bn x_5) (rA Gn x [.bool false,.top]) (inR .i64 (i+1)∧eN (Qq x) i [.str x,.q (i+1)])) (inR .i64 (i+1)∧eN (Qq x) i [.str x,.q (i+1)])) (rA Gn x [.bool true,.top]))))) (fun x=>by kernel_rfl) fun(x:List UInt8) (hx:x.length<2^62)=>(by
 dsimp only[cA,eA,eN,Qq,rA,BU,Gk,Fy,Gn,GB,As,Az,mvL,lnL,mvE,lnE,Bl,AV.q]
 have hp:∀h:inn x.length 1 30=true,1≤x.length:=fun h=>by simp [inn] at h;omega
 (repeat' first|(with_reducible first|rfl|exact True.intro|apply AK|apply And.intro|((first|apply AA|apply AI|apply AB|apply AJ)<;>intro _))|(apply Av<;>intro _)|apply AH|refine Ae () ?_ ?_|((first|apply AO|apply AN|apply AM|apply AL|apply AG|apply AF|apply AE|apply AD|apply AC)<;>try dsimp only)|apply Ae|(refine Prod.forall.2 ?_;intro _;try dsimp only)|(intro _;try dsimp only))<;>(try dsimp only at*)<;>(try simp only[An,List.length_cons,List.length_nil])<;>(try omega)
 all_goals(try(have:=hp ‹_›;omega))
 all_goals(try(have hI:=(‹nmI _ _› :nmI _ _).1;omega))
 ·rename_i h;exact Yh (fun hh=>by rw[hh.1] at h;cases h)
 ·rename_i c hc _ _ h;exact Yh (fun hh=>by rw[a3L hc,h] at hh;cases hh.2.1)
 ·rename_i h;exact Yh (fun hh=>by rw[hh.2.2] at h;cases h)
 ·rename_i h1 c hc _ _ h2 _ _ h3;exact b2K h1 (by rw[a3L hc];exact h2) h3
 ·rename_i i hi hl c hc _ _ h1 d hd _ _ h2
  rw[hc] at hd;cases hd
  exact b2L hi hc (by simp [BM,h1,h2])
 ·rename_i i hi hl c hc _ _ h1 d hd _ _ h2
  rw[hc] at hd;cases hd
  exact a3M hi hc hl (by simp [BM,h2])
 ·rename_i i hi hl c hc _ _ h1
  exact a3M hi hc hl (by simp [BM,h1])
 ·exact b2M ‹_› ‹_›)
def Mh:Sig:= {X:=List UInt8,args:=fun x=>[.str x],pre:=fun x=>x.length<2^62,Y:=Unit,post:=fun x y=>True,res:=fun x y=> .bool (Cr x 2),outs:=fun x y=>[.top],keep:=false}
theorem b3f:Ai G Tryz.prog 181 Mh:=
 vcFun_okP [(45,0,BU),(172,0,Gk)] [] false (fun x=>[(2,EG Bn x fun i=>[(0,.str x),(3,.q i)])]) Tryz.func181 rfl (by decide) ⟨Ir,XM,trivial⟩ (fun(x:List UInt8)=>(∀(y:Unit),True→True∧True∧True)∧eA (EG Bn x fun(i:Int)=>[((0:Nat),.str x),((3:Nat),.q i)]) [.str x,.q 0]∧∀(i:Int),(0≤i∧i≤(x.length:Int)∧∀(e:UInt8),e∈List.take (Int.toNat i) x→Bn e=true)→Aa (decide (i<(x.length:Int))) ((0≤i∧i<(x.length:Int))∧∀(c:UInt8),x[Int.toNat i]? =some c→cA Gk [AV.int IntKind.u8 (↑(UInt8.toNat c):Int)] fun x_1 y=>Aa (!Bn x_1) (rA Mh x [.bool false,.top]) (inR .i64 (i+1)∧eN (EG Bn x fun(i:Int)=>[((0:Nat),.str x),((3:Nat),.q i)]) i [.str x,.q (i+1)])) (cA BU [.q (x.length:Int),.q 1,.q 12] fun x_1 y=>rA Mh x [.bool (inn x_1.1 x_1.2.1 x_1.2.2),.top])) (fun x=>by kernel_rfl) fun(x:List UInt8) (hx:x.length<2^62)=>(by
 dsimp only[cA,eA,eN,EG,rA,BU,Gk,Mh,As,Az,mvL,lnL,mvE,lnE,Bl,AV.q]
 (repeat' first|(with_reducible first|rfl|exact True.intro|apply AK|apply And.intro|((first|apply AA|apply AI|apply AB|apply AJ)<;>intro _))|(apply Av<;>intro _)|apply AH|refine Ae () ?_ ?_|((first|apply AO|apply AN|apply AM|apply AL|apply AG|apply AF|apply AE|apply AD|apply AC)<;>try dsimp only)|apply Ae|(refine Prod.forall.2 ?_;intro _;try dsimp only)|(intro _;try dsimp only))<;>(try dsimp only at*)<;>(try simp only[An,List.length_cons,List.length_nil])<;>(try omega)
 ·rename_i h;simp at h
 ·rename_i i hi hl c hc _ _ h;rw[Yd,Sy hc h];rfl
 ·rename_i i hi hl c hc _ _ h e he
  rw[Dd hi.1] at he;exact Qh hi.2.2 hc h e he
 ·rename_i i hi hl _ _;rw[Yd,XF hi.2.2 (by omega)];simp only[Bool.true_and,inn];rw[Bool.eq_iff_iff];simp;omega)
def KN:Sig:= {X:=List UInt8,args:=fun x=>[.str x],pre:=fun x=>x.length<2^62,Y:=Unit,post:=fun x y=>True,res:=fun x y=> .bool (Cr x 3),outs:=fun x y=>[.top],keep:=false}
theorem b3g:Ai G Tryz.prog 182 KN:=
 vcFun_okP [(173,0,Ix)] [] false (fun x=>[]) Tryz.func182 rfl (by decide) ⟨a3Q,trivial⟩ (fun(x:List UInt8)=>(∀(y:Unit),True→True∧True∧True)∧Aa (decide ((x.length:Int)>(1:Int))) (((0:Int)≤(0:Int)∧0<(x.length:Int))∧∀(c:UInt8),x[(0:Nat)]? =some c→Aa ((↑(UInt8.toNat c):Int)==(39:Int)) (cA Ix [.str x,.q 0] fun x_1 y=>rA KN x [.bool ((↑(CK (List.drop (Int.toNat x_1.2) x_1.1)):Int)==(x.length:Int)),.top]) (rA KN x [.bool false,.top])) (rA KN x [.bool false,.top])) (fun x=>by kernel_rfl) fun(x:List UInt8) (hx:x.length<2^62)=>(by
 dsimp only[cA,rA,Ix,KN,As,Az,mvL,lnL,mvE,lnE,AV.q]
 (repeat' first|(with_reducible first|rfl|exact True.intro|apply AK|apply And.intro|((first|apply AA|apply AI|apply AB|apply AJ)<;>intro _))|(apply Av<;>intro _)|apply AH|refine Ae () ?_ ?_|((first|apply AO|apply AN|apply AM|apply AL|apply AG|apply AF|apply AE|apply AD|apply AC)<;>try dsimp only)|apply Ae|(refine Prod.forall.2 ?_;intro _;try dsimp only)|(intro _;try dsimp only))<;>(try dsimp only at*)<;>(try simp only[An,List.length_cons,List.length_nil])<;>(try omega)
 ·exact b2N ‹_› ‹_› ‹_›
 ·exact b2O ‹_› ‹_›
 ·exact b2P ‹_›)
def KO:Sig:= {X:=List UInt8,args:=fun x=>[.str x],pre:=fun x=>x.length<2^62,Y:=Unit,post:=fun x y=>True,res:=fun x y=> .bool (Cr x 5),outs:=fun x y=>[.top],keep:=false}
theorem b3h:Ai G Tryz.prog 183 KO:=
 vcFun_okP [(169,0,GY),(170,0,Ji)] [] false (fun x=>[]) Tryz.func183 rfl (by decide) ⟨a3R,a3N,trivial⟩ (fun(x:List UInt8)=>(∀(y:Unit),True→True∧True∧True)∧Aa (decide ((x.length:Int)>(1:Int))) (cA GY [.str x,.q 0] fun x_1 y=>Aa ((↑(Cy (List.drop (Int.toNat x_1.2) x_1.1)):Int)==(x.length:Int)) (cA Ji [.str x] fun x_2 y=>rA KO x [.bool (CQ x_2==x),.top]) (rA KO x [.bool false,.top])) (rA KO x [.bool false,.top])) (fun x=>by kernel_rfl) fun(x:List UInt8) (hx:x.length<2^62)=>(by
 dsimp only[cA,rA,GY,KO,Ji,As,Az,mvL,lnL,mvE,lnE,AV.q]
 (repeat' first|(with_reducible first|rfl|exact True.intro|apply AK|apply And.intro|((first|apply AA|apply AI|apply AB|apply AJ)<;>intro _))|(apply Av<;>intro _)|apply AH|refine Ae () ?_ ?_|((first|apply AO|apply AN|apply AM|apply AL|apply AG|apply AF|apply AE|apply AD|apply AC)<;>try dsimp only)|apply Ae|(refine Prod.forall.2 ?_;intro _;try dsimp only)|(intro _;try dsimp only))<;>(try dsimp only at*)<;>(try simp only[An,List.length_cons,List.length_nil])<;>(try omega)
 ·exact b2Q ‹_› ‹_›
 ·exact b2R ‹_›
 ·exact b2S ‹_›)
def GZ:Sig:= {X:=List UInt8,args:=fun x=>[.str x],pre:=fun x=>x.length<2^62,Y:=Unit,post:=fun x y=>True,res:=fun x y=> .bool (JG x),outs:=fun x y=>[.top],keep:=false}
theorem b3i:Ai G Tryz.prog 184 GZ:=
 vcFun_okP [] [] false (fun x=>[]) Tryz.func184 rfl (by decide) trivial (fun(x:List UInt8)=>(∀(y:Unit),True→True∧True∧True)∧Aa (x== #[(38:UInt8),38].toList) (rA GZ x [.bool true,.top]) (Aa (x== #[(124:UInt8),124].toList) (rA GZ x [.bool true,.top]) (Aa (x== #[(61:UInt8),61].toList) (rA GZ x [.bool true,.top]) (Aa (x== #[(60:UInt8)].toList) (rA GZ x [.bool true,.top]) (Aa (x== #[(43:UInt8)].toList) (rA GZ x [.bool true,.top]) (Aa (x== #[(45:UInt8)].toList) (rA GZ x [.bool true,.top]) (Aa (x== #[(42:UInt8)].toList) (rA GZ x [.bool true,.top]) (rA GZ x [.bool false,.top])))))))) (fun x=>by kernel_rfl) fun(x:List UInt8) (hx:x.length<2^62)=>(by
 dsimp only[rA,GZ,As,Az]
 (repeat' first|(with_reducible first|rfl|exact True.intro|apply AK|apply And.intro|((first|apply AA|apply AI|apply AB|apply AJ)<;>intro _))|(apply Av<;>intro _)|apply AH|refine Ae () ?_ ?_|((first|apply AO|apply AN|apply AM|apply AL|apply AG|apply AF|apply AE|apply AD|apply AC)<;>try dsimp only)|apply Ae|(refine Prod.forall.2 ?_;intro _;try dsimp only)|(intro _;try dsimp only))<;>(try dsimp only at*)<;>(try simp only[An,List.length_cons,List.length_nil])<;>(try omega)
 all_goals simp [JG, *])
def FR:Sig:= {X:=Int×List UInt8,args:=fun x=>[.q x.1,.str x.2],pre:=fun x=>x.2.length<2^62,Y:=Unit,post:=fun x y=>True,res:=fun x y=> .bool (EO x.1 x.2),outs:=fun x y=>[.top,.top],keep:=false}
theorem b3j:Ai G Tryz.prog 144 FR:=
 vcFun_okP [(180,0,Gn),(181,0,Mh),(182,0,KN),(183,0,KO),(184,0,GZ)] [] false (fun x=>[]) Tryz.func144 rfl (by decide) ⟨b3e,b3f,b3g,b3h,b3i,trivial⟩ (fun(x:Int×List UInt8)=>(∀(y:Unit),True→True∧True∧True∧True)∧Aa (x.1==(1:Int)) (cA Gn [.str x.2] fun x_1 y=>rA FR x [.bool (DL x_1),.top,.top]) (Aa (x.1==(6:Int)) (cA Gn [.str x.2] fun x_1 y=>rA FR x [.bool (DL x_1),.top,.top]) (Aa (x.1==(12:Int)) (cA Gn [.str x.2] fun x_1 y=>rA FR x [.bool (DL x_1),.top,.top]) (Aa (x.1==(13:Int)) (cA Gn [.str x.2] fun x_1 y=>rA FR x [.bool (DL x_1),.top,.top]) (Aa (x.1==(20:Int)) (cA Gn [.str x.2] fun x_1 y=>rA FR x [.bool (DL x_1),.top,.top]) (Aa (x.1==(21:Int)) (cA Gn [.str x.2] fun x_1 y=>rA FR x [.bool (DL x_1),.top,.top]) (Aa (x.1==(2:Int)) (cA Mh [.str x.2] fun x_1 y=>rA FR x [.bool (Cr x_1 (2:Int)),.top,.top]) (Aa (x.1==(3:Int)) (cA KN [.str x.2] fun x_1 y=>rA FR x [.bool (Cr x_1 (3:Int)),.top,.top]) (Aa (x.1==(19:Int)) (cA KO [.str x.2] fun x_1 y=>rA FR x [.bool (Cr x_1 (5:Int)),.top,.top]) (Aa (x.1==(7:Int)) (cA GZ [.str x.2] fun x_1 y=>rA FR x [.bool (JG x_1),.top,.top]) (rA FR x [.bool (x.2== #[].toList),.top,.top]))))))))))) (fun x=>by kernel_rfl) fun(x:Int×List UInt8) (hx:x.2.length<2^62)=>(by
 dsimp only[cA,rA,GZ,Gn,KO,Mh,KN,FR,As,Az,mvL,lnL,mvE,lnE,AV.q]
 (repeat' first|(with_reducible first|rfl|exact True.intro|apply AK|apply And.intro|((first|apply AA|apply AI|apply AB|apply AJ)<;>intro _))|(apply Av<;>intro _)|apply AH|refine Ae () ?_ ?_|((first|apply AO|apply AN|apply AM|apply AL|apply AG|apply AF|apply AE|apply AD|apply AC)<;>try dsimp only)|apply Ae|(refine Prod.forall.2 ?_;intro _;try dsimp only)|(intro _;try dsimp only))<;>(try dsimp only at*)<;>(try simp only[An,List.length_cons,List.length_nil])<;>(try omega)
 all_goals simp [EO, *])
end Go.My
end
section
namespace Go.My
open Go.Eng
variable {k:Int}{l:List Int}
def Ee(k:Int):Int×Int:=
 if k=4∨k=18∨k=21∨k=22 then(0,12)
 else if k=5∨k=9∨k=20 then(1,12)
 else if k=6∨k=11∨k=13∨k=14 then(1,1)
 else if k=7∨k=10 then(2,12)
 else if k=8 then(3,3)
 else if k=12∨k=15 then(0,1)
 else if k=16 then(2,3)
 else if k=17 then(2,2)
 else(0,0)
def Ha(k n i y:Int):Bool:=
 if k=9 then(if i+1<n then Ep y else Bf y)
 else if k=20 then(if i+1<n then Ep y else EE y)
 else if k=10 then(if 0<i then Fx y else Bf y)
 else if k=16∨k=17 then(if 0<i then EE y else Bf y)
 else if k=18 then Fk y
 else if k=21 then Fj y
 else if k=22 then HJ y
 else Bf y
def Mi(ns:List Nd)(x:Nd)(i c:Int):Bool:=
 Ha x.kind x.kids.length i (Bc ns c)&&(if x.kind=10∧0<i then decide (Bc ns ((Ab ns c).kids.headD 0)=1) else true)
def Et(ns:List Nd)(x:Nd)(i c:Int):Bool:=
 (!(decide (Bc ns c=5)&&(decide ((Ab ns c).kids.length=0)|| !BG ns ((Ab ns c).kids.headD 0))))&&Mi ns x i c
def BV(f:Int→Int→Bool):List Int→Int→Bool
 |[],_=>true
 |c::l,i=>f i c&&BV f l (i+1)
theorem Yj{f g:Int→Int→Bool}:∀ {l:List Int} {i:Int},(∀j c,i≤j→j<i+l.length→c∈l→f j c=g j c)→BV f l i=BV g l i
 |[],i,h=>rfl
 |c::l,i,h=>by
  simp only[BV]
  rw[h i c (Int.le_refl i) (by simp;omega) (by simp),Yj (fun j c hj hl hc=>h j c (by omega) (by simp;omega) (by simp [hc]))]
theorem a3S{f g:Int→Int→Bool}:∀ {l:List Int} {i:Int},BV (fun i c=>f i c&&g i c) l i=(BV f l i&&BV g l i)
 |[],i=>rfl
 |c::l,i=>by
  simp only[BV];rw[a3S]
  cases f i c<;>cases g i c<;>cases BV f l (i+1)<;>cases BV g l (i+1)<;>rfl
theorem SM{f:Int→Bool}:∀ {l:List Int} {i:Int},BV (fun _ c=>f c) l i=l.all f
 |[],i=>rfl
 |c::l,i=>by simp only[BV,List.all_cons];rw[SM]
theorem a3T{f:Int→Int→Bool}{g:Int→Int}:∀ {l:List Int} {i:Int},BV f (l.map g) i=BV (fun i c=>f i (g c)) l i
 |[],i=>rfl
 |c::l,i=>by simp only[BV,List.map_cons];rw[a3T]
theorem a3U{f:Int→Int→Bool}:∀ {l m:List Int} {i:Int},BV f (l++m) i=(BV f l i&&BV f m (i+l.length))
 |[],m,i=>by simp [BV]
 |c::l,m,i=>by
  simp only[List.cons_append,BV];rw[a3U,Bool.and_assoc]
  congr 2;congr 1;simp;omega
theorem Yk{f:Int→Int→Bool}:∀ {l:List Int} {i:Nat},((l.zipIdx i).all fun p=>f p.2 p.1)=BV f l i
 |[],i=>rfl
 |c::l,i=>by
  simp only[List.zipIdx_cons,List.all_cons,BV];rw[Yk];congr 2
theorem Yl{f:Int→Int→Bool}:BV f l 0=true↔∀(j:Nat) c,l[j]? =some c→f j c=true:=by
 have:∀(l:List Int) (i:Nat),BV f l i=true↔∀(j:Nat) c,l[j]? =some c→f (i+j:Nat) c=true:=by
  intro l
  induction l with
  |nil=>intro i;simp [BV]
  |cons c l ih=>
   intro i
   simp only[BV,Bool.and_eq_true]
   have:=ih (i+1)
   rw[show((i:Int)+1)=((i+1:Nat):Int) from by omega,this]
   constructor
   ·rintro⟨h1,h2⟩ j d hd
    cases j with
    |zero=>simp at hd;subst hd;simpa using h1
    |succ j=>have:=h2 j d (by simpa using hd);rwa [show i+1+j=i+(j+1) by omega] at this
   ·intro h
    refine⟨by simpa using h 0 c rfl,fun j d hd=> ?_⟩
    have:=h (j+1) d (by simpa using hd)
    rwa [show i+(j+1)=i+1+j by omega] at this
 have:=this l 0
 simpa using this
theorem a3V(h:l.getLast? =some k):l=l.dropLast++[k]:=by
 have hne:l≠[]:=by intro e;rw[e] at h;cases h
 rw[List.getLast?_eq_some_getLast hne] at h
 have:=List.dropLast_concat_getLast hne
 rw[Option.some.inj h] at this;exact this.symm
theorem a3W{p:Int→Bool}:(decide (1≤l.length)&&BV (fun i y=>if i+1<(l.length:Int) then Ep y else p y) l 0)=Gj p l:=by
 unfold Gj
 cases h:l.getLast? with
 |none=>have:l=[]:=by simpa using h
        subst this;rfl
 |some k=>
  have e:=a3V h
  generalize hd:l.dropLast=m at e ⊢
  subst e
  rw[a3U]
  have h1:BV (fun i y=>if i+1<((m++[k]).length:Int) then Ep y else p y) m 0=m.all Ep:=by
   rw[←SM (i:=0)]
   exact Yj fun j c h0 hj hc=>if_pos (by simp;omega)
  rw[h1]
  simp only[BV]
  have h2:¬((0:Int)+m.length+1<((m++[k]).length:Int)):=by simp
  rw[if_neg h2]
  have:decide (1≤(m++[k]).length)=true:=by simp
  rw[this];simp [Bool.and_comm]
theorem a3X{p q:Int→Bool}{c:Int}:BV (fun i y=>if 0<i then q y else p y) (c::l) 0=(p c&&l.all q):=by
 simp only[BV]
 have h1:¬((0:Int)<0):=by omega
 rw[if_neg h1]
 congr 1
 rw[←SM (i:=0+1)]
 exact Yj fun j c h0 hj hc=>if_pos (by omega)
theorem a3Y{k:Int}{l:List Int}(h1:1≤k)(h2:k≤22):(inn l.length (Ee k).1 (Ee k).2&&BV (fun i y=>Ha k l.length i y) l 0)=(decide (l.length≤12)&&DV k l):=by
 have hk:k=1∨k=2∨k=3∨k=4∨k=5∨k=6∨k=7∨k=8∨k=9∨k=10∨k=11∨k=12∨k=13∨k=14∨k=15∨k=16∨k=17∨k=18∨k=19∨k=20∨k=21∨k=22:=by omega
 have len0:∀ {b c:Bool},l.length=0→(l=[]):=fun h=>List.length_eq_zero_iff.1 h
 rcases hk with rfl|rfl|rfl|rfl|rfl|rfl|rfl|rfl|rfl|rfl|rfl|rfl|rfl|rfl|rfl|rfl|rfl|rfl|rfl|rfl|rfl|rfl
 all_goals simp only[Ee,Ha,DV,inn,Int.reduceEq,or_self,or_false,false_or,or_true,true_or,if_true,if_false,reduceIte]
 all_goals try(
  by_cases h:l.length=0
  ·have:=List.length_eq_zero_iff.1 h;subst this;rfl
  ·have e1:decide ((l.length:Int)≤0)=false:=decide_eq_false (by omega)
   have e2:decide (l.length=0)=false:=decide_eq_false h
   simp only[e1,e2,Bool.and_false,Bool.false_and];done)
 all_goals try rw[SM]
 all_goals try(
  generalize l.all _=b
  rw[Bool.eq_iff_iff];cases b<;>simp only[Bool.and_eq_true,decide_eq_true_eq,Bool.false_eq_true,and_false,and_true]<;>omega)
 ·rw[show decide (1≤(l.length:Int))=decide (1≤l.length) from decide_eq_decide.2 (by omega),show decide ((l.length:Int)≤12)=decide (l.length≤12) from decide_eq_decide.2 (by omega),←a3W (p:=Bf)]
  generalize BV _ l 0=b
  cases decide (1≤l.length)<;>cases decide (l.length≤12)<;>cases b<;>rfl
 ·cases l with
  |nil=>rfl
  |cons c l=>
   rw[a3X]
   simp only[List.headD_cons,List.drop_succ_cons,List.drop_zero]
   generalize Bf c=b;generalize l.all _=d
   rw[Bool.eq_iff_iff];cases b<;>cases d<;>simp only[Bool.and_eq_true,decide_eq_true_eq,Bool.false_eq_true,and_false,and_true]<;>omega
 ·cases l with
  |nil=>rfl
  |cons c l=>
   rw[a3X]
   simp only[List.headD_cons,List.drop_succ_cons,List.drop_zero]
   generalize Bf c=b;generalize l.all _=d
   rw[Bool.eq_iff_iff];cases b<;>cases d<;>simp only[Bool.and_eq_true,decide_eq_true_eq,Bool.false_eq_true,and_false,and_true]<;>omega
 ·match l with
  |[]=>rfl
  |[c]=>rfl
  |[c,d]=>simp [BV]
  |c::d::e::l=>
   have e1:decide (((c::d::e::l).length:Int)≤2)=false:=decide_eq_false (by simp;omega)
   have e2:decide ((c::d::e::l).length=2)=false:=decide_eq_false (by simp)
   rw[e1,e2];simp
 ·rw[show decide (1≤(l.length:Int))=decide (1≤l.length) from decide_eq_decide.2 (by omega),show decide ((l.length:Int)≤12)=decide (l.length≤12) from decide_eq_decide.2 (by omega),←a3W (p:=EE)]
  generalize BV _ l 0=b
  cases decide (1≤l.length)<;>cases decide (l.length≤12)<;>cases b<;>rfl
theorem a3Z(h:inn k 1 22=false):DV k l=false:=by
 have h:¬(1≤k∧k≤22):=by intro hh;simp [inn] at h;omega
 unfold DV
 have e:∀j:Int,1≤j→j≤22→k≠j:=fun j h1 h2 e=>h (by omega)
 simp [e]
theorem b3k{ns:List Nd}{x:Nd}{i c:Int}:Et ns x i c=(Ha x.kind x.kids.length i (Bc ns c)&&Dk ns x i.toNat c):=by
 unfold Et Mi Dk Bc
 generalize hy:Ab ns c=y
 by_cases h5:y.kind=5
 ·simp only[h5,if_true,decide_true,Bool.true_and]
  cases hk:y.kids with
  |nil=>simp
  |cons h t=>
   simp only[List.length_cons,List.headD_cons]
   have e0:decide (t.length+1=0)=false:=by simp
   rw[e0]
   by_cases hx:x.kind=10∧0<i
   ·have hi:0<i.toNat:=by omega
    simp only[hx,and_self,if_true,decide_true,Bool.true_and,hi]
    generalize Ha 10 _ _ _=a;generalize BG ns h=b
    by_cases hd:(Ab ns h).kind=1<;>cases a<;>cases b<;>simp [hd]
   ·rw[if_neg hx]
    have:(decide (x.kind=10)&&(decide (0<i.toNat)&& !decide ((Ab ns h).kind=1)))=false:=by
     by_cases h1:x.kind=10
     ·have:¬0<i.toNat:=by omega
      simp [this]
     ·simp [h1]
    rw[this]
    generalize Ha _ _ _ _=a;generalize BG ns h=b
    cases a<;>cases b<;>rfl
 ·simp only[h5,if_false,decide_false,Bool.false_and,Bool.not_false,Bool.true_and,Bool.and_true]
  by_cases hx:x.kind=10∧0<i
  ·rw[if_pos hx]
   have:Ha x.kind x.kids.length i y.kind=false:=by
    simp [Ha,hx,Fx,h5]
   rw[this];rfl
  ·rw[if_neg hx];simp
theorem b3l{ns:List Nd}{x:Nd}:Jg ns k x=
 (inn x.kind 1 22&&(inn x.kids.length (Ee x.kind).1 (Ee x.kind).2&&(EO x.kind x.text&&((Iq x.kind|| !x.blank)&&((Er x.kids k&&decide x.kids.Nodup)&&BV (Et ns x) x.kids 0))))):=by
 have e1:BV (Et ns x) x.kids 0=(BV (fun i y=>Ha x.kind (x.kids.map (Bc ns)).length i y) (x.kids.map (Bc ns)) 0&&FQ ns x):=by
  have:(Et ns x)=fun i c=>(Ha x.kind x.kids.length i (Bc ns c)&&Dk ns x i.toNat c):=by
   funext i c;exact b3k
  rw[this,a3S,a3T,List.length_map]
  congr 1
  unfold FQ
  have:(fun p:Int×Nat=>Dk ns x p.2 p.1)=fun p:Int×Nat=>(fun(i c:Int)=>Dk ns x i.toNat c) p.2 p.1:=by
   funext p;simp
  rw[this]
  exact(Yk (f:=fun i c=>Dk ns x i.toNat c) (i:=0)).symm
 unfold Jg
 by_cases h:inn x.kind 1 22=true
 ·have hb:= @a3Y x.kind (x.kids.map (Bc ns)) (by simp [inn] at h;omega) (by simp [inn] at h;omega)
  rw[List.length_map] at hb
  rw[e1,List.length_map,h]
  generalize decide (x.kids.length≤12)=a at hb ⊢;generalize DV x.kind _=b at hb ⊢;generalize inn _ _ _=c at hb ⊢
  generalize BV _ _ 0=d at hb ⊢;generalize EO _ _=e;generalize Iq _=f;generalize FQ _ _=g;generalize Er _ _=h1;generalize decide x.kids.Nodup=h2
  cases a<;>cases b<;>cases c<;>cases d<;>simp at hb<;>cases e<;>cases f<;>cases g<;>cases h1<;>cases h2<;>simp
 ·simp only[Bool.not_eq_true] at h
  rw[a3Z h,h];simp
end Go.My
end
section
namespace Go.My
open Go.Eng Go.Proofs
variable {G:GInv}
variable {c d d' i j k v:Int}{ds l:List Int}{n:Nat}{ns:List Nd}{p:Int→Bool}{x y:Nd}
theorem GC{a b:Int}:(a==b)=decide (a=b):=by rw[Bool.eq_iff_iff];simp
theorem b3m{α:Type}{p:α→Bool}{x:List α}{e:α}(he:x[n]? =some e)(hp:p e=true)(h:∀e∈x.take n,p e=true):∀e∈x.take (n+1),p e=true:=by
 rw[ED he];intro d hd
 rcases List.mem_append.1 hd with hd|hd
 ·exact h d hd
 ·simp at hd;subst hd;exact hp
theorem b3n{α:Type}{p:α→Bool}{x:List α}(h:∀e∈x.take n,p e=true)(hn:x.length≤n):x.all p=true:=by
 rw[List.take_of_length_le hn] at h;exact List.all_eq_true.2 h
theorem Mj{α:Type}{p:α→Bool}{x:List α}{e:α}(he:x[n]? =some e)(hp:p e=false):x.all p=false:=by
 rw[Bool.eq_false_iff];intro h
 rw[List.all_eq_true.1 h e (List.mem_of_getElem? he)] at hp;cases hp
def FA:Sig:= {X:=Int,args:=fun x=>[.q x],pre:=fun x=>True,Y:=Unit,post:=fun x y=>True,res:=fun x y=> .bool (Bf x),outs:=fun x y=>[.top],keep:=false}
theorem SN:Ai G Tryz.prog 76 FA:=
 vcFun_okP [(36,0,CJ)] [] false (fun x=>[]) Tryz.func76 rfl (by decide) ⟨JJ,trivial⟩ (fun(x:Int)=>(∀(y:Unit),True→True∧True∧True)∧cA CJ [.q x,.q 1,.q 11] fun x_1 y=>rA FA x [.bool (inn x_1.1 x_1.2.1 x_1.2.2),.top]) (fun x=>by kernel_rfl) fun(x:Int) (hx:True)=>(by
 dsimp only[cA,rA,CJ,FA,As,Az,mvL,lnL,mvE,lnE,AV.q]
 (repeat' first|(with_reducible first|rfl|exact True.intro|apply AK|apply And.intro|((first|apply AA|apply AI|apply AB|apply AJ)<;>intro _))|(apply Av<;>intro _)|apply AH|refine Ae () ?_ ?_|((first|apply AO|apply AN|apply AM|apply AL|apply AG|apply AF|apply AE|apply AD|apply AC)<;>try dsimp only)|apply Ae|(refine Prod.forall.2 ?_;intro _;try dsimp only)|(intro _;try dsimp only))<;>(try dsimp only at*)<;>(try simp only[An,List.length_cons,List.length_nil])<;>(try omega)
 all_goals simp [Bf,GC, *])
def JL:Sig:= {X:=Int,args:=fun x=>[.q x],pre:=fun x=>True,Y:=Unit,post:=fun x y=>True,res:=fun x y=> .bool (KK x),outs:=fun x y=>[.top],keep:=false}
theorem a4a:Ai G Tryz.prog 59 JL:=
 vcFun_okP [(36,0,CJ)] [] false (fun x=>[]) Tryz.func59 rfl (by decide) ⟨JJ,trivial⟩ (fun(x:Int)=>(∀(y:Unit),True→True∧True∧True)∧cA CJ [.q x,.q 12,.q 17] fun x_1 y=>rA JL x [.bool (inn x_1.1 x_1.2.1 x_1.2.2),.top]) (fun x=>by kernel_rfl) fun(x:Int) (hx:True)=>(by
 dsimp only[cA,rA,CJ,JL,As,Az,mvL,lnL,mvE,lnE,AV.q]
 (repeat' first|(with_reducible first|rfl|exact True.intro|apply AK|apply And.intro|((first|apply AA|apply AI|apply AB|apply AJ)<;>intro _))|(apply Av<;>intro _)|apply AH|refine Ae () ?_ ?_|((first|apply AO|apply AN|apply AM|apply AL|apply AG|apply AF|apply AE|apply AD|apply AC)<;>try dsimp only)|apply Ae|(refine Prod.forall.2 ?_;intro _;try dsimp only)|(intro _;try dsimp only))<;>(try dsimp only at*)<;>(try simp only[An,List.length_cons,List.length_nil])<;>(try omega)
 all_goals simp [KK,GC, *])
def HP:Sig:= {X:=Int,args:=fun x=>[.q x],pre:=fun x=>True,Y:=Unit,post:=fun x y=>True,res:=fun x y=> .bool (EE x),outs:=fun x y=>[.top],keep:=false}
theorem Ym:Ai G Tryz.prog 160 HP:=
 vcFun_okP [] [] false (fun x=>[]) Tryz.func160 rfl (by decide) trivial (fun(x:Int)=>(∀(y:Unit),True→True∧True∧True)∧rA HP x [.bool (x==18),.top]) (fun x=>by kernel_rfl) fun(x:Int) (hx:True)=>(by
 dsimp only[rA,HP,As,Az,AV.q]
 (repeat' first|(with_reducible first|rfl|exact True.intro|apply AK|apply And.intro|((first|apply AA|apply AI|apply AB|apply AJ)<;>intro _))|(apply Av<;>intro _)|apply AH|refine Ae () ?_ ?_|((first|apply AO|apply AN|apply AM|apply AL|apply AG|apply AF|apply AE|apply AD|apply AC)<;>try dsimp only)|apply Ae|(refine Prod.forall.2 ?_;intro _;try dsimp only)|(intro _;try dsimp only))<;>(try dsimp only at*)<;>(try simp only[An,List.length_cons,List.length_nil])<;>(try omega)
 all_goals simp [EE,GC, *])
def GD:Sig:= {X:=Int,args:=fun x=>[.q x],pre:=fun x=>True,Y:=Unit,post:=fun x y=>True,res:=fun x y=> .bool (Fj x),outs:=fun x y=>[.top],keep:=false}
theorem Yn:Ai G Tryz.prog 60 GD:=
 vcFun_okP [] [] false (fun x=>[]) Tryz.func60 rfl (by decide) trivial (fun(x:Int)=>(∀(y:Unit),True→True∧True∧True)∧Aa (x==12) (rA GD x [.bool true,.top]) (Aa (x==20) (rA GD x [.bool true,.top]) (rA GD x [.bool (x==19),.top]))) (fun x=>by kernel_rfl) fun(x:Int) (hx:True)=>(by
 dsimp only[rA,GD,As,Az,AV.q]
 (repeat' first|(with_reducible first|rfl|exact True.intro|apply AK|apply And.intro|((first|apply AA|apply AI|apply AB|apply AJ)<;>intro _))|(apply Av<;>intro _)|apply AH|refine Ae () ?_ ?_|((first|apply AO|apply AN|apply AM|apply AL|apply AG|apply AF|apply AE|apply AD|apply AC)<;>try dsimp only)|apply Ae|(refine Prod.forall.2 ?_;intro _;try dsimp only)|(intro _;try dsimp only))<;>(try dsimp only at*)<;>(try simp only[An,List.length_cons,List.length_nil])<;>(try omega)
 all_goals simp [Fj,GC, *])
def Oa:Sig:= {X:=Int,args:=fun x=>[.q x],pre:=fun x=>True,Y:=Unit,post:=fun x y=>True,res:=fun x y=> .bool (Fx x),outs:=fun x y=>[.top],keep:=false}
theorem b3o:Ai G Tryz.prog 159 Oa:=
 vcFun_okP [] [] false (fun x=>[]) Tryz.func159 rfl (by decide) trivial (fun(x:Int)=>(∀(y:Unit),True→True∧True∧True)∧rA Oa x [.bool (x==5),.top]) (fun x=>by kernel_rfl) fun(x:Int) (hx:True)=>(by
 dsimp only[rA,Oa,As,Az,AV.q]
 (repeat' first|(with_reducible first|rfl|exact True.intro|apply AK|apply And.intro|((first|apply AA|apply AI|apply AB|apply AJ)<;>intro _))|(apply Av<;>intro _)|apply AH|refine Ae () ?_ ?_|((first|apply AO|apply AN|apply AM|apply AL|apply AG|apply AF|apply AE|apply AD|apply AC)<;>try dsimp only)|apply Ae|(refine Prod.forall.2 ?_;intro _;try dsimp only)|(intro _;try dsimp only))<;>(try dsimp only at*)<;>(try simp only[An,List.length_cons,List.length_nil])<;>(try omega)
 all_goals simp [Fx,GC, *])
def Mk:Sig:= {X:=Int,args:=fun x=>[.q x],pre:=fun x=>True,Y:=Unit,post:=fun x y=>True,res:=fun x y=> .bool (Fk x),outs:=fun x y=>[.top],keep:=false}
theorem b3p:Ai G Tryz.prog 161 Mk:=
 vcFun_okP [(59,0,JL)] [] false (fun x=>[]) Tryz.func161 rfl (by decide) ⟨a4a,trivial⟩ (fun(x:Int)=>(∀(y:Unit),True→True∧True∧True)∧cA JL [.q x] fun x_1 y=>Aa (KK x_1) (rA Mk x [.bool true,.top]) (rA Mk x [.bool (x==19),.top])) (fun x=>by kernel_rfl) fun(x:Int) (hx:True)=>(by
 dsimp only[cA,rA,JL,Mk,As,Az,mvL,lnL,mvE,lnE,AV.q]
 (repeat' first|(with_reducible first|rfl|exact True.intro|apply AK|apply And.intro|((first|apply AA|apply AI|apply AB|apply AJ)<;>intro _))|(apply Av<;>intro _)|apply AH|refine Ae () ?_ ?_|((first|apply AO|apply AN|apply AM|apply AL|apply AG|apply AF|apply AE|apply AD|apply AC)<;>try dsimp only)|apply Ae|(refine Prod.forall.2 ?_;intro _;try dsimp only)|(intro _;try dsimp only))<;>(try dsimp only at*)<;>(try simp only[An,List.length_cons,List.length_nil])<;>(try omega)
 all_goals simp [Fk,GC, *])
def Ml:Sig:= {X:=Int,args:=fun x=>[.q x],pre:=fun x=>True,Y:=Unit,post:=fun x y=>True,res:=fun x y=> .bool (HJ x),outs:=fun x y=>[.top],keep:=false}
theorem b3q:Ai G Tryz.prog 162 Ml:=
 vcFun_okP [(60,0,GD)] [] false (fun x=>[]) Tryz.func162 rfl (by decide) ⟨Yn,trivial⟩ (fun(x:Int)=>(∀(y:Unit),True→True∧True∧True)∧cA GD [.q x] fun x_1 y=>Aa (Fj x_1) (rA Ml x [.bool true,.top]) (rA Ml x [.bool (x==21),.top])) (fun x=>by kernel_rfl) fun(x:Int) (hx:True)=>(by
 dsimp only[cA,rA,GD,Ml,As,Az,mvL,lnL,mvE,lnE,AV.q]
 (repeat' first|(with_reducible first|rfl|exact True.intro|apply AK|apply And.intro|((first|apply AA|apply AI|apply AB|apply AJ)<;>intro _))|(apply Av<;>intro _)|apply AH|refine Ae () ?_ ?_|((first|apply AO|apply AN|apply AM|apply AL|apply AG|apply AF|apply AE|apply AD|apply AC)<;>try dsimp only)|apply Ae|(refine Prod.forall.2 ?_;intro _;try dsimp only)|(intro _;try dsimp only))<;>(try dsimp only at*)<;>(try simp only[An,List.length_cons,List.length_nil])<;>(try omega)
 all_goals simp [HJ,GC, *])
def Ob:Sig:= {X:=Int,args:=fun x=>[.q x],pre:=fun x=>True,Y:=Unit,post:=fun x y=>True,res:=fun x y=> .bool (Ep x),outs:=fun x y=>[.top],keep:=false}
theorem b3r:Ai G Tryz.prog 191 Ob:=
 vcFun_okP [] [] false (fun x=>[]) Tryz.func191 rfl (by decide) trivial (fun(x:Int)=>(∀(y:Unit),True→True∧True∧True)∧rA Ob x [.bool (x==1),.top]) (fun x=>by kernel_rfl) fun(x:Int) (hx:True)=>(by
 dsimp only[rA,Ob,As,Az,AV.q]
 (repeat' first|(with_reducible first|rfl|exact True.intro|apply AK|apply And.intro|((first|apply AA|apply AI|apply AB|apply AJ)<;>intro _))|(apply Av<;>intro _)|apply AH|refine Ae () ?_ ?_|((first|apply AO|apply AN|apply AM|apply AL|apply AG|apply AF|apply AE|apply AD|apply AC)<;>try dsimp only)|apply Ae|(refine Prod.forall.2 ?_;intro _;try dsimp only)|(intro _;try dsimp only))<;>(try dsimp only at*)<;>(try simp only[An,List.length_cons,List.length_nil])<;>(try omega)
 all_goals simp [Ep,GC, *])
def EP(p:Int→Bool)(x:List Int)(i:Int):Prop:=0≤i∧i≤x.length∧∀e∈x.take i.toNat,p e=true
theorem Mm{x:List Int}:EP p x 0:=⟨by omega,by omega,by simp⟩
theorem Mn{x:List Int}{e:Int}(h:EP p x i)(he:x[i.toNat]? =some e)(hp:p e=true):EP p x (i+1):=by
 obtain⟨h1,h2,h3⟩:=h
 have:=(Ek he).1
 exact⟨by omega,by omega,by rw[Dd h1];exact b3m he hp h3⟩
theorem Mo{x:List Int}(h:EP p x i)(hl:¬i<x.length):true=x.all p:=(b3n h.2.2 (by omega)).symm
def Dp(p:Int→Bool)(c:AV)(x:List Int):LS:= {
 ι:=Int,inv:=EP p x,regs:=fun i=>[(0,AQ x),(1,c),(7,AQ x),(8,.int .i64 x.length),(9,.int .i64 i)],als:=[],meas:=fun i=>x.length-i.toNat}
def KP:Sig:= {X:=List Int,args:=fun x=>[AQ x,.clo (.func 76) []],pre:=fun x=>x.length<2^62,Y:=Unit,post:=fun x y=>True,res:=fun x y=> .bool (x.all Bf),outs:=fun x y=>[.top,.top],keep:=false}
theorem b3s:Ai G Tryz.prog 157 KP:=
 vcFun_okP [(76,0,FA)] [] false (fun x=>[(2,Dp Bf (.clo (.func 76) []) x)]) Tryz.func157 rfl (by decide) ⟨SN,trivial⟩ (fun(x:List Int)=>(∀(y:Unit),True→True∧True∧True∧True)∧eA (Dp Bf (AV.clo (.func 76) []) x) [AQ x,AV.clo (.func 76) [],AQ x,.q (x.length:Int),.q 0]∧∀(i:Int),EP Bf x i→Aa (decide (i<(x.length:Int))) ((0≤i∧i<(x.length:Int))∧∀(e:Int),x[Int.toNat i]? =some e→cA FA [.q e] fun x_1 y=>Aa (!Bf x_1) (rA KP x [.bool false,.top,.top]) (inR .i64 (i+1)∧eN (Dp Bf (AV.clo (.func 76) []) x) i [AQ x,AV.clo (.func 76) [],AQ x,.q (x.length:Int),.q (i+1)])) (rA KP x [.bool true,.top,.top])) (fun x=>by kernel_rfl) fun(x:List Int) (hx:x.length<2^62)=>(by
 dsimp only[cA,eA,eN,AQ,Dp,rA,KP,FA,As,Az,mvL,lnL,mvE,lnE,Bl,AV.q]
 have hx:x.length<2^62:=hx
 (repeat' first|(with_reducible first|rfl|exact True.intro|apply AK|apply And.intro|((first|apply AA|apply AI|apply AB|apply AJ)<;>intro _))|(apply Av<;>intro _)|apply AH|refine Ae () ?_ ?_|((first|apply AO|apply AN|apply AM|apply AL|apply AG|apply AF|apply AE|apply AD|apply AC)<;>try dsimp only)|apply Ae|(refine Prod.forall.2 ?_;intro _;try dsimp only)|(intro _;try dsimp only))
 all_goals first|exact Mm|(rename_i i hi hl e he y _ hp;exact(Mj he hp).symm)|(rename_i i hi hl e he y _ hp;exact Mn hi he hp)|(rename_i i hi hl;exact Mo hi hl)|(obtain⟨_,_,_⟩:= ‹EP _ _ _›;(try simp only[An] at*);omega)|skip)
def Mp:Sig:= {X:=List Int,args:=fun x=>[AQ x,.clo (.func 160) []],pre:=fun x=>x.length<2^62,Y:=Unit,post:=fun x y=>True,res:=fun x y=> .bool (x.all EE),outs:=fun x y=>[.top,.top],keep:=false}
theorem b3t:Ai G Tryz.prog 157 Mp:=
 vcFun_okP [(160,0,HP)] [] false (fun x=>[(2,Dp EE (.clo (.func 160) []) x)]) Tryz.func157 rfl (by decide) ⟨Ym,trivial⟩ (fun(x:List Int)=>(∀(y:Unit),True→True∧True∧True∧True)∧eA (Dp EE (AV.clo (.func 160) []) x) [AQ x,AV.clo (.func 160) [],AQ x,.q (x.length:Int),.q 0]∧∀(i:Int),EP EE x i→Aa (decide (i<(x.length:Int))) ((0≤i∧i<(x.length:Int))∧∀(e:Int),x[Int.toNat i]? =some e→cA HP [.q e] fun x_1 y=>Aa (!EE x_1) (rA Mp x [.bool false,.top,.top]) (inR .i64 (i+1)∧eN (Dp EE (AV.clo (.func 160) []) x) i [AQ x,AV.clo (.func 160) [],AQ x,.q (x.length:Int),.q (i+1)])) (rA Mp x [.bool true,.top,.top])) (fun x=>by kernel_rfl) fun(x:List Int) (hx:x.length<2^62)=>(by
 dsimp only[cA,eA,eN,AQ,Dp,rA,Mp,HP,As,Az,mvL,lnL,mvE,lnE,Bl,AV.q]
 have hx:x.length<2^62:=hx
 (repeat' first|(with_reducible first|rfl|exact True.intro|apply AK|apply And.intro|((first|apply AA|apply AI|apply AB|apply AJ)<;>intro _))|(apply Av<;>intro _)|apply AH|refine Ae () ?_ ?_|((first|apply AO|apply AN|apply AM|apply AL|apply AG|apply AF|apply AE|apply AD|apply AC)<;>try dsimp only)|apply Ae|(refine Prod.forall.2 ?_;intro _;try dsimp only)|(intro _;try dsimp only))
 all_goals first|exact Mm|(rename_i i hi hl e he y _ hp;exact(Mj he hp).symm)|(rename_i i hi hl e he y _ hp;exact Mn hi he hp)|(rename_i i hi hl;exact Mo hi hl)|(obtain⟨_,_,_⟩:= ‹EP _ _ _›;(try simp only[An] at*);omega)|skip)
def Mq:Sig:= {X:=List Int,args:=fun x=>[AQ x,.clo (.func 60) []],pre:=fun x=>x.length<2^62,Y:=Unit,post:=fun x y=>True,res:=fun x y=> .bool (x.all Fj),outs:=fun x y=>[.top,.top],keep:=false}
theorem b3u:Ai G Tryz.prog 157 Mq:=
 vcFun_okP [(60,0,GD)] [] false (fun x=>[(2,Dp Fj (.clo (.func 60) []) x)]) Tryz.func157 rfl (by decide) ⟨Yn,trivial⟩ (fun(x:List Int)=>(∀(y:Unit),True→True∧True∧True∧True)∧eA (Dp Fj (AV.clo (.func 60) []) x) [AQ x,AV.clo (.func 60) [],AQ x,.q (x.length:Int),.q 0]∧∀(i:Int),EP Fj x i→Aa (decide (i<(x.length:Int))) ((0≤i∧i<(x.length:Int))∧∀(e:Int),x[Int.toNat i]? =some e→cA GD [.q e] fun x_1 y=>Aa (!Fj x_1) (rA Mq x [.bool false,.top,.top]) (inR .i64 (i+1)∧eN (Dp Fj (AV.clo (.func 60) []) x) i [AQ x,AV.clo (.func 60) [],AQ x,.q (x.length:Int),.q (i+1)])) (rA Mq x [.bool true,.top,.top])) (fun x=>by kernel_rfl) fun(x:List Int) (hx:x.length<2^62)=>(by
 dsimp only[cA,eA,eN,AQ,Dp,rA,Mq,GD,As,Az,mvL,lnL,mvE,lnE,Bl,AV.q]
 have hx:x.length<2^62:=hx
 (repeat' first|(with_reducible first|rfl|exact True.intro|apply AK|apply And.intro|((first|apply AA|apply AI|apply AB|apply AJ)<;>intro _))|(apply Av<;>intro _)|apply AH|refine Ae () ?_ ?_|((first|apply AO|apply AN|apply AM|apply AL|apply AG|apply AF|apply AE|apply AD|apply AC)<;>try dsimp only)|apply Ae|(refine Prod.forall.2 ?_;intro _;try dsimp only)|(intro _;try dsimp only))
 all_goals first|exact Mm|(rename_i i hi hl e he y _ hp;exact(Mj he hp).symm)|(rename_i i hi hl e he y _ hp;exact Mn hi he hp)|(rename_i i hi hl;exact Mo hi hl)|(obtain⟨_,_,_⟩:= ‹EP _ _ _›;(try simp only[An] at*);omega)|skip)
def Mr:Sig:= {X:=List Int,args:=fun x=>[AQ x,.clo (.func 159) []],pre:=fun x=>x.length<2^62,Y:=Unit,post:=fun x y=>True,res:=fun x y=> .bool (x.all Fx),outs:=fun x y=>[.top,.top],keep:=false}
theorem b3v:Ai G Tryz.prog 157 Mr:=
 vcFun_okP [(159,0,Oa)] [] false (fun x=>[(2,Dp Fx (.clo (.func 159) []) x)]) Tryz.func157 rfl (by decide) ⟨b3o,trivial⟩ (fun(x:List Int)=>(∀(y:Unit),True→True∧True∧True∧True)∧eA (Dp Fx (AV.clo (.func 159) []) x) [AQ x,AV.clo (.func 159) [],AQ x,.q (x.length:Int),.q 0]∧∀(i:Int),EP Fx x i→Aa (decide (i<(x.length:Int))) ((0≤i∧i<(x.length:Int))∧∀(e:Int),x[Int.toNat i]? =some e→cA Oa [.q e] fun x_1 y=>Aa (!Fx x_1) (rA Mr x [.bool false,.top,.top]) (inR .i64 (i+1)∧eN (Dp Fx (AV.clo (.func 159) []) x) i [AQ x,AV.clo (.func 159) [],AQ x,.q (x.length:Int),.q (i+1)])) (rA Mr x [.bool true,.top,.top])) (fun x=>by kernel_rfl) fun(x:List Int) (hx:x.length<2^62)=>(by
 dsimp only[cA,eA,eN,AQ,Dp,rA,Mr,Oa,As,Az,mvL,lnL,mvE,lnE,Bl,AV.q]
 have hx:x.length<2^62:=hx
 (repeat' first|(with_reducible first|rfl|exact True.intro|apply AK|apply And.intro|((first|apply AA|apply AI|apply AB|apply AJ)<;>intro _))|(apply Av<;>intro _)|apply AH|refine Ae () ?_ ?_|((first|apply AO|apply AN|apply AM|apply AL|apply AG|apply AF|apply AE|apply AD|apply AC)<;>try dsimp only)|apply Ae|(refine Prod.forall.2 ?_;intro _;try dsimp only)|(intro _;try dsimp only))
 all_goals first|exact Mm|(rename_i i hi hl e he y _ hp;exact(Mj he hp).symm)|(rename_i i hi hl e he y _ hp;exact Mn hi he hp)|(rename_i i hi hl;exact Mo hi hl)|(obtain⟨_,_,_⟩:= ‹EP _ _ _›;(try simp only[An] at*);omega)|skip)
def Ms:Sig:= {X:=List Int,args:=fun x=>[AQ x,.clo (.func 161) []],pre:=fun x=>x.length<2^62,Y:=Unit,post:=fun x y=>True,res:=fun x y=> .bool (x.all Fk),outs:=fun x y=>[.top,.top],keep:=false}
theorem b3w:Ai G Tryz.prog 157 Ms:=
 vcFun_okP [(161,0,Mk)] [] false (fun x=>[(2,Dp Fk (.clo (.func 161) []) x)]) Tryz.func157 rfl (by decide) ⟨b3p,trivial⟩ (fun(x:List Int)=>(∀(y:Unit),True→True∧True∧True∧True)∧eA (Dp Fk (AV.clo (.func 161) []) x) [AQ x,AV.clo (.func 161) [],AQ x,.q (x.length:Int),.q 0]∧∀(i:Int),EP Fk x i→Aa (decide (i<(x.length:Int))) ((0≤i∧i<(x.length:Int))∧∀(e:Int),x[Int.toNat i]? =some e→cA Mk [.q e] fun x_1 y=>Aa (!Fk x_1) (rA Ms x [.bool false,.top,.top]) (inR .i64 (i+1)∧eN (Dp Fk (AV.clo (.func 161) []) x) i [AQ x,AV.clo (.func 161) [],AQ x,.q (x.length:Int),.q (i+1)])) (rA Ms x [.bool true,.top,.top])) (fun x=>by kernel_rfl) fun(x:List Int) (hx:x.length<2^62)=>(by
 dsimp only[cA,eA,eN,AQ,Dp,rA,Ms,Mk,As,Az,mvL,lnL,mvE,lnE,Bl,AV.q]
 have hx:x.length<2^62:=hx
 (repeat' first|(with_reducible first|rfl|exact True.intro|apply AK|apply And.intro|((first|apply AA|apply AI|apply AB|apply AJ)<;>intro _))|(apply Av<;>intro _)|apply AH|refine Ae () ?_ ?_|((first|apply AO|apply AN|apply AM|apply AL|apply AG|apply AF|apply AE|apply AD|apply AC)<;>try dsimp only)|apply Ae|(refine Prod.forall.2 ?_;intro _;try dsimp only)|(intro _;try dsimp only))
 all_goals first|exact Mm|(rename_i i hi hl e he y _ hp;exact(Mj he hp).symm)|(rename_i i hi hl e he y _ hp;exact Mn hi he hp)|(rename_i i hi hl;exact Mo hi hl)|(obtain⟨_,_,_⟩:= ‹EP _ _ _›;(try simp only[An] at*);omega)|skip)
def Mt:Sig:= {X:=List Int,args:=fun x=>[AQ x,.clo (.func 162) []],pre:=fun x=>x.length<2^62,Y:=Unit,post:=fun x y=>True,res:=fun x y=> .bool (x.all HJ),outs:=fun x y=>[.top,.top],keep:=false}
theorem b3x:Ai G Tryz.prog 157 Mt:=
 vcFun_okP [(162,0,Ml)] [] false (fun x=>[(2,Dp HJ (.clo (.func 162) []) x)]) Tryz.func157 rfl (by decide) ⟨b3q,trivial⟩ (fun(x:List Int)=>(∀(y:Unit),True→True∧True∧True∧True)∧eA (Dp HJ (AV.clo (.func 162) []) x) [AQ x,AV.clo (.func 162) [],AQ x,.q (x.length:Int),.q 0]∧∀(i:Int),EP HJ x i→Aa (decide (i<(x.length:Int))) ((0≤i∧i<(x.length:Int))∧∀(e:Int),x[Int.toNat i]? =some e→cA Ml [.q e] fun x_1 y=>Aa (!HJ x_1) (rA Mt x [.bool false,.top,.top]) (inR .i64 (i+1)∧eN (Dp HJ (AV.clo (.func 162) []) x) i [AQ x,AV.clo (.func 162) [],AQ x,.q (x.length:Int),.q (i+1)])) (rA Mt x [.bool true,.top,.top])) (fun x=>by kernel_rfl) fun(x:List Int) (hx:x.length<2^62)=>(by
 dsimp only[cA,eA,eN,AQ,Dp,rA,Mt,Ml,As,Az,mvL,lnL,mvE,lnE,Bl,AV.q]
 have hx:x.length<2^62:=hx
 (repeat' first|(with_reducible first|rfl|exact True.intro|apply AK|apply And.intro|((first|apply AA|apply AI|apply AB|apply AJ)<;>intro _))|(apply Av<;>intro _)|apply AH|refine Ae () ?_ ?_|((first|apply AO|apply AN|apply AM|apply AL|apply AG|apply AF|apply AE|apply AD|apply AC)<;>try dsimp only)|apply Ae|(refine Prod.forall.2 ?_;intro _;try dsimp only)|(intro _;try dsimp only))
 all_goals first|exact Mm|(rename_i i hi hl e he y _ hp;exact(Mj he hp).symm)|(rename_i i hi hl e he y _ hp;exact Mn hi he hp)|(rename_i i hi hl;exact Mo hi hl)|(obtain⟨_,_,_⟩:= ‹EP _ _ _›;(try simp only[An] at*);omega)|skip)
def Jj:Sig:= {X:=List Int,args:=fun x=>[AQ x,.clo (.func 191) []],pre:=fun x=>x.length<2^62,Y:=Unit,post:=fun x y=>True,res:=fun x y=> .bool (x.all Ep),outs:=fun x y=>[.top,.top],keep:=false}
theorem a4b:Ai G Tryz.prog 157 Jj:=
 vcFun_okP [(191,0,Ob)] [] false (fun x=>[(2,Dp Ep (.clo (.func 191) []) x)]) Tryz.func157 rfl (by decide) ⟨b3r,trivial⟩ (fun(x:List Int)=>(∀(y:Unit),True→True∧True∧True∧True)∧eA (Dp Ep (AV.clo (.func 191) []) x) [AQ x,AV.clo (.func 191) [],AQ x,.q (x.length:Int),.q 0]∧∀(i:Int),EP Ep x i→Aa (decide (i<(x.length:Int))) ((0≤i∧i<(x.length:Int))∧∀(e:Int),x[Int.toNat i]? =some e→cA Ob [.q e] fun x_1 y=>Aa (!Ep x_1) (rA Jj x [.bool false,.top,.top]) (inR .i64 (i+1)∧eN (Dp Ep (AV.clo (.func 191) []) x) i [AQ x,AV.clo (.func 191) [],AQ x,.q (x.length:Int),.q (i+1)])) (rA Jj x [.bool true,.top,.top])) (fun x=>by kernel_rfl) fun(x:List Int) (hx:x.length<2^62)=>(by
 dsimp only[cA,eA,eN,AQ,Dp,rA,Jj,Ob,As,Az,mvL,lnL,mvE,lnE,Bl,AV.q]
 have hx:x.length<2^62:=hx
 (repeat' first|(with_reducible first|rfl|exact True.intro|apply AK|apply And.intro|((first|apply AA|apply AI|apply AB|apply AJ)<;>intro _))|(apply Av<;>intro _)|apply AH|refine Ae () ?_ ?_|((first|apply AO|apply AN|apply AM|apply AL|apply AG|apply AF|apply AE|apply AD|apply AC)<;>try dsimp only)|apply Ae|(refine Prod.forall.2 ?_;intro _;try dsimp only)|(intro _;try dsimp only))
 all_goals first|exact Mm|(rename_i i hi hl e he y _ hp;exact(Mj he hp).symm)|(rename_i i hi hl e he y _ hp;exact Mn hi he hp)|(rename_i i hi hl;exact Mo hi hl)|(obtain⟨_,_,_⟩:= ‹EP _ _ _›;(try simp only[An] at*);omega)|skip)
theorem a4c{x:List Int}(h:¬(0:Int)<x.length):false=Gj p x:=by
 obtain rfl:x=[]:=List.length_eq_zero_iff.1 (by omega)
 rfl
theorem a4d{x:List Int}{e:Int}(he:x[(x.length-1:Int).toNat]? =some e):Gj p x=(p e&&(x.take (x.length-1:Int).toNat).all Ep):=by
 have e1:(x.length-1:Int).toNat=x.length-1:=by omega
 rw[e1] at he ⊢
 unfold Gj
 rw[List.getLast?_eq_getElem?,he,List.dropLast_eq_take]
def KQ:Sig:= {X:=List Int,args:=fun x=>[AQ x,.clo (.func 76) []],pre:=fun x=>x.length<2^62,Y:=Unit,post:=fun x y=>True,res:=fun x y=> .bool (Gj Bf x),outs:=fun x y=>[.top,.top],keep:=false}
theorem b3y:Ai G Tryz.prog 158 KQ:=
 vcFun_okP [(76,0,FA),(157,191+1,Jj)] [] false (fun x=>[]) Tryz.func158 rfl (by decide) ⟨SN,a4b,trivial⟩ (fun(x:List Int)=>(∀(y:Unit),True→True∧True∧True∧True)∧Aa (decide ((x.length:Int)>(0:Int))) (inR .i64 ((x.length:Int)-(1:Int))∧(0≤(x.length:Int)-(1:Int)∧(x.length:Int)-1<(x.length:Int))∧∀(e:Int),x[Int.toNat ((x.length:Int)-(1:Int))]? =some e→cA FA [.q e] fun x_1 y=>Aa (Bf x_1) (inR .i64 ((x.length:Int)-(1:Int))∧((0:Int)≤(0:Int)∧0≤(x.length:Int)-(1:Int)∧(x.length:Int)-1≤(x.length:Int))∧cA Jj [AQ (List.take (Int.toNat ((x.length:Int)-(1:Int))) x),AV.clo (Fn.func (161:Nat)) []] fun x_2 y=>rA KQ x [.bool (List.all x_2 Ep),.top,.top]) (rA KQ x [.bool false,.top,.top])) (rA KQ x [.bool false,.top,.top])) (fun x=>by kernel_rfl) fun(x:List Int) (hx:x.length<2^62)=>(by
 dsimp only[cA,AQ,rA,Jj,FA,KQ,As,Az,mvL,lnL,mvE,lnE,AV.q]
 have hx:x.length<2^62:=hx
 (repeat' first|(with_reducible first|rfl|exact True.intro|apply AK|apply And.intro|((first|apply AA|apply AI|apply AB|apply AJ)<;>intro _))|(apply Av<;>intro _)|apply AH|refine Ae () ?_ ?_|((first|apply AO|apply AN|apply AM|apply AL|apply AG|apply AF|apply AE|apply AD|apply AC)<;>try dsimp only)|apply Ae|(refine Prod.forall.2 ?_;intro _;try dsimp only)|(intro _;try dsimp only))<;>(try dsimp only at*)<;>(try simp only[An,List.length_cons,List.length_nil])<;>(try omega)
 all_goals first|exact a4c (by omega)|(rw[a4d ‹_›];simp [*];done)|(rw[List.length_take];omega)|skip)
def KR:Sig:= {X:=List Int,args:=fun x=>[AQ x,.clo (.func 160) []],pre:=fun x=>x.length<2^62,Y:=Unit,post:=fun x y=>True,res:=fun x y=> .bool (Gj EE x),outs:=fun x y=>[.top,.top],keep:=false}
theorem b3z:Ai G Tryz.prog 158 KR:=
 vcFun_okP [(160,0,HP),(157,191+1,Jj)] [] false (fun x=>[]) Tryz.func158 rfl (by decide) ⟨Ym,a4b,trivial⟩ (fun(x:List Int)=>(∀(y:Unit),True→True∧True∧True∧True)∧Aa (decide ((x.length:Int)>(0:Int))) (inR .i64 ((x.length:Int)-(1:Int))∧(0≤(x.length:Int)-(1:Int)∧(x.length:Int)-1<(x.length:Int))∧∀(e:Int),x[Int.toNat ((x.length:Int)-(1:Int))]? =some e→cA HP [.q e] fun x_1 y=>Aa (EE x_1) (inR .i64 ((x.length:Int)-(1:Int))∧((0:Int)≤(0:Int)∧0≤(x.length:Int)-(1:Int)∧(x.length:Int)-1≤(x.length:Int))∧cA Jj [AQ (List.take (Int.toNat ((x.length:Int)-(1:Int))) x),AV.clo (Fn.func (161:Nat)) []] fun x_2 y=>rA KR x [.bool (List.all x_2 Ep),.top,.top]) (rA KR x [.bool false,.top,.top])) (rA KR x [.bool false,.top,.top])) (fun x=>by kernel_rfl) fun(x:List Int) (hx:x.length<2^62)=>(by
 dsimp only[cA,AQ,rA,Jj,HP,KR,As,Az,mvL,lnL,mvE,lnE,AV.q]
 have hx:x.length<2^62:=hx
 (repeat' first|(with_reducible first|rfl|exact True.intro|apply AK|apply And.intro|((first|apply AA|apply AI|apply AB|apply AJ)<;>intro _))|(apply Av<;>intro _)|apply AH|refine Ae () ?_ ?_|((first|apply AO|apply AN|apply AM|apply AL|apply AG|apply AF|apply AE|apply AD|apply AC)<;>try dsimp only)|apply Ae|(refine Prod.forall.2 ?_;intro _;try dsimp only)|(intro _;try dsimp only))<;>(try dsimp only at*)<;>(try simp only[An,List.length_cons,List.length_nil])<;>(try omega)
 all_goals first|exact a4c (by omega)|(rw[a4d ‹_›];simp [*];done)|(rw[List.length_take];omega)|skip)
def Ct:Sig:= {X:=Int×List Int,args:=fun x=>[.q x.1,AQ x.2],pre:=fun x=>x.2.length<2^62,Y:=Unit,post:=fun x y=>True,res:=fun x y=> .bool (DV x.1 x.2),outs:=fun x y=>[.top,.top],keep:=false}
def Qr(x:Int×List Int)(x_1:KP.X):Prop:=Aa ((x.2.length:Int)==(1:Int)) (rA Ct x [.bool (List.all x_1 Bf),.top,.top]) (rA Ct x [.bool false,.top,.top])
theorem b3A:Ai G Tryz.prog 124 Ct:=
 vcFun_okP [(76,0,FA),(160,0,HP),(36,0,CJ),(157,76+1,KP),(157,160+1,Mp),(157,60+1,Mq),(157,159+1,Mr),(157,161+1,Ms),(157,162+1,Mt),(158,76+1,KQ),(158,160+1,KR)] [] false (fun x=>[]) Tryz.func124 rfl (by decide) ⟨SN,Ym,JJ,b3s,b3t,b3u,b3v,b3w,b3x,b3y,b3z,trivial⟩ (fun(x:Int×List Int)=>(∀(y:Unit),True→True∧True∧True∧True)∧cA KP [AQ x.2,AV.clo (Fn.func (126:Nat)) []] fun x_1 y=>Aa (x.1==(1:Int)) (rA Ct x [.bool ((x.2.length:Int)==(0:Int)),.top,.top]) (Aa (x.1==(2:Int)) (rA Ct x [.bool ((x.2.length:Int)==(0:Int)),.top,.top]) (Aa (x.1==(3:Int)) (rA Ct x [.bool ((x.2.length:Int)==(0:Int)),.top,.top]) (Aa (x.1==(19:Int)) (rA Ct x [.bool ((x.2.length:Int)==(0:Int)),.top,.top]) (Aa (x.1==(4:Int)) (rA Ct x [.bool (List.all x_1 Bf),.top,.top]) (Aa (x.1==(5:Int)) (Aa (decide ((x.2.length:Int)≥(1:Int))) (rA Ct x [.bool (List.all x_1 Bf),.top,.top]) (rA Ct x [.bool false,.top,.top])) (Aa (x.1==(7:Int)) (Aa (decide ((x.2.length:Int)≥(2:Int))) (rA Ct x [.bool (List.all x_1 Bf),.top,.top]) (rA Ct x [.bool false,.top,.top])) (Aa (x.1==(8:Int)) (Aa ((x.2.length:Int)==(3:Int)) (rA Ct x [.bool (List.all x_1 Bf),.top,.top]) (rA Ct x [.bool false,.top,.top])) (Aa (x.1==(6:Int)) (Qr x x_1) (Aa (x.1==(11:Int)) (Qr x x_1) (Aa (x.1==(13:Int)) (Qr x x_1) (Aa (x.1==(14:Int)) (Qr x x_1) (Aa (x.1==(12:Int)) (Aa (decide ((x.2.length:Int)≤(1:Int))) (rA Ct x [.bool (List.all x_1 Bf),.top,.top]) (rA Ct x [.bool false,.top,.top])) (Aa (x.1==(15:Int)) (Aa (decide ((x.2.length:Int)≤(1:Int))) (rA Ct x [.bool (List.all x_1 Bf),.top,.top]) (rA Ct x [.bool false,.top,.top])) (Aa (x.1==(9:Int)) (cA KQ [AQ x.2,AV.clo (Fn.func (126:Nat)) []] fun x_2 y=>rA Ct x [.bool (Gj Bf x_2),.top,.top]) (Aa (x.1==(10:Int)) (Aa (decide ((x.2.length:Int)≥(2:Int))) (((0:Int)≤(0:Int)∧0<(x.2.length:Int))∧∀(e:Int),x.2[(0:Nat)]? =some e→cA FA [.q e] fun x_2 y=>Aa (Bf x_2) (((0:Int)≤(1:Int)∧1≤(x.2.length:Int)∧(x.2.length:Int)≤(x.2.length:Int))∧cA Mr [AQ (List.drop (1:Nat) x.2),AV.clo (Fn.func (128:Nat)) []] fun x_3 y=>rA Ct x [.bool (List.all x_3 Fx),.top,.top]) (rA Ct x [.bool false,.top,.top])) (rA Ct x [.bool false,.top,.top])) (Aa (x.1==(16:Int)) (cA CJ [.q (x.2.length:Int),.q 2,.q 3] fun x_2 y=>Aa (inn x_2.1 x_2.2.1 x_2.2.2) (((0:Int)≤(0:Int)∧0<(x.2.length:Int))∧∀(e:Int),x.2[(0:Nat)]? =some e→cA FA [.q e] fun x_3 y=>Aa (Bf x_3) (((0:Int)≤(1:Int)∧1≤(x.2.length:Int)∧(x.2.length:Int)≤(x.2.length:Int))∧cA Mp [AQ (List.drop (1:Nat) x.2),AV.clo (Fn.func (129:Nat)) []] fun x_4 y=>rA Ct x [.bool (List.all x_4 EE),.top,.top]) (rA Ct x [.bool false,.top,.top])) (rA Ct x [.bool false,.top,.top])) (Aa (x.1==(17:Int)) (Aa ((x.2.length:Int)==(2:Int)) (((0:Int)≤(0:Int)∧0<(x.2.length:Int))∧∀(e:Int),x.2[(0:Nat)]? =some e→cA FA [.q e] fun x_2 y=>Aa (Bf x_2) (((0:Int)≤(1:Int)∧1<(x.2.length:Int))∧∀(e:Int),x.2[(1:Nat)]? =some e→cA HP [.q e] fun x_3 y=>rA Ct x [.bool (EE x_3),.top,.top]) (rA Ct x [.bool false,.top,.top])) (rA Ct x [.bool false,.top,.top])) (Aa (x.1==(18:Int)) (cA Ms [AQ x.2,AV.clo (Fn.func (130:Nat)) []] fun x_2 y=>rA Ct x [.bool (List.all x_2 Fk),.top,.top]) (Aa (x.1==(20:Int)) (cA KR [AQ x.2,AV.clo (Fn.func (129:Nat)) []] fun x_2 y=>rA Ct x [.bool (Gj EE x_2),.top,.top]) (Aa (x.1==(21:Int)) (cA Mq [AQ x.2,AV.clo (Fn.func (99:Nat)) []] fun x_2 y=>rA Ct x [.bool (List.all x_2 Fj),.top,.top]) (Aa (x.1==(22:Int)) (cA Mt [AQ x.2,AV.clo (Fn.func (131:Nat)) []] fun x_2 y=>rA Ct x [.bool (List.all x_2 HJ),.top,.top]) (rA Ct x [.bool false,.top,.top]))))))))))))))))))))))) (fun x=>by kernel_rfl) fun(x:Int×List Int) (hx:x.2.length<2^62)=>(by
 dsimp only[Qr,cA,AQ,rA,Mp,Mr,Mq,Ms,Mt,KP,CJ,HP,FA,Ct,KR,KQ,As,Az,mvL,lnL,mvE,lnE,AV.q]
 have hx:x.2.length<2^62:=hx
 obtain⟨k,l⟩:=x
 (repeat' first|(with_reducible first|rfl|exact True.intro|apply AK|apply And.intro|((first|apply AA|apply AI|apply AB|apply AJ)<;>intro _))|(apply Av<;>intro _)|apply AH|refine Ae () ?_ ?_|((first|apply AO|apply AN|apply AM|apply AL|apply AG|apply AF|apply AE|apply AD|apply AC)<;>try dsimp only)|apply Ae|(refine Prod.forall.2 ?_;intro _;try dsimp only)|(intro _;try dsimp only))<;>(try dsimp only at*)<;>(try simp only[An,List.length_cons,List.length_nil])<;>(try omega)
 all_goals try(simp only[List.length_drop];omega)
 all_goals try(simp [DV,GC, *]<;>omega)
 all_goals(match l with
  |[]=>simp_all [DV,inn]<;>omega
  |[a]=>simp_all [DV,inn]<;>omega
  |[a,b]=>simp_all [DV,inn]<;>omega
  |[a,b,c]=>simp_all [DV,inn]<;>omega
  |a::b::c::d::m=>simp_all [DV,inn]<;>omega))
def FS:Sig:= {X:=List Nd×Int,args:=fun x=>[nds x.1,.q x.2],pre:=fun x=>x.1.length<2^62,Y:=Unit,post:=fun x y=>True,res:=fun x y=> .bool (BG x.1 x.2),outs:=fun x y=>[.top,.top],keep:=false}
theorem SO:Ai G Tryz.prog 57 FS:=
 vcFun_okP [] [] false (fun x=>[]) Tryz.func57 rfl (by decide) trivial (fun(x:List Nd×Int)=>(∀(y:Unit),True→True∧True∧True∧True)∧Aa (decide (x.2≥(0:Int))) (rA FS x [.bool (decide (x.2<(x.1.length:Int))),.top,.top]) (rA FS x [.bool false,.top,.top])) (fun x=>by kernel_rfl) fun(x:List Nd×Int) (hx:x.1.length<2^62)=>(by
 dsimp only[Br,nds,rA,FS,As,Az,AV.q]
 have hx:x.1.length<2^62:=hx
 (repeat' first|(with_reducible first|rfl|exact True.intro|apply AK|apply And.intro|((first|apply AA|apply AI|apply AB|apply AJ)<;>intro _))|(apply Av<;>intro _)|apply AH|refine Ae () ?_ ?_|((first|apply AO|apply AN|apply AM|apply AL|apply AG|apply AF|apply AE|apply AD|apply AC)<;>try dsimp only)|apply Ae|(refine Prod.forall.2 ?_;intro _;try dsimp only)|(intro _;try dsimp only))<;>(try dsimp only at*)<;>(try simp only[An,List.length_cons,List.length_nil])<;>(try omega)
 all_goals simp [BG, *])
def Oc(x:Nd):Prop:=x.text.length<2^62∧x.kids.length<2^62
def BH(l:List Nd):Prop:=l.length<2^62∧∀x∈l,Oc x
theorem b3B{l:List Nd}(hx:l[n]? =some x)(h:BH l):Oc x:=h.2 x (Bm hx)
def HQ(v:Int):List Int→Int→Int
 |[],_=> -1
 |c::l,i=>if v=c then i else HQ v l (i+1)
theorem a4e{v:Int}:∀ {l:List Int} {i:Int},0≤i→(0≤HQ v l i↔v∈l)
 |[],i,h=>by simp [HQ]
 |c::l,i,h=>by
  unfold HQ
  by_cases e:v=c
  ·simp [e,h]
  ·rw[if_neg e,a4e (by omega)];simp [e]
def Mu:Sig:= {X:=List Int×Int,args:=fun x=>[AQ x.1,.q x.2],pre:=fun x=>x.1.length<2^62,Y:=Unit,post:=fun x y=>True,res:=fun x y=> .q (HQ x.2 x.1 0),outs:=fun x y=>[.top,.top],keep:=false}
def SP(x:List Int×Int):LS:= {ι:=Int,inv:=fun i=>(0≤i∧i≤x.1.length)∧HQ x.2 (x.1.drop i.toNat) i=HQ x.2 x.1 0,regs:=fun i=>[(0,AQ x.1),(1,.q x.2),(7,.q x.1.length),(8,.q i)],als:=[],meas:=fun i=>x.1.length-i.toNat}
theorem b3C:Ai G Tryz.prog 156 Mu:=
 vcFun_okP [] [] false (fun x=>[(2,SP x)]) Tryz.func156 rfl (by decide) trivial (fun(x:List Int×Int)=>(∀(y:Unit),True→True∧True∧True∧True)∧eA (SP x) [AQ x.1,.q x.2,.q (x.1.length:Int),.q 0]∧∀(i:Int),(0≤i∧i≤(x.1.length:Int))∧HQ x.2 (List.drop (Int.toNat i) x.1) i=HQ x.2 x.1 (0:Int)→Aa (decide (i<(x.1.length:Int))) ((0≤i∧i<(x.1.length:Int))∧∀(e:Int),x.1[Int.toNat i]? =some e→Aa (x.2==e) (rA Mu x [.q i,.top,.top]) (inR .i64 (i+1)∧eN (SP x) i [AQ x.1,.q x.2,.q (x.1.length:Int),.q (i+1)])) (rA Mu x [.q (-1:Int),.top,.top])) (fun x=>by kernel_rfl) fun(x:List Int×Int) (hx:x.1.length<2^62)=>(by
 dsimp only[eA,eN,SP,AQ,rA,Mu,As,Az,Bl,AV.q]
 have hx:x.1.length<2^62:=hx
 (repeat' first|(with_reducible first|rfl|exact True.intro|apply AK|apply And.intro|((first|apply AA|apply AI|apply AB|apply AJ)<;>intro _))|(apply Av<;>intro _)|apply AH|refine Ae () ?_ ?_|((first|apply AO|apply AN|apply AM|apply AL|apply AG|apply AF|apply AE|apply AD|apply AC)<;>try dsimp only)|apply Ae|(refine Prod.forall.2 ?_;intro _;try dsimp only)|(intro _;try dsimp only))<;>(try dsimp only at*)<;>(try simp only[An,List.length_cons,List.length_nil])<;>(try omega)
 all_goals first
  |(rename_i i hi hl e he h;rw[←hi.2,HI he];simp [HQ,h];done)
  |(rename_i i hi hl e he h;rw[←hi.2,HI he,Dd hi.1.1];simp [HQ,h];done)
  |rfl
  |(rename_i i hi hl;rw[←hi.2,List.drop_eq_nil_of_le (by omega)];rfl)
  |skip)
def Od:Sig:= {X:=List Int×Int,args:=fun x=>[AQ x.1,.q x.2],pre:=fun x=>x.1.length<2^62,Y:=Unit,post:=fun x y=>True,res:=fun x y=> .bool (x.1.elem x.2),outs:=fun x y=>[.top,.top],keep:=false}
theorem b3D:Ai G Tryz.prog 123 Od:=
 vcFun_okP [(156,0,Mu)] [] false (fun x=>[]) Tryz.func123 rfl (by decide) ⟨b3C,trivial⟩ (fun(x:List Int×Int)=>(∀(y:Unit),True→True∧True∧True∧True)∧cA Mu [AQ x.1,.q x.2] fun x_1 y=>rA Od x [.bool (decide (HQ x_1.2 x_1.1 (0:Int)≥(0:Int))),.top,.top]) (fun x=>by kernel_rfl) fun(x:List Int×Int) (hx:x.1.length<2^62)=>(by
 dsimp only[cA,AQ,rA,Od,Mu,As,Az,mvL,lnL,mvE,lnE,AV.q]
 have hx:x.1.length<2^62:=hx
 (repeat' first|(with_reducible first|rfl|exact True.intro|apply AK|apply And.intro|((first|apply AA|apply AI|apply AB|apply AJ)<;>intro _))|(apply Av<;>intro _)|apply AH|refine Ae () ?_ ?_|((first|apply AO|apply AN|apply AM|apply AL|apply AG|apply AF|apply AE|apply AD|apply AC)<;>try dsimp only)|apply Ae|(refine Prod.forall.2 ?_;intro _;try dsimp only)|(intro _;try dsimp only))<;>(try dsimp only at*)<;>(try simp only[An,List.length_cons,List.length_nil])<;>(try omega)
 all_goals first|(rw[Bool.eq_iff_iff,decide_eq_true_iff,List.elem_iff];exact a4e (by omega))|skip)
theorem a4f:FQ ns x=true↔∀(j:Nat) c,x.kids[j]? =some c→Dk ns x j c=true:=by
 have e:FQ ns x=BV (fun i c=>Dk ns x i.toNat c) x.kids 0:=by
  unfold FQ
  have:(fun p:Int×Nat=>Dk ns x p.2 p.1)=fun p:Int×Nat=>(fun(i c:Int)=>Dk ns x i.toNat c) p.2 p.1:=by funext p;simp
  rw[this];exact Yk (f:=fun i c=>Dk ns x i.toNat c) (i:=0)
 rw[e,Yl];simp
def cfI(ns:List Nd)(x:Nd)(i:Int):Prop:=0≤i∧i≤x.kids.length∧∀(j:Nat) c,(j:Int)<i→x.kids[j]? =some c→Dk ns x j c=true
theorem b3E:cfI ns x 0:=⟨by omega,by omega,fun j c h=>by omega⟩
theorem SQ(h:cfI ns x i)(hc:x.kids[i.toNat]? =some c)(hk:Dk ns x i.toNat c=true):cfI ns x (i+1):=by
 obtain⟨h1,h2,h3⟩:=h
 have:=(Ek hc).1
 refine⟨by omega,by omega,fun j d hj hd=> ?_⟩
 by_cases e:(j:Int)<i
 ·exact h3 j d e hd
 ·obtain rfl:j=i.toNat:=by omega
  rw[hc] at hd;cases hd;exact hk
theorem b3F(h:cfI ns x i)(hl:¬i<x.kids.length):true=FQ ns x:=by
 symm;rw[a4f];intro j c hc
 exact h.2.2 j c (by have:=(Ek hc).1;omega) hc
theorem Yo(hc:x.kids[i.toNat]? =some c)(hk:Dk ns x i.toNat c=false):false=FQ ns x:=by
 symm;rw[Bool.eq_false_iff];intro h
 rw[a4f.1 h _ _ hc] at hk;cases hk
theorem b3G(hy:ns[c.toNat]? =some y)(h:y.kind≠5):Dk ns x i.toNat c=true:=by
 simp [Dk,BA hy,h]
theorem b3H(hy:ns[c.toNat]? =some y)(h:y.kind=5)(h0:(y.kids.length:Int)=0):Dk ns x i.toNat c=false:=by
 have h0:=List.length_eq_zero_iff.1 (show y.kids.length=0 by omega)
 simp [Dk,BA hy,h,h0]
theorem b3I(hy:ns[c.toNat]? =some y)(h:y.kind=5)(hd:BG ns d=false)(h0:y.kids[0]? =some d):Dk ns x i.toNat c=false:=by
 match hk:y.kids with
 |[]=>rw[hk] at h0;cases h0
 |e::t=>rw[hk] at h0;cases h0;simp [Dk,BA hy,h,hk,hd]
theorem b3J{z:Nd}(hy:ns[c.toNat]? =some y)(h:y.kind=5)(hd:BG ns d=true)(h0:y.kids[0]? =some d)(hz:ns[d'.toNat]? =some z)(h0':y.kids[0]? =some d')(h10:x.kind=10)(hi:i>0)(h1:z.kind≠1):Dk ns x i.toNat c=false:=by
 match hk:y.kids with
 |[]=>rw[hk] at h0;cases h0
 |e::t=>rw[hk] at h0 h0';cases h0;cases h0';simp [Dk,BA hy,h,hk,hd,h10,Bc,BA hz,h1];omega
theorem b3K{z:Nd}(hy:ns[c.toNat]? =some y)(h:y.kind=5)(hd:BG ns d=true)(h0:y.kids[0]? =some d)(hz:ns[d'.toNat]? =some z)(h0':y.kids[0]? =some d')(h1:z.kind=1):Dk ns x i.toNat c=true:=by
 match hk:y.kids with
 |[]=>rw[hk] at h0;cases h0
 |e::t=>rw[hk] at h0 h0';cases h0;cases h0';simp [Dk,BA hy,h,hk,hd,Bc,BA hz,h1]
theorem b3L(hy:ns[c.toNat]? =some y)(h:y.kind=5)(hd:BG ns d=true)(h0:y.kids[0]? =some d)(h1:x.kind≠10):Dk ns x i.toNat c=true:=by
 match hk:y.kids with
 |[]=>rw[hk] at h0;cases h0
 |e::t=>rw[hk] at h0;cases h0;simp [Dk,BA hy,h,hk,hd,h1]
theorem b3M(hy:ns[c.toNat]? =some y)(h:y.kind=5)(hd:BG ns d=true)(h0:y.kids[0]? =some d)(h1:¬i>0):Dk ns x i.toNat c=true:=by
 have:i.toNat=0:=by omega
 match hk:y.kids with
 |[]=>rw[hk] at h0;cases h0
 |e::t=>rw[hk] at h0;cases h0;simp [Dk,BA hy,h,hk,hd,this]
theorem ndB(hd:BG ns d=true)(h0:l[0]? =some d)(h0':l[0]? =some d'):0≤d'∧d'<ns.length:=by
 rw[h0] at h0';cases h0';exact BB.1 hd
def Iy:Sig:= {X:=List Nd×Nd,args:=fun x=>[nds x.1,.agg (ndA false x.2)],pre:=fun x=>BH x.1∧Oc x.2∧∀c∈x.2.kids,0≤c∧c<x.1.length,Y:=Unit,post:=fun x y=>True,res:=fun x y=> .bool (FQ x.1 x.2),outs:=fun x y=>[.top,.top],keep:=false}
def Mv(x:List Nd×Nd):LS:= {ι:=Int,inv:=cfI x.1 x.2,regs:=fun i=>[(0,nds x.1),(3,.box 0 (ndA false x.2)),(9,AQ x.2.kids),(10,.q x.2.kids.length),(11,.q i)],als:=[],meas:=fun i=>x.2.kids.length-i.toNat}
theorem b3N:Ai G Tryz.prog 125 Iy:=
 vcFun_okP [(57,0,FS)] [] false (fun x=>[(2,Mv x)]) Tryz.func125 rfl (by decide) ⟨SO,trivial⟩ (fun(x:List Nd×Nd)=>(∀(y:Unit),True→True∧True∧True∧True)∧eA (Mv x) [nds x.1,.box 0 (ndA false x.2),AQ x.2.kids,.q (x.2.kids.length:Int),.q 0]∧∀(i:Int),cfI x.1 x.2 i→Aa (decide (i<(x.2.kids.length:Int))) ((0≤i∧i<(x.2.kids.length:Int))∧∀(e:Int),x.2.kids[Int.toNat i]? =some e→(0≤e∧e<(x.1.length:Int))∧∀(e_1:Nd),x.1[Int.toNat e]? =some e_1→Aa (e_1.kind != 5) (inR .i64 (i+1)∧(eN (Mv x) i [nds x.1,.box 0 (ndA false x.2),AQ x.2.kids,.q (x.2.kids.length:Int),.q (i+1)])) (Aa ((e_1.kids.length:Int)==(0:Int)) (rA Iy x [.bool false,.top,.top]) (((0:Int)≤(0:Int)∧0<(e_1.kids.length:Int))∧∀(e:Int),e_1.kids[(0:Nat)]? =some e→cA FS [nds x.1,.q e] fun x_1 y=>Aa (!BG x_1.1 x_1.2) (rA Iy x [.bool false,.top,.top]) (Aa (x.2.kind==10) (Aa (decide (i>0)) (((0:Int)≤(0:Int)∧0<(e_1.kids.length:Int))∧∀(e:Int),e_1.kids[(0:Nat)]? =some e→(0≤e∧e<(x.1.length:Int))∧∀(e_2:Nd),x.1[Int.toNat e]? =some e_2→Aa (e_2.kind != 1) (rA Iy x [.bool false,.top,.top]) (inR .i64 (i+1)∧(eN (Mv x) i [nds x.1,.box 0 (ndA false x.2),AQ x.2.kids,.q (x.2.kids.length:Int),.q (i+1)]))) (inR .i64 (i+1)∧(eN (Mv x) i [nds x.1,.box 0 (ndA false x.2),AQ x.2.kids,.q (x.2.kids.length:Int),.q (i+1)]))) (inR .i64 (i+1)∧(eN (Mv x) i [nds x.1,.box 0 (ndA false x.2),AQ x.2.kids,.q (x.2.kids.length:Int),.q (i+1)])))))) (rA Iy x [.bool true,.top,.top])) (fun x=>by kernel_rfl) fun(x:List Nd×Nd) (hx:BH x.1∧Oc x.2∧∀c∈x.2.kids,0≤c∧c<x.1.length)=>(by
 dsimp only[cA,eA,eN,Mv,AQ,Br,nds,rA,Iy,FS,As,Az,mvL,lnL,mvE,lnE,mvG,mvH,lnG,lnH,Bl,AV.q]
 obtain⟨h1,h2,h3⟩:=hx;have hl:=h1.1;have hk:=h2.2
 (repeat' first|(with_reducible first|rfl|exact True.intro|apply AK|apply And.intro|((first|apply AA|apply AI|apply AB|apply AJ)<;>intro _))|(apply Av<;>intro _)|apply AH|refine Ae () ?_ ?_|((first|apply AO|apply AN|apply AM|apply AL|apply AG|apply AF|apply AE|apply AD|apply AC)<;>try dsimp only)|apply Ae|(refine Prod.forall.2 ?_;intro _;try dsimp only)|(intro _;try dsimp only))
 all_goals first
  |exact b3E
  |exact b3F ‹_› ‹_›
  |exact SQ ‹_› ‹_› (b3G ‹_› ‹_›)
  |exact SQ ‹_› ‹_› (b3M ‹_› ‹_› ‹_› ‹_› ‹_›)
  |exact SQ ‹_› ‹_› (b3L ‹_› ‹_› ‹_› ‹_› ‹_›)
  |exact SQ ‹_› ‹_› (b3K ‹_› ‹_› ‹_› ‹_› ‹_› ‹_› ‹_›)
  |exact Yo ‹_› (b3H ‹_› ‹_› ‹_›)
  |exact Yo ‹_› (b3I ‹_› ‹_› ‹_› ‹_›)
  |exact Yo ‹_› (b3J ‹_› ‹_› ‹_› ‹_› ‹_› ‹_› ‹_› ‹_› ‹_›)
  |exact(h3 _ (Bm ‹_›)).1
  |exact(h3 _ (Bm ‹_›)).2
  |exact(ndB ‹_› ‹_› ‹_›).1
  |exact(ndB ‹_› ‹_› ‹_›).2
  |(obtain⟨_,_,_⟩:= ‹cfI _ _ _›;(try simp only[An] at*);omega)
  |skip)
def nkI(k:Int)(l:List Int)(i:Int):Prop:=0≤i∧i≤l.length∧(∀c∈l.take i.toNat,0≤c∧c<k)∧(l.take i.toNat).Nodup
theorem a4g:nkI k l 0:=⟨by omega,by omega,by simp,by simp⟩
theorem a4h(h:nkI k l i)(hc:l[i.toNat]? =some c)(h1:¬c<0)(h2:¬c≥k)(h3:(l.take i.toNat).elem c=false):nkI k l (i+1):=by
 obtain⟨ha,hb,hd,he⟩:=h
 have:=(Ek hc).1
 refine⟨by omega,by omega,?_,?_⟩
 ·rw[Dd ha,ED hc];intro d hd'
  rcases List.mem_append.1 hd' with hd'|hd'
  ·exact hd d hd'
  ·simp at hd';subst hd';omega
 ·rw[Dd ha,ED hc,List.nodup_append]
  refine⟨he,by simp,?_⟩
  intro a ha' b hb' hab
  simp at hb';subst hb';subst hab
  simp at h3;exact h3 ha'
theorem Qs(h:nkI k l i)(hl:¬i<l.length):Er l k=true∧l.Nodup:=by
 obtain⟨ha,hb,hd,he⟩:=h
 rw[List.take_of_length_le (by omega)] at hd he
 exact⟨by simpa [Er] using hd,he⟩
theorem b3O(hc:l[n]? =some c)(h1:c<0):Er l k=false:=by
 rw[Bool.eq_false_iff];intro h;simp only[Er,List.all_eq_true,Bool.and_eq_true,decide_eq_true_eq] at h
 have:=h c (Bm hc);omega
theorem b3P(hc:l[n]? =some c)(h1:c≥k):Er l k=false:=by
 rw[Bool.eq_false_iff];intro h;simp only[Er,List.all_eq_true,Bool.and_eq_true,decide_eq_true_eq] at h
 have:=h c (Bm hc);omega
theorem a4i(hc:l[n]? =some c)(h1:(l.take n).elem c=true):¬l.Nodup:=by
 intro h
 have e:l=l.take n++l.drop n:=(List.take_append_drop n l).symm
 rw[e,HI hc,List.nodup_append] at h
 exact h.2.2 c (by simpa using h1) c (by simp) rfl
theorem a4j(h:BG ns k=false):false=Cs ns k:=by simp [Cs,h]
theorem Oe(hx:ns[k.toNat]? =some x)(h:BG ns k=true):Cs ns k=Jg ns k x:=by rw[Cs,h,BA hx];rfl
theorem b3Q(hx:ns[k.toNat]? =some x)(h:BG ns k=true)(h1:(x.kids.length:Int)>12):false=Cs ns k:=by
 rw[Oe hx h,Jg,decide_eq_false (by omega)];rfl
theorem b3R(hx:ns[k.toNat]? =some x)(h:BG ns k=true)(h1:EO x.kind x.text=false):false=Cs ns k:=by
 rw[Oe hx h,Jg,h1];simp
theorem a4k(hx:ns[k.toNat]? =some x)(h:BG ns k=true)(h1:Er x.kids k=false):false=Cs ns k:=by
 rw[Oe hx h,Jg,h1];simp
theorem b3S(hx:ns[k.toNat]? =some x)(h:BG ns k=true)(h1:¬x.kids.Nodup):false=Cs ns k:=by
 rw[Oe hx h,Jg,decide_eq_false h1];simp
theorem a4l(hx:ns[k.toNat]? =some x)(h:BG ns k=true)(h1:(x.kids.length:Int)≤12)(h2:EO x.kind x.text=true)(h3:nkI k x.kids i)(hl:¬i<x.kids.length):
 Cs ns k=(DV x.kind ((x.kids.take i.toNat).map (Bc ns))&&(FQ ns x&&(Iq x.kind|| !x.blank))):=by
 obtain⟨ha,hb⟩:=Qs h3 hl
 rw[List.take_of_length_le (by have:=h3.1;omega),Oe hx h,Jg,h2,ha,decide_eq_true hb,decide_eq_true (by omega)];simp
theorem Yp{n:Int}(h:nkI k l i)(hl:¬i<l.length)(hk:k<n)(hc:c∈l):0≤c∧c<n:=by
 have:=(Qs h hl).1
 simp only[Er,List.all_eq_true,Bool.and_eq_true,decide_eq_true_eq] at this
 have:=this c hc;omega
theorem b3T(h0:0≤i)(hc:l[i.toNat]? =some c)(hy:ns[c.toNat]? =some y):(l.take i.toNat).map (Bc ns)++[y.kind]=(l.take (i+1).toNat).map (Bc ns):=by
 rw[Dd h0,ED hc,List.map_append];simp [Bc,BA hy]
def SR(x:List Nd×Int):LS:= {
 ι:=Int,inv:=nkI x.2 (Ab x.1 x.2).kids,
 regs:=fun i=>[(0,nds x.1),(1,.int .i64 x.2),(5,.box 0 (ndA false (Ab x.1 x.2))),(6,Al (((Ab x.1 x.2).kids.take i.toNat).map (Bc x.1))),(28,AQ (Ab x.1 x.2).kids),(29,.int .i64 (Ab x.1 x.2).kids.length),(30,.int .i64 i)],als:=[],meas:=fun i=>(Ab x.1 x.2).kids.length-i.toNat}
def Eu:Sig:= {X:=List Nd×Int,args:=fun x=>[nds x.1,.q x.2],pre:=fun x=>BH x.1,Y:=Unit,post:=fun x y=>True,res:=fun x y=> .bool (Cs x.1 x.2),outs:=fun x y=>[.top,.top],keep:=false}
theorem b3U:Ai G Tryz.prog 98 Eu:=
 vcFun_okP [(57,0,FS),(122,0,Ed),(123,0,Od),(59,0,JL),(60,0,GD),(124,0,Ct),(125,0,Iy)] [(38,⟨Int,Bx⟩)] false (fun x=>[(8,SR x)]) Tryz.func98 rfl (by decide) ⟨SO,b3d,b3D,a4a,Yn,b3A,b3N,trivial⟩ (fun(x:List Nd×Int)=>(∀(y:Unit),True→True∧True∧True∧True)∧cA FS [nds x.1,.q x.2] fun x_1 y=>Aa (!BG x_1.1 x_1.2) (rA Eu x [.bool false,.top,.top]) ((0≤x.2∧x.2<(x.1.length:Int))∧∀(e:Nd),x.1[Int.toNat x.2]? =some e→Aa (decide ((e.kids.length:Int)>(12:Int))) (rA Eu x [.bool false,.top,.top]) (cA Ed [.agg (ndA false e)] fun x_2 y=>Aa (!EO x_2.kind x_2.text) (rA Eu x [.bool false,.top,.top]) (eA (SR x) [nds x.1,.q x.2,.box 0 (ndA false e),.nil,AQ e.kids,.q (e.kids.length:Int),.q 0]∧∀(i:Int),nkI x.2 (Ab x.1 x.2).kids i→Aa (decide (i<(↑((Ab x.1 x.2).kids.length):Int))) ((0≤i∧i<(↑((Ab x.1 x.2).kids.length):Int))∧∀(e:Int),(Ab x.1 x.2).kids[Int.toNat i]? =some e→Aa (decide (e<0)) (rA Eu x [.bool false,.top,.top]) (Aa (decide (e≥x.2)) (rA Eu x [.bool false,.top,.top]) (((0:Int)≤(0:Int)∧0≤i∧i≤(↑((Ab x.1 x.2).kids.length):Int))∧cA Od [AQ (List.take (Int.toNat i) (Ab x.1 x.2).kids),.q e] fun x_3 y=>Aa (List.elem x_3.2 x_3.1) (rA Eu x [.bool false,.top,.top]) ((0≤e∧e<(x.1.length:Int))∧∀(e_1:Nd),x.1[Int.toNat e]? =some e_1→∃(x_4:Int),e_1.kind=x_4∧∃(zs:List Int),Al [x_4]=Al zs∧BI Bx∧Bb ((List.map (Bc x.1) (List.take (Int.toNat i) (Ab x.1 x.2).kids)).length+zs.length) (8:Nat)∧inR .i64 (i+1)∧eN (SR x) i [nds x.1,.q x.2,.box 0 (ndA false (Ab x.1 x.2)),Al (List.map (Bc x.1) (List.take (Int.toNat i) (Ab x.1 x.2).kids)++zs),AQ (Ab x.1 x.2).kids,.q (↑((Ab x.1 x.2).kids.length):Int),.q (i+1)])))) (cA JL [.q (Ab x.1 x.2).kind] fun x_3 y=>Aa (KK x_3) (cA Ct [.q (Ab x.1 x.2).kind,Al (List.map (Bc x.1) (List.take (Int.toNat i) (Ab x.1 x.2).kids))] fun x_4 y=>Aa (DV x_4.1 x_4.2) (cA Iy [nds x.1,.agg (ndA false (Ab x.1 x.2))] fun x_5 y=>Aa (FQ x_5.1 x_5.2) (rA Eu x [.bool true,.top,.top]) (rA Eu x [.bool false,.top,.top])) (rA Eu x [.bool false,.top,.top])) (cA GD [.q (Ab x.1 x.2).kind] fun x_4 y=>Aa (Fj x_4) (cA Ct [.q (Ab x.1 x.2).kind,Al (List.map (Bc x.1) (List.take (Int.toNat i) (Ab x.1 x.2).kids))] fun x_5 y=>Aa (DV x_5.1 x_5.2) (cA Iy [nds x.1,.agg (ndA false (Ab x.1 x.2))] fun x_6 y=>Aa (FQ x_6.1 x_6.2) (rA Eu x [.bool true,.top,.top]) (rA Eu x [.bool false,.top,.top])) (rA Eu x [.bool false,.top,.top])) (cA Ct [.q (Ab x.1 x.2).kind,Al (List.map (Bc x.1) (List.take (Int.toNat i) (Ab x.1 x.2).kids))] fun x_5 y=>Aa (DV x_5.1 x_5.2) (cA Iy [nds x.1,.agg (ndA false (Ab x.1 x.2))] fun x_6 y=>Aa (FQ x_6.1 x_6.2) (Aa ((Ab x.1 x.2).kind==21) (rA Eu x [.bool true,.top,.top]) (rA Eu x [.bool !(Ab x.1 x.2).blank,.top,.top])) (rA Eu x [.bool false,.top,.top])) (rA Eu x [.bool false,.top,.top])))))))) (fun x=>by kernel_rfl) fun(x:List Nd×Int) (hx:BH x.1)=>(by
 dsimp only[cA,eA,eN,AQ,SR,Br,nds,Al,rA,Iy,Od,Eu,GD,FS,JL,Ct,Ed,As,Az,mvL,lnL,mvE,lnE,mvG,mvH,lnG,lnH,Bl,AV.q]
 have h1:BH x.1:=hx;have hl:=h1.1
 (repeat' first|(with_reducible first|rfl|exact True.intro|apply AK|apply And.intro|((first|apply AA|apply AI|apply AB|apply AJ)<;>intro _))|(apply Av<;>intro _)|apply AH|refine Ae () ?_ ?_|((first|apply AO|apply AN|apply AM|apply AL|apply AG|apply AF|apply AE|apply AD|apply AC)<;>try dsimp only)|apply Ae|(refine Prod.forall.2 ?_;intro _;try dsimp only)|(intro _;try dsimp only))
 all_goals try(simp only[BA ‹x.1[x.2.toNat]? =some _›] at*)
 all_goals first
  |rfl
  |exact a4g
  |exact(h1.2 _ (Bm ‹_›)).1
  |exact(h1.2 _ (Bm ‹_›)).2
  |exact b3B ‹_› h1
  |exact(Yp ‹_› ‹_› (BB.1 ‹BG _ _=true›).2 ‹_›).1
  |exact(Yp ‹_› ‹_› (BB.1 ‹BG _ _=true›).2 ‹_›).2
  |exact a4j ‹_›
  |exact b3Q ‹_› ‹_› ‹_›
  |exact b3R ‹_› ‹_› ‹_›
  |exact a4k ‹_› ‹_› (b3O ‹_› ‹_›)
  |exact a4k ‹_› ‹_› (b3P ‹_› ‹_›)
  |exact b3S ‹_› ‹_› (a4i ‹_› ‹_›)
  |exact a4h ‹_› ‹_› ‹_› ‹_› ‹_›
  |exact b3T (‹nkI _ _ _›.1) ‹_› ‹_›
  |(refine Eq.trans ?_ (a4l ‹x.1[x.2.toNat]? =some _› ‹_› (by omega) ‹_› ‹_› ‹_›).symm;simp [-List.map_take,Iq,GC, *];done)
  |omega
  |(have:=BB.1 ‹BG _ _=true›;omega)
  |(have:=BB.1 ‹BG _ _=true›;obtain⟨_,_,_⟩:= ‹nkI _ _ _›;(try simp only[An,Bb,List.length_take,List.length_map,List.length_append,List.length_cons,List.length_nil] at*);omega)
  |(refine Eq.trans ?_ (a4l ‹x.1[x.2.toNat]? =some _› ‹_› (by omega) ‹_› ‹_› ‹_›).symm;rw[‹DV _ _=true›,‹FQ _ _=true›];simp [Iq, *]))
def dl(k i:Int)(ds:List Int):List Int:=ds++List.replicate (k+1-i).toNat 0
def dI(ns:List Nd)(k i:Int)(ds:List Int):Prop:=BG ns k=true∧0≤i∧i≤k+1∧CW ns i.toNat=some ds
def dJ(ns:List Nd)(k i:Int)(ds:List Int)(j d:Int):Prop:=dI ns k i ds∧i≤k∧Cs ns i=true∧0≤j∧j≤(Ab ns i).kids.length∧0≤d∧d≤14∧mx ds ((Ab ns i).kids.drop j.toNat) d=mx ds (Ab ns i).kids 0
theorem b3V(h:BG ns k=true):dI ns k 0 []:=⟨h,by omega,by have:=BB.1 h;omega,rfl⟩
theorem b3W:List.replicate (k+1).toNat 0=dl k 0 []:=by simp [dl]
theorem a4m(h:dI ns k i ds):((dl k i ds).length:Int)=k+1:=by
 obtain⟨h0,h1,h2,h3⟩:=h
 have:=KL h3
 rw[dl,List.length_append,List.length_replicate];omega
theorem b3X(h:dI ns k i ds)(hl:i<k+1)(hn:Cs ns i=false):0=Cx ns k:=by
 obtain⟨h0,h1,h2,h3⟩:=h
 have:CW ns (i.toNat+1)=none:=by
  unfold CW;rw[h3];simp only
  rw[show((i.toNat:Nat):Int)=i by omega,hn];rfl
 unfold Cx;rw[if_pos h0,XI this (by omega)]
theorem b3Y(h:dI ns k i ds)(hl:i<k+1)(hn:Cs ns i=true):dJ ns k i ds 0 0:=
 ⟨h,by omega,hn,by omega,by omega,by omega,by omega,by simp⟩
theorem a4n(h:dJ ns k i ds j d)(hc:(Ab ns i).kids[j.toNat]? =some c):0≤c∧c<i:=by
 exact(EF h.2.2.1).2.2.2.1 c (Bm hc)
theorem Yq(h:dJ ns k i ds j d)(hc:(Ab ns i).kids[j.toNat]? =some c):0≤c∧c<(dl k i ds).length:=by
 have:=a4n h hc;have:=a4m h.1;have:=h.1.2.2;omega
theorem b3Z(h:dJ ns k i ds j d)(hc:(Ab ns i).kids[j.toNat]? =some c)(hv:(dl k i ds)[c.toNat]? =some v):ds.getD c.toNat 0=v∧1≤v∧v≤14:=by
 have h1:=a4n h hc
 have h2:=KL h.1.2.2.2
 rw[dl,List.getElem?_append_left (by omega)] at hv
 refine⟨by simp [List.getD,hv],?_⟩
 exact NO h.1.2.2.2 v (Bm hv)
theorem b4a(h:dJ ns k i ds j d)(hc:(Ab ns i).kids[j.toNat]? =some c)(hv:(dl k i ds)[c.toNat]? =some v):dJ ns k i ds (j+1) (max d v):=by
 obtain⟨hv1,hv2,hv3⟩:=b3Z h hc hv
 obtain⟨h1,h2,h3,h4,h5,h6,h7,h8⟩:=h
 have:=(Ek hc).1
 refine⟨h1,h2,h3,by omega,by omega,by omega,by omega,?_⟩
 rw[←h8,HI hc,Dd h4];simp only[mx,hv1]
theorem a4o(h:dJ ns k i ds j d)(hl:¬j<(Ab ns i).kids.length):d=mx ds (Ab ns i).kids 0:=by
 obtain⟨h1,h2,h3,h4,h5,h6,h7,h8⟩:=h
 rw[List.drop_eq_nil_of_le (by omega)] at h8;exact h8
theorem b4b(h:dJ ns k i ds j d)(hl:¬j<(Ab ns i).kids.length)(hd:d≥14):0=Cx ns k:=by
 have hm:=a4o h hl
 obtain⟨⟨ha,hb,he,hf⟩,h2,h3,_⟩:=h
 have e:((i.toNat:Nat):Int)=i:=by omega
 have:CW ns (i.toNat+1)=none:=by
  unfold CW;rw[hf];simp only
  rw[e,h3,if_pos rfl,if_pos (by omega)]
 unfold Cx;rw[if_pos ha,XI this (by omega)]
theorem b4c(h:dJ ns k i ds j d)(hl:¬j<(Ab ns i).kids.length)(hd:¬d≥14):dI ns k (i+1) (ds++[d+1]):=by
 have hm:=a4o h hl
 obtain⟨⟨ha,hb,he,hf⟩,h2,h3,_⟩:=h
 have e:((i.toNat:Nat):Int)=i:=by omega
 refine⟨ha,by omega,by omega,?_⟩
 rw[Dd hb];unfold CW;rw[hf];simp only
 rw[e,h3,if_pos rfl,if_neg (by omega),←hm]
theorem b4d(h:dJ ns k i ds j d):(dl k i ds).set i.toNat (d+1)=dl k (i+1) (ds++[d+1]):=by
 obtain⟨⟨ha,hb,he,hf⟩,h2,h3,_⟩:=h
 have hl:=KL hf
 have e:(k+1-i).toNat=(k+1-(i+1)).toNat+1:=by omega
 unfold dl;rw[List.set_append_right _ _ (by omega),e,hl];simp [List.replicate_succ]
theorem b4e(h:dI ns k i ds)(hl:¬i<k+1)(hv:(dl k i ds)[k.toNat]? =some v):v=Cx ns k:=by
 obtain⟨h0,h1,h2,h3⟩:=h
 obtain rfl:i=k+1:=by omega
 have:=BB.1 h0
 rw[show(k+1).toNat=k.toNat+1 by omega] at h3
 unfold Cx;rw[if_pos h0,h3]
 simp [dl] at hv
 simp [List.getD,hv]
theorem a4p(h:BG ns k=false):0=Cx ns k:=by simp [Cx,h]
theorem b4f(h:dJ ns k i ds j d):((Ab ns i).kids.length:Int)≤12:=by
 have:=(EF h.2.2.1).2.1;omega
def SS(x:List Nd×Int)(o:Int×List Int):LS:= {
 ι:=Int×Int,inv:=fun i=>dJ x.1 x.2 o.1 o.2 i.1 i.2,
 regs:=fun i=>[(0,nds x.1),(1,.int .i64 x.2),(5,Al (dl x.2 o.1 o.2)),(18,.int .i64 (x.2+1)),(19,.int .i64 o.1),(6,.int .i64 o.1),(7,.int .i64 i.2),(30,AQ (Ab x.1 o.1).kids),(31,.int .i64 (Ab x.1 o.1).kids.length),(32,.int .i64 i.1)],als:=[],meas:=fun i=>(Ab x.1 o.1).kids.length-i.1.toNat}
def SU(x:List Nd×Int):LS:= {
 ι:=Int×List Int,inv:=fun i=>dI x.1 x.2 i.1 i.2,
 regs:=fun i=>[(0,nds x.1),(1,.int .i64 x.2),(5,Al (dl x.2 i.1 i.2)),(18,.int .i64 (x.2+1)),(19,.int .i64 i.1)],als:=[],meas:=fun i=>x.2.toNat+1-i.1.toNat,
 sub:=fun i=>[(11,SS x i)]}
def JM:Sig:= {X:=List Nd×Int,args:=fun x=>[nds x.1,.q x.2],pre:=fun x=>BH x.1∧x.1.length≤2^30,Y:=Unit,post:=fun x y=>True,res:=fun x y=> .q (Cx x.1 x.2),outs:=fun x y=>[.top,.top],keep:=false}
theorem b4g:Ai G Tryz.prog 58 JM:=
 vcFun_okP [(57,0,FS),(98,0,Eu)] [(38,⟨Int,Bx⟩)] false (fun x=>[(5,SU x)]) Tryz.func58 rfl (by decide) ⟨SO,b3U,trivial⟩ (fun(x:List Nd×Int)=>(∀(y:Unit),True→True∧True∧True∧True)∧cA FS [nds x.1,.q x.2] fun x_1 y=>Aa (!BG x_1.1 x_1.2) (rA JM x [.q 0,.top,.top]) (inR .i64 (x.2+(1:Int))∧(0≤x.2+(1:Int)∧x.2+1≤x.2+(1:Int)∧(↑(8:Nat):Int)*(x.2+(1:Int))≤2^(46:Nat)∧x.2+(1:Int)≤(2:Int)^(46:Nat))∧∃(x_2:Int),0=x_2∧eA (SU x) [nds x.1,.q x.2,Al (List.replicate (Int.toNat (x.2+(1:Int))) x_2),.q (↑(List.length (List.replicate (Int.toNat (x.2+(1:Int))) x_2)):Int),.q 0]∧∀(i:Int×List Int),dI x.1 x.2 i.1 i.2→Aa (decide (i.1<x.2+(1:Int))) (cA Eu [nds x.1,.q i.1] fun x_3 y=>Aa (!Cs x_3.1 x_3.2) (rA JM x [.q 0,.top,.top]) ((0≤i.1∧i.1<(x.1.length:Int))∧∀(e:Nd),x.1[Int.toNat i.1]? =some e→eA (SS x i) [nds x.1,.q x.2,Al (dl x.2 i.1 i.2),.q (x.2+(1:Int)),.q i.1,.q i.1,.q 0,AQ e.kids,.q (e.kids.length:Int),.q 0]∧∀(i_1:Int×Int),dJ x.1 x.2 i.1 i.2 i_1.1 i_1.2→Aa (decide (i_1.1<(↑((Ab x.1 i.1).kids.length):Int))) ((0≤i_1.1∧i_1.1<(↑((Ab x.1 i.1).kids.length):Int))∧∀(e:Int),(Ab x.1 i.1).kids[Int.toNat i_1.1]? =some e→(0≤e∧e<(↑((dl x.2 i.1 i.2).length):Int))∧Int.toNat e<(dl x.2 i.1 i.2).length∧∀(x_4:Int),(dl x.2 i.1 i.2)[Int.toNat e]? =some x_4→inR .i64 (i_1.1+(1:Int))∧eN (SS x i) i_1 [nds x.1,.q x.2,Al (dl x.2 i.1 i.2),.q (x.2+(1:Int)),.q i.1,.q i.1,.q (max i_1.2 x_4),AQ (Ab x.1 i.1).kids,.q (↑((Ab x.1 i.1).kids.length):Int),.q (i_1.1+(1:Int))]) (Aa (decide (i_1.2≥(14:Int))) (rA JM x [.q 0,.top,.top]) (inR .i64 (i_1.2+(1:Int))∧(0≤i.1∧i.1<(↑((dl x.2 i.1 i.2).length):Int))∧Int.toNat i.1<(dl x.2 i.1 i.2).length∧∀(x_4:Int),(dl x.2 i.1 i.2)[Int.toNat i.1]? =some x_4→∃(x':Int),((@List.nil AV)=[]∧(@List.nil AV)=[])∧i_1.2+1=x'∧inR .i64 (i.1+(1:Int))∧eN (SU x) i [nds x.1,.q x.2,Al (List.set (dl x.2 i.1 i.2) (Int.toNat i.1) x'),.q (x.2+(1:Int)),.q (i.1+(1:Int))])))) ((0≤x.2∧x.2<(↑((dl x.2 i.1 i.2).length):Int))∧Int.toNat x.2<(dl x.2 i.1 i.2).length∧∀(x_3:Int),(dl x.2 i.1 i.2)[Int.toNat x.2]? =some x_3→rA JM x [.q x_3,.top,.top]))) (fun x=>by kernel_rfl) fun(x:List Nd×Int) (hx:BH x.1∧x.1.length≤2^30)=>(by
 dsimp only[cA,eA,eN,AQ,SU,SS,Br,nds,Al,rA,JM,Eu,FS,As,Az,mvL,lnL,mvE,lnE,Bl,AV.q]
 obtain⟨h1,h2⟩:=hx;have hl:=h1.1
 (repeat' first|(with_reducible first|rfl|exact True.intro|apply AK|apply And.intro|((first|apply AA|apply AI|apply AB|apply AJ)<;>intro _))|(apply Av<;>intro _)|apply AH|refine Ae () ?_ ?_|((first|apply AO|apply AN|apply AM|apply AL|apply AG|apply AF|apply AE|apply AD|apply AC)<;>try dsimp only)|apply Ae|(refine Prod.forall.2 ?_;intro _;try dsimp only)|(intro _;try dsimp only))
 all_goals try(have nd0:=BB.1 ‹BG x.1 x.2=true›)
 all_goals first
  |rfl
  |exact a4p ‹_›
  |exact b3V ‹_›
  |exact b3W
  |exact b3X ‹_› ‹_› ‹_›
  |exact b3Y ‹_› ‹_› ‹_›
  |exact(Yq ‹_› ‹_›).1
  |exact(Yq ‹_› ‹_›).2
  |exact b4a ‹_› ‹_› ‹_›
  |exact b4b ‹_› ‹_› ‹_›
  |exact b4c ‹_› ‹_› ‹_›
  |exact b4d ‹_›
  |exact b4e ‹_› ‹_› ‹_›
  |(rw[BA ‹_›];done)
  |(rw[List.length_replicate];omega)
  |(have:=b4f ‹_›;obtain⟨⟨_,_,_,_⟩,_,_,_,_,_,_,_⟩:= ‹dJ _ _ _ _ _ _›;(try simp only[An,Bb] at*);omega)
  |(have:=a4m ‹_›;obtain⟨_,_,_,_⟩:= ‹dI _ _ _ _›;(try simp only[An,Bb] at*);omega)
  |(have:=Yq ‹_› ‹_›;omega)
  |((try simp only[An,Bb] at*);omega)
  |skip)
end Go.My
end
