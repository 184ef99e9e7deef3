/- A part of the proof: the engine and the contracts, joined. -/
import Derived.Test.YtplklcfglbkfhaaGreatDoorQN
import Derived.Test.YtplklcfglbkfhaaGreatDoorProg
section
set_option linter.unusedVariables false
set_option linter.unusedSimpArgs false
namespace Go.My
open Go.Eng Go.Proofs
variable {G:GInv}
theorem Fg{L:List Nd}(h:spB L):((Be L∧L.length≤2^30)∧L.length≤300)∧∀e∈L,e.kids.length≤2^20:=
 ⟨⟨⟨h.2.1,by have:=h.1;omega⟩,h.1.2⟩,fun e he=>by have:=h.2.2 e he;omega⟩
theorem b6Y{L:List Nd}{i c:Int}(h:(Cl L)[i.toNat]? =some c):0≤c∧c<L.length:=a0P (List.mem_of_getElem? h)
theorem b6Z{L:List Nd}(h:spB L):(Cl L).length≤300:=by have:= @UQ L;have:=h.1.2;omega
attribute [local irreducible] spB Cl Ah Bz Bh FL FM CL Ew Db Gz
noncomputable def Nt:Sig:= {X:=List UInt8×Int×Int,args:=fun x=>[.box 0 (cur x.1 x.2.1 x.2.2)],pre:=fun x=>Ae x.1 x.2.1,Y:=List UInt8×Int×Int,post:=fun x y=>y.1.length≤20∧Ae x.1 y.2.1,res:=fun x y=> .str y.1,outs:=fun x y=>[.box 0 (cur x.1 y.2.1 y.2.2)],keep:=true}
theorem Wk:Am G Tryz.prog 89 Nt:=
 vcFun_okP [(123,0,GX)] [(38,⟨List UInt8,Ag⟩)] false (fun x=>[]) Tryz.func89 rfl (by decide) ⟨Lg,trivial⟩ (fun(x:List UInt8×Int×Int)=>True∧∃(x_1:List UInt8),#[(97:UInt8)].toList=x_1∧∃(x_2:List UInt8),#[(98:UInt8)].toList=x_2∧∃(x_3:List UInt8),#[(118:UInt8),(97:UInt8),(108:UInt8),(117:UInt8),(101:UInt8)].toList=x_3∧∃(x_4:List UInt8),#[(116:UInt8),(111:UInt8),(116:UInt8),(97:UInt8),(108:UInt8)].toList=x_4∧∃(x_5:List UInt8),#[(120:UInt8),(49:UInt8)].toList=x_5∧∃(x_6:List UInt8),#[(111:UInt8),(116:UInt8),(104:UInt8),(101:UInt8),(114:UInt8)].toList=x_6∧∃(x_7:List UInt8),#[(105:UInt8),(102:UInt8)].toList=x_7∧∃(x_8:List UInt8),#[].toList=x_8∧∃(x_9:List UInt8),#[(115:UInt8),(111:UInt8),(109:UInt8),(101:UInt8),(76:UInt8),(111:UInt8),(110:UInt8),(103:UInt8),(101:UInt8),(114:UInt8),(78:UInt8),(97:UInt8),(109:UInt8),(101:UInt8)].toList=x_9∧cA GX [.box 0 (cur x.1 x.2.1 x.2.2),AV.sl true 0 1 (List UInt8) Ag [x_1,x_2,x_3,x_4,x_5,x_6,x_7,x_8,x_9]] fun x_10 y=>rA Nt x [.str y.1,.box 0 (cur x_10.1 y.2.1 y.2.2)]) (fun x=>by kernel_rfl) fun(x:List UInt8×Int×Int) (hx:Ae x.1 x.2.1)=>(by
 dsimp only[CZ,cA,cur,rA,Nt,GX,Au,Ax,mvL,lnL,mvE,lnE]
 obtain⟨b,i,h⟩:=x;dsimp only at hx ⊢
 have hx:Ae b i:=hx
 (repeat' first|(with_reducible first|rfl|exact True.intro|apply AJ|apply And.intro|((first|apply Az|apply AH|apply AA|apply AI)<;>intro _))|(apply Av<;>intro _)|apply AG|refine Af () ?_ ?_|((first|apply AO|apply AN|apply AM|apply AL|apply AF|apply AE|apply AD|apply AC|apply AB)<;>try dsimp only)|apply Af|(refine Prod.forall.2 ?_;intro _;try dsimp only)|(intro _;try dsimp only))
 all_goals first
  |rfl
  |exact hx
  |(simp;done)
  |(rename _=[]=>hq;cases hq;done)
  |exact JO (And.left (show _∈_∧Ae _ _ by assumption)) (by decide)
  |exact And.right (show _∈_∧Ae _ _ by assumption)
  |skip)
noncomputable def Kg:Sig:= {X:=List UInt8×Int×Int×List Nd,args:=fun x=>[.box 0 (cur x.1 x.2.1 x.2.2.1),nds x.2.2.2],pre:=fun x=>Ae x.1 x.2.1∧spB x.2.2.2,Y:=Int×Int×Int,post:=fun x y=>(0≤y.1∧y.1≤301)∧Ae x.1 y.2.1,res:=fun x y=> .int .i64 y.1,outs:=fun x y=>[.box 0 (cur x.1 y.2.1 y.2.2),.top],keep:=true}
theorem Wl:Am G Tryz.prog 90 Kg:=
 vcFun_okP [(47,0,Gk),(55,0,HF),(51,0,Dh)] [] false (fun x=>[]) Tryz.func90 rfl (by decide) ⟨UU,MD,HE,trivial⟩ (fun(x:List UInt8×Int×Int×List Nd)=>True∧cA Gk [nds x.2.2.2] fun x_1 y=>Aa ((↑(List.length (Cl x_1.1)):Int)==(0:Int)) (inR IntKind.i64 ((↑(List.length x.2.2.2):Int)+(1:Int))∧cA Dh [.box 0 (cur x.1 x.2.1 x.2.2.1),.int .i64 ((↑(List.length x.2.2.2):Int)+(1:Int))] fun x_2 y=>rA Kg x [.int .i64 y.1,.box 0 (cur x_2.1 y.2.1 y.2.2),.top]) (cA HF [.box 0 (cur x.1 x.2.1 x.2.2.1),.int .i64 (5:Int)] fun x_2 y=>Aa y.1 (inR IntKind.i64 ((↑(List.length x.2.2.2):Int)+(1:Int))∧cA Dh [.box 0 (cur x_2.1 y.2.1 y.2.2),.int .i64 ((↑(List.length x.2.2.2):Int)+(1:Int))] fun x_3 y=>rA Kg x [.int .i64 y.1,.box 0 (cur x_3.1 y.2.1 y.2.2),.top]) (cA Dh [.box 0 (cur x_2.1 y.2.1 y.2.2),.int .i64 (↑(List.length (Cl x_1.1)):Int)] fun x_3 y=>((0:Int)≤y.1∧y.1<(↑(List.length (Cl x_1.1)):Int))∧Int.toNat y.1<List.length (Cl x_1.1)∧∀(x_4:Int),(Cl x_1.1)[Int.toNat y.1]? =some x_4→rA Kg x [.int .i64 x_4,.box 0 (cur x_3.1 y.2.1 y.2.2),.top]))) (fun x=>by kernel_rfl) fun(x:List UInt8×Int×Int×List Nd) (hx:Ae x.1 x.2.1∧spB x.2.2.2)=>(by
 dsimp only[BO,CZ,cA,cur,Bn,nds,Ab,rA,Dh,Kg,HF,Gk,Au,Ax,mvL,lnL,mvE,lnE]
 obtain⟨b,i,h,L⟩:=x;dsimp only at hx ⊢
 obtain⟨hx,hS⟩:=hx
 have hL:=Fg hS;have hM:=b6Z hS
 (repeat' first|(with_reducible first|rfl|exact True.intro|apply AJ|apply And.intro|((first|apply Az|apply AH|apply AA|apply AI)<;>intro _))|(apply Av<;>intro _)|apply AG|refine Af () ?_ ?_|((first|apply AO|apply AN|apply AM|apply AL|apply AF|apply AE|apply AD|apply AC|apply AB)<;>try dsimp only)|apply Af|(refine Prod.forall.2 ?_;intro _;try dsimp only)|(intro _;try dsimp only))
 all_goals(try(have hA:=b6Y ‹_›))
 all_goals(repeat(rename _∧Ae _ _=>hq;obtain⟨_,_⟩:=hq))
 all_goals first
  |rfl
  |exact hx
  |exact()
  |exact hL.1.1.1
  |(with_reducible assumption)
  |(show Ae _ _;with_reducible assumption)
  |omega
  |((try simp only[AR]);omega)
  |skip)
noncomputable def Nu:Sig:= {X:=List UInt8,args:=fun x=>[.sl false 0 1 UInt8 byA x],pre:=fun x=>x.length≤2^21,Y:=List Nd×Int,post:=fun x y=>spB y.1∧0≤y.2∧y.2≤301,res:=fun x y=> .tup [nds y.1,.int .i64 y.2],outs:=fun x y=>[.top],keep:=true}
theorem b7a:Am G Tryz.prog 88 Nu:=
 vcFun_okP [(49,0,Ff),(54,0,Nc),(90,0,Kg)] [] false (fun x=>[]) Tryz.func88 rfl (by decide) ⟨Pv,Px,Wl,trivial⟩ (fun(x:List UInt8)=>True∧cA Ff [byL x] fun x_1 y=>∃(x_2:Value×List UInt8×Int×Int),Ae x_2.2.1 x_2.2.2.1∧(y.2=y.2∧y.2=x_2.1)∧byL x_1=byL x_2.2.1∧(0:Int)=x_2.2.2.1∧y.1=x_2.2.2.2∧∀(y_1:List Nd×Int×Int),spB y_1.1∧Ae x_2.2.1 y_1.2.1→y.2=y.2∧∃(x_3:List UInt8×Int×Int×List Nd),(Ae x_3.1 x_3.2.1∧spB x_3.2.2.2)∧y.2=y.2∧byL x_2.2.1=byL x_3.1∧y_1.2.1=x_3.2.1∧y_1.2.2=x_3.2.2.1∧AV.sl false 0 4 Nd (fun(x:Nd)=>fzL (ndA true x)) y_1.1=nds x_3.2.2.2∧∀(y_2:Int×Int×Int),((0:Int)≤y_2.1∧y_2.1≤(301:Int))∧Ae x_3.1 y_2.2.1→y.2=y.2∧rA Nu x [.tup [AV.sl false 0 4 Nd (fun(x:Nd)=>fzL (ndA true x)) y_1.1,.int .i64 y_2.1],.top]) (fun x=>by kernel_rfl) fun(x:List UInt8) (hx:x.length≤2^21)=>(by
 dsimp only[CZ,byL,cA,cur,Bn,nds,rA,Ff,Nu,Au,Ax,mvL,lnL,mvE,lnE]
 have hx:x.length≤2^21:=hx
 (repeat' first|(with_reducible first|rfl|exact True.intro|apply AJ|apply And.intro|((first|apply Az|apply AH|apply AA|apply AI)<;>intro _))|(apply Av<;>intro _)|apply AG|refine Af () ?_ ?_|((first|apply AO|apply AN|apply AM|apply AL|apply AF|apply AE|apply AD|apply AC|apply AB)<;>try dsimp only)|apply Af|(refine Prod.forall.2 ?_;intro _;try dsimp only)|(intro _;try dsimp only))
 all_goals(repeat(rename _∧Ae _ _=>hq;obtain⟨_,_⟩:=hq))
 all_goals first
  |rfl
  |exact hx
  |exact Pw hx
  |(with_reducible assumption)
  |(show Ae _ _;with_reducible assumption)
  |omega
  |skip)
noncomputable def Nv:Sig:= {X:=List UInt8,args:=fun x=>[.sl false 0 1 UInt8 byA x],pre:=fun x=>x.length≤2^21,Y:=List Nd×Int,post:=fun x y=>spB y.1∧0≤y.2∧y.2≤301,res:=fun x y=> .tup [nds y.1,.int .i64 y.2],outs:=fun x y=>[.top],keep:=true}
theorem b7b:Am G Tryz.prog 33 Nv:=
 vcFun_okP [(88,0,Nu)] [] false (fun x=>[]) Tryz.func33 rfl (by decide) ⟨b7a,trivial⟩ (fun(x:List UInt8)=>True∧cA Nu [byL x] fun x_1 y=>rA Nv x [.tup [nds y.1,.int .i64 y.2],.top]) (fun x=>by kernel_rfl) fun(x:List UInt8) (hx:x.length≤2^21)=>(by
 dsimp only[CZ,byL,cA,Bn,nds,rA,Nu,Nv,Au,Ax,mvL,lnL,mvE,lnE]
 have hx:x.length≤2^21:=hx
 (repeat' first|(with_reducible first|rfl|exact True.intro|apply AJ|apply And.intro|((first|apply Az|apply AH|apply AA|apply AI)<;>intro _))|(apply Av<;>intro _)|apply AG|refine Af () ?_ ?_|((first|apply AO|apply AN|apply AM|apply AL|apply AF|apply AE|apply AD|apply AC|apply AB)<;>try dsimp only)|apply Af|(refine Prod.forall.2 ?_;intro _;try dsimp only)|(intro _;try dsimp only))
 all_goals first
  |rfl
  |exact hx
  |assumption
  |exact And.left (show spB _∧_ by assumption)
  |omega
  |skip)
noncomputable def Nw:Sig:= {X:=List UInt8,args:=fun x=>[.sl false 0 1 UInt8 byA x],pre:=fun x=>x.length≤2^21,Y:=List Nd×Int×List UInt8,post:=fun x y=>spB y.1∧0≤y.2.1∧y.2.1≤301,res:=fun x y=> .tup [nds y.1,.int .i64 y.2.1,.str y.2.2],outs:=fun x y=>[.top],keep:=true}
theorem b7c:Am G Tryz.prog 34 Nw:=
 vcFun_okP [(49,0,Ff),(54,0,Nc),(90,0,Kg),(89,0,Nt)] [] false (fun x=>[]) Tryz.func34 rfl (by decide) ⟨Pv,Px,Wl,Wk,trivial⟩ (fun(x:List UInt8)=>True∧cA Ff [byL x] fun x_1 y=>∃(x_2:List UInt8×Int×Int),Ae x_2.1 x_2.2.1∧y.2=y.2∧byL x_1=byL x_2.1∧(0:Int)=x_2.2.1∧y.1=x_2.2.2∧∀(y_1:List UInt8×Int×Int),List.length y_1.1≤(20:Nat)∧Ae x_2.1 y_1.2.1→y.2=y.2∧∃(x_3:Value×List UInt8×Int×Int),Ae x_3.2.1 x_3.2.2.1∧(y.2=y.2∧y.2=x_3.1)∧byL x_2.1=byL x_3.2.1∧y_1.2.1=x_3.2.2.1∧y_1.2.2=x_3.2.2.2∧∀(y_2:List Nd×Int×Int),spB y_2.1∧Ae x_3.2.1 y_2.2.1→y.2=y.2∧∃(x_4:List UInt8×Int×Int×List Nd),(Ae x_4.1 x_4.2.1∧spB x_4.2.2.2)∧y.2=y.2∧byL x_3.2.1=byL x_4.1∧y_2.2.1=x_4.2.1∧y_2.2.2=x_4.2.2.1∧AV.sl false 0 4 Nd (fun(x:Nd)=>fzL (ndA true x)) y_2.1=nds x_4.2.2.2∧∀(y_3:Int×Int×Int),((0:Int)≤y_3.1∧y_3.1≤(301:Int))∧Ae x_4.1 y_3.2.1→y.2=y.2∧rA Nw x [.tup [AV.sl false 0 4 Nd (fun(x:Nd)=>fzL (ndA true x)) y_2.1,.int .i64 y_3.1,.str y_1.1],.top]) (fun x=>by kernel_rfl) fun(x:List UInt8) (hx:x.length≤2^21)=>(by
 dsimp only[CZ,byL,cA,cur,Bn,nds,rA,Nw,Ff,Au,Ax,mvL,lnL,mvE,lnE]
 have hx:x.length≤2^21:=hx
 (repeat' first|(with_reducible first|rfl|exact True.intro|apply AJ|apply And.intro|((first|apply Az|apply AH|apply AA|apply AI)<;>intro _))|(apply Av<;>intro _)|apply AG|refine Af () ?_ ?_|((first|apply AO|apply AN|apply AM|apply AL|apply AF|apply AE|apply AD|apply AC|apply AB)<;>try dsimp only)|apply Af|(refine Prod.forall.2 ?_;intro _;try dsimp only)|(intro _;try dsimp only))
 all_goals(repeat(rename _∧Ae _ _=>hq;obtain⟨_,_⟩:=hq))
 all_goals first
  |rfl
  |exact hx
  |exact Pw hx
  |(with_reducible assumption)
  |(show Ae _ _;with_reducible assumption)
  |omega
  |skip)
noncomputable def Nx:Sig:= {X:=List UInt8,args:=fun x=>[.sl false 0 1 UInt8 byA x],pre:=fun x=>x.length≤2^21,Y:=List Nd×List UInt8,post:=fun x y=>spB y.1∧y.2.length≤20,res:=fun x y=> .tup [AW y.1,.str y.2],outs:=fun x y=>[.top],keep:=true}
theorem b7d:Am G Tryz.prog 35 Nx:=
 vcFun_okP [(49,0,Ff),(54,0,Nc),(89,0,Nt)] [] false (fun x=>[]) Tryz.func35 rfl (by decide) ⟨Pv,Px,Wk,trivial⟩ (fun(x:List UInt8)=>True∧cA Ff [byL x] fun x_1 y=>∃(x_2:List UInt8×Int×Int),Ae x_2.1 x_2.2.1∧y.2=y.2∧byL x_1=byL x_2.1∧(0:Int)=x_2.2.1∧y.1=x_2.2.2∧∀(y_1:List UInt8×Int×Int),List.length y_1.1≤(20:Nat)∧Ae x_2.1 y_1.2.1→y.2=y.2∧∃(x_3:Value×List UInt8×Int×Int),Ae x_3.2.1 x_3.2.2.1∧(y.2=y.2∧y.2=x_3.1)∧byL x_2.1=byL x_3.2.1∧y_1.2.1=x_3.2.2.1∧y_1.2.2=x_3.2.2.2∧∀(y_2:List Nd×Int×Int),spB y_2.1∧Ae x_3.2.1 y_2.2.1→y.2=y.2∧rA Nx x [.tup [AW y_2.1,.str y_1.1],.top]) (fun x=>by kernel_rfl) fun(x:List UInt8) (hx:x.length≤2^21)=>(by
 dsimp only[CZ,byL,cA,cur,Bn,AW,rA,Nx,Ff,Au,Ax,mvL,lnL,mvE,lnE]
 have hx:x.length≤2^21:=hx
 (repeat' first|(with_reducible first|rfl|exact True.intro|apply AJ|apply And.intro|((first|apply Az|apply AH|apply AA|apply AI)<;>intro _))|(apply Av<;>intro _)|apply AG|refine Af () ?_ ?_|((first|apply AO|apply AN|apply AM|apply AL|apply AF|apply AE|apply AD|apply AC|apply AB)<;>try dsimp only)|apply Af|(refine Prod.forall.2 ?_;intro _;try dsimp only)|(intro _;try dsimp only))
 all_goals(repeat(rename _∧Ae _ _=>hq;obtain⟨_,_⟩:=hq))
 all_goals first
  |rfl
  |exact hx
  |exact Pw hx
  |(with_reducible assumption)
  |(show Ae _ _;with_reducible assumption)
  |omega
  |skip)
noncomputable def Kh:Sig:= {X:=List UInt8,args:=fun x=>[.sl false 0 1 UInt8 byA x],pre:=fun x=>x.length≤2^21,Y:=RnX,post:=fun x y=>(spB y.1∧0≤y.2.1∧y.2.1≤301)∧y.2.2.2.length≤20,res:=fun x y=> .tup [nds y.1,.int .i64 y.2.1,.str y.2.2.1,.str y.2.2.2],outs:=fun x y=>[.top],keep:=true}
theorem b7e:Am G Tryz.prog 36 Kh:=
 vcFun_okP [(49,0,Ff),(54,0,Nc),(90,0,Kg),(89,0,Nt),(24,0,GU),(55,0,HF)] [(38,⟨List UInt8,Ag⟩)] false (fun x=>[]) Tryz.func36 rfl (by decide) ⟨Pv,Px,Wl,Wk,UL,MD,trivial⟩ (fun(x:List UInt8)=>True∧cA Ff [byL x] fun x_1 y=>∃(x_2:List UInt8×Int×Int),Ae x_2.1 x_2.2.1∧y.2=y.2∧byL x_1=byL x_2.1∧(0:Int)=x_2.2.1∧y.1=x_2.2.2∧∀(y_1:List UInt8×Int×Int),List.length y_1.1≤(20:Nat)∧Ae x_2.1 y_1.2.1→y.2=y.2∧∃(x_3:List UInt8×Int×Int),Ae x_3.1 x_3.2.1∧y.2=y.2∧byL x_2.1=byL x_3.1∧y_1.2.1=x_3.2.1∧y_1.2.2=x_3.2.2∧∀(y_2:List UInt8×Int×Int),List.length y_2.1≤(20:Nat)∧Ae x_3.1 y_2.2.1→y.2=y.2∧∃(x_4:Value×List UInt8×Int×Int),Ae x_4.2.1 x_4.2.2.1∧(y.2=y.2∧y.2=x_4.1)∧byL x_3.1=byL x_4.2.1∧y_2.2.1=x_4.2.2.1∧y_2.2.2=x_4.2.2.2∧∀(y_3:List Nd×Int×Int),spB y_3.1∧Ae x_4.2.1 y_3.2.1→y.2=y.2∧∃(x_5:List UInt8×Int×Int×List Nd),(Ae x_5.1 x_5.2.1∧spB x_5.2.2.2)∧y.2=y.2∧byL x_4.2.1=byL x_5.1∧y_3.2.1=x_5.2.1∧y_3.2.2=x_5.2.2.1∧AV.sl false 0 4 Nd (fun(x:Nd)=>fzL (ndA true x)) y_3.1=nds x_5.2.2.2∧∀(y_4:Int×Int×Int),((0:Int)≤y_4.1∧y_4.1≤(301:Int))∧Ae x_5.1 y_4.2.1→y.2=y.2∧cA GU [AV.sl false 0 4 Nd (fun(x:Nd)=>fzL (ndA true x)) y_3.1,.int .i64 y_4.1] fun x_6 y_5=>Aa (decide ((↑(List.length (Bz x_6.1 x_6.2)):Int)>(0:Int))) (∃(x_7:List UInt8×Int×Int×Int),Ae x_7.1 x_7.2.1∧y.2=y.2∧byL x_5.1=byL x_7.1∧y_4.2.1=x_7.2.1∧y_4.2.2=x_7.2.2.1∧(2:Int)=x_7.2.2.2∧∀(y_6:Bool×Int×Int),Ae x_7.1 y_6.2.1→y.2=y.2∧Aa y_6.1 (((0:Int)≤(0:Int)∧(0:Int)<(↑(List.length (Bz x_6.1 x_6.2)):Int))∧(0:Nat)<List.length (Bz x_6.1 x_6.2)∧∀(x_8:List UInt8),(Bz x_6.1 x_6.2)[(0:Nat)]? =some x_8→rA Kh x [.tup [AV.sl false 0 4 Nd (fun(x:Nd)=>fzL (ndA true x)) y_3.1,.int .i64 y_4.1,.str x_8,.str y_1.1],.top]) (rA Kh x [.tup [AV.sl false 0 4 Nd (fun(x:Nd)=>fzL (ndA true x)) y_3.1,.int .i64 y_4.1,.str y_2.1,.str y_1.1],.top])) (rA Kh x [.tup [AV.sl false 0 4 Nd (fun(x:Nd)=>fzL (ndA true x)) y_3.1,.int .i64 y_4.1,.str y_2.1,.str y_1.1],.top])) (fun x=>by kernel_rfl) fun(x:List UInt8) (hx:x.length≤2^21)=>(by
 dsimp only[CZ,byL,cA,cur,Bn,nds,BX,Ab,rA,Ff,Kh,GU,Au,Ax,mvL,lnL,mvE,lnE]
 have hx:x.length≤2^21:=hx
 (repeat' first|(with_reducible first|rfl|exact True.intro|apply AJ|apply And.intro|((first|apply Az|apply AH|apply AA|apply AI)<;>intro _))|(apply Av<;>intro _)|apply AG|refine Af () ?_ ?_|((first|apply AO|apply AN|apply AM|apply AL|apply AF|apply AE|apply AD|apply AC|apply AB)<;>try dsimp only)|apply Af|(refine Prod.forall.2 ?_;intro _;try dsimp only)|(intro _;try dsimp only))
 all_goals(repeat(rename _∧Ae _ _=>hq;obtain⟨_,_⟩:=hq))
 all_goals(try(have hS:=Fg (show spB _ by assumption)))
 all_goals first
  |rfl
  |exact hx
  |exact Pw hx
  |exact()
  |exact hS.1.1.1
  |exact hS.1.1.2
  |(with_reducible assumption)
  |(show Ae _ _;with_reducible assumption)
  |omega
  |skip)
noncomputable def Ny:Sig:= {X:=List UInt8,args:=fun x=>[.sl false 0 1 UInt8 byA x],pre:=fun x=>x.length≤2^21,Y:=List Nd×Unit,post:=fun x y=>spB y.1,res:=fun x y=>AW y.1,outs:=fun x y=>[.top],keep:=true}
theorem b7f:Am G Tryz.prog 38 Ny:=
 vcFun_okP [(49,0,Ff),(54,0,Nc)] [] false (fun x=>[]) Tryz.func38 rfl (by decide) ⟨Pv,Px,trivial⟩ (fun(x:List UInt8)=>True∧cA Ff [byL x] fun x_1 y=>∃(x_2:Value×List UInt8×Int×Int),Ae x_2.2.1 x_2.2.2.1∧(y.2=y.2∧y.2=x_2.1)∧byL x_1=byL x_2.2.1∧(0:Int)=x_2.2.2.1∧y.1=x_2.2.2.2∧∀(y_1:List Nd×Int×Int),spB y_1.1∧Ae x_2.2.1 y_1.2.1→y.2=y.2∧rA Ny x [AW y_1.1,.top]) (fun x=>by kernel_rfl) fun(x:List UInt8) (hx:x.length≤2^21)=>(by
 dsimp only[CZ,byL,cA,cur,Bn,AW,rA,Ny,Ff,Au,Ax,mvL,lnL,mvE,lnE]
 have hx:x.length≤2^21:=hx
 (repeat' first|(with_reducible first|rfl|exact True.intro|apply AJ|apply And.intro|((first|apply Az|apply AH|apply AA|apply AI)<;>intro _))|(apply Av<;>intro _)|apply AG|refine Af () ?_ ?_|((first|apply AO|apply AN|apply AM|apply AL|apply AF|apply AE|apply AD|apply AC|apply AB)<;>try dsimp only)|apply Af|(refine Prod.forall.2 ?_;intro _;try dsimp only)|(intro _;try dsimp only))
 all_goals(repeat(rename _∧Ae _ _=>hq;obtain⟨_,_⟩:=hq))
 all_goals first
  |rfl
  |exact hx
  |exact Pw hx
  |exact()
  |(with_reducible assumption)
  |skip)
noncomputable def IA:Sig:= {X:=List Int×Unit,args:=fun x=>[Aq x.1,Aq x.1],pre:=fun x=>x.1.length<2^62,Y:=Unit,post:=fun x y=>True,res:=fun x y=> .bool true,outs:=fun x y=>[.top,.top],keep:=false}
noncomputable def Ss (x:List Int×Unit):LS:= {ι:=Int,inv:=fun i=>0≤i∧i≤x.1.length,regs:=fun i=>[(0,Aq x.1),(1,Aq x.1),(5,.int .i64 i)],als:=[],meas:=fun i=>x.1.length-i.toNat}
theorem a3K:Am G Tryz.prog 39 IA:=
 vcFun_okP [] [] false (fun x=>[(4,Ss x)]) Tryz.func39 rfl (by decide) trivial (fun(x:List Int×Unit)=>(∀(y:Unit),True→True∧True∧True∧True)∧Aa ((↑(List.length x.1):Int) != (↑(List.length x.1):Int)) (rA IA x [.bool false,.top,.top]) (eA (Ss x) [Aq x.1,Aq x.1,.int .i64 (0:Int)]∧∀(i:Int),(0:Int)≤i∧i≤(↑(List.length x.1):Int)→Aa (decide (i<(↑(List.length x.1):Int))) (true=true∧true=true∧((0:Int)≤i∧i<(↑(List.length x.1):Int))∧∀(e:Int),x.1[Int.toNat i]? =some e→((0:Int)≤i∧i<(↑(List.length x.1):Int))∧∀(e_1:Int),x.1[Int.toNat i]? =some e_1→Aa (e != e_1) (rA IA x [.bool false,.top,.top]) (inR IntKind.i64 (i+(1:Int))∧eN (Ss x) i [Aq x.1,Aq x.1,.int .i64 (i+(1:Int))])) (rA IA x [.bool true,.top,.top]))) (fun x=>by kernel_rfl) fun(x:List Int×Unit) (hx:x.1.length<2^62)=>(by
 dsimp only[eA,eN,Ss,Aq,rA,IA,Au,Ax,Bm]
 obtain⟨x,_⟩:=x;dsimp only at hx ⊢
 have hx:x.length<2^62:=hx
 (repeat' first|(with_reducible first|rfl|exact True.intro|apply AJ|apply And.intro|((first|apply Az|apply AH|apply AA|apply AI)<;>intro _))|(apply Av<;>intro _)|apply AG|refine Af () ?_ ?_|((first|apply AO|apply AN|apply AM|apply AL|apply AF|apply AE|apply AD|apply AC|apply AB)<;>try dsimp only)|apply Af|(refine Prod.forall.2 ?_;intro _;try dsimp only)|(intro _;try dsimp only))
 all_goals(try(repeat(rename(_:List Int)[_]? =some _=>hq;revert hq;rename(_:List Int)[_]? =some _=>hr;intro hq;rw[hr] at hq;cases hq)))
 all_goals first
  |rfl
  |omega
  |(exfalso;rename _≠_=>hq;exact hq rfl)
  |(exfalso;rename(_==_)=false=>hq;rw[beq_self_eq_true] at hq;cases hq;done)
  |((try simp only[AR]);omega)
  |skip)
noncomputable def HS:Sig:= {X:=List (List UInt8)×Unit,args:=fun x=>[Ed x.1,Ed x.1],pre:=fun x=>x.1.length<2^62,Y:=Unit,post:=fun x y=>True,res:=fun x y=> .bool true,outs:=fun x y=>[.top,.top],keep:=false}
noncomputable def Su (x:List (List UInt8)×Unit):LS:= {ι:=Int,inv:=fun i=>0≤i∧i≤x.1.length,regs:=fun i=>[(0,Ed x.1),(1,Ed x.1),(5,.int .i64 i)],als:=[],meas:=fun i=>x.1.length-i.toNat}
theorem b7g:Am G Tryz.prog 41 HS:=
 vcFun_okP [] [] false (fun x=>[(4,Su x)]) Tryz.func41 rfl (by decide) trivial (fun(x:List (List UInt8)×Unit)=>(∀(y:Unit),True→True∧True∧True∧True)∧Aa ((↑(List.length x.1):Int) != (↑(List.length x.1):Int)) (rA HS x [.bool false,.top,.top]) (eA (Su x) [AV.sl false 0 1 (List UInt8) Ag x.1,AV.sl false 0 1 (List UInt8) Ag x.1,.int .i64 (0:Int)]∧∀(i:Int),(0:Int)≤i∧i≤(↑(List.length x.1):Int)→Aa (decide (i<(↑(List.length x.1):Int))) (true=true∧true=true∧((0:Int)≤i∧i<(↑(List.length x.1):Int))∧∀(e:List UInt8),x.1[Int.toNat i]? =some e→((0:Int)≤i∧i<(↑(List.length x.1):Int))∧∀(e_1:List UInt8),x.1[Int.toNat i]? =some e_1→Aa (!e==e_1) (rA HS x [.bool false,.top,.top]) (inR IntKind.i64 (i+(1:Int))∧eN (Su x) i [AV.sl false 0 1 (List UInt8) Ag x.1,AV.sl false 0 1 (List UInt8) Ag x.1,.int .i64 (i+(1:Int))])) (rA HS x [.bool true,.top,.top]))) (fun x=>by kernel_rfl) fun(x:List (List UInt8)×Unit) (hx:x.1.length<2^62)=>(by
 dsimp only[eA,eN,Su,Ed,rA,HS,Au,Ax,Bm]
 obtain⟨x,_⟩:=x;dsimp only at hx ⊢
 have hx:x.length<2^62:=hx
 (repeat' first|(with_reducible first|rfl|exact True.intro|apply AJ|apply And.intro|((first|apply Az|apply AH|apply AA|apply AI)<;>intro _))|(apply Av<;>intro _)|apply AG|refine Af () ?_ ?_|((first|apply AO|apply AN|apply AM|apply AL|apply AF|apply AE|apply AD|apply AC|apply AB)<;>try dsimp only)|apply Af|(refine Prod.forall.2 ?_;intro _;try dsimp only)|(intro _;try dsimp only))
 all_goals(try(repeat(rename(_:List (List UInt8))[_]? =some _=>hq;revert hq;rename(_:List (List UInt8))[_]? =some _=>hr;intro hq;rw[hr] at hq;cases hq)))
 all_goals first
  |rfl
  |omega
  |(exfalso;rename _≠_=>hq;exact hq rfl)
  |(exfalso;rename(_==_)=false=>hq;rw[beq_self_eq_true] at hq;cases hq;done)
  |((try simp only[AR]);omega)
  |skip)
noncomputable def IB:Sig:= {X:=List Nd×Unit,args:=fun x=>[nds x.1,nds x.1],pre:=fun x=>Be x.1,Y:=Unit,post:=fun x y=>True,res:=fun x y=> .bool true,outs:=fun x y=>[.top,.top],keep:=false}
noncomputable def Sv (x:List Nd×Unit):LS:= {ι:=Int,inv:=fun i=>0≤i∧i≤x.1.length,regs:=fun i=>[(0,nds x.1),(1,nds x.1),(5,.int .i64 i)],als:=[],meas:=fun i=>x.1.length-i.toNat}
theorem b7h:Am G Tryz.prog 30 IB:=
 vcFun_okP [(39,0,IA)] [] false (fun x=>[(4,Sv x)]) Tryz.func30 rfl (by decide) ⟨a3K,trivial⟩ (fun(x:List Nd×Unit)=>(∀(y:Unit),True→True∧True∧True∧True)∧Aa ((↑(List.length x.1):Int) != (↑(List.length x.1):Int)) (rA IB x [.bool false,.top,.top]) (eA (Sv x) [nds x.1,nds x.1,.int .i64 (0:Int)]∧∀(i:Int),(0:Int)≤i∧i≤(↑(List.length x.1):Int)→Aa (decide (i<(↑(List.length x.1):Int))) (true=true∧true=true∧((0:Int)≤i∧i<(↑(List.length x.1):Int))∧∀(e:Nd),x.1[Int.toNat i]? =some e→((0:Int)≤i∧i<(↑(List.length x.1):Int))∧∀(e_1:Nd),x.1[Int.toNat i]? =some e_1→Aa (e.kind != e_1.kind) (rA IB x [.bool false,.top,.top]) (((0:Int)≤i∧i<(↑(List.length x.1):Int))∧∀(e:Nd),x.1[Int.toNat i]? =some e→((0:Int)≤i∧i<(↑(List.length x.1):Int))∧∀(e_2:Nd),x.1[Int.toNat i]? =some e_2→Aa (!e.text==e_2.text) (rA IB x [.bool false,.top,.top]) (((0:Int)≤i∧i<(↑(List.length x.1):Int))∧∀(e:Nd),x.1[Int.toNat i]? =some e→((0:Int)≤i∧i<(↑(List.length x.1):Int))∧∀(e_3:Nd),x.1[Int.toNat i]? =some e_3→Aa (!e.blank==e_3.blank) (rA IB x [.bool false,.top,.top]) (((0:Int)≤i∧i<(↑(List.length x.1):Int))∧∀(e:Nd),x.1[Int.toNat i]? =some e→((0:Int)≤i∧i<(↑(List.length x.1):Int))∧∀(e_4:Nd),x.1[Int.toNat i]? =some e_4→∃(x_1:List Int×Unit),List.length x_1.1<(4611686018427387904:Nat)∧Aq e.kids=Aq x_1.1∧Aq e_4.kids=Aq x_1.1∧∃(y0:Unit),(∀(y:Unit),True→AV.bool true=AV.bool true)∧true=true∧inR IntKind.i64 (i+(1:Int))∧eN (Sv x) i [nds x.1,nds x.1,.int .i64 (i+(1:Int))])))) (rA IB x [.bool true,.top,.top]))) (fun x=>by kernel_rfl) fun(x:List Nd×Unit) (hx:Be x.1)=>(by
 dsimp only[eA,eN,Sv,Aq,Bn,nds,rA,IB,Au,Ax,Bm]
 obtain⟨x,_⟩:=x;dsimp only at hx ⊢
 have h1:=hx.1
 (repeat' first|(with_reducible first|rfl|exact True.intro|apply AJ|apply And.intro|((first|apply Az|apply AH|apply AA|apply AI)<;>intro _))|(apply Av<;>intro _)|apply AG|refine Af () ?_ ?_|((first|apply AO|apply AN|apply AM|apply AL|apply AF|apply AE|apply AD|apply AC|apply AB)<;>try dsimp only)|apply Af|(refine Prod.forall.2 ?_;intro _;try dsimp only)|(intro _;try dsimp only))
 all_goals(try((repeat(rename(_:List Nd)[Int.toNat _]? =some _=>hq;have hqe:=Bg hq;subst hqe;revert hq));intros))
 all_goals first
  |rfl
  |omega
  |exact()
  |(exfalso;rename _≠_=>hq;exact hq rfl)
  |(exfalso;rename(_==_)=false=>hq;rw[beq_self_eq_true] at hq;cases hq;done)
  |exact(hx.2 _ (Cz ‹_›)).2
  |((try simp only[AR]);omega)
  |skip)
end Go.My
end
section
set_option linter.unusedVariables false
set_option linter.unusedSimpArgs false
namespace Go.My
open Go.Eng Go.Proofs
variable {G:GInv}
end Go.My
end
section
set_option linter.unusedVariables false
set_option linter.unusedSimpArgs false
namespace Go.My
open Go.Eng Go.Proofs
variable {G:GInv}
attribute [local irreducible] BC Ct BT eqF spB
end Go.My
end
section
set_option linter.unusedVariables false
set_option linter.unusedSimpArgs false
namespace Go.My
open Go.Eng Go.Proofs
variable {G:GInv}
theorem a3L{L:List Nd}(h:spB L):(Be L∧L.length≤2^20)∧∀e∈L,e.kids.length≤2^20:=⟨⟨(Fg h).1.1.1,by have:=(Fg h).1.2;omega⟩,(Fg h).2⟩
theorem Nz{α:Type}{l:List α}{n:Nat}(h:l.length≤n)(hn:n≤2^30):l.length<2^62:=by omega
theorem spU{L:List Nd}{k:Int}(h:spB L):(Ah L k).length<2^62:=Nz Hz (Fg h).1.1.2
theorem spN{L:List Nd}{k:Int}(h:spB L):(Bz L k).length<2^62:=Nz UH (Fg h).1.1.2
theorem spE{L:List Nd}{k:Int}(h:spB L):(Bh L k).length<2^62:=Nz UI (Fg h).1.1.2
theorem spF{L:List Nd}{k:Int}(h:spB L):(FL L k).length<2^62:=Nz (Nat.le_trans (List.length_filter_le _ _) UH) (Fg h).1.1.2
theorem spX{L:List Nd}{k:Int}(h:spB L):(FM L k).length<2^62:=Nz (Nat.le_trans (List.length_filter_le _ _) UI) (Fg h).1.1.2
theorem spM{L:List Nd}(h:spB L):(Cl L).length<2^62:=Nz UQ (Fg h).1.1.2
theorem spR{x:RnX}(h:spB x.1)(ht:x.2.2.2.length≤20):Be (Gz x):=by
 unfold Gz
 split
 ·refine⟨by rw[US];exact(Fg h).1.1.1.1,fun e he=> ?_⟩
  obtain⟨j,hj⟩:=List.mem_iff_getElem?.1 he
  rw[Le,Option.map_eq_some_iff] at hj
  obtain⟨y,hy,rfl⟩:=hj
  have hok:=(Fg h).1.1.1.2 y (List.mem_of_getElem? hy)
  split
  ·exact⟨by show x.2.2.2.length<2^62;omega,hok.2⟩
  ·exact hok
 ·exact(Fg h).1.1.1
attribute [local irreducible] spB Cl Ah Bz Bh FL FM CL Ew Db Gz
noncomputable def Lz:Sig:= {X:=List UInt8,args:=fun x=>[.sl false 0 1 UInt8 byA x],pre:=fun x=>x.length<2^63,Y:=Unit,post:=fun x y=>True,res:=fun x y=> .bool true,outs:=fun x y=>[.top],keep:=false}
theorem b7i(hT:PD G):Am G Tryz.prog 5 Lz:=
 vcFun_okP [(6,0,Ns),(33,0,Nv),(34,0,Nw),(35,0,Nx),(36,0,Kh),(38,0,Ny),(28,0,HQ),(37,0,HR),(39,0,IA),(41,0,HS),(30,0,IB),(31,0,Dx),(40,0,Dy),(22,0,IT),(24,0,GU),(21,0,Hh),(23,0,Hi),(25,0,Nj),(42,0,Nk),(26,0,Nl),(43,0,Nn),(29,0,Ip),(44,0,Iq),(27,0,Kf),(45,0,Iz),(46,0,It),(47,0,Gk)] [] false (fun x=>[]) Tryz.func5 rfl (by decide) ⟨b6X,b7b,b7c,b7d,b7e,b7f,b6r,b6s,a3K,b7g,b7h,Mw,Mx,ZU,UL,Wf,Wg,b6t,b6u,b6v,b6w,a0D,a0E,(b6V hT),b6W,a1j,UU,trivial⟩ (fun(x:List UInt8)=>(∀(y:Unit),True→True∧True∧True)∧cA Ns [byL x] fun x_1 y=>Aa (decide ((↑(List.length x_1):Int)>(1048576:Int))) (rA Lz x [.bool true,.top]) (cA Nv [byL x] fun x_2 y=>cA Nw [byL x] fun x_3 y_1=>cA Nx [byL x] fun x_4 y_2=>cA Kh [byL x] fun x_5 y_3=>cA HQ [nds y_3.1,.int .i64 y_3.2.1,.str y_3.2.2.1,.str y_3.2.2.2] fun x_6 y_4=>cA HR [nds y_3.1,.int .i64 y_3.2.1,.str y_3.2.2.1,.str y_3.2.2.2] fun x_7 y_5=>cA Ny [byL x] fun x_8 y_6=>cA Dx [nds y.1,.int .i64 y.2] fun x_9 y_7=>cA Dy [nds y.1,.int .i64 y.2] fun x_10 y_8=>cA IA [Ab (Ah x_9.1 x_9.2),Ab (Ah x_10.1 x_10.2)] fun x_11 y_9=>cA IT [nds y.1,.int .i64 y.2] fun x_12 y_10=>cA GU [nds y.1,.int .i64 y.2] fun x_13 y_11=>cA HS [AV.sl true 0 1 (List UInt8) Ag (Bz x_12.1 x_12.2),AV.sl true 0 1 (List UInt8) Ag (Bz x_13.1 x_13.2)] fun x_14 y_12=>cA Hh [nds y.1,.int .i64 y.2] fun x_15 y_13=>cA Hi [nds y.1,.int .i64 y.2] fun x_16 y_14=>cA HS [AV.sl true 0 1 (List UInt8) Ag (Bh x_15.1 x_15.2),AV.sl true 0 1 (List UInt8) Ag (Bh x_16.1 x_16.2)] fun x_17 y_15=>cA Nj [nds y.1,.int .i64 y.2] fun x_18 y_16=>cA Nk [nds y.1,.int .i64 y.2] fun x_19 y_17=>cA HS [AV.sl true 0 1 (List UInt8) Ag (FL x_18.1 x_18.2),AV.sl true 0 1 (List UInt8) Ag (FL x_19.1 x_19.2)] fun x_20 y_18=>cA Nl [nds y.1,.int .i64 y.2] fun x_21 y_19=>cA Nn [nds y.1,.int .i64 y.2] fun x_22 y=>cA HS [AV.sl true 0 1 (List UInt8) Ag (FM x_21.1 x_21.2),AV.sl true 0 1 (List UInt8) Ag (FM x_22.1 x_22.2)] fun x_23 y=>cA Ip [nds y_1.1,.int .i64 y_1.2.1,.str y_1.2.2] fun x_24 y=>cA Iq [nds y_1.1,.int .i64 y_1.2.1,.str y_1.2.2] fun x_25 y=>Aa (CL x_24.1 x_24.2.1 x_24.2.2==CL x_25.1 x_25.2.1 x_25.2.2) (cA Kf [AW y_2.1,.str y_2.2] fun x_26 y=>cA Iz [AW y_2.1,.str y_2.2] fun x_27 y=>Aa (Ew x_26.1 x_26.2==Ew x_27.1 x_27.2) (Aa (Db x_6==Db x_7) (cA IB [AW (Gz x_6),AW (Gz x_7)] fun x_28 y=>cA It [AW y_6.1] fun x_29 y=>cA Gk [AW y_6.1] fun x_30 y=>cA IA [Ab (Cl x_29.1),Ab (Cl x_30.1)] fun x_31 y=>rA Lz x [.bool true,.top]) (rA Lz x [.bool false,.top])) (rA Lz x [.bool false,.top])) (rA Lz x [.bool false,.top]))) (fun x=>by kernel_rfl) fun(x:List UInt8) (hx:x.length<2^63)=>(by
 dsimp only[BO,CZ,byL,cA,Wi,Aq,Bn,nds,BX,Ed,Ab,AW,rA,Ns,Nw,Nx,Ny,Kh,Nv,Ip,Nj,Kf,Hh,It,IT,HQ,Dx,Nl,Lz,Iq,Nk,Iz,Hi,Gk,GU,HR,Dy,Nn,IA,IB,HS,Au,Ax,mvL,lnL,mvE,lnE]
 have hx:x.length<2^63:=hx
 (repeat' first|(with_reducible first|rfl|exact True.intro|apply AJ|apply And.intro|((first|apply Az|apply AH|apply AA|apply AI)<;>intro _))|(apply Av<;>intro _)|apply AG|refine Af () ?_ ?_|((first|apply AO|apply AN|apply AM|apply AL|apply AF|apply AE|apply AD|apply AC|apply AB)<;>try dsimp only)|apply Af|(refine Prod.forall.2 ?_;intro _;try dsimp only)|(intro _;try dsimp only))
 all_goals(repeat(rename(spB _∧_)∧_=>hq;obtain⟨⟨_,_⟩,_⟩:=hq))
 all_goals(repeat(rename spB _∧_=>hq;obtain⟨_,_⟩:=hq))
 all_goals first
  |rfl
  |omega
  |exact()
  |exact(Fg (by with_reducible assumption)).1.1.1
  |exact(Fg (by with_reducible assumption)).1.1.2
  |exact(a3L (by with_reducible assumption)).1.2
  |(have hm:=(show(_:Nd)∈(_:List Nd) by assumption);exact(a3L (by with_reducible assumption)).2 _ hm)
  |exact spU (by with_reducible assumption)
  |exact spN (by with_reducible assumption)
  |exact spE (by with_reducible assumption)
  |exact spF (by with_reducible assumption)
  |exact spX (by with_reducible assumption)
  |exact spM (by with_reducible assumption)
  |exact spR (by with_reducible assumption) (by with_reducible assumption)
  |(exfalso;rename _≠_=>hq;exact hq rfl)
  |(exfalso;rename(_==_)=false=>hq;rw[beq_self_eq_true] at hq;cases hq;done)
  |skip)
end Go.My
end
section
set_option linter.unusedVariables false
set_option linter.unusedSimpArgs false
namespace Go.Eng
open Go.ChangeShapes Go.WideShapes Go.ChangeAt Go.RowKit
theorem b7j{Z Z' A':FP}{w w':World}(h:After Z w (fun _=>False) Z' w' A'):Below w.heap.size w w':=
 ⟨h.os,h.tape,h.output,h.size,fun b hb=>(h.old b hb (fun x=>x)).1⟩
theorem a3M{H:Type}{enc:TypeId×Value→H}{P:Program}(hl:laidOutB P=true){W W':World}(hb:Below W.heap.size W W'):
 ∀(ts:List TypeId) (vs:List Value) (ds:List (DataW H)) (ps:List MemPlace),ts.all (fun t=>P.readableRec t&&decide (t<P.types.size))=true→
 DataW.TrodAll enc P W 0 (fun _=>true) true ts vs ds ps→(∀x∈ps,x.block<W.heap.size)→DataW.TrodAll enc P W' 0 (fun b=>decide (b<W.heap.size)) true ts vs ds ps
 |[],[],[],ps,ht,h,hp=>h
 |t::ts,v::vs,d::ds,ps,ht,h,hp=>by
  obtain⟨p,q,h1,h2,rfl⟩:=h
  simp only[List.all_cons,Bool.and_eq_true,decide_eq_true_eq] at ht
  exact⟨p,q,Below.trod hl ht.1.1 ht.1.2 h1 hb (fun x hx=>hp x (List.mem_append_left _ hx)),a3M hl hb ts vs ds q ht.2 h2 (fun x hx=>hp x (List.mem_append_right _ hx)),rfl⟩
 |[],_::_,_,_,ht,h,hp=>h.elim
 |[],[],_::_,_,ht,h,hp=>h.elim
 |_::_,[],_,_,ht,h,hp=>h.elim
 |_::_,_::_,[],_,ht,h,hp=>h.elim
theorem b7k{H:Type}{enc:TypeId×Value→H}{P:Program}{f:Func}{s:ChangeSpec}{W W':World}{args:Array Value}{ds gs:List (DataW H)}{before:List MemPlace}{tb:TypeId}
 (hl:laidOutB P=true) (ht:f.params.toList.all (fun t=>P.readableRec t&&decide (t<P.types.size))=true) (hv:s.vars=[])
 (hs:s.fn H ds= {results:=[.lit (.bool true)],args:=ds}) (hr:f.resultTypes= #[tb]) (htb:P.underlying tb=some .bool)
 (hW:DataW.Whole enc P f.params.toList s.vars false W args.toList ds gs before) (hb:Below W.heap.size W W'):s.post enc P f false true false false W args (.bool true) W':=by
 have hW0:=hW
 obtain⟨p,q,hA,hV,rfl,hfz,hnd⟩:=hW
 rw[hv] at hV
 obtain⟨rfl,rfl⟩:=trodVars_none hV
 refine⟨ds,[],p++[],[],p,[],hW0,?_,?_,?_,hb.frame _,fun h=>by cases h⟩
 ·simp only[List.append_nil]
  rw[hs,hr]
  exact trodAll_mk1 (shut_bool htb _)
 ·simp only[List.append_nil]
  rw[hs]
  exact a3M hl hb _ _ _ _ ht hA (fun x hx=>by simpa using hW0.lt x (by simpa using hx))
 ·simp only[List.append_nil]
  rw[hs,hv]
  rfl
def b7l(X:Type)(args:X→List AV)(pre:X→Prop)(n:Nat):Sig:=
 {X:=X,args:=args,pre:=pre,Y:=Unit,post:=fun _ _=>True,res:=fun _ _=> .bool true,outs:=fun _ _=>List.replicate n .top,keep:=false}
theorem b7m{H:Type}{enc:TypeId×Value→H}{P:Program}{fi:FuncId}{f:Func}{s:ChangeSpec}{W:World}{args:Array Value}{ds gs:List (DataW H)}{before:List MemPlace}{tb:TypeId}
 {X:Type} {azs:X→List AV} {pre:X→Prop} {n:Nat} {G:GInv} (hc:Am G P fi (b7l X azs pre n)) (hG:G.p (Old W) W)
 (hl:laidOutB P=true) (ht:f.params.toList.all (fun t=>P.readableRec t&&decide (t<P.types.size))=true) (hv:s.vars=[])
 (hs:s.fn H ds= {results:=[.lit (.bool true)],args:=ds}) (hr:f.resultTypes= #[tb]) (htb:P.underlying tb=some .bool)
 (hW:DataW.Whole enc P f.params.toList s.vars false W args.toList ds gs before)
 (ho:∃x,pre x∧AZ (Old W) W (azs x) args.toList (fun _=>False)):
 Calls P fi args W fun e W'=>∃v,e= .returned v∧s.post enc P f false true false false W args v W':=by
 obtain⟨x,hx,hrel⟩:=ho
 refine(hc.2 x hx (Old W) W args.toList _ hG hrel (fun b h=>h.elim) trivial).mono fun e W' h=> ?_
 obtain⟨y,v,Z',A',_,rfl,hr2,hafter⟩:=h
 simp only[AZ] at hr2
 obtain⟨v',us,A1,A2,e1,_,h1,_⟩:=hr2
 simp only[List.cons.injEq] at e1
 obtain⟨rfl,_⟩:=e1
 have:v= .bool true:=by
  have h1:Al Z' W' (.bool true) v A1:=h1
  simp only[Al] at h1;exact h1.1
 subst this
 exact⟨_,rfl,b7k hl ht hv hs hr htb hW (b7j hafter)⟩
end Go.Eng
end
section
set_option linter.unusedVariables false
set_option linter.unusedSimpArgs false
namespace Go.Eng
open Go.ChangeShapes Go.WideShapes Go.ChangeAt Go.RowKit
theorem b7n{H:Type}{enc:TypeId×Value→H}{P:Program}{t:TypeId}{α:Type}{f:α→AV}{good:α→Prop}(hO:IX P t (fun x=>[f x]) good){W:World}{v:Value}(hc:Cw v)
 {d:DataW H} {ps:List MemPlace} (h:DataW.Trod enc P W 0 (fun _=>true) true t v d ps):∃x,good x∧Al (Old W) W (f x) v (fun _=>False):=by
 obtain⟨fuel,hf⟩:=h
 rw[LJ hc] at hf
 obtain⟨x,hg,hr⟩:=hO enc W _ _ fuel _ _ hf
 exact⟨x,hg,Rg.1 hr⟩
theorem b7o{H:Type}{enc:TypeId×Value→H}{P:Program}{t e:TypeId}{α:Type}{f:α→AV}{good:α→Prop}(ht:P.underlying t=some (.slice e))(hO:IX P t (fun x=>[f x]) good)
 {W:World} {r:Reach} {base:Nat} {v:Value} (hv:Value.okWide P W r base t v)
 {d:DataW H} {ps:List MemPlace} (h:DataW.Trod enc P W 0 (fun _=>true) true t v d ps):∃x,good x∧Al (Old W) W (f x) v (fun _=>False):=
 b7n hO (by obtain⟨a,l,c,rfl⟩:=okWide_slice ht hv;trivial) h
theorem b7p{Z:FP}{w:World}:AZ Z w [] [] (fun _=>False):=⟨rfl,AS⟩
end Go.Eng
end
section
set_option linter.unusedVariables false
set_option maxRecDepth 100000
namespace Go.My
open Go.Eng Go.Proofs
variable {G:GInv}
theorem opens_mapP{P:Program}{t:TypeId}{α β:Type}{f:α→List AV}{g:β→List AV}{p:α→Prop}{q:β→Prop}(m:α→β)(ho:IX P t f p)(hf:∀x,p x→f x=g (m x))(hg:∀x,p x→q (m x)):IX P t g q:=by
 intro H enc w spare held fuel cs y h
 obtain⟨x,hx,hr⟩:=ho enc w _ _ fuel _ _ h
 exact⟨m x,hg x hx,by rw[←hf x hx];exact hr⟩
theorem b7q:IX Tryz.prog 5 byA (fun _=>True):=
 opens_mapP (fun n:Int=>UInt8.ofNat n.toNat) (a9A (k:= .u8) rfl) (fun x h=>by
  have h1:0≤x∧x≤255:=by have h1:IntKind.min .u8≤x:=h.1;have h2:x≤IntKind.max .u8:=h.2;have e1:IntKind.min .u8=0:=rfl;have e2:IntKind.max .u8=255:=rfl;omega
  have:(UInt8.ofNat x.toNat).toNat=x.toNat:=by simp;omega
  rw[CZ,this];congr 2;omega) (fun _ _=>trivial)
theorem b7r:IX Tryz.prog 22 (fun l:List UInt8=>[.sl false 0 1 UInt8 byA l]) (fun l=>l.length<2^63):=
 opens_mapP (fun l=>l) (a9B (e:=5) rfl (by kernel_rfl) (by decide) b7q) (fun _ _=>rfl) (fun _ h=>h.1)
end Go.My
end
