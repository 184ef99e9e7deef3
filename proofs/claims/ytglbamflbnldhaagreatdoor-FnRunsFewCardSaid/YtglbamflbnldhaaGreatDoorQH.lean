/- joined -/
import Derived.Test.YtglbamflbnldhaaGreatDoorQG
set_option linter.unusedSimpArgs false
set_option linter.unusedVariables false
section
namespace Go.My
open Go.Eng Go.Proofs
variable {G:GInv}
theorem a1P{a:Int}{b:List UInt8}{c:List Int}{d:Bool}{o:Bool}{i:Nat}{q:Nd→Prop}(h:q ⟨a,b,c,d⟩):∃x:Nd,a=x.kind∧b=x.text∧AV.sl o i 1 Int AZ c=AV.sl o i 1 Int AZ x.kids∧d=x.blank∧q x:=⟨⟨a,b,c,d⟩,rfl,rfl,rfl,rfl,h⟩
theorem AL{α β γ δ ε ζ η:Type}{p q:α×β×γ×δ×ε×ζ×η→Prop}(a:α)(b:β)(c:γ)(d:δ)(e:ε)(f:ζ)(g:η)(h2:q (a,b,c,d,e,f,g))(h1:p (a,b,c,d,e,f,g)):∃x,p x∧q x:=⟨_,h1,h2⟩
theorem AM{α β γ δ ε ζ η θ:Type}{p q:α×β×γ×δ×ε×ζ×η×θ→Prop}(a:α)(b:β)(c:γ)(d:δ)(e:ε)(f:ζ)(g:η)(h:θ)(h2:q (a,b,c,d,e,f,g,h))(h1:p (a,b,c,d,e,f,g,h)):∃x,p x∧q x:=⟨_,h1,h2⟩
theorem AN{α β γ δ ε ζ η θ ι:Type}{p q:α×β×γ×δ×ε×ζ×η×θ×ι→Prop}(a:α)(b:β)(c:γ)(d:δ)(e:ε)(f:ζ)(g:η)(h:θ)(i:ι)(h2:q (a,b,c,d,e,f,g,h,i))(h1:p (a,b,c,d,e,f,g,h,i)):∃x,p x∧q x:=⟨_,h1,h2⟩
theorem AO{α β γ δ ε ζ η θ ι κ:Type}{p q:α×β×γ×δ×ε×ζ×η×θ×ι×κ→Prop}(a:α)(b:β)(c:γ)(d:δ)(e:ε)(f:ζ)(g:η)(h:θ)(i:ι)(j:κ)(h2:q (a,b,c,d,e,f,g,h,i,j))(h1:p (a,b,c,d,e,f,g,h,i,j)):∃x,p x∧q x:=⟨_,h1,h2⟩
structure ST where
 sg:List Sg
 z:Int
 ms:List (Int×Int)
def mbs(ms:List (Int×Int)):AV:= .sl true 0 2 (Int×Int) (fun p=>[.int .i64 p.1,.int .i64 p.2]) ms
def rdG(s:ST)(g:Gs):AV:= .box 0 [sgs s.sg,.int .i64 s.z,.int .i64 g.pos,.int .i64 g.deep,.bool g.bad,Av g.nodes,mbs s.ms]
abbrev xg (x:ST×Int×Int×Bool×List Nd):Gs:=⟨x.2.1,x.2.2.1,x.2.2.2.1,x.2.2.2.2⟩
abbrev xh {α:Type} (x:ST×Int×Int×Bool×List Nd×α):Gs:=⟨x.2.1,x.2.2.1,x.2.2.2.1,x.2.2.2.2.1⟩
abbrev yG (y:Int×Int×Bool×List Nd):Gs:=⟨y.1,y.2.1,y.2.2.1,y.2.2.2⟩
abbrev yS {α:Type} (y:α×Int×Int×Bool×List Nd):α×Gs:=(y.1,⟨y.2.1,y.2.2.1,y.2.2.2.1,y.2.2.2.2⟩)
def rOk(s:ST)(g:Gs):Prop:=sgB s.sg∧gsOk s.sg g
theorem DV{s:ST}{g:Gs}(h:rOk s g):((0≤g.pos∧g.pos≤s.sg.length)∧(0≤g.deep∧g.deep≤21))∧g.nodes.length≤300∧s.sg.length≤3000:=⟨⟨h.2.1,h.2.2.1⟩,h.2.2.2.1,h.1.1⟩
theorem VZ{sg:List Sg}{g:Gs}{n:Int}(h:g.bad=true∨(sg.length:Int)≤g.pos+n):pkG sg g n=EL:=if_pos h
theorem Wa{sg:List Sg}{g:Gs}{n:Int}{e:Sg}(he:sg[(g.pos+n).toNat]? =some e)(hb:g.bad=false)(hl:¬(sg.length:Int)≤g.pos+n):pkG sg g n=e:=by
 rw[pkG,if_neg (by simp [hb];omega),Jv he]
def EO:Sig:= {X:=ST×Int×Int×Bool×List Nd×Int,args:=fun x=>[rdG x.1 (xh x),.int .i64 x.2.2.2.2.2],pre:=fun x=>rOk x.1 (xh x)∧0≤x.2.2.2.2.2∧x.2.2.2.2.2≤2^20,Y:=Unit,post:=fun x y=>True,res:=fun x y=> .agg (sgA (pkG x.1.sg (xh x) x.2.2.2.2.2)),outs:=fun x y=>[rdG x.1 (xh x),.top],keep:=true}
def RE(x:ST×Int×Int×Bool×List Nd×Int):LS:= {ι:=Unit,inv:=fun _=>True,regs:=fun _=>[(0,rdG x.1 (xh x)),(4,.box 0 (sgA (pkG x.1.sg (xh x) x.2.2.2.2.2)))],als:=[],meas:=fun _=>0}
theorem RF:Ai G Tryz.prog 178 EO:=
 vcFun_okP [] [] false (fun x=>[(100003,RE x)]) Tryz.func178 rfl (by decide) trivial (fun(x:ST×Int×Int×Bool×List Nd×Int)=>True∧true=true∧true=true∧Aa (xh x).bad (∃(y:Unit),True∧(0:Int)=(pkG x.1.sg (xh x) x.2.2.2.2.2).kind∧ #[].toList=(pkG x.1.sg (xh x) x.2.2.2.2.2).text∧(0:Int)=(pkG x.1.sg (xh x) x.2.2.2.2.2).pos∧false=(pkG x.1.sg (xh x) x.2.2.2.2.2).blank∧sgs x.1.sg=sgs x.1.sg∧x.1.z=x.1.z∧(xh x).pos=(xh x).pos∧(xh x).deep=(xh x).deep∧(xh x).bad=(xh x).bad∧Av (xh x).nodes=Av (xh x).nodes∧mbs x.1.ms=mbs x.1.ms∧True) (inR IntKind.i64 ((xh x).pos+x.2.2.2.2.2)∧Aa (decide ((xh x).pos+x.2.2.2.2.2≥(↑(List.length x.1.sg):Int))) (∃(y:Unit),True∧(0:Int)=(pkG x.1.sg (xh x) x.2.2.2.2.2).kind∧ #[].toList=(pkG x.1.sg (xh x) x.2.2.2.2.2).text∧(0:Int)=(pkG x.1.sg (xh x) x.2.2.2.2.2).pos∧false=(pkG x.1.sg (xh x) x.2.2.2.2.2).blank∧sgs x.1.sg=sgs x.1.sg∧x.1.z=x.1.z∧(xh x).pos=(xh x).pos∧(xh x).deep=(xh x).deep∧(xh x).bad=(xh x).bad∧Av (xh x).nodes=Av (xh x).nodes∧mbs x.1.ms=mbs x.1.ms∧True) (true=true∧((inR IntKind.i64 ((xh x).pos+x.2.2.2.2.2)∧((0:Int)≤(xh x).pos+x.2.2.2.2.2∧(xh x).pos+x.2.2.2.2.2<(↑(List.length x.1.sg):Int))∧∀(e:Sg),x.1.sg[Int.toNat ((xh x).pos+x.2.2.2.2.2)]? =some e→true=true∧eA (RE x) [rdG x.1 (xh x),.box 0 [.int .i64 e.kind,.str e.text,.int .i64 e.pos,.bool e.blank]])∧inR IntKind.i64 ((xh x).pos+x.2.2.2.2.2)∧((0:Int)≤(xh x).pos+x.2.2.2.2.2∧(xh x).pos+x.2.2.2.2.2<(↑(List.length x.1.sg):Int))∧∀(e:Sg),x.1.sg[Int.toNat ((xh x).pos+x.2.2.2.2.2)]? =some e→true=true∧eA (RE x) [rdG x.1 (xh x),.box 0 [.int .i64 e.kind,.str e.text,.int .i64 e.pos,.bool e.blank]])∧∀(i:Unit),True→∃(y:Unit),True∧(pkG x.1.sg (xh x) x.2.2.2.2.2).kind=(pkG x.1.sg (xh x) x.2.2.2.2.2).kind∧(pkG x.1.sg (xh x) x.2.2.2.2.2).text=(pkG x.1.sg (xh x) x.2.2.2.2.2).text∧(pkG x.1.sg (xh x) x.2.2.2.2.2).pos=(pkG x.1.sg (xh x) x.2.2.2.2.2).pos∧(pkG x.1.sg (xh x) x.2.2.2.2.2).blank=(pkG x.1.sg (xh x) x.2.2.2.2.2).blank∧sgs x.1.sg=sgs x.1.sg∧x.1.z=x.1.z∧(xh x).pos=(xh x).pos∧(xh x).deep=(xh x).deep∧(xh x).bad=(xh x).bad∧Av (xh x).nodes=Av (xh x).nodes∧mbs x.1.ms=mbs x.1.ms∧True))) (fun x=>by kernel_rfl) fun(x:ST×Int×Int×Bool×List Nd×Int) (hx:rOk x.1 (xh x)∧0≤x.2.2.2.2.2∧x.2.2.2.2.2≤2^20)=>(by
 dsimp only[eA,RE,mbs,Bc,Av,rdG,Bu,sgs,Au,Az,Bq]
 obtain⟨s,p,d,b,ns,e⟩:=x;dsimp only[xg,xh] at hx ⊢
 obtain⟨h1,h2,h3⟩:=hx;have hs:=DV h1;dsimp only at hs
 (repeat' first|(with_reducible first|rfl|exact True.intro|apply AK|apply And.intro|((first|apply AA|apply AI|apply AB|apply AJ)<;>intro _))|(apply Ax<;>intro _)|apply AH|refine Ae () ?_ ?_|((first|apply AO|apply AN|apply AM|apply AL|apply AG|apply AF|apply AE|apply AD|apply AC)<;>try dsimp only)|apply Ae|(refine Prod.forall.2 ?_;intro _;try dsimp only)|(intro _;try dsimp only))
 all_goals first
  |rfl
  |(rw[VZ (.inl ‹_›)];rfl)
  |(rw[VZ (.inr (by omega))];rfl)
  |(rw[Wa ‹_› ‹_› (by omega)];done)
  |((try simp only[AR]);omega)
  |skip)
def Cr:Sig:= {X:=ST×Int×Int×Bool×List Nd,args:=fun x=>[rdG x.1 (xg x)],pre:=fun x=>rOk x.1 (xg x),Y:=Unit,post:=fun x y=>True,res:=fun x y=> .agg (sgA (pkG x.1.sg (xg x) 0)),outs:=fun x y=>[rdG x.1 (xg x)],keep:=true}
theorem Hy:Ai G Tryz.prog 133 Cr:=
 vcFun_okP [(178,0,EO)] [] false (fun x=>[]) Tryz.func133 rfl (by decide) ⟨RF,trivial⟩ (fun(x:ST×Int×Int×Bool×List Nd)=>True∧cA EO [rdG x.1 (xg x),.int .i64 (0:Int)] fun x_1 y=>∃(y:Unit),True∧(pkG x_1.1.sg (xh x_1) x_1.2.2.2.2.2).kind=(pkG x.1.sg (xg x) (0:Int)).kind∧(pkG x_1.1.sg (xh x_1) x_1.2.2.2.2.2).text=(pkG x.1.sg (xg x) (0:Int)).text∧(pkG x_1.1.sg (xh x_1) x_1.2.2.2.2.2).pos=(pkG x.1.sg (xg x) (0:Int)).pos∧(pkG x_1.1.sg (xh x_1) x_1.2.2.2.2.2).blank=(pkG x.1.sg (xg x) (0:Int)).blank∧sgs x_1.1.sg=sgs x.1.sg∧x_1.1.z=x.1.z∧(xh x_1).pos=(xg x).pos∧(xh x_1).deep=(xg x).deep∧(xh x_1).bad=(xg x).bad∧Av (xh x_1).nodes=Av (xg x).nodes∧mbs x_1.1.ms=mbs x.1.ms∧True) (fun x=>by kernel_rfl) fun(x:ST×Int×Int×Bool×List Nd) (hx:rOk x.1 (xg x))=>(by
 dsimp only[cA,mbs,Bc,Av,rdG,EO,Bu,sgs,Au,Az,mvL,lnL,mvE,lnE]
 obtain⟨s,p,d,b,ns⟩:=x;dsimp only[xg,xh] at hx ⊢
 have hx:rOk s ⟨p,d,b,ns⟩:=hx
 (repeat' first|(with_reducible first|rfl|exact True.intro|apply AK|apply And.intro|((first|apply AA|apply AI|apply AB|apply AJ)<;>intro _))|(apply Ax<;>intro _)|apply AH|refine Ae () ?_ ?_|((first|apply AO|apply AN|apply AM|apply AL|apply AG|apply AF|apply AE|apply AD|apply AC)<;>try dsimp only)|apply Ae|(refine Prod.forall.2 ?_;intro _;try dsimp only)|(intro _;try dsimp only))
 all_goals first
  |rfl
  |exact hx
  |omega
  |skip)
def CA:Sig:= {X:=ST×Int×Int×Bool×List Nd×List UInt8,args:=fun x=>[rdG x.1 (xh x),.str x.2.2.2.2.2],pre:=fun x=>rOk x.1 (xh x),Y:=Unit,post:=fun x y=>True,res:=fun x y=> .bool (isG x.1.sg (xh x) 4 x.2.2.2.2.2),outs:=fun x y=>[rdG x.1 (xh x),.top],keep:=true}
theorem Ib:Ai G Tryz.prog 199 CA:=
 vcFun_okP [(133,0,Cr)] [] false (fun x=>[]) Tryz.func199 rfl (by decide) ⟨Hy,trivial⟩ (fun(x:ST×Int×Int×Bool×List Nd×List UInt8)=>True∧cA Cr [rdG x.1 (xh x)] fun x_1 y=>Aa ((pkG x_1.1.sg (xg x_1) (0:Int)).kind==(4:Int)) (cA Cr [rdG x_1.1 (xg x_1)] fun x_2 y=>rA CA x [.bool ((pkG x_2.1.sg (xg x_2) (0:Int)).text==x.2.2.2.2.2),rdG x_2.1 (xg x_2),.top]) (rA CA x [.bool false,rdG x_1.1 (xg x_1),.top])) (fun x=>by kernel_rfl) fun(x:ST×Int×Int×Bool×List Nd×List UInt8) (hx:rOk x.1 (xh x))=>(by
 dsimp only[cA,mbs,Bc,Av,rA,rdG,CA,Cr,Bu,sgs,Au,Az,mvL,lnL,mvE,lnE]
 obtain⟨s,p,d,b,ns,e⟩:=x;dsimp only[xg,xh] at hx ⊢
 have hx:rOk s ⟨p,d,b,ns⟩:=hx
 (repeat' first|(with_reducible first|rfl|exact True.intro|apply AK|apply And.intro|((first|apply AA|apply AI|apply AB|apply AJ)<;>intro _))|(apply Ax<;>intro _)|apply AH|refine Ae () ?_ ?_|((first|apply AO|apply AN|apply AM|apply AL|apply AG|apply AF|apply AE|apply AD|apply AC)<;>try dsimp only)|apply Ae|(refine Prod.forall.2 ?_;intro _;try dsimp only)|(intro _;try dsimp only))
 all_goals first
  |rfl
  |exact hx
  |(simp [isG, *];done)
  |skip)
def Ek:Sig:= {X:=ST×Int×Int×Bool×List Nd×List UInt8,args:=fun x=>[rdG x.1 (xh x),.str x.2.2.2.2.2],pre:=fun x=>rOk x.1 (xh x),Y:=Unit,post:=fun x y=>True,res:=fun x y=> .bool (isG x.1.sg (xh x) 1 x.2.2.2.2.2),outs:=fun x y=>[rdG x.1 (xh x),.top],keep:=true}
theorem RG:Ai G Tryz.prog 170 Ek:=
 vcFun_okP [(133,0,Cr)] [] false (fun x=>[]) Tryz.func170 rfl (by decide) ⟨Hy,trivial⟩ (fun(x:ST×Int×Int×Bool×List Nd×List UInt8)=>True∧cA Cr [rdG x.1 (xh x)] fun x_1 y=>Aa ((pkG x_1.1.sg (xg x_1) (0:Int)).kind==(1:Int)) (cA Cr [rdG x_1.1 (xg x_1)] fun x_2 y=>rA Ek x [.bool ((pkG x_2.1.sg (xg x_2) (0:Int)).text==x.2.2.2.2.2),rdG x_2.1 (xg x_2),.top]) (rA Ek x [.bool false,rdG x_1.1 (xg x_1),.top])) (fun x=>by kernel_rfl) fun(x:ST×Int×Int×Bool×List Nd×List UInt8) (hx:rOk x.1 (xh x))=>(by
 dsimp only[cA,mbs,Bc,Av,rA,rdG,Ek,Cr,Bu,sgs,Au,Az,mvL,lnL,mvE,lnE]
 obtain⟨s,p,d,b,ns,e⟩:=x;dsimp only[xg,xh] at hx ⊢
 have hx:rOk s ⟨p,d,b,ns⟩:=hx
 (repeat' first|(with_reducible first|rfl|exact True.intro|apply AK|apply And.intro|((first|apply AA|apply AI|apply AB|apply AJ)<;>intro _))|(apply Ax<;>intro _)|apply AH|refine Ae () ?_ ?_|((first|apply AO|apply AN|apply AM|apply AL|apply AG|apply AF|apply AE|apply AD|apply AC)<;>try dsimp only)|apply Ae|(refine Prod.forall.2 ?_;intro _;try dsimp only)|(intro _;try dsimp only))
 all_goals first
  |rfl
  |exact hx
  |(simp [isG, *];done)
  |skip)
def Ev:Sig:= {X:=ST×Int×Int×Bool×List Nd×Int,args:=fun x=>[rdG x.1 (xh x),.int .i64 x.2.2.2.2.2],pre:=fun x=>rOk x.1 (xh x)∧0≤x.2.2.2.2.2∧x.2.2.2.2.2≤2^20,Y:=Unit,post:=fun x y=>True,res:=fun x y=> .bool (nmG x.1.sg (xh x) x.2.2.2.2.2),outs:=fun x y=>[rdG x.1 (xh x),.top],keep:=true}
theorem Px:Ai G Tryz.prog 200 Ev:=
 vcFun_okP [(178,0,EO),(182,0,FC)] [] false (fun x=>[]) Tryz.func200 rfl (by decide) ⟨RF,a0b,trivial⟩ (fun(x:ST×Int×Int×Bool×List Nd×Int)=>True∧cA EO [rdG x.1 (xh x),.int .i64 x.2.2.2.2.2] fun x_1 y=>Aa ((pkG x_1.1.sg (xh x_1) x_1.2.2.2.2.2).kind==(1:Int)) (cA FC [.str (pkG x_1.1.sg (xh x_1) x_1.2.2.2.2.2).text] fun x_2 y=>rA Ev x [.bool !kw x_2,rdG x_1.1 (xh x_1),.top]) (rA Ev x [.bool false,rdG x_1.1 (xh x_1),.top])) (fun x=>by kernel_rfl) fun(x:ST×Int×Int×Bool×List Nd×Int) (hx:rOk x.1 (xh x)∧0≤x.2.2.2.2.2∧x.2.2.2.2.2≤2^20)=>(by
 dsimp only[cA,mbs,Bc,Av,rA,rdG,FC,Ev,EO,Bu,sgs,Au,Az,mvL,lnL,mvE,lnE]
 obtain⟨s,p,d,b,ns,e⟩:=x;dsimp only[xg,xh] at hx ⊢
 obtain⟨h1,h2,h3⟩:=hx
 (repeat' first|(with_reducible first|rfl|exact True.intro|apply AK|apply And.intro|((first|apply AA|apply AI|apply AB|apply AJ)<;>intro _))|(apply Ax<;>intro _)|apply AH|refine Ae () ?_ ?_|((first|apply AO|apply AN|apply AM|apply AL|apply AG|apply AF|apply AE|apply AD|apply AC)<;>try dsimp only)|apply Ae|(refine Prod.forall.2 ?_;intro _;try dsimp only)|(intro _;try dsimp only))
 all_goals first
  |rfl
  |exact h1
  |omega
  |(simp [nmG, *];done)
  |skip)
def CO:Sig:= {X:=ST×Int×Int×Bool×List Nd×List UInt8,args:=fun x=>[rdG x.1 (xh x),.str x.2.2.2.2.2],pre:=fun x=>rOk x.1 (xh x),Y:=Unit,post:=fun x y=>True,res:=fun x y=> .bool (isG x.1.sg (xh x) 4 x.2.2.2.2.2),outs:=fun x y=>[rdG x.1 (Al x.1.sg (xh x) x.2.2.2.2.2),.top],keep:=true}
theorem Jy:Ai G Tryz.prog 196 CO:=
 vcFun_okP [(199,0,CA)] [] false (fun x=>[]) Tryz.func196 rfl (by decide) ⟨Ib,trivial⟩ (fun(x:ST×Int×Int×Bool×List Nd×List UInt8)=>True∧cA CA [rdG x.1 (xh x),.str x.2.2.2.2.2] fun x_1 y=>Aa (!isG x_1.1.sg (xh x_1) (4:Int) x_1.2.2.2.2.2) (rA CO x [.bool false,rdG x_1.1 (xh x_1),.top]) (inR IntKind.i64 ((xh x_1).pos+(1:Int))∧rA CO x [.bool true,.box 0 [sgs x_1.1.sg,.int .i64 x_1.1.z,.int .i64 ((xh x_1).pos+(1:Int)),.int .i64 (xh x_1).deep,.bool (xh x_1).bad,Av (xh x_1).nodes,mbs x_1.1.ms],.top])) (fun x=>by kernel_rfl) fun(x:ST×Int×Int×Bool×List Nd×List UInt8) (hx:rOk x.1 (xh x))=>(by
 dsimp only[cA,mbs,Bc,Av,rA,rdG,CA,CO,Bu,sgs,Au,Az,mvL,lnL,mvE,lnE]
 obtain⟨s,p,d,b,ns,e⟩:=x;dsimp only[xg,xh] at hx ⊢
 have hx:rOk s ⟨p,d,b,ns⟩:=hx;have hs:=DV hx;dsimp only at hs
 (repeat' first|(with_reducible first|rfl|exact True.intro|apply AK|apply And.intro|((first|apply AA|apply AI|apply AB|apply AJ)<;>intro _))|(apply Ax<;>intro _)|apply AH|refine Ae () ?_ ?_|((first|apply AO|apply AN|apply AM|apply AL|apply AG|apply AF|apply AE|apply AD|apply AC)<;>try dsimp only)|apply Ae|(refine Prod.forall.2 ?_;intro _;try dsimp only)|(intro _;try dsimp only))
 all_goals first
  |rfl
  |exact hx
  |(simp [Al,An, *];done)
  |((try simp only[AR]);omega)
  |skip)
def CE:Sig:= {X:=ST×Int×Int×Bool×List Nd×List UInt8,args:=fun x=>[rdG x.1 (xh x),.str x.2.2.2.2.2],pre:=fun x=>rOk x.1 (xh x),Y:=Unit,post:=fun x y=>True,res:=fun x y=> .tup [],outs:=fun x y=>[rdG x.1 (Aq x.1.sg (xh x) x.2.2.2.2.2),.top],keep:=true}
theorem Jz:Ai G Tryz.prog 174 CE:=
 vcFun_okP [(196,0,CO)] [] false (fun x=>[]) Tryz.func174 rfl (by decide) ⟨Jy,trivial⟩ (fun(x:ST×Int×Int×Bool×List Nd×List UInt8)=>True∧cA CO [rdG x.1 (xh x),.str x.2.2.2.2.2] fun x_1 y=>Aa (!isG x_1.1.sg (xh x_1) (4:Int) x_1.2.2.2.2.2) (rA CE x [.tup [],.box 0 [sgs x_1.1.sg,.int .i64 x_1.1.z,.int .i64 (Al x_1.1.sg (xh x_1) x_1.2.2.2.2.2).pos,.int .i64 (Al x_1.1.sg (xh x_1) x_1.2.2.2.2.2).deep,.bool true,Av (Al x_1.1.sg (xh x_1) x_1.2.2.2.2.2).nodes,mbs x_1.1.ms],.top]) (rA CE x [.tup [],rdG x_1.1 (Al x_1.1.sg (xh x_1) x_1.2.2.2.2.2),.top])) (fun x=>by kernel_rfl) fun(x:ST×Int×Int×Bool×List Nd×List UInt8) (hx:rOk x.1 (xh x))=>(by
 dsimp only[cA,mbs,Bc,Av,rA,rdG,CO,CE,Bu,sgs,Au,Az,mvL,lnL,mvE,lnE]
 obtain⟨s,p,d,b,ns,e⟩:=x;dsimp only[xg,xh] at hx ⊢
 have hx:rOk s ⟨p,d,b,ns⟩:=hx;have hs:=DV hx;dsimp only at hs
 (repeat' first|(with_reducible first|rfl|exact True.intro|apply AK|apply And.intro|((first|apply AA|apply AI|apply AB|apply AJ)<;>intro _))|(apply Ax<;>intro _)|apply AH|refine Ae () ?_ ?_|((first|apply AO|apply AN|apply AM|apply AL|apply AG|apply AF|apply AE|apply AD|apply AC)<;>try dsimp only)|apply Ae|(refine Prod.forall.2 ?_;intro _;try dsimp only)|(intro _;try dsimp only))
 all_goals first
  |rfl
  |exact hx
  |(simp [Aq,Al,An,Bd, *];done)
  |((try simp only[AR]);omega)
  |skip)
theorem a1Q{sg:List Sg}{g:Gs}{e:Sg}(he:sg[(g.pos+1-1).toNat]? =some e)(h:nmG sg g 0=true):e.text=BS sg g:=by
 obtain⟨hb,hl⟩:=IV h
 rw[BS,if_pos h,Wa (by rw[show g.pos+0=g.pos+1-1 by omega];exact he) hb (by omega)]
def Ew:Sig:= {X:=ST×Int×Int×Bool×List Nd,args:=fun x=>[rdG x.1 (xg x)],pre:=fun x=>rOk x.1 (xg x),Y:=Unit,post:=fun x y=>True,res:=fun x y=> .str (BS x.1.sg (xg x)),outs:=fun x y=>[rdG x.1 (BR x.1.sg (xg x))],keep:=true}
theorem Py:Ai G Tryz.prog 173 Ew:=
 vcFun_okP [(200,0,Ev)] [] false (fun x=>[]) Tryz.func173 rfl (by decide) ⟨Px,trivial⟩ (fun(x:ST×Int×Int×Bool×List Nd)=>True∧cA Ev [rdG x.1 (xg x),.int .i64 (0:Int)] fun x_1 y=>Aa (!nmG x_1.1.sg (xh x_1) x_1.2.2.2.2.2) (rA Ew x [.str #[].toList,.box 0 [sgs x_1.1.sg,.int .i64 x_1.1.z,.int .i64 (xh x_1).pos,.int .i64 (xh x_1).deep,.bool true,Av (xh x_1).nodes,mbs x_1.1.ms]]) (inR IntKind.i64 ((xh x_1).pos+(1:Int))∧true=true∧true=true∧inR IntKind.i64 ((xh x_1).pos+(1:Int)-(1:Int))∧((0:Int)≤(xh x_1).pos+(1:Int)-(1:Int)∧(xh x_1).pos+(1:Int)-(1:Int)<(↑(List.length x_1.1.sg):Int))∧∀(e:Sg),x_1.1.sg[Int.toNat ((xh x_1).pos+(1:Int)-(1:Int))]? =some e→rA Ew x [.str e.text,.box 0 [sgs x_1.1.sg,.int .i64 x_1.1.z,.int .i64 ((xh x_1).pos+(1:Int)),.int .i64 (xh x_1).deep,.bool (xh x_1).bad,Av (xh x_1).nodes,mbs x_1.1.ms]])) (fun x=>by kernel_rfl) fun(x:ST×Int×Int×Bool×List Nd) (hx:rOk x.1 (xg x))=>(by
 dsimp only[cA,mbs,Bc,Av,rA,rdG,Ew,Ev,Bu,sgs,Au,Az,mvL,lnL,mvE,lnE]
 obtain⟨s,p,d,b,ns⟩:=x;dsimp only[xg,xh] at hx ⊢
 have hx:rOk s ⟨p,d,b,ns⟩:=hx;have hs:=DV hx;dsimp only at hs
 (repeat' first|(with_reducible first|rfl|exact True.intro|apply AK|apply And.intro|((first|apply AA|apply AI|apply AB|apply AJ)<;>intro _))|(apply Ax<;>intro _)|apply AH|refine Ae () ?_ ?_|((first|apply AO|apply AN|apply AM|apply AL|apply AG|apply AF|apply AE|apply AD|apply AC)<;>try dsimp only)|apply Ae|(refine Prod.forall.2 ?_;intro _;try dsimp only)|(intro _;try dsimp only))
 all_goals first
  |rfl
  |exact hx
  |(simp [BR,BS,An,Bd, *];done)
  |exact a1Q ‹_› ‹_›
  |(have hl:=IV (show nmG _ _ 0=true by assumption);dsimp only at hl;(try simp only[AR]);omega)
  |((try simp only[AR]);omega)
  |(rename _=some _=>he;exact a1Q he ‹_›))
theorem b1b{g:Gs}(h:g.bad=true):CX g=true:=by simp [CX,h]
theorem b1c{g:Gs}(h:(g.nodes.length:Int)=300):CX g=true:=by simp [CX,show g.nodes.length=300 by omega]
theorem b1d{g:Gs}(h:g.bad=false)(h2:(g.nodes.length:Int)≠300):CX g=false:=by simp [CX,h,show g.nodes.length≠300 by omega]
theorem b1e{g:Gs}(h:g.bad=false)(h2:g.nodes.length≠300):CX g=false:=by simp [CX,h,h2]
def BU:Sig:= {X:=ST×Int×Int×Bool×List Nd×Int×List UInt8×List Int×Bool,args:=fun x=>[rdG x.1 (xh x),.agg (ndA true ⟨x.2.2.2.2.2.1,x.2.2.2.2.2.2.1,x.2.2.2.2.2.2.2.1,x.2.2.2.2.2.2.2.2⟩)],pre:=fun x=>rOk x.1 (xh x),Y:=Unit,post:=fun x y=>True,res:=fun x y=> .int .i64 (AQ (xh x)),outs:=fun x y=>[rdG x.1 (Ah (xh x) ⟨x.2.2.2.2.2.1,x.2.2.2.2.2.2.1,x.2.2.2.2.2.2.2.1,x.2.2.2.2.2.2.2.2⟩),.top],keep:=true}
def b1f(x:ST×Int×Int×Bool×List Nd×Int×List UInt8×List Int×Bool):LS:= {ι:=Unit,inv:=fun _=>(xh x).bad=false∧(xh x).nodes.length≠300,regs:=fun _=>[(0,rdG x.1 (Ah (xh x) ⟨x.2.2.2.2.2.1,x.2.2.2.2.2.2.1,x.2.2.2.2.2.2.2.1,x.2.2.2.2.2.2.2.2⟩))],als:=[],meas:=fun _=>0}
theorem GW:Ai G Tryz.prog 134 BU:=
 vcFun_okP [] [(27,⟨Nd,ndA true⟩)] false (fun x=>[(100004,b1f x)]) Tryz.func134 rfl (by decide) trivial (fun(x:ST×Int×Int×Bool×List Nd×Int×List UInt8×List Int×Bool)=>True∧Aa (xh x).bad (rA BU x [.int .i64 (0:Int),.box 0 [sgs x.1.sg,.int .i64 x.1.z,.int .i64 (xh x).pos,.int .i64 (xh x).deep,.bool true,Av (xh x).nodes,mbs x.1.ms],.top]) (Aa ((↑(List.length (xh x).nodes):Int)==(300:Int)) (rA BU x [.int .i64 (0:Int),.box 0 [sgs x.1.sg,.int .i64 x.1.z,.int .i64 (xh x).pos,.int .i64 (xh x).deep,.bool true,Av (xh x).nodes,mbs x.1.ms],.top]) (true=true∧((∃(x_1:Nd),x.2.2.2.2.2.1=x_1.kind∧x.2.2.2.2.2.2.1=x_1.text∧Ab x.2.2.2.2.2.2.2.1=Ab x_1.kids∧x.2.2.2.2.2.2.2.2=x_1.blank∧∃(zs:List Nd),Av [x_1]=Av zs∧Bj (ndA true)∧AW (List.length (xh x).nodes+List.length zs) (56:Nat)∧true=true∧∃(i:Unit),((xh x).bad=false∧List.length (xh x).nodes≠(300:Nat))∧(sgs x.1.sg=sgs x.1.sg∧x.1.z=x.1.z∧(xh x).pos=(Ah (xh x) {kind:=x.2.2.2.2.2.1,text:=x.2.2.2.2.2.2.1,kids:=x.2.2.2.2.2.2.2.1,blank:=x.2.2.2.2.2.2.2.2}).pos∧(xh x).deep=(Ah (xh x) {kind:=x.2.2.2.2.2.1,text:=x.2.2.2.2.2.2.1,kids:=x.2.2.2.2.2.2.2.1,blank:=x.2.2.2.2.2.2.2.2}).deep∧(xh x).bad=(Ah (xh x) {kind:=x.2.2.2.2.2.1,text:=x.2.2.2.2.2.2.1,kids:=x.2.2.2.2.2.2.2.1,blank:=x.2.2.2.2.2.2.2.2}).bad∧Av ((xh x).nodes++zs)=Av (Ah (xh x) {kind:=x.2.2.2.2.2.1,text:=x.2.2.2.2.2.2.1,kids:=x.2.2.2.2.2.2.2.1,blank:=x.2.2.2.2.2.2.2.2}).nodes∧mbs x.1.ms=mbs x.1.ms∧True)∧True)∧(∃(x_1:Nd),x.2.2.2.2.2.1=x_1.kind∧x.2.2.2.2.2.2.1=x_1.text∧Ab x.2.2.2.2.2.2.2.1=Ab x_1.kids∧x.2.2.2.2.2.2.2.2=x_1.blank∧∃(zs:List Nd),Av [x_1]=Av zs∧Bj (ndA true)∧AW (List.length (xh x).nodes+List.length zs) (56:Nat)∧true=true∧∃(i:Unit),((xh x).bad=false∧List.length (xh x).nodes≠(300:Nat))∧(sgs x.1.sg=sgs x.1.sg∧x.1.z=x.1.z∧(xh x).pos=(Ah (xh x) {kind:=x.2.2.2.2.2.1,text:=x.2.2.2.2.2.2.1,kids:=x.2.2.2.2.2.2.2.1,blank:=x.2.2.2.2.2.2.2.2}).pos∧(xh x).deep=(Ah (xh x) {kind:=x.2.2.2.2.2.1,text:=x.2.2.2.2.2.2.1,kids:=x.2.2.2.2.2.2.2.1,blank:=x.2.2.2.2.2.2.2.2}).deep∧(xh x).bad=(Ah (xh x) {kind:=x.2.2.2.2.2.1,text:=x.2.2.2.2.2.2.1,kids:=x.2.2.2.2.2.2.2.1,blank:=x.2.2.2.2.2.2.2.2}).bad∧Av ((xh x).nodes++zs)=Av (Ah (xh x) {kind:=x.2.2.2.2.2.1,text:=x.2.2.2.2.2.2.1,kids:=x.2.2.2.2.2.2.2.1,blank:=x.2.2.2.2.2.2.2.2}).nodes∧mbs x.1.ms=mbs x.1.ms∧True)∧True)∧∃(x_1:Nd),x.2.2.2.2.2.1=x_1.kind∧x.2.2.2.2.2.2.1=x_1.text∧Ab x.2.2.2.2.2.2.2.1=Ab x_1.kids∧x.2.2.2.2.2.2.2.2=x_1.blank∧∃(zs:List Nd),Av [x_1]=Av zs∧Bj (ndA true)∧AW (List.length (xh x).nodes+List.length zs) (56:Nat)∧true=true∧∃(i:Unit),((xh x).bad=false∧List.length (xh x).nodes≠(300:Nat))∧(sgs x.1.sg=sgs x.1.sg∧x.1.z=x.1.z∧(xh x).pos=(Ah (xh x) {kind:=x.2.2.2.2.2.1,text:=x.2.2.2.2.2.2.1,kids:=x.2.2.2.2.2.2.2.1,blank:=x.2.2.2.2.2.2.2.2}).pos∧(xh x).deep=(Ah (xh x) {kind:=x.2.2.2.2.2.1,text:=x.2.2.2.2.2.2.1,kids:=x.2.2.2.2.2.2.2.1,blank:=x.2.2.2.2.2.2.2.2}).deep∧(xh x).bad=(Ah (xh x) {kind:=x.2.2.2.2.2.1,text:=x.2.2.2.2.2.2.1,kids:=x.2.2.2.2.2.2.2.1,blank:=x.2.2.2.2.2.2.2.2}).bad∧Av ((xh x).nodes++zs)=Av (Ah (xh x) {kind:=x.2.2.2.2.2.1,text:=x.2.2.2.2.2.2.1,kids:=x.2.2.2.2.2.2.2.1,blank:=x.2.2.2.2.2.2.2.2}).nodes∧mbs x.1.ms=mbs x.1.ms∧True)∧True)∧∀(i:Unit),(xh x).bad=false∧List.length (xh x).nodes≠(300:Nat)→inR IntKind.i64 ((↑(List.length (Ah (xh x) {kind:=x.2.2.2.2.2.1,text:=x.2.2.2.2.2.2.1,kids:=x.2.2.2.2.2.2.2.1,blank:=x.2.2.2.2.2.2.2.2}).nodes):Int)-(1:Int))∧rA BU x [.int .i64 ((↑(List.length (Ah (xh x) {kind:=x.2.2.2.2.2.1,text:=x.2.2.2.2.2.2.1,kids:=x.2.2.2.2.2.2.2.1,blank:=x.2.2.2.2.2.2.2.2}).nodes):Int)-(1:Int)),rdG x.1 (Ah (xh x) {kind:=x.2.2.2.2.2.1,text:=x.2.2.2.2.2.2.1,kids:=x.2.2.2.2.2.2.2.1,blank:=x.2.2.2.2.2.2.2.2}),.top]))) (fun x=>by kernel_rfl) fun(x:ST×Int×Int×Bool×List Nd×Int×List UInt8×List Int×Bool) (hx:rOk x.1 (xh x))=>(by
 dsimp only[mbs,Bc,Ab,Av,rA,rdG,BU,Bu,sgs,Au,Az]
 obtain⟨s,p,d,b,ns,k,t,ks,bl⟩:=x;dsimp only[xg,xh] at hx ⊢
 have hx:rOk s ⟨p,d,b,ns⟩:=hx;have hs:=DV hx;dsimp only at hs
 (repeat' first|refine a1P ?_|(with_reducible first|rfl|exact True.intro|apply AK|apply And.intro|((first|apply AA|apply AI|apply AB|apply AJ)<;>intro _))|(apply Ax<;>intro _)|apply AH|refine Ae () ?_ ?_|((first|apply AO|apply AN|apply AM|apply AL|apply AG|apply AF|apply AE|apply AD|apply AC)<;>try dsimp only)|apply Ae|(refine Prod.forall.2 ?_;intro _;try dsimp only)|(intro _;try dsimp only))
 all_goals try(first|(have hF:=b1b (g:=⟨p,d,b,ns⟩) (show b=true by assumption))|(have hF:=b1c (g:=⟨p,d,b,ns⟩) (show(ns.length:Int)=300 by assumption))|(have hF:=b1d (g:=⟨p,d,b,ns⟩) (show b=false by assumption) ‹_›)|(have hF:=b1e (g:=⟨p,d,b,ns⟩) (show b=false by assumption) ‹_›))
 all_goals first
  |rfl
  |(simp [Ah,AQ,Bd,hF];done)
  |((try simp only[AR,AW,List.length_append,List.length_cons,List.length_nil]);omega)
  |(simp only[Ah,hF,Bool.false_eq_true,if_false,AR,List.length_append,List.length_cons,List.length_nil];omega)
  |skip)
def CR:Sig:= {X:=ST×Int×Int×Bool×List Nd,args:=fun x=>[rdG x.1 (xg x)],pre:=fun x=>rOk x.1 (xg x),Y:=Unit,post:=fun x y=>True,res:=fun x y=> .tup [],outs:=fun x y=>[rdG x.1 (BX (xg x))],keep:=true}
theorem JA:Ai G Tryz.prog 195 CR:=
 vcFun_okP [] [] false (fun x=>[]) Tryz.func195 rfl (by decide) trivial (fun(x:ST×Int×Int×Bool×List Nd)=>True∧Aa (!(xg x).bad) (inR IntKind.i64 ((xg x).pos+(1:Int))∧rA CR x [.tup [],.box 0 [sgs x.1.sg,.int .i64 x.1.z,.int .i64 ((xg x).pos+(1:Int)),.int .i64 (xg x).deep,.bool (xg x).bad,Av (xg x).nodes,mbs x.1.ms]]) (rA CR x [.tup [],rdG x.1 (xg x)])) (fun x=>by kernel_rfl) fun(x:ST×Int×Int×Bool×List Nd) (hx:rOk x.1 (xg x))=>(by
 dsimp only[mbs,Bc,Av,rA,rdG,CR,Bu,sgs,Au,Az]
 obtain⟨s,p,d,b,ns⟩:=x;dsimp only[xg,xh] at hx ⊢
 have hx:rOk s ⟨p,d,b,ns⟩:=hx;have hs:=DV hx;dsimp only at hs
 (repeat' first|(with_reducible first|rfl|exact True.intro|apply AK|apply And.intro|((first|apply AA|apply AI|apply AB|apply AJ)<;>intro _))|(apply Ax<;>intro _)|apply AH|refine Ae () ?_ ?_|((first|apply AO|apply AN|apply AM|apply AL|apply AG|apply AF|apply AE|apply AD|apply AC)<;>try dsimp only)|apply Ae|(refine Prod.forall.2 ?_;intro _;try dsimp only)|(intro _;try dsimp only))
 all_goals first
  |rfl
  |(simp [BX,An, *];done)
  |((try simp only[AR]);omega)
  |skip)
def IX:Sig:= {X:=ST×Int×Int×Bool×List Nd×Int,args:=fun x=>[rdG x.1 (xh x),.int .i64 x.2.2.2.2.2],pre:=fun x=>rOk x.1 (xh x)∧((xh x).bad=false→(xh x).pos<x.1.sg.length),Y:=Unit,post:=fun x y=>True,res:=fun x y=> .int .i64 (AQ (xh x)),outs:=fun x y=>[rdG x.1 (De x.1.sg (xh x) x.2.2.2.2.2 false),.top],keep:=true}
theorem a1R:Ai G Tryz.prog 201 IX:=
 vcFun_okP [(133,0,Cr),(134,0,BU),(195,0,CR)] [(25,⟨Int,AZ⟩)] false (fun x=>[]) Tryz.func201 rfl (by decide) ⟨Hy,GW,JA,trivial⟩ (fun(x:ST×Int×Int×Bool×List Nd×Int)=>True∧cA Cr [rdG x.1 (xh x)] fun x_1 y=>cA BU [rdG x_1.1 (xg x_1),.agg [.int .i64 x.2.2.2.2.2,.str (pkG x_1.1.sg (xg x_1) (0:Int)).text,.nil,.bool false]] fun x_2 y=>cA CR [rdG x_2.1 (Ah (xh x_2) {kind:=x_2.2.2.2.2.2.1,text:=x_2.2.2.2.2.2.2.1,kids:=x_2.2.2.2.2.2.2.2.1,blank:=x_2.2.2.2.2.2.2.2.2})] fun x_3 y=>rA IX x [.int .i64 (AQ (xh x_2)),rdG x_3.1 (BX (xg x_3)),.top]) (fun x=>by kernel_rfl) fun(x:ST×Int×Int×Bool×List Nd×Int) (hx:rOk x.1 (xh x)∧((xh x).bad=false→(xh x).pos<x.1.sg.length))=>(by
 dsimp only[cA,mbs,Bc,Av,rA,rdG,BU,IX,Cr,CR,Bu,sgs,Au,Az,mvL,lnL,mvE,lnE]
 obtain⟨s,p,d,b,ns,e⟩:=x;dsimp only[xg,xh] at hx ⊢
 obtain⟨h1,h2⟩:=hx
 (repeat' first|(with_reducible first|rfl|exact True.intro|apply AK|apply And.intro|((first|apply AA|apply AI|apply AB|apply AJ)<;>intro _))|(apply Ax<;>intro _)|apply AH|refine Ae () ?_ ?_|((first|apply AO|apply AN|apply AM|apply AL|apply AG|apply AF|apply AE|apply AD|apply AC)<;>try dsimp only)|apply Ae|(refine Prod.forall.2 ?_;intro _;try dsimp only)|(intro _;try dsimp only))
 all_goals first
  |rfl
  |exact h1
  |exact⟨h1.1,IW h1.2 ⟨KE h1.1,by simp⟩⟩
  |(simp [De, *];done)
  |skip)
def CH:Sig:= {X:=ST×Int×Int×Bool×List Nd×List UInt8×Int×List UInt8×List Int×Bool,args:=fun x=>[rdG x.1 (xh x),.str x.2.2.2.2.2.1,.agg (ndA true ⟨x.2.2.2.2.2.2.1,x.2.2.2.2.2.2.2.1,x.2.2.2.2.2.2.2.2.1,x.2.2.2.2.2.2.2.2.2⟩)],pre:=fun x=>rOk x.1 (xh x)∧Cz ⟨x.2.2.2.2.2.2.1,x.2.2.2.2.2.2.2.1,x.2.2.2.2.2.2.2.2.1,x.2.2.2.2.2.2.2.2.2⟩,Y:=Unit,post:=fun x y=>True,res:=fun x y=> .int .i64 (BC x.1.sg (xh x) x.2.2.2.2.2.1),outs:=fun x y=>[rdG x.1 (Bs x.1.sg (xh x) x.2.2.2.2.2.1 ⟨x.2.2.2.2.2.2.1,x.2.2.2.2.2.2.2.1,x.2.2.2.2.2.2.2.2.1,x.2.2.2.2.2.2.2.2.2⟩),.top,.top],keep:=true}
theorem LY:Ai G Tryz.prog 198 CH:=
 vcFun_okP [(199,0,CA),(134,0,BU),(195,0,CR)] [] false (fun x=>[]) Tryz.func198 rfl (by decide) ⟨Ib,GW,JA,trivial⟩ (fun(x:ST×Int×Int×Bool×List Nd×List UInt8×Int×List UInt8×List Int×Bool)=>True∧cA CA [rdG x.1 (xh x),.str x.2.2.2.2.2.1] fun x_1 y=>Aa (!isG x_1.1.sg (xh x_1) (4:Int) x_1.2.2.2.2.2) (rA CH x [.int .i64 (0:Int),.box 0 [sgs x_1.1.sg,.int .i64 x_1.1.z,.int .i64 (xh x_1).pos,.int .i64 (xh x_1).deep,.bool true,Av (xh x_1).nodes,mbs x_1.1.ms],.top,.top]) (cA BU [rdG x_1.1 (xh x_1),.agg [.int .i64 x.2.2.2.2.2.2.1,.str x.2.2.2.2.2.2.2.1,Ab x.2.2.2.2.2.2.2.2.1,.bool x.2.2.2.2.2.2.2.2.2]] fun x_2 y=>cA CR [rdG x_2.1 (Ah (xh x_2) {kind:=x_2.2.2.2.2.2.1,text:=x_2.2.2.2.2.2.2.1,kids:=x_2.2.2.2.2.2.2.2.1,blank:=x_2.2.2.2.2.2.2.2.2})] fun x_3 y=>rA CH x [.int .i64 (AQ (xh x_2)),rdG x_3.1 (BX (xg x_3)),.top,.top])) (fun x=>by kernel_rfl) fun(x:ST×Int×Int×Bool×List Nd×List UInt8×Int×List UInt8×List Int×Bool) (hx:rOk x.1 (xh x)∧Cz ⟨x.2.2.2.2.2.2.1,x.2.2.2.2.2.2.2.1,x.2.2.2.2.2.2.2.2.1,x.2.2.2.2.2.2.2.2.2⟩)=>(by
 dsimp only[cA,mbs,Bc,Ab,Av,rA,rdG,BU,CH,CA,CR,Bu,sgs,Au,Az,mvL,lnL,mvE,lnE]
 obtain⟨s,p,d,b,ns,m,k,t,ks,bl⟩:=x;dsimp only[xg,xh] at hx ⊢
 obtain⟨h1,h2⟩:=hx
 (repeat' first|(with_reducible first|rfl|exact True.intro|apply AK|apply And.intro|((first|apply AA|apply AI|apply AB|apply AJ)<;>intro _))|(apply Ax<;>intro _)|apply AH|refine Ae () ?_ ?_|((first|apply AO|apply AN|apply AM|apply AL|apply AG|apply AF|apply AE|apply AD|apply AC)<;>try dsimp only)|apply Ae|(refine Prod.forall.2 ?_;intro _;try dsimp only)|(intro _;try dsimp only))
 all_goals first
  |rfl
  |exact h1
  |exact⟨h1.1,IW h1.2 h2⟩
  |(simp [Bs,BC,Bd, *];done)
  |skip)
def IY:Sig:= {X:=ST×Int×Int×Bool×List Nd,args:=fun x=>[rdG x.1 (xg x)],pre:=fun x=>rOk x.1 (xg x)∧(xg x).deep≤20,Y:=Unit,post:=fun x y=>True,res:=fun x y=> .tup [],outs:=fun x y=>[rdG x.1 (gDp (if(xg x).deep=20 then Bd (xg x) else(xg x)) 1)],keep:=true}
theorem a1S:Ai G Tryz.prog 202 IY:=
 vcFun_okP [] [] false (fun x=>[]) Tryz.func202 rfl (by decide) trivial (fun(x:ST×Int×Int×Bool×List Nd)=>True∧Aa ((xg x).deep==(20:Int)) (inR IntKind.i64 ((xg x).deep+(1:Int))∧rA IY x [.tup [],.box 0 [sgs x.1.sg,.int .i64 x.1.z,.int .i64 (xg x).pos,.int .i64 ((xg x).deep+(1:Int)),.bool true,Av (xg x).nodes,mbs x.1.ms]]) (inR IntKind.i64 ((xg x).deep+(1:Int))∧rA IY x [.tup [],.box 0 [sgs x.1.sg,.int .i64 x.1.z,.int .i64 (xg x).pos,.int .i64 ((xg x).deep+(1:Int)),.bool (xg x).bad,Av (xg x).nodes,mbs x.1.ms]])) (fun x=>by kernel_rfl) fun(x:ST×Int×Int×Bool×List Nd) (hx:rOk x.1 (xg x)∧(xg x).deep≤20)=>(by
 dsimp only[mbs,Bc,Av,rA,rdG,IY,Bu,sgs,Au,Az]
 obtain⟨s,p,d,b,ns⟩:=x;dsimp only[xg,xh] at hx ⊢
 obtain⟨h1,h2⟩:=hx;have hs:=DV h1;dsimp only at hs
 (repeat' first|(with_reducible first|rfl|exact True.intro|apply AK|apply And.intro|((first|apply AA|apply AI|apply AB|apply AJ)<;>intro _))|(apply Ax<;>intro _)|apply AH|refine Ae () ?_ ?_|((first|apply AO|apply AN|apply AM|apply AL|apply AG|apply AF|apply AE|apply AD|apply AC)<;>try dsimp only)|apply Ae|(refine Prod.forall.2 ?_;intro _;try dsimp only)|(intro _;try dsimp only))
 all_goals first
  |rfl
  |(simp [gDp,Bd, *];done)
  |((try simp only[AR]);omega)
  |skip)
def GX:Sig:= {X:=ST×Int×Int×Bool×List Nd,args:=fun x=>[rdG x.1 (xg x)],pre:=fun x=>rOk x.1 (xg x),Y:=Unit,post:=fun x y=>True,res:=fun x y=> .int .i64 (Dp x.1.sg (xg x)),outs:=fun x y=>[rdG x.1 (CD x.1.sg (xg x))],keep:=true}
theorem Wb:Ai G Tryz.prog 176 GX:=
 vcFun_okP [(200,0,Ev),(201,0,IX)] [] false (fun x=>[]) Tryz.func176 rfl (by decide) ⟨Px,a1R,trivial⟩ (fun(x:ST×Int×Int×Bool×List Nd)=>True∧cA Ev [rdG x.1 (xg x),.int .i64 (0:Int)] fun x_1 y=>Aa (!nmG x_1.1.sg (xh x_1) x_1.2.2.2.2.2) (rA GX x [.int .i64 (0:Int),.box 0 [sgs x_1.1.sg,.int .i64 x_1.1.z,.int .i64 (xh x_1).pos,.int .i64 (xh x_1).deep,.bool true,Av (xh x_1).nodes,mbs x_1.1.ms]]) (cA IX [rdG x_1.1 (xh x_1),.int .i64 (1:Int)] fun x_2 y=>rA GX x [.int .i64 (AQ (xh x_2)),rdG x_2.1 (De x_2.1.sg (xh x_2) x_2.2.2.2.2.2 false)])) (fun x=>by kernel_rfl) fun(x:ST×Int×Int×Bool×List Nd) (hx:rOk x.1 (xg x))=>(by
 dsimp only[cA,mbs,Bc,Av,rA,rdG,IX,GX,Ev,Bu,sgs,Au,Az,mvL,lnL,mvE,lnE]
 obtain⟨s,p,d,b,ns⟩:=x;dsimp only[xg,xh] at hx ⊢
 have hx:rOk s ⟨p,d,b,ns⟩:=hx;have hs:=DV hx;dsimp only at hs
 (repeat' first|(with_reducible first|rfl|exact True.intro|apply AK|apply And.intro|((first|apply AA|apply AI|apply AB|apply AJ)<;>intro _))|(apply Ax<;>intro _)|apply AH|refine Ae () ?_ ?_|((first|apply AO|apply AN|apply AM|apply AL|apply AG|apply AF|apply AE|apply AD|apply AC)<;>try dsimp only)|apply Ae|(refine Prod.forall.2 ?_;intro _;try dsimp only)|(intro _;try dsimp only))
 all_goals first
  |rfl
  |exact hx
  |omega
  |(have hl:=IV (show nmG _ _ 0=true by assumption);dsimp only at hl;omega)
  |(simp [CD,Dp,Bd, *];done)
  |skip)
def zB(s:ZS):Prop:=tOk s.ns∧s.L≤1000
def vPz(n:Nat)(s:ZS)(m:Mc)(cs:Cls)(k:Int):Prop:=(zB s∧(mOk m∧NC cs m))∧(kOk s.ns m n k∧wK s.ns k≤pot m)
def vQz(n:Nat)(s:ZS)(m:Mc)(cs:Cls)(k:Int)(y:Int×Mc):Prop:=((ev s.ns n).val cs k s.L m=some y∧bdd y.1)∧DA m y.2 (wK s.ns k)
def bPz(n:Nat)(s:ZS)(m:Mc)(f:Fr)(k:Int):Prop:=(zB s∧(mOk m∧fOk f m))∧(((0≤k∧k<s.ns.length)∧BE s.ns k≤12)∧Cv s.ns m n k)
def bQz(n:Nat)(s:ZS)(m:Mc)(f:Fr)(k:Int)(y:Fr×Mc):Prop:=((ev s.ns n).blk f k s.L m=some y∧fOk y.1 y.2)∧DA m y.2 0
abbrev ZX (α:Type):=ZS×List Int×Int×Int×Int×Cls×Bool×Int×α
abbrev zf {α:Type} (x:ZX α):Fr:=⟨x.2.2.2.2.2.1,x.2.2.2.2.2.2.1,x.2.2.2.2.2.2.2.1⟩
abbrev zl {α:Type} (x:ZX α):α:=x.2.2.2.2.2.2.2.2
abbrev yB (y:List Int×Int×Int×Int×Cls×Bool×Int):Fr×Mc:=(⟨y.2.2.2.2.1,y.2.2.2.2.2.1,y.2.2.2.2.2.2⟩,⟨y.1,y.2.1,y.2.2.1,y.2.2.2.1⟩)
def DI(n:Nat):Sig:= {X:=ZX Int,args:=fun x=>[mcA x.1 (zh x),frA (zf x),.int .i64 (zl x)],pre:=fun x=>vPz n x.1 (zh x) (zf x).cells (zl x),Y:=Int×List Int×Int×Int×Int,post:=fun x y=>vQz n x.1 (zh x) (zf x).cells (zl x) (yV y),res:=fun x y=> .int .i64 y.1,outs:=fun x y=>[mcA x.1 (yM y.2),frA (zf x),.top],keep:=true}
def JB(n:Nat):Sig:= {X:=ZX Int,args:=fun x=>[mcA x.1 (zh x),frA (zf x),.int .i64 (zl x)],pre:=fun x=>bPz n x.1 (zh x) (zf x) (zl x),Y:=List Int×Int×Int×Int×Cls×Bool×Int,post:=fun x y=>bQz n x.1 (zh x) (zf x) (zl x) (yB y),res:=fun x y=> .tup [],outs:=fun x y=>[mcA x.1 (yB y).2,frA (yB y).1,.top],keep:=true}
structure zAll (G:GInv) (n:Nat):Prop where
 val:Ai G Go.Proofs.Tryz.prog 179 (DI n)
 blk:Ai G Go.Proofs.Tryz.prog 106 (JB n)
def lpI(s:ZS)(m0 m:Mc)(ks:List Int)(i e:Int):Prop:=((0≤i∧i≤ks.length)∧(mOk m∧m.deep=m0.deep))∧m0.steps≤m.steps∧pot m0-e≤pot m-wS s.ns (ks.drop i.toNat)
theorem NI{s:ZS}{m:Mc}{ks:List Int}(h:mOk m):lpI s m m ks 0 (wS s.ns ks):=⟨⟨by omega,h,rfl⟩,Int.le_refl _,by simp⟩
theorem a1T{s:ZS}{m0 m:Mc}{ks:List Int}{i e c:Int}(h:lpI s m0 m ks i e)(hc:ks[i.toNat]? =some c)(he:e≤pot m0):wK s.ns c≤pot m:=by
 have h3:=h.2.2;have h0:=h.1.1
 rw[Gl h0.1 hc,wS] at h3
 have:= @NB s.ns (ks.drop (i+1).toNat);omega
theorem LZ{s:ZS}{m0 m m2:Mc}{ks:List Int}{i e c:Int}(h:lpI s m0 m ks i e)(hc:ks[i.toNat]? =some c)(g:DA m m2 (wK s.ns c)):lpI s m0 m2 ks (i+1) e:=by
 have h3:=h.2.2;have h0:=h.1.1
 have hl:=(List.getElem?_eq_some_iff.1 hc).1
 rw[Gl h0.1 hc,wS] at h3
 exact⟨⟨by omega,g.1.1,by rw[g.1.2,h.1.2.2]⟩,Int.le_trans h.2.1 g.2.1,by have:=g.2.2;omega⟩
theorem NJ{s:ZS}{m0 m:Mc}{ks:List Int}{i e:Int}(h:lpI s m0 m ks i e):DA m0 m e:=
 ⟨h.1.2,h.2.1,by have:=h.2.2;have:= @NB s.ns (ks.drop i.toNat);omega⟩
theorem NK{s:ZS}{m0 m m2:Mc}{ks:List Int}{i e c:Int}(h:lpI s m0 m ks i e)(hc:ks[i.toNat]? =some c)(g:DA m m2 (wK s.ns c)):DA m0 m2 e:=NJ (LZ h hc g)
theorem RH{cs:Cls}{m m2:Mc}(h:NC cs m)(hs:m.steps≤m2.steps):NC cs m2:=⟨h.1,by have:=h.2;omega⟩
theorem Fd:bdd 0:=by unfold bdd;omega
theorem Wc{b:Bool}:bdd (tr b):=by cases b<;>(unfold tr bdd;simp)
def cPz(n:Nat)(s:ZS)(m:Mc)(cs:Cls)(x:Nd):Prop:=(zB s∧(mOk m∧NC cs m))∧((∀c∈x.kids,kOk s.ns m n c)∧(x.kids.length≤12∧wS s.ns x.kids≤pot m))
def cQz(c:Run Int)(s:ZS)(m:Mc)(e:Int)(y:Int×Mc):Prop:=(c s.L m=some y∧bdd y.1)∧DA m y.2 e
theorem RI{n:Nat}{s:ZS}{m0 m:Mc}{cs:Cls}{x:Nd}{i c:Int}(hp:cPz n s m0 cs x)(h:lpI s m0 m x.kids i (wS s.ns x.kids))(hc:x.kids[i.toNat]? =some c):vPz n s m cs c:=
 ⟨⟨hp.1.1,h.1.2.1,RH hp.1.2.2 h.2.1⟩,Ky (hp.2.1 c (Ca hc)) h.1.2.2,a1T h hc hp.2.2.2⟩
def lgI(n:Nat)(s:ZS)(m0:Mc)(cs:Cls)(x:Nd)(i:Int)(m:Mc):Prop:=
 (lpI s m0 m x.kids i (wS s.ns x.kids)∧x.kids.length≤12)∧IR ((ev s.ns n).val cs) x.text x.kids s.L m0=IR ((ev s.ns n).val cs) x.text (x.kids.drop i.toNat) s.L m
abbrev lgQ (n:Nat) (s:ZS) (m0:Mc) (cs:Cls) (x:Nd) (y:Int×Mc):Prop:=cQz (IR ((ev s.ns n).val cs) x.text x.kids) s m0 (wS s.ns x.kids) y
theorem b1g{n:Nat}{s:ZS}{m:Mc}{cs:Cls}{x:Nd}(hp:cPz n s m cs x):lgI n s m cs x 0 m:=⟨⟨NI hp.1.2.1,hp.2.2.1⟩,rfl⟩
theorem b1h{n:Nat}{s:ZS}{m0 m:Mc}{cs:Cls}{x:Nd}{i:Int}(h:lgI n s m0 cs x i m):(0≤i∧i≤x.kids.length)∧x.kids.length≤12:=⟨h.1.1.1.1,h.1.2⟩
theorem b1i{n:Nat}{s:ZS}{m0 m:Mc}{cs:Cls}{x:Nd}{i c:Int}(hp:cPz n s m0 cs x)(h:lgI n s m0 cs x i m)(hc:x.kids[i.toNat]? =some c):vPz n s m cs c:=RI hp h.1.1 hc
theorem Wd{n:Nat}{s:ZS}{m0 m:Mc}{cs:Cls}{x:Nd}{i c:Int}{y:Int×Mc}(h:lgI n s m0 cs x i m)(hc:x.kids[i.toNat]? =some c)(hv:vQz n s m cs c y):
 IR ((ev s.ns n).val cs) x.text x.kids s.L m0=CT 0 (if(y.1 != 0)=(x.text==[124,124]) then Dj (tr ((y.1 != 0))) else IR ((ev s.ns n).val cs) x.text (x.kids.drop (i+1).toNat)) s.L y.2:=by
 rw[h.2,Gl h.1.1.1.1.1 hc,IR,Cu,hv.1.1];rfl
theorem b1j{n:Nat}{s:ZS}{m0 m:Mc}{cs:Cls}{x:Nd}{i c:Int}{y:Int×Mc}(h:lgI n s m0 cs x i m)(hc:x.kids[i.toNat]? =some c)(hv:vQz n s m cs c y)(hq:¬y.2.code=0):lgQ n s m0 cs x (0,y.2):=by
 refine⟨⟨?_,Fd⟩,NK h.1.1 hc hv.2⟩
 rw[Wd h hc hv,Dk,if_neg hq]
theorem b1k{n:Nat}{s:ZS}{m0 m:Mc}{cs:Cls}{x:Nd}{i c:Int}{y:Int×Mc}(h:lgI n s m0 cs x i m)(hc:x.kids[i.toNat]? =some c)(hv:vQz n s m cs c y)(hq:y.2.code=0)(he:(y.1 != 0)=(x.text==[124,124])):lgQ n s m0 cs x (tr ((y.1 != 0)),y.2):=by
 refine⟨⟨?_,Wc⟩,NK h.1.1 hc hv.2⟩
 rw[Wd h hc hv,Dk,if_pos hq,if_pos he];rfl
theorem b1l{n:Nat}{s:ZS}{m0 m:Mc}{cs:Cls}{x:Nd}{i c:Int}{y:Int×Mc}(h:lgI n s m0 cs x i m)(hc:x.kids[i.toNat]? =some c)(hv:vQz n s m cs c y)(hq:y.2.code=0)(he:¬(y.1 != 0)=(x.text==[124,124])):lgI n s m0 cs x (i+1) y.2:=by
 refine⟨⟨LZ h.1.1 hc hv.2,h.1.2⟩,?_⟩
 rw[Wd h hc hv,Dk,if_pos hq,if_neg he]
theorem b1m{n:Nat}{s:ZS}{m0 m:Mc}{cs:Cls}{x:Nd}{i:Int}(h:lgI n s m0 cs x i m)(hl:¬i<(x.kids.length:Int)):lgQ n s m0 cs x (tr (x.text==[38,38]),m):=by
 refine⟨⟨?_,Wc⟩,NJ h.1.1⟩
 rw[h.2,List.drop_eq_nil_of_le (by omega)];rfl
attribute [local irreducible] lgI vQz vPz cQz
def JC(n:Nat):Sig:= {X:=ZX Nd,args:=fun x=>[mcA x.1 (zh x),frA (zf x),.agg (ndA false (zl x))],pre:=fun x=>cPz n x.1 (zh x) (zf x).cells (zl x),Y:=Int×List Int×Int×Int×Int,post:=fun x y=>lgQ n x.1 (zh x) (zf x).cells (zl x) (yV y),res:=fun x y=> .int .i64 y.1,outs:=fun x y=>[mcA x.1 (yM y.2),frA (zf x),.top],keep:=true}
def RJ(n:Nat)(x:ZX Nd):LS:= {ι:=Int×List Int×Int×Int×Int,inv:=fun i=>lgI n x.1 (zh x) (zf x).cells (zl x) i.1 (yM i.2),regs:=fun i=>[(0,mcA x.1 (yM i.2)),(1,frA (zf x)),(5,.box 0 (ndA false (zl x))),(11,Aj (zl x).kids),(12,.int .i64 (zl x).kids.length),(13,.int .i64 i.1)],als:=[],meas:=fun i=>(zl x).kids.length-i.1.toNat}
theorem b1n(n:Nat)(h:zAll G n):Ai G Tryz.prog 223 (JC n):=
 vcFun_okP [(179,0,(DI n)),(224,0,Gm)] [] false (fun x=>[(2,RJ n x)]) Tryz.func223 rfl (by decide) ⟨h.val,a1G,trivial⟩ (fun(x:ZX Nd)=>True∧eA (RJ n x) [.box 0 [nds x.1.ns,.int .i64 x.1.L,Ab (zh x).out,.int .i64 (0:Int),.int .i64 (zh x).code,.int .i64 (zh x).steps,.int .i64 (zh x).deep],.box 0 [AV.sl false 0 2 (List UInt8×Int) Aw (zf x).cells,.bool (zf x).ended,.int .i64 (zf x).ret],.box 0 [.int .i64 (zl x).kind,.str (zl x).text,Aj (zl x).kids,.bool (zl x).blank],Aj (zl x).kids,.int .i64 (↑(List.length (zl x).kids):Int),.int .i64 (0:Int)]∧∀(i:Int×List Int×Int×Int×Int),lgI n x.1 (zh x) (zf x).cells (zl x) i.1 (yM i.2)→Aa (decide (i.1<(↑(List.length (zl x).kids):Int))) (((0:Int)≤i.1∧i.1<(↑(List.length (zl x).kids):Int))∧∀(e:Int),(zl x).kids[Int.toNat i.1]? =some e→cA (DI n) [.box 0 [nds x.1.ns,.int .i64 x.1.L,Ab (yM i.2).out,.int .i64 (0:Int),.int .i64 (yM i.2).code,.int .i64 (yM i.2).steps,.int .i64 (yM i.2).deep],.box 0 [AV.sl false 0 2 (List UInt8×Int) Aw (zf x).cells,.bool (zf x).ended,.int .i64 (zf x).ret],.int .i64 e] fun x_1 y=>Aa ((yM y.2).code != (0:Int)) (rA (JC n) x [.int .i64 (0:Int),.box 0 [nds x_1.1.ns,.int .i64 x_1.1.L,Ab (yM y.2).out,.int .i64 (0:Int),.int .i64 (yM y.2).code,.int .i64 (yM y.2).steps,.int .i64 (yM y.2).deep],.box 0 [AV.sl false 0 2 (List UInt8×Int) Aw (zf x_1).cells,.bool (zf x_1).ended,.int .i64 (zf x_1).ret],.top]) (Aa ((y.1 != (0:Int))==((zl x).text== #[(124:UInt8),(124:UInt8)].toList)) (cA Gm [.bool (y.1 != (0:Int))] fun x_2 y_1=>rA (JC n) x [.int .i64 (tr x_2),.box 0 [nds x_1.1.ns,.int .i64 x_1.1.L,Ab (yM y.2).out,.int .i64 (0:Int),.int .i64 (yM y.2).code,.int .i64 (yM y.2).steps,.int .i64 (yM y.2).deep],.box 0 [AV.sl false 0 2 (List UInt8×Int) Aw (zf x_1).cells,.bool (zf x_1).ended,.int .i64 (zf x_1).ret],.top]) (inR IntKind.i64 (i.1+(1:Int))∧eN (RJ n x) i [.box 0 [nds x_1.1.ns,.int .i64 x_1.1.L,Ab (yM y.2).out,.int .i64 (0:Int),.int .i64 (yM y.2).code,.int .i64 (yM y.2).steps,.int .i64 (yM y.2).deep],.box 0 [AV.sl false 0 2 (List UInt8×Int) Aw (zf x_1).cells,.bool (zf x_1).ended,.int .i64 (zf x_1).ret],.box 0 [.int .i64 (zl x).kind,.str (zl x).text,Aj (zl x).kids,.bool (zl x).blank],Aj (zl x).kids,.int .i64 (↑(List.length (zl x).kids):Int),.int .i64 (i.1+(1:Int))]))) (cA Gm [.bool ((zl x).text== #[(38:UInt8),(38:UInt8)].toList)] fun x_1 y=>rA (JC n) x [.int .i64 (tr x_1),.box 0 [nds x.1.ns,.int .i64 x.1.L,Ab (yM i.2).out,.int .i64 (0:Int),.int .i64 (yM i.2).code,.int .i64 (yM i.2).steps,.int .i64 (yM i.2).deep],.box 0 [AV.sl false 0 2 (List UInt8×Int) Aw (zf x).cells,.bool (zf x).ended,.int .i64 (zf x).ret],.top])) (fun x=>by kernel_rfl) fun(x:ZX Nd) (hx:cPz n x.1 (zh x) (zf x).cells (zl x))=>(by
 dsimp only[cA,Aw,cls,eA,eN,frA,RJ,Aj,mcA,Bc,nds,Ab,rA,JC,Gm,DI,Au,Az,mvL,lnL,mvE,lnE,Bq]
 obtain⟨s,o,c,t,d,cs,en,re,z⟩:=x;dsimp only[zh,zf,zl] at hx ⊢
 (repeat' first|(with_reducible first|rfl|exact True.intro|apply AK|apply And.intro|((first|apply AA|apply AI|apply AB|apply AJ)<;>intro _))|(apply Ax<;>intro _)|apply AH|refine Ae () ?_ ?_|((first|apply AO|apply AN|apply AM|apply AL|apply AG|apply AF|apply AE|apply AD|apply AC)<;>try dsimp only)|apply Ae|(refine Prod.forall.2 ?_;intro _;try dsimp only)|(intro _;try dsimp only))
 all_goals(try(have hB:=b1h (show lgI _ _ _ _ _ _ _ by assumption)))
 all_goals first
  |rfl
  |exact hx
  |exact b1g hx
  |exact b1i hx ‹_› ‹_›
  |exact b1j ‹_› ‹_› ‹_› ‹_›
  |exact b1k ‹_› ‹_› ‹_› ‹_› ‹_›
  |exact b1l ‹_› ‹_› ‹_› ‹_› ‹_›
  |exact b1m ‹_› ‹_›
  |((try simp only[AR]);omega)
  |skip
 all_goals trace_state)
end Go.My
end
section
namespace Go.My
open Go.Eng Go.Proofs
variable {G:GInv}
theorem Ma(m:Mc):(⟨m.out,m.code,m.steps,m.deep⟩:Mc)=m:=rfl
abbrev chQ (n:Nat) (s:ZS) (m0:Mc) (cs:Cls) (x:Nd) (y:Int×Mc):Prop:=cQz (chG ((ev s.ns n).val cs) x) s m0 (wS s.ns x.kids) y
theorem a1U{n:Nat}{s:ZS}{m:Mc}{cs:Cls}{x:Nd}{y:Int×Mc}(h:lgQ n s m cs x y)(ht:x.text=[38,38]∨x.text=[124,124]):chQ n s m cs x y:=by
 refine⟨⟨?_,h.1.2⟩,h.2⟩
 rw[chG,if_pos ht];exact h.1.1
def eqT(x:Nd):Prop:=¬(x.text=[38,38]∨x.text=[124,124])∧(x.text=[61,61]∨x.text=[60])
theorem b1o{x:Nd}(h1:¬x.text=[38,38])(h2:¬x.text=[124,124])(h:x.text=[61,61]):eqT x:=⟨fun h=>h.elim h1 h2,.inl h⟩
theorem b1p{x:Nd}(h1:¬x.text=[38,38])(h2:¬x.text=[124,124])(h:x.text=[60]):eqT x:=⟨fun h=>h.elim h1 h2,.inr h⟩
theorem b1q{n:Nat}{s:ZS}{m:Mc}{cs:Cls}{x:Nd}(hp:cPz n s m cs x)(ht:eqT x)(hl:¬(x.kids.length:Int)=2):chQ n s m cs x (0,Bm m):=by
 refine⟨⟨?_,Fd⟩,Fp (LR hp.1.2.1) NB⟩
 rw[chG,if_neg ht.1,if_pos ht.2,if_pos (by omega)];rfl
def eqI(n:Nat)(s:ZS)(m0:Mc)(cs:Cls)(x:Nd)(c0 c1:Int)(y:Int×Mc):Prop:=(eqT x∧x.kids=[c0,c1])∧vQz n s m0 cs c0 y
theorem b1r{x:Nd}{c0 c1:Int}(hl:(x.kids.length:Int)=2)(h0:x.kids[0]? =some c0)(h1:x.kids[1]? =some c1):x.kids=[c0,c1]:=by
 match hk:x.kids with
 |[]=>rw[hk] at hl;simp at hl
 |[a]=>rw[hk] at hl;simp at hl
 |[a,b]=>rw[hk] at h0 h1;simp at h0 h1;rw[h0,h1]
 |a::b::c::l=>rw[hk] at hl;simp at hl;omega
theorem We{n:Nat}{s:ZS}{m:Mc}{cs:Cls}{x:Nd}{c0 c1:Int}{y:Int×Mc}(h:eqI n s m cs x c0 c1 y):
 chG ((ev s.ns n).val cs) x s.L m=CT 0 (Cu ((ev s.ns n).val cs c1) fun b=>CT 0 (Dj (if x.text=[61,61] then tr (y.1==b) else tr (decide (y.1<b))))) s.L y.2:=by
 rw[chG,if_neg h.1.1.1,if_pos h.1.1.2,if_neg (by rw[h.1.2];simp),Cu,CV,CV,h.1.2]
 simp only[List.getD_cons_zero,List.getD_cons_succ,h.2.1.1];rfl
theorem RK{n:Nat}{s:ZS}{m:Mc}{cs:Cls}{x:Nd}{c0 c1:Int}{y:Int×Mc}(hp:cPz n s m cs x)(h:eqI n s m cs x c0 c1 y):lpI s m y.2 x.kids 1 (wS s.ns x.kids):=
 LZ (i:=0) (c:=c0) (NI hp.1.2.1) (by rw[h.1.2];rfl) h.2.2
theorem b1s{n:Nat}{s:ZS}{m:Mc}{cs:Cls}{x:Nd}{c0 c1:Int}{y:Int×Mc}(hp:cPz n s m cs x)(h:eqI n s m cs x c0 c1 y)(hq:¬y.2.code=0):chQ n s m cs x (0,y.2):=by
 refine⟨⟨?_,Fd⟩,NJ (m:=y.2) (RK hp h)⟩
 rw[We h,Dk,if_neg hq]
theorem b1t{n:Nat}{s:ZS}{m:Mc}{cs:Cls}{x:Nd}{c0 c1:Int}{y:Int×Mc}(hp:cPz n s m cs x)(h:eqI n s m cs x c0 c1 y):vPz n s y.2 cs c1:=RI (i:=1) hp (RK hp h) (by rw[h.1.2];rfl)
theorem b1u{n:Nat}{s:ZS}{m:Mc}{cs:Cls}{x:Nd}{c0 c1:Int}{y z:Int×Mc}(hp:cPz n s m cs x)(h:eqI n s m cs x c0 c1 y)(hq:y.2.code=0)(hz:vQz n s y.2 cs c1 z)(hq2:¬z.2.code=0):chQ n s m cs x (0,z.2):=by
 refine⟨⟨?_,Fd⟩,NK (RK hp h) (c:=c1) (by rw[h.1.2];rfl) hz.2⟩
 rw[We h,Dk,if_pos hq,Cu,hz.1.1]
 simp only[Option.bind_some,Dk];rw[if_neg hq2]
theorem a1V{n:Nat}{s:ZS}{m:Mc}{cs:Cls}{x:Nd}{c0 c1:Int}{y z:Int×Mc}(hp:cPz n s m cs x)(h:eqI n s m cs x c0 c1 y)(hq:y.2.code=0)(hz:vQz n s y.2 cs c1 z)(hq2:z.2.code=0):
 chQ n s m cs x (if x.text=[61,61] then tr (y.1==z.1) else tr (decide (y.1<z.1)),z.2):=by
 refine⟨⟨?_,by split<;>exact Wc⟩,NK (RK hp h) (c:=c1) (by rw[h.1.2];rfl) hz.2⟩
 rw[We h,Dk,if_pos hq,Cu,hz.1.1]
 simp only[Option.bind_some,Dk];rw[if_pos hq2];rfl
theorem b1v{n:Nat}{s:ZS}{m:Mc}{cs:Cls}{x:Nd}{c0 c1:Int}{y z:Int×Mc}(hp:cPz n s m cs x)(h:eqI n s m cs x c0 c1 y)(hq:y.2.code=0)(hz:vQz n s y.2 cs c1 z)(hq2:z.2.code=0)(ht:x.text=[61,61]):chQ n s m cs x (tr (y.1==z.1),z.2):=by
 have:=a1V hp h hq hz hq2;rwa [if_pos ht] at this
theorem b1w{n:Nat}{s:ZS}{m:Mc}{cs:Cls}{x:Nd}{c0 c1:Int}{y z:Int×Mc}(hp:cPz n s m cs x)(h:eqI n s m cs x c0 c1 y)(hq:y.2.code=0)(hz:vQz n s y.2 cs c1 z)(hq2:z.2.code=0)(ht:¬x.text=[61,61]):chQ n s m cs x (tr (decide (y.1<z.1)),z.2):=by
 have:=a1V hp h hq hz hq2;rwa [if_neg ht] at this
def suT(x:Nd):Prop:=¬(x.text=[38,38]∨x.text=[124,124])∧¬(x.text=[61,61]∨x.text=[60])
def suI(n:Nat)(s:ZS)(m0:Mc)(cs:Cls)(x:Nd)(i:Int)(m:Mc)(v:Int):Prop:=
 ((lpI s m0 m x.kids i (wS s.ns x.kids)∧x.kids.length≤12)∧(suT x∧bdd v))∧GQ ((ev s.ns n).val cs) x.text x.kids true 0 s.L m0=GQ ((ev s.ns n).val cs) x.text (x.kids.drop i.toNat) (decide (i=0)) v s.L m
theorem b1x{n:Nat}{s:ZS}{m:Mc}{cs:Cls}{x:Nd}(hp:cPz n s m cs x)(h1:¬x.text=[38,38])(h2:¬x.text=[124,124])(h3:¬x.text=[61,61])(h4:¬x.text=[60]):suI n s m cs x 0 m 0:=⟨⟨⟨NI hp.1.2.1,hp.2.2.1⟩,⟨fun h=>h.elim h1 h2,fun h=>h.elim h3 h4⟩,Fd⟩,rfl⟩
theorem b1y{n:Nat}{s:ZS}{m0 m:Mc}{cs:Cls}{x:Nd}{i v:Int}(h:suI n s m0 cs x i m v):((0≤i∧i≤x.kids.length)∧x.kids.length≤12)∧bdd v:=⟨⟨h.1.1.1.1.1,h.1.1.2⟩,h.1.2.2⟩
theorem b1z{n:Nat}{s:ZS}{m0 m:Mc}{cs:Cls}{x:Nd}{i v c:Int}(hp:cPz n s m0 cs x)(h:suI n s m0 cs x i m v)(hc:x.kids[i.toNat]? =some c):vPz n s m cs c:=RI hp h.1.1.1 hc
theorem Wf{n:Nat}{s:ZS}{m0 m:Mc}{cs:Cls}{x:Nd}{i v c:Int}{y:Int×Mc}(h:suI n s m0 cs x i m v)(hc:x.kids[i.toNat]? =some c)(hv:vQz n s m cs c y):
 GQ ((ev s.ns n).val cs) x.text x.kids true 0 s.L m0=CT 0 (if decide (i=0) then GQ ((ev s.ns n).val cs) x.text (x.kids.drop (i+1).toNat) false y.1 else if inn (HZ x.text v y.1) (-1000000000) 1000000000 then GQ ((ev s.ns n).val cs) x.text (x.kids.drop (i+1).toNat) false (HZ x.text v y.1) else Cu Hv (GQ ((ev s.ns n).val cs) x.text (x.kids.drop (i+1).toNat) false)) s.L y.2:=by
 rw[h.2,Gl h.1.1.1.1.1.1 hc,GQ,Cu,hv.1.1];rfl
theorem b1A{n:Nat}{s:ZS}{m0 m:Mc}{cs:Cls}{x:Nd}{i v c:Int}{y:Int×Mc}(h:suI n s m0 cs x i m v)(hc:x.kids[i.toNat]? =some c)(hv:vQz n s m cs c y)(hq:¬y.2.code=0):chQ n s m0 cs x (0,y.2):=by
 refine⟨⟨?_,Fd⟩,NK h.1.1.1 hc hv.2⟩
 rw[chG,if_neg h.1.2.1.1,if_neg h.1.2.1.2,Wf h hc hv,Dk,if_neg hq]
theorem b1B{n:Nat}{s:ZS}{m0 m:Mc}{cs:Cls}{x:Nd}{i v c:Int}{y:Int×Mc}(h:suI n s m0 cs x i m v)(hc:x.kids[i.toNat]? =some c)(hv:vQz n s m cs c y)(hq:y.2.code=0)(hi:i=0):suI n s m0 cs x (i+1) y.2 y.1:=by
 refine⟨⟨⟨LZ h.1.1.1 hc hv.2,h.1.1.2⟩,h.1.2.1,hv.1.2⟩,?_⟩
 rw[Wf h hc hv,Dk,if_pos hq,if_pos (by simp [hi]),show decide (i+1=0)=false by simp;omega]
theorem b1C{m:Mc}{r:Int}(h:mOk m):DA m (FH r m) 0:=by unfold FH;split;exact ND h;exact LR h
theorem b1D{r:Int}:bdd (LV r):=by unfold LV;split;rename_i h;exact Ku.1 h;exact Fd
theorem b1E{n:Nat}{s:ZS}{m0 m:Mc}{cs:Cls}{x:Nd}{i v c:Int}{y:Int×Mc}(h:suI n s m0 cs x i m v)(hc:x.kids[i.toNat]? =some c)(hv:vQz n s m cs c y)(hq:y.2.code=0)(hi:¬i=0):suI n s m0 cs x (i+1) (FH (HZ x.text v y.1) y.2) (LV (HZ x.text v y.1)):=by
 have g:=Gk hv.2 (b1C (r:=HZ x.text v y.1) hv.2.1.1)
 rw[show wK s.ns c+0=wK s.ns c by omega] at g
 refine⟨⟨⟨LZ h.1.1.1 hc g,h.1.1.2⟩,h.1.2.1,b1D⟩,?_⟩
 rw[Wf h hc hv,Dk,if_pos hq,if_neg (by simp [hi]),show decide (i+1=0)=false by have:=h.1.1.1.1.1.1;simp;omega]
 unfold FH LV
 by_cases hr:inn (HZ x.text v y.1) (-1000000000) 1000000000=true
 ·rw[if_pos hr,if_pos hr,if_pos hr]
 ·rw[if_neg hr,if_neg hr,if_neg hr];rfl
theorem b1F{n:Nat}{s:ZS}{m0 m:Mc}{cs:Cls}{x:Nd}{i v:Int}(h:suI n s m0 cs x i m v)(hl:¬i<(x.kids.length:Int)):chQ n s m0 cs x (v,m):=by
 refine⟨⟨?_,h.1.2.2⟩,NJ h.1.1.1⟩
 rw[chG,if_neg h.1.2.1.1,if_neg h.1.2.1.2,h.2,List.drop_eq_nil_of_le (by omega)];rfl
theorem b1G{n:Nat}{s:ZS}{m:Mc}{cs:Cls}{c:Int}{y:Int×Mc}(h:vQz n s m cs c y):bdd y.1:=h.1.2
theorem b1H{n:Nat}{s:ZS}{m:Mc}{cs:Cls}{x:Nd}{c:Int}(hp:cPz n s m cs x)(hc:x.kids[0]? =some c):vPz n s m cs c:=RI (i:=0) hp (NI hp.1.2.1) hc
theorem Pz{n:Nat}{s:ZS}{m:Mc}{cs:Cls}{x:Nd}{c0 c1:Int}{y:Int×Mc}(hv:vQz n s m cs c0 y)(hl:(x.kids.length:Int)=2)(h0:x.kids[0]? =some c0)(h1:x.kids[1]? =some c1)(ht:eqT x):eqI n s m cs x c0 c1 y:=⟨⟨ht,b1r hl h0 h1⟩,hv⟩
theorem b1I{n:Nat}{s:ZS}{m:Mc}{cs:Cls}{x:Nd}{c0:Int}{y:Int×Mc}(hp:cPz n s m cs x)(hv:vQz n s m cs c0 y)(hl:(x.kids.length:Int)=2)(h0:x.kids[0]? =some c0)(ht:eqT x)(hq:¬y.2.code=0):chQ n s m cs x (0,y.2):=
 b1s hp (Pz (c1:=x.kids[1]'(by omega)) hv hl h0 (List.getElem?_eq_getElem (by omega)) ht) hq
attribute [local irreducible] lgI vQz vPz cQz suI chG IR GQ
def Ey(n:Nat):Sig:= {X:=ZX Nd,args:=fun x=>[mcA x.1 (zh x),frA (zf x),.agg (ndA false (zl x))],pre:=fun x=>cPz n x.1 (zh x) (zf x).cells (zl x),Y:=Int×List Int×Int×Int×Int,post:=fun x y=>chQ n x.1 (zh x) (zf x).cells (zl x) (yV y),res:=fun x y=> .int .i64 y.1,outs:=fun x y=>[mcA x.1 (yM y.2),frA (zf x),.top],keep:=true}
def PA(n:Nat)(x:ZX Nd):LS:= {ι:=Int×Int×List Int×Int×Int×Int,inv:=fun i=>suI n x.1 (zh x) (zf x).cells (zl x) i.1 (yM i.2.2) i.2.1,regs:=fun i=>[(0,mcA x.1 (yM i.2.2)),(1,frA (zf x)),(5,.box 0 (ndA false (zl x))),(9,.int .i64 i.2.1),(69,Aj (zl x).kids),(70,.int .i64 (zl x).kids.length),(71,.int .i64 i.1)],als:=[],meas:=fun i=>(zl x).kids.length-i.1.toNat}
theorem b1J(n:Nat)(h:zAll G n):Ai G Tryz.prog 204 (Ey n):=
 vcFun_okP [(223,0,(JC n)),(104,0,Dm),(179,0,(DI n)),(224,0,Gm),(125,0,KA),(80,0,IU)] [] false (fun x=>[(20,PA n x)]) Tryz.func204 rfl (by decide) ⟨(b1n n h),NF,h.val,a1G,b0V,a1K,trivial⟩ (fun(x:ZX Nd)=>True∧Aa ((zl x).text== #[(38:UInt8),(38:UInt8)].toList) (cA (JC n) [.box 0 [nds x.1.ns,.int .i64 x.1.L,Ab (zh x).out,.int .i64 (0:Int),.int .i64 (zh x).code,.int .i64 (zh x).steps,.int .i64 (zh x).deep],.box 0 [AV.sl false 0 2 (List UInt8×Int) Aw (zf x).cells,.bool (zf x).ended,.int .i64 (zf x).ret],.agg [.int .i64 (zl x).kind,.str (zl x).text,Aj (zl x).kids,.bool (zl x).blank]] fun x_1 y=>rA (Ey n) x [.int .i64 y.1,.box 0 [nds x_1.1.ns,.int .i64 x_1.1.L,Ab (yM y.2).out,.int .i64 (0:Int),.int .i64 (yM y.2).code,.int .i64 (yM y.2).steps,.int .i64 (yM y.2).deep],.box 0 [AV.sl false 0 2 (List UInt8×Int) Aw (zf x_1).cells,.bool (zf x_1).ended,.int .i64 (zf x_1).ret],.top]) (Aa ((zl x).text== #[(124:UInt8),(124:UInt8)].toList) (cA (JC n) [.box 0 [nds x.1.ns,.int .i64 x.1.L,Ab (zh x).out,.int .i64 (0:Int),.int .i64 (zh x).code,.int .i64 (zh x).steps,.int .i64 (zh x).deep],.box 0 [AV.sl false 0 2 (List UInt8×Int) Aw (zf x).cells,.bool (zf x).ended,.int .i64 (zf x).ret],.agg [.int .i64 (zl x).kind,.str (zl x).text,Aj (zl x).kids,.bool (zl x).blank]] fun x_1 y=>rA (Ey n) x [.int .i64 y.1,.box 0 [nds x_1.1.ns,.int .i64 x_1.1.L,Ab (yM y.2).out,.int .i64 (0:Int),.int .i64 (yM y.2).code,.int .i64 (yM y.2).steps,.int .i64 (yM y.2).deep],.box 0 [AV.sl false 0 2 (List UInt8×Int) Aw (zf x_1).cells,.bool (zf x_1).ended,.int .i64 (zf x_1).ret],.top]) (Aa ((zl x).text== #[(61:UInt8),(61:UInt8)].toList) (Aa ((↑(List.length (zl x).kids):Int) != (2:Int)) (cA Dm [.box 0 [nds x.1.ns,.int .i64 x.1.L,Ab (zh x).out,.int .i64 (0:Int),.int .i64 (zh x).code,.int .i64 (zh x).steps,.int .i64 (zh x).deep]] fun x_1 y=>rA (Ey n) x [.int .i64 (0:Int),.box 0 [nds x_1.1.ns,.int .i64 x_1.1.L,Ab (Bm (zg x_1)).out,.int .i64 (0:Int),.int .i64 (Bm (zg x_1)).code,.int .i64 (Bm (zg x_1)).steps,.int .i64 (Bm (zg x_1)).deep],.box 0 [AV.sl false 0 2 (List UInt8×Int) Aw (zf x).cells,.bool (zf x).ended,.int .i64 (zf x).ret],.top]) (((0:Int)≤(0:Int)∧(0:Int)<(↑(List.length (zl x).kids):Int))∧∀(e:Int),(zl x).kids[(0:Nat)]? =some e→cA (DI n) [.box 0 [nds x.1.ns,.int .i64 x.1.L,Ab (zh x).out,.int .i64 (0:Int),.int .i64 (zh x).code,.int .i64 (zh x).steps,.int .i64 (zh x).deep],.box 0 [AV.sl false 0 2 (List UInt8×Int) Aw (zf x).cells,.bool (zf x).ended,.int .i64 (zf x).ret],.int .i64 e] fun x_1 y=>Aa ((yM y.2).code != (0:Int)) (rA (Ey n) x [.int .i64 (0:Int),.box 0 [nds x_1.1.ns,.int .i64 x_1.1.L,Ab (yM y.2).out,.int .i64 (0:Int),.int .i64 (yM y.2).code,.int .i64 (yM y.2).steps,.int .i64 (yM y.2).deep],.box 0 [AV.sl false 0 2 (List UInt8×Int) Aw (zf x_1).cells,.bool (zf x_1).ended,.int .i64 (zf x_1).ret],.top]) (((0:Int)≤(1:Int)∧(1:Int)<(↑(List.length (zl x).kids):Int))∧∀(e:Int),(zl x).kids[(1:Nat)]? =some e→cA (DI n) [.box 0 [nds x_1.1.ns,.int .i64 x_1.1.L,Ab (yM y.2).out,.int .i64 (0:Int),.int .i64 (yM y.2).code,.int .i64 (yM y.2).steps,.int .i64 (yM y.2).deep],.box 0 [AV.sl false 0 2 (List UInt8×Int) Aw (zf x_1).cells,.bool (zf x_1).ended,.int .i64 (zf x_1).ret],.int .i64 e] fun x_2 y_1=>Aa ((yM y_1.2).code != (0:Int)) (rA (Ey n) x [.int .i64 (0:Int),.box 0 [nds x_2.1.ns,.int .i64 x_2.1.L,Ab (yM y_1.2).out,.int .i64 (0:Int),.int .i64 (yM y_1.2).code,.int .i64 (yM y_1.2).steps,.int .i64 (yM y_1.2).deep],.box 0 [AV.sl false 0 2 (List UInt8×Int) Aw (zf x_2).cells,.bool (zf x_2).ended,.int .i64 (zf x_2).ret],.top]) (Aa ((zl x).text== #[(61:UInt8),(61:UInt8)].toList) (cA Gm [.bool (y.1==y_1.1)] fun x_3 y=>rA (Ey n) x [.int .i64 (tr x_3),.box 0 [nds x_2.1.ns,.int .i64 x_2.1.L,Ab (yM y_1.2).out,.int .i64 (0:Int),.int .i64 (yM y_1.2).code,.int .i64 (yM y_1.2).steps,.int .i64 (yM y_1.2).deep],.box 0 [AV.sl false 0 2 (List UInt8×Int) Aw (zf x_2).cells,.bool (zf x_2).ended,.int .i64 (zf x_2).ret],.top]) (cA Gm [.bool (decide (y.1<y_1.1))] fun x_3 y=>rA (Ey n) x [.int .i64 (tr x_3),.box 0 [nds x_2.1.ns,.int .i64 x_2.1.L,Ab (yM y_1.2).out,.int .i64 (0:Int),.int .i64 (yM y_1.2).code,.int .i64 (yM y_1.2).steps,.int .i64 (yM y_1.2).deep],.box 0 [AV.sl false 0 2 (List UInt8×Int) Aw (zf x_2).cells,.bool (zf x_2).ended,.int .i64 (zf x_2).ret],.top]))))) (Aa ((zl x).text== #[(60:UInt8)].toList) (Aa ((↑(List.length (zl x).kids):Int) != (2:Int)) (cA Dm [.box 0 [nds x.1.ns,.int .i64 x.1.L,Ab (zh x).out,.int .i64 (0:Int),.int .i64 (zh x).code,.int .i64 (zh x).steps,.int .i64 (zh x).deep]] fun x_1 y=>rA (Ey n) x [.int .i64 (0:Int),.box 0 [nds x_1.1.ns,.int .i64 x_1.1.L,Ab (Bm (zg x_1)).out,.int .i64 (0:Int),.int .i64 (Bm (zg x_1)).code,.int .i64 (Bm (zg x_1)).steps,.int .i64 (Bm (zg x_1)).deep],.box 0 [AV.sl false 0 2 (List UInt8×Int) Aw (zf x).cells,.bool (zf x).ended,.int .i64 (zf x).ret],.top]) (((0:Int)≤(0:Int)∧(0:Int)<(↑(List.length (zl x).kids):Int))∧∀(e:Int),(zl x).kids[(0:Nat)]? =some e→cA (DI n) [.box 0 [nds x.1.ns,.int .i64 x.1.L,Ab (zh x).out,.int .i64 (0:Int),.int .i64 (zh x).code,.int .i64 (zh x).steps,.int .i64 (zh x).deep],.box 0 [AV.sl false 0 2 (List UInt8×Int) Aw (zf x).cells,.bool (zf x).ended,.int .i64 (zf x).ret],.int .i64 e] fun x_1 y=>Aa ((yM y.2).code != (0:Int)) (rA (Ey n) x [.int .i64 (0:Int),.box 0 [nds x_1.1.ns,.int .i64 x_1.1.L,Ab (yM y.2).out,.int .i64 (0:Int),.int .i64 (yM y.2).code,.int .i64 (yM y.2).steps,.int .i64 (yM y.2).deep],.box 0 [AV.sl false 0 2 (List UInt8×Int) Aw (zf x_1).cells,.bool (zf x_1).ended,.int .i64 (zf x_1).ret],.top]) (((0:Int)≤(1:Int)∧(1:Int)<(↑(List.length (zl x).kids):Int))∧∀(e:Int),(zl x).kids[(1:Nat)]? =some e→cA (DI n) [.box 0 [nds x_1.1.ns,.int .i64 x_1.1.L,Ab (yM y.2).out,.int .i64 (0:Int),.int .i64 (yM y.2).code,.int .i64 (yM y.2).steps,.int .i64 (yM y.2).deep],.box 0 [AV.sl false 0 2 (List UInt8×Int) Aw (zf x_1).cells,.bool (zf x_1).ended,.int .i64 (zf x_1).ret],.int .i64 e] fun x_2 y_1=>Aa ((yM y_1.2).code != (0:Int)) (rA (Ey n) x [.int .i64 (0:Int),.box 0 [nds x_2.1.ns,.int .i64 x_2.1.L,Ab (yM y_1.2).out,.int .i64 (0:Int),.int .i64 (yM y_1.2).code,.int .i64 (yM y_1.2).steps,.int .i64 (yM y_1.2).deep],.box 0 [AV.sl false 0 2 (List UInt8×Int) Aw (zf x_2).cells,.bool (zf x_2).ended,.int .i64 (zf x_2).ret],.top]) (Aa ((zl x).text== #[(61:UInt8),(61:UInt8)].toList) (cA Gm [.bool (y.1==y_1.1)] fun x_3 y=>rA (Ey n) x [.int .i64 (tr x_3),.box 0 [nds x_2.1.ns,.int .i64 x_2.1.L,Ab (yM y_1.2).out,.int .i64 (0:Int),.int .i64 (yM y_1.2).code,.int .i64 (yM y_1.2).steps,.int .i64 (yM y_1.2).deep],.box 0 [AV.sl false 0 2 (List UInt8×Int) Aw (zf x_2).cells,.bool (zf x_2).ended,.int .i64 (zf x_2).ret],.top]) (cA Gm [.bool (decide (y.1<y_1.1))] fun x_3 y=>rA (Ey n) x [.int .i64 (tr x_3),.box 0 [nds x_2.1.ns,.int .i64 x_2.1.L,Ab (yM y_1.2).out,.int .i64 (0:Int),.int .i64 (yM y_1.2).code,.int .i64 (yM y_1.2).steps,.int .i64 (yM y_1.2).deep],.box 0 [AV.sl false 0 2 (List UInt8×Int) Aw (zf x_2).cells,.bool (zf x_2).ended,.int .i64 (zf x_2).ret],.top]))))) (eA (PA n x) [.box 0 [nds x.1.ns,.int .i64 x.1.L,Ab (zh x).out,.int .i64 (0:Int),.int .i64 (zh x).code,.int .i64 (zh x).steps,.int .i64 (zh x).deep],.box 0 [AV.sl false 0 2 (List UInt8×Int) Aw (zf x).cells,.bool (zf x).ended,.int .i64 (zf x).ret],.box 0 [.int .i64 (zl x).kind,.str (zl x).text,Aj (zl x).kids,.bool (zl x).blank],.int .i64 (0:Int),Aj (zl x).kids,.int .i64 (↑(List.length (zl x).kids):Int),.int .i64 (0:Int)]∧∀(i:Int×Int×List Int×Int×Int×Int),suI n x.1 (zh x) (zf x).cells (zl x) i.1 (yM i.2.2) i.2.1→Aa (decide (i.1<(↑(List.length (zl x).kids):Int))) (((0:Int)≤i.1∧i.1<(↑(List.length (zl x).kids):Int))∧∀(e:Int),(zl x).kids[Int.toNat i.1]? =some e→cA (DI n) [.box 0 [nds x.1.ns,.int .i64 x.1.L,Ab (yM i.2.2).out,.int .i64 (0:Int),.int .i64 (yM i.2.2).code,.int .i64 (yM i.2.2).steps,.int .i64 (yM i.2.2).deep],.box 0 [AV.sl false 0 2 (List UInt8×Int) Aw (zf x).cells,.bool (zf x).ended,.int .i64 (zf x).ret],.int .i64 e] fun x_1 y=>Aa ((yM y.2).code != (0:Int)) (rA (Ey n) x [.int .i64 (0:Int),.box 0 [nds x_1.1.ns,.int .i64 x_1.1.L,Ab (yM y.2).out,.int .i64 (0:Int),.int .i64 (yM y.2).code,.int .i64 (yM y.2).steps,.int .i64 (yM y.2).deep],.box 0 [AV.sl false 0 2 (List UInt8×Int) Aw (zf x_1).cells,.bool (zf x_1).ended,.int .i64 (zf x_1).ret],.top]) (Aa (i.1==(0:Int)) (inR IntKind.i64 (i.1+(1:Int))∧eN (PA n x) i [.box 0 [nds x_1.1.ns,.int .i64 x_1.1.L,Ab (yM y.2).out,.int .i64 (0:Int),.int .i64 (yM y.2).code,.int .i64 (yM y.2).steps,.int .i64 (yM y.2).deep],.box 0 [AV.sl false 0 2 (List UInt8×Int) Aw (zf x_1).cells,.bool (zf x_1).ended,.int .i64 (zf x_1).ret],.box 0 [.int .i64 (zl x).kind,.str (zl x).text,Aj (zl x).kids,.bool (zl x).blank],.int .i64 y.1,Aj (zl x).kids,.int .i64 (↑(List.length (zl x).kids):Int),.int .i64 (i.1+(1:Int))]) (cA KA [.str (zl x).text,.int .i64 i.2.1,.int .i64 y.1] fun x_2 y_1=>cA IU [.box 0 [nds x_1.1.ns,.int .i64 x_1.1.L,Ab (yM y.2).out,.int .i64 (0:Int),.int .i64 (yM y.2).code,.int .i64 (yM y.2).steps,.int .i64 (yM y.2).deep],.int .i64 (HZ x_2.1 x_2.2.1 x_2.2.2)] fun x_3 y=>inR IntKind.i64 (i.1+(1:Int))∧eN (PA n x) i [.box 0 [nds x_3.1.ns,.int .i64 x_3.1.L,Ab (FH x_3.2.2.2.2.2 (zh x_3)).out,.int .i64 (0:Int),.int .i64 (FH x_3.2.2.2.2.2 (zh x_3)).code,.int .i64 (FH x_3.2.2.2.2.2 (zh x_3)).steps,.int .i64 (FH x_3.2.2.2.2.2 (zh x_3)).deep],.box 0 [AV.sl false 0 2 (List UInt8×Int) Aw (zf x_1).cells,.bool (zf x_1).ended,.int .i64 (zf x_1).ret],.box 0 [.int .i64 (zl x).kind,.str (zl x).text,Aj (zl x).kids,.bool (zl x).blank],.int .i64 (LV x_3.2.2.2.2.2),Aj (zl x).kids,.int .i64 (↑(List.length (zl x).kids):Int),.int .i64 (i.1+(1:Int))]))) (rA (Ey n) x [.int .i64 i.2.1,.box 0 [nds x.1.ns,.int .i64 x.1.L,Ab (yM i.2.2).out,.int .i64 (0:Int),.int .i64 (yM i.2.2).code,.int .i64 (yM i.2.2).steps,.int .i64 (yM i.2.2).deep],.box 0 [AV.sl false 0 2 (List UInt8×Int) Aw (zf x).cells,.bool (zf x).ended,.int .i64 (zf x).ret],.top])))))) (fun x=>by kernel_rfl) fun(x:ZX Nd) (hx:cPz n x.1 (zh x) (zf x).cells (zl x))=>(by
 dsimp only[cA,Aw,cls,eA,eN,frA,PA,Aj,mcA,Bc,nds,Ab,rA,IU,Dm,Ey,JC,KA,Gm,DI,Au,Az,mvL,lnL,mvE,lnE,Bq]
 obtain⟨s,o,c,t,d,cs,en,re,z⟩:=x;dsimp only[zh,zf,zl] at hx ⊢
 (repeat' first|(with_reducible first|rfl|exact True.intro|apply AK|apply And.intro|((first|apply AA|apply AI|apply AB|apply AJ)<;>intro _))|(apply Ax<;>intro _)|apply AH|refine Ae () ?_ ?_|((first|apply AO|apply AN|apply AM|apply AL|apply AG|apply AF|apply AE|apply AD|apply AC)<;>try dsimp only)|apply Ae|(refine Prod.forall.2 ?_;intro _;try dsimp only)|(intro _;try dsimp only))
 all_goals(try simp only[Ma] at*)
 all_goals(try(have hB:=b1y (show suI _ _ _ _ _ _ _ _ by assumption)))
 all_goals(try(have hT:=b1o ‹_› ‹_› (show z.text=[61,61] by assumption)))
 all_goals(try(have hT:=b1p ‹_› ‹_› (show z.text=[60] by assumption)))
 all_goals first
  |rfl
  |exact hx
  |exact a1U ‹_› (.inl ‹_›)
  |exact a1U ‹_› (.inr ‹_›)
  |exact b1q hx hT ‹_›
  |exact b1H hx ‹_›
  |exact b1I hx ‹_› ‹_› ‹_› hT ‹_›
  |exact b1t hx (Pz ‹_› ‹_› ‹_› ‹_› hT)
  |exact b1u hx (Pz ‹_› ‹_› ‹_› (show z.kids[1]? =some _ by assumption) hT) ‹_› ‹_› ‹_›
  |exact b1v hx (Pz ‹_› ‹_› ‹_› (show z.kids[1]? =some _ by assumption) hT) ‹_› ‹_› ‹_› ‹_›
  |exact b1w hx (Pz ‹_› ‹_› ‹_› (show z.kids[1]? =some _ by assumption) hT) ‹_› ‹_› ‹_› ‹_›
  |exact b1x hx ‹_› ‹_› ‹_› ‹_›
  |exact b1z hx ‹_› ‹_›
  |exact b1A ‹_› ‹_› ‹_› ‹_›
  |exact b1B ‹_› ‹_› ‹_› ‹_› ‹_›
  |exact b1E ‹_› ‹_› ‹_› ‹_› ‹_›
  |exact b1F ‹_› ‹_›
  |exact hB.2
  |exact b1G ‹_›
  |((try simp only[AR]);omega)
  |skip
 all_goals trace_state)
end Go.My
end
section
namespace Go.My
open Go.Eng Go.Proofs
variable {G:GInv}
abbrev ZM:=ZS×List Int×Int×Int×Int×List UInt8×List Int
abbrev zt (x:ZM):List UInt8:=x.2.2.2.2.2.1
abbrev za (x:ZM):List Int:=x.2.2.2.2.2.2
def mPz(n:Nat)(s:ZS)(m:Mc)(az:List Int):Prop:=((zB s∧mOk m)∧((∀a∈az,bdd a)∧az.length≤12))∧(21-m.deep)*((s.ns.length:Int)+1)≤n
abbrev mQz (n:Nat) (s:ZS) (m:Mc) (t:List UInt8) (az:List Int) (y:Int×Mc):Prop:=cQz (FF s.ns (ev s.ns n).blk t az) s m 0 y
def mK(s:ZS)(t:List UInt8):Int:=CU s.ns t (BT s.ns).kids
def mN(s:ZS)(t:List UInt8):Nd:=Af s.ns (mK s t)
theorem Wg{n:Nat}{s:ZS}{m:Mc}{t:List UInt8}{az:List Int}(hp:mPz n s m az)(h:m.code≠0∨mK s t<0∨20<m.deep):mQz n s m t az (0,Bm m):=by
 refine⟨⟨?_,Fd⟩,LR hp.1.1.2⟩
 have h2:m.code≠0∨CU s.ns t (BT s.ns).kids<0∨20<m.deep:=h
 unfold FF;rw[if_pos h2];rfl
theorem Mb{s:ZS}{t:List UInt8}(hz:zB s)(h:¬mK s t<0):((0≤mK s t∧mK s t<s.ns.length)∧BE s.ns (mK s t)≤13)∧(mN s t).kind=20:=by
 rcases @a1t s.ns t (BT s.ns).kids with e|e
 ·have:mK s t= -1:=e
  omega
 ·exact⟨a1s hz.1 e.1,e.2⟩
theorem b1K{s:ZS}{t:List UInt8}(hz:zB s)(h:¬mK s t<0):1≤(mN s t).kids.length∧(mN s t).kids.length≤12:=by
 obtain⟨⟨h1,h2⟩,h3⟩:=Mb hz h
 have p:=HR (Pt hz.1 h1)
 refine⟨?_,p.2.1⟩
 have hk:=p.2.2.2.2.2.1
 rw[show(Af s.ns (mK s t)).kind=20 from h3] at hk
 match hm:(mN s t).kids with
 |[]=>
  have hm2:(Af s.ns (mK s t)).kids=[]:=hm
  rw[hm2] at hk;simp [Dv,Hq] at hk
 |a::l=>simp
theorem b1L{n:Nat}{s:ZS}{m:Mc}{t:List UInt8}{az:List Int}(hp:mPz n s m az)(h0:¬mK s t<0)(h:¬((mN s t).kids.length:Int)-1=az.length):mQz n s m t az (0,Bm m):=by
 refine⟨⟨?_,Fd⟩,LR hp.1.1.2⟩
 have hl:(Af s.ns (CU s.ns t (BT s.ns).kids)).kids.length=(mN s t).kids.length:=rfl
 unfold FF
 split
 ·rfl
 ·rw[if_pos (by omega)];rfl
def naI(s:ZS)(t:List UInt8)(az:List Int)(i:Int)(cs:Cls):Prop:=
 (((0≤i∧i≤az.length)∧az.length≤12)∧((mN s t).kids.length:Int)=az.length+1)∧(((∀p∈cs,bdd p.2)∧(cs.length:Int)≤i)∧Kv s.ns ((mN s t).kids.take az.length) az []=Kv s.ns (((mN s t).kids.take az.length).drop i.toNat) (az.drop i.toNat) cs)
theorem b1M{n:Nat}{s:ZS}{m:Mc}{t:List UInt8}{az:List Int}(hp:mPz n s m az)(h:((mN s t).kids.length:Int)-1=az.length):naI s t az 0 []:=⟨⟨⟨by omega,hp.1.2.2⟩,by omega⟩,⟨by simp,by simp⟩,rfl⟩
theorem b1N{s:ZS}{t:List UInt8}{az:List Int}{i:Int}{cs:Cls}(h:naI s t az i cs):((0≤i∧i≤az.length)∧az.length≤12)∧(cs.length:Int)≤i:=⟨h.1.1,h.2.1.2⟩
theorem RL{t:List UInt8}{n:Int}:∀ {l:Cls},(Cd l t n).length≤l.length+1
 |[]=>by simp [Cd]
 |p::l=>by
  rw[Cd];split
  ·simp
  ·have:= @RL t n l;simp;omega
theorem Wh{t:List UInt8}{n:Int}(hn:bdd n):∀ {l:Cls},(∀p∈l,bdd p.2)→∀p∈Cd l t n,bdd p.2
 |[],_,p,h=>by simp [Cd] at h;subst h;exact hn
 |q::l,hl,p,h=>by
  rw[Cd] at h;split at h
  ·rcases List.mem_cons.1 h with rfl|h
   ·exact hn
   ·exact hl p (by simp [h])
  ·rcases List.mem_cons.1 h with rfl|h
   ·exact hl p (by simp)
   ·exact Wh hn (fun p hp=>hl p (by simp [hp])) p h
theorem b1O{n:Nat}{s:ZS}{m:Mc}{t:List UInt8}{az:List Int}{i c a:Int}{e:Nd}{cs:Cls}(hp:mPz n s m az)(h:naI s t az i cs)(hc:((mN s t).kids.take az.length)[i.toNat]? =some c)(ha:az[i.toNat]? =some a)(he:s.ns[c.toNat]? =some e):naI s t az (i+1) (Cd cs e.text a):=by
 have hl:=(List.getElem?_eq_some_iff.1 ha).1
 have hb:=h.1.1
 refine⟨⟨⟨by omega,hb.2⟩,h.1.2⟩,⟨Wh (hp.1.2.1 a (Ca ha)) h.2.1.1,by have:= @RL e.text a cs;have:=h.2.1.2;omega⟩,?_⟩
 rw[h.2.2,Gl hb.1.1 hc,Gl hb.1.1 ha,Kv,Bw he]
theorem a1W{s:ZS}{t:List UInt8}{az:List Int}{i c:Int}(hz:zB s)(h0:¬mK s t<0)(hc:((mN s t).kids.take az.length)[i.toNat]? =some c):0≤c∧c<s.ns.length:=by
 have:=(GS hz.1 (Mb hz h0).1.1).2 c (List.mem_of_mem_take (Ca hc))
 have:=(Mb hz h0).1.1;omega
theorem a1X{s:ZS}{t:List UInt8}{az:List Int}{i c:Int}(hz:zB s)(h0:¬mK s t<0)(hc:(mN s t).kids[i.toNat]? =some c):(0≤c∧c<s.ns.length)∧BE s.ns c≤12:=by
 have:=(GS hz.1 (Mb hz h0).1.1).2 c (Ca hc)
 have:=(Mb hz h0).1;omega
theorem b1P{n:Nat}{s:ZS}{m:Mc}{t:List UInt8}{az:List Int}{i b:Int}{cs:Cls}(hp:mPz n s m az)(h0:¬mK s t<0)(hd:¬m.deep>20)(hb:(mN s t).kids[i.toNat]? =some b){j:Int}(h:naI s t az j cs):bPz n s ⟨m.out,m.code,m.steps,m.deep+1⟩ ⟨cs,false,0⟩ b:=by
 have hm:=hp.1.1.2
 refine⟨⟨hp.1.1.1,⟨⟨hm.1.1,by have:=hm.1.2;simp only;omega⟩,hm.2⟩,⟨h.2.1.1,?_⟩,Fd⟩,a1X (az:=az) hp.1.1.1 h0 hb,b0E hp.2 rfl (a1X (az:=az) hp.1.1.1 h0 hb).1.2⟩
 have:=h.2.1.2;have:=h.1.1;have:=hm.1.1;simp only;omega
theorem b1Q{n:Nat}{s:ZS}{m:Mc}{f:Fr}{b:Int}{y:Fr×Mc}(h:bQz n s m f b y):y.2.deep=m.deep:=h.2.1.2
theorem b1R{n:Nat}{s:ZS}{m:Mc}{t:List UInt8}{az:List Int}{j b:Int}{cs:Cls}{y:Fr×Mc}(hp:mPz n s m az)(hc:m.code=0)(h0:¬mK s t<0)(hd:¬m.deep>20)(hl:((mN s t).kids.length:Int)-1=az.length)
 (hb:(mN s t).kids[(((mN s t).kids.length:Int)-1).toNat]? =some b) (h:naI s t az j cs) (hj:¬j<(az.length:Int)) (hy:bQz n s ⟨m.out,m.code,m.steps,m.deep+1⟩ ⟨cs,false,0⟩ b y):mQz n s m t az (y.1.ret,⟨y.2.out,y.2.code,y.2.steps,y.2.deep-1⟩):=by
 have e1:cs=Kv s.ns ((mN s t).kids.take az.length) az []:=by
  rw[h.2.2,List.drop_eq_nil_of_le (by simp only[List.length_take];omega)];rfl
 have e2:CV (mN s t) az.length=b:=by
  rw[show(((mN s t).kids.length:Int)-1).toNat=az.length by omega] at hb
  simp [CV,List.getD,hb]
 have g:=hy.2
 have hd2:y.2.deep=m.deep+1:=g.1.2
 refine⟨⟨?_,hy.1.2.2⟩,⟨⟨⟨g.1.1.1.1,by simp only;have:=hp.1.1.2.1.2;omega⟩,g.1.1.2⟩,by simp only;omega⟩,g.2.1,g.2.2⟩
 have hl2:(Af s.ns (CU s.ns t (BT s.ns).kids)).kids.length=(mN s t).kids.length:=rfl
 rw[FF,if_neg (by rintro(h|h|h);exact h hc;exact h0 h;omega),if_neg (by omega)]
 rw[Cu,Pp,if_pos hc]
 have e3:(ev s.ns n).blk ⟨Kv s.ns ((Af s.ns (CU s.ns t (BT s.ns).kids)).kids.take az.length) az [],false,0⟩ (CV (Af s.ns (CU s.ns t (BT s.ns).kids)) az.length) s.L ⟨m.out,m.code,m.steps,m.deep+1⟩=some y:=by
  rw[show Af s.ns (CU s.ns t (BT s.ns).kids)=mN s t from rfl,e2,←e1];exact hy.1.1
 rw[e3];rfl
theorem b1S{l:List Int}{a:Int}{k:Nat}(h:(l.length:Int)-1=k)(ha:a=(l.length:Int)-1):l.take a.toNat=l.take k:=by rw[show a.toNat=k by omega]
theorem b1T{l:List Int}(h:1≤l.length):((l.take ((l.length:Int)-1).toNat).length:Int)=(l.length:Int)-1:=by rw[List.length_take];omega
theorem b1U{s:ZS}{t:List UInt8}:CU s.ns t (BT s.ns).kids=mK s t:=rfl
theorem b1V{s:ZS}{t:List UInt8}{e:Nd}(h:s.ns[(mK s t).toNat]? =some e):e=mN s t:=(Bw h).symm
attribute [local irreducible] bQz bPz cQz naI mK mN
def Ic(n:Nat):Sig:= {X:=ZM,args:=fun x=>[mcA x.1 (zh x),.str (zt x),Aj (za x)],pre:=fun x=>mPz n x.1 (zh x) (za x),Y:=Int×List Int×Int×Int×Int,post:=fun x y=>mQz n x.1 (zh x) (zt x) (za x) (yV y),res:=fun x y=> .int .i64 y.1,outs:=fun x y=>[mcA x.1 (yM y.2),.top,.top],keep:=true}
def RM(n:Nat)(x:ZM):LS:= {ι:=Int×Int×Cls,inv:=fun i=>naI x.1 (zt x) (za x) i.1 i.2.2∧(mN x.1 (zt x)).kids[(((mN x.1 (zt x)).kids.length:Int)-1).toNat]? =some i.2.1,regs:=fun i=>[(0,mcA x.1 (zh x)),(2,Aj (za x)),(9,.int .i64 i.2.1),(10,frA ⟨i.2.2,false,0⟩),(64,Aj ((mN x.1 (zt x)).kids.take (za x).length)),(65,.int .i64 (za x).length),(66,.int .i64 i.1)],als:=[],meas:=fun i=>(za x).length-i.1.toNat,sub:=fun j=>[(100013,{ι:=Cls,inv:=fun i=>naI x.1 (zt x) (za x) (j.1+1) i,regs:=fun i=>[(0,mcA x.1 (zh x)),(2,Aj (za x)),(9,.int .i64 j.2.1),(10,frA ⟨i,false,0⟩),(64,Aj ((mN x.1 (zt x)).kids.take (za x).length)),(65,.int .i64 (za x).length),(66,.int .i64 j.1)],als:=[],meas:=fun _=>0})]}
theorem a1Y(n:Nat)(h:zAll G n):Ai G Tryz.prog 81 (Ic n):=
 vcFun_okP [(105,0,LU),(104,0,Dm),(22,0,Fb),(106,0,(JB n))] [(42,⟨List UInt8×Int,Aw⟩)] false (fun x=>[(11,RM n x)]) Tryz.func81 rfl (by decide) ⟨b0R,NF,VS,h.blk,trivial⟩ (fun(x:ZM)=>True∧cA LU [nds x.1.ns,.str (zt x)] fun x_1 y=>Aa ((zh x).code != (0:Int)) (cA Dm [.box 0 [nds x.1.ns,.int .i64 x.1.L,Ab (zh x).out,.int .i64 (0:Int),.int .i64 (zh x).code,.int .i64 (zh x).steps,.int .i64 (zh x).deep]] fun x_2 y=>rA (Ic n) x [.int .i64 (0:Int),.box 0 [nds x_2.1.ns,.int .i64 x_2.1.L,Ab (Bm (zg x_2)).out,.int .i64 (0:Int),.int .i64 (Bm (zg x_2)).code,.int .i64 (Bm (zg x_2)).steps,.int .i64 (Bm (zg x_2)).deep],.top,.top]) (Aa (decide (CU x_1.1 x_1.2 (BT x_1.1).kids<(0:Int))) (cA Dm [.box 0 [nds x.1.ns,.int .i64 x.1.L,Ab (zh x).out,.int .i64 (0:Int),.int .i64 (zh x).code,.int .i64 (zh x).steps,.int .i64 (zh x).deep]] fun x_2 y=>rA (Ic n) x [.int .i64 (0:Int),.box 0 [nds x_2.1.ns,.int .i64 x_2.1.L,Ab (Bm (zg x_2)).out,.int .i64 (0:Int),.int .i64 (Bm (zg x_2)).code,.int .i64 (Bm (zg x_2)).steps,.int .i64 (Bm (zg x_2)).deep],.top,.top]) (Aa (decide ((zh x).deep>(20:Int))) (cA Dm [.box 0 [nds x.1.ns,.int .i64 x.1.L,Ab (zh x).out,.int .i64 (0:Int),.int .i64 (zh x).code,.int .i64 (zh x).steps,.int .i64 (zh x).deep]] fun x_2 y=>rA (Ic n) x [.int .i64 (0:Int),.box 0 [nds x_2.1.ns,.int .i64 x_2.1.L,Ab (Bm (zg x_2)).out,.int .i64 (0:Int),.int .i64 (Bm (zg x_2)).code,.int .i64 (Bm (zg x_2)).steps,.int .i64 (Bm (zg x_2)).deep],.top,.top]) (((0:Int)≤CU x_1.1 x_1.2 (BT x_1.1).kids∧CU x_1.1 x_1.2 (BT x_1.1).kids<(↑(List.length x.1.ns):Int))∧∀(e:Nd),x.1.ns[Int.toNat (CU x_1.1 x_1.2 (BT x_1.1).kids)]? =some e→inR IntKind.i64 ((↑(List.length e.kids):Int)-(1:Int))∧((0:Int)≤(↑(List.length e.kids):Int)-(1:Int)∧(↑(List.length e.kids):Int)-(1:Int)<(↑(List.length e.kids):Int))∧∀(e_1:Int),e.kids[Int.toNat ((↑(List.length e.kids):Int)-(1:Int))]? =some e_1→inR IntKind.i64 ((↑(List.length e.kids):Int)-(1:Int))∧((0:Int)≤(0:Int)∧(0:Int)≤(↑(List.length e.kids):Int)-(1:Int)∧(↑(List.length e.kids):Int)-(1:Int)≤(↑(List.length e.kids):Int))∧Aa ((↑(List.length (List.take (Int.toNat ((↑(List.length e.kids):Int)-(1:Int))) e.kids)):Int) != (↑(List.length (za x)):Int)) (cA Dm [.box 0 [nds x.1.ns,.int .i64 x.1.L,Ab (zh x).out,.int .i64 (0:Int),.int .i64 (zh x).code,.int .i64 (zh x).steps,.int .i64 (zh x).deep]] fun x_2 y=>rA (Ic n) x [.int .i64 (0:Int),.box 0 [nds x_2.1.ns,.int .i64 x_2.1.L,Ab (Bm (zg x_2)).out,.int .i64 (0:Int),.int .i64 (Bm (zg x_2)).code,.int .i64 (Bm (zg x_2)).steps,.int .i64 (Bm (zg x_2)).deep],.top,.top]) (eA (RM n x) [.box 0 [nds x.1.ns,.int .i64 x.1.L,Ab (zh x).out,.int .i64 (0:Int),.int .i64 (zh x).code,.int .i64 (zh x).steps,.int .i64 (zh x).deep],Aj (za x),.int .i64 e_1,.box 0 [.nil,.bool false,.int .i64 (0:Int)],Aj (List.take (Int.toNat ((↑(List.length e.kids):Int)-(1:Int))) e.kids),.int .i64 (↑(List.length (List.take (Int.toNat ((↑(List.length e.kids):Int)-(1:Int))) e.kids)):Int),.int .i64 (0:Int)]∧∀(i:Int×Int×Cls),naI x.1 (zt x) (za x) i.1 i.2.2∧(mN x.1 (zt x)).kids[Int.toNat ((↑(List.length (mN x.1 (zt x)).kids):Int)-(1:Int))]? =some i.2.1→Aa (decide (i.1<(↑(List.length (za x)):Int))) (((0:Int)≤i.1∧i.1<(↑(List.length (List.take (List.length (za x)) (mN x.1 (zt x)).kids)):Int))∧∀(e:Int),(List.take (List.length (za x)) (mN x.1 (zt x)).kids)[Int.toNat i.1]? =some e→true=true∧(((0:Int)≤i.1∧i.1<(↑(List.length (za x)):Int))∧∀(e_2:Int),(za x)[Int.toNat i.1]? =some e_2→(((0:Int)≤e∧e<(↑(List.length x.1.ns):Int))∧∀(e_3:Nd),x.1.ns[Int.toNat e]? =some e_3→cA Fb [AV.sl false 0 2 (List UInt8×Int) Aw i.2.2,.str e_3.text,.int .i64 e_2] fun x_2 y=>true=true∧∃(i_1:Cls),naI x.1 (zt x) (za x) (i.1+(1:Int)) i_1∧(nds x.1.ns=nds x.1.ns∧x.1.L=x.1.L∧Ab (zh x).out=Ab (zh x).out∧(0:Int)=(0:Int)∧(zh x).code=(zh x).code∧(zh x).steps=(zh x).steps∧(zh x).deep=(zh x).deep∧Aj (za x)=Aj (za x)∧i.2.1=i.2.1∧AV.sl false 0 2 (List UInt8×Int) Aw (Cd x_2.1 x_2.2.1 x_2.2.2)=AV.sl false 0 2 (List UInt8×Int) Aw i_1∧false=false∧(0:Int)=(0:Int)∧Aj (List.take (List.length (za x)) (mN x.1 (zt x)).kids)=Aj (List.take (List.length (za x)) (mN x.1 (zt x)).kids)∧(↑(List.length (za x)):Int)=(↑(List.length (za x)):Int)∧i.1=i.1∧True)∧True)∧((0:Int)≤e∧e<(↑(List.length x.1.ns):Int))∧∀(e_3:Nd),x.1.ns[Int.toNat e]? =some e_3→cA Fb [AV.sl false 0 2 (List UInt8×Int) Aw i.2.2,.str e_3.text,.int .i64 e_2] fun x_2 y=>true=true∧∃(i_1:Cls),naI x.1 (zt x) (za x) (i.1+(1:Int)) i_1∧(nds x.1.ns=nds x.1.ns∧x.1.L=x.1.L∧Ab (zh x).out=Ab (zh x).out∧(0:Int)=(0:Int)∧(zh x).code=(zh x).code∧(zh x).steps=(zh x).steps∧(zh x).deep=(zh x).deep∧Aj (za x)=Aj (za x)∧i.2.1=i.2.1∧AV.sl false 0 2 (List UInt8×Int) Aw (Cd x_2.1 x_2.2.1 x_2.2.2)=AV.sl false 0 2 (List UInt8×Int) Aw i_1∧false=false∧(0:Int)=(0:Int)∧Aj (List.take (List.length (za x)) (mN x.1 (zt x)).kids)=Aj (List.take (List.length (za x)) (mN x.1 (zt x)).kids)∧(↑(List.length (za x)):Int)=(↑(List.length (za x)):Int)∧i.1=i.1∧True)∧True)∧∀(i_1:Cls),naI x.1 (zt x) (za x) (i.1+(1:Int)) i_1→inR IntKind.i64 (i.1+(1:Int))∧eN (RM n x) i [.box 0 [nds x.1.ns,.int .i64 x.1.L,Ab (zh x).out,.int .i64 (0:Int),.int .i64 (zh x).code,.int .i64 (zh x).steps,.int .i64 (zh x).deep],Aj (za x),.int .i64 i.2.1,.box 0 [AV.sl false 0 2 (List UInt8×Int) Aw i_1,.bool false,.int .i64 (0:Int)],Aj (List.take (List.length (za x)) (mN x.1 (zt x)).kids),.int .i64 (↑(List.length (za x)):Int),.int .i64 (i.1+(1:Int))]) (inR IntKind.i64 ((zh x).deep+(1:Int))∧cA (JB n) [.box 0 [nds x.1.ns,.int .i64 x.1.L,Ab (zh x).out,.int .i64 (0:Int),.int .i64 (zh x).code,.int .i64 (zh x).steps,.int .i64 ((zh x).deep+(1:Int))],.box 0 [AV.sl false 0 2 (List UInt8×Int) Aw i.2.2,.bool false,.int .i64 (0:Int)],.int .i64 i.2.1] fun x_2 y=>inR IntKind.i64 ((yB y).2.deep-(1:Int))∧rA (Ic n) x [.int .i64 (yB y).1.ret,.box 0 [nds x_2.1.ns,.int .i64 x_2.1.L,Ab (yB y).2.out,.int .i64 (0:Int),.int .i64 (yB y).2.code,.int .i64 (yB y).2.steps,.int .i64 ((yB y).2.deep-(1:Int))],.top,.top])))))) (fun x=>by kernel_rfl) fun(x:ZM) (hx:mPz n x.1 (zh x) (za x))=>(by
 dsimp only[cA,Aw,cls,eA,eN,frA,RM,Aj,mcA,Bc,nds,Hx,Ab,rA,Fb,LU,Dm,JB,Ic,Au,Az,mvL,lnL,mvE,lnE,Bq]
 obtain⟨s,o,c,t,d,nm,az⟩:=x;dsimp only[zh,zt,za] at hx ⊢
 have hx:mPz n s ⟨o,c,t,d⟩ az:=hx
 have hz:=hx.1.1.1;have hD:0≤d∧d≤21:=hx.1.1.2.1.2
 (repeat' first|(with_reducible first|rfl|exact True.intro|apply AK|apply And.intro|((first|apply AA|apply AI|apply AB|apply AJ)<;>intro _))|(apply Ax<;>intro _)|apply AH|refine Ae () ?_ ?_|((first|apply AO|apply AN|apply AM|apply AL|apply AG|apply AF|apply AE|apply AD|apply AC)<;>try dsimp only)|apply Ae|(refine Prod.forall.2 ?_;intro _;try dsimp only)|(intro _;try dsimp only))
 all_goals(try simp only[Ma,b1U] at*)
 all_goals(repeat(rename s.ns[Int.toNat (mK s nm)]? =some _=>hq;have hqe:=b1V hq;clear hq;subst hqe))
 all_goals(repeat(rename naI _ _ _ _ _∧_=>hq;obtain⟨_,_⟩:=hq))
 all_goals(try(repeat(rename(_:List Int)[_]? =some _=>hq;revert hq;rename(_:List Int)[_]? =some _=>hr;intro hq;rw[hr] at hq;cases hq)))
 all_goals(try(have hB:=b1N (show naI _ _ _ _ _ by assumption)))
 all_goals(try(have hE:=b1K hz (show¬mK s nm<0 by assumption)))
 all_goals(try simp only[b1T hE.1] at*)
 all_goals(try(have hQ:=b1Q (show bQz _ _ _ _ _ _ by assumption);dsimp only[yB] at hQ))
 all_goals first
  |rfl
  |assumption
  |exact hx
  |exact hz.1
  |exact Wg hx (.inl ‹_›)
  |exact Wg hx (.inr (.inl ‹_›))
  |exact Wg hx (.inr (.inr ‹_›))
  |exact(Mb hz ‹_›).1.1.1
  |exact(Mb hz ‹_›).1.1.2
  |exact b1L hx ‹_› ‹_›
  |exact b1M hx ‹_›
  |exact(a1W hz ‹_› ‹_›).1
  |exact(a1W hz ‹_› ‹_›).2
  |exact b1O hx ‹_› ‹_› ‹_› ‹_›
  |exact b1P hx ‹_› ‹_› ‹_› ‹_›
  |exact b1R hx ‹_› ‹_› ‹_› ‹_› ‹_› ‹_› ‹_› ‹_›
  |exact b1S ‹_› rfl
  |((try simp only[AR,List.length_take]);omega)
  |skip)
end Go.My
end
section
namespace Go.My
open Go.Eng Go.Proofs
variable {G:GInv}
def caP(n:Nat)(s:ZS)(m:Mc)(cs:Cls)(x:Nd):Prop:=cPz n s m cs x∧((1≤x.kids.length∧wS s.ns (x.kids.drop 1)+1≤pot m)∧(21-m.deep)*((s.ns.length:Int)+1)≤n)
abbrev caQ (n:Nat) (s:ZS) (m:Mc) (cs:Cls) (x:Nd) (y:Int×Mc):Prop:=cQz (Kw s.ns ((ev s.ns n).val cs) (ev s.ns n).blk x) s m (wS s.ns (x.kids.drop 1)+1) y
def cN(s:ZS)(x:Nd):Nd:=Af s.ns (CV x 0)
def caI(n:Nat)(s:ZS)(m0:Mc)(cs:Cls)(x:Nd)(i:Int)(m:Mc)(az:List Int):Prop:=
 ((lpI s m0 m (x.kids.drop 1) i (wS s.ns (x.kids.drop 1))∧x.kids.length≤12)∧(((cN s x).kind=1∧(az.length:Int)=i)∧(∀a∈az,bdd a)∧(0<i→m.code=0)))∧
   Jr ((ev s.ns n).val cs) (x.kids.drop 1) [] s.L m0=Jr ((ev s.ns n).val cs) ((x.kids.drop 1).drop i.toNat) az s.L m
theorem b1W{n:Nat}{s:ZS}{m:Mc}{cs:Cls}{x:Nd}(hp:caP n s m cs x)(h:¬(cN s x).kind=1):caQ n s m cs x (0,Bm m):=by
 refine⟨⟨?_,Fd⟩,Fp (LR hp.1.1.2.1) (by have:= @NB s.ns (x.kids.drop 1);omega)⟩
 have h2:Bt s.ns (CV x 0)≠1:=h
 rw[Kw,if_pos h2];rfl
theorem a1Z{n:Nat}{s:ZS}{m:Mc}{cs:Cls}{x:Nd}{c:Int}(hp:caP n s m cs x)(hc:x.kids[0]? =some c):0≤c∧c<s.ns.length:=(hp.1.2.1 c (Ca hc)).1.1
theorem b1X{s:ZS}{x e:Nd}{c:Int}(hc:x.kids[0]? =some c)(he:s.ns[c.toNat]? =some e):e=cN s x:=by
 have:CV x 0=c:=by simp [CV,List.getD,hc]
 rw[cN,this,Bw he]
theorem b1Y{n:Nat}{s:ZS}{m:Mc}{cs:Cls}{x:Nd}(hp:caP n s m cs x)(h:(cN s x).kind=1):caI n s m cs x 0 m []:=
 ⟨⟨⟨NI hp.1.1.2.1,hp.1.2.2.1⟩,⟨h,rfl⟩,by simp,by omega⟩,rfl⟩
theorem a2a{n:Nat}{s:ZS}{m0 m:Mc}{cs:Cls}{x:Nd}{i:Int}{az:List Int}(h:caI n s m0 cs x i m az):((0≤i∧i≤(x.kids.drop 1).length)∧x.kids.length≤12)∧(az.length:Int)=i:=⟨⟨h.1.1.1.1.1,h.1.1.2⟩,h.1.2.1.2⟩
theorem b1Z{n:Nat}{s:ZS}{m0 m:Mc}{cs:Cls}{x:Nd}{i:Int}{az:List Int}(h:caI n s m0 cs x i m az):(x.kids.drop 1).length≤12∧(m.out.length:Int)≤5159780352000:=by
 refine⟨by rw[List.length_drop];have:=h.1.1.2;omega,?_⟩
 have h2:=h.1.1.1.1.2.1
 have:=h2.2;have:=h2.1.1;unfold pot at*;omega
theorem b2a{n:Nat}{s:ZS}{m0 m:Mc}{cs:Cls}{x:Nd}{i c:Int}{az:List Int}(hp:caP n s m0 cs x)(h:caI n s m0 cs x i m az)(hc:(x.kids.drop 1)[i.toNat]? =some c):vPz n s m cs c:=
 ⟨⟨hp.1.1.1,h.1.1.1.1.2.1,RH hp.1.1.2.2 h.1.1.1.2.1⟩,Ky (hp.1.2.1 c (List.mem_of_mem_drop (Ca hc))) h.1.1.1.1.2.2,a1T h.1.1.1 hc (by have:=hp.2.1.2;omega)⟩
theorem a2b{n:Nat}{s:ZS}{m0 m:Mc}{cs:Cls}{x:Nd}{i c:Int}{az:List Int}{y:Int×Mc}(h:caI n s m0 cs x i m az)(hc:(x.kids.drop 1)[i.toNat]? =some c)(hv:vQz n s m cs c y):
 Jr ((ev s.ns n).val cs) (x.kids.drop 1) [] s.L m0=CT none (Jr ((ev s.ns n).val cs) ((x.kids.drop 1).drop (i+1).toNat) (az++[y.1])) s.L y.2:=by
 rw[h.2,Gl h.1.1.1.1.1.1 hc,Jr,Cu,hv.1.1];rfl
theorem a2c{s:ZS}{m:Mc}{V:Int→Run Int}{B:Fr→Int→Run Fr}{x:Nd}(h:(cN s x).kind=1):Kw s.ns V B x s.L m=(Jr V (x.kids.drop 1) [] s.L m).bind fun p=>(match p.1 with
 |none=>Dj 0
 |some az=>if(cN s x).text=[112,114,105,110,116]∧az.length=1 then Pn (az.headD 0) else FF s.ns B (cN s x).text az) s.L p.2:=by
 have h2:¬Bt s.ns (CV x 0)≠1:=fun e=>e h
 rw[Kw,if_neg h2];rfl
theorem b2b{n:Nat}{s:ZS}{m0 m:Mc}{cs:Cls}{x:Nd}{i c:Int}{az:List Int}{y:Int×Mc}(h:caI n s m0 cs x i m az)(hc:(x.kids.drop 1)[i.toNat]? =some c)(hv:vQz n s m cs c y)(hq:¬y.2.code=0):caQ n s m0 cs x (0,y.2):=by
 refine⟨⟨?_,Fd⟩,Fp (NK h.1.1.1 hc hv.2) (by omega)⟩
 rw[a2c h.1.2.1.1,a2b h hc hv,Dk,if_neg hq];rfl
theorem b2c{n:Nat}{s:ZS}{m0 m:Mc}{cs:Cls}{x:Nd}{i c:Int}{az:List Int}{y:Int×Mc}(h:caI n s m0 cs x i m az)(hc:(x.kids.drop 1)[i.toNat]? =some c)(hv:vQz n s m cs c y)(hq:y.2.code=0):caI n s m0 cs x (i+1) y.2 (az++[y.1]):=by
 refine⟨⟨⟨LZ h.1.1.1 hc hv.2,h.1.1.2⟩,⟨h.1.2.1.1,by have:=h.1.2.1.2;simp;omega⟩,?_,fun _=>hq⟩,?_⟩
 ·intro a ha
  rcases List.mem_append.1 ha with ha|ha
  ·exact h.1.2.2.1 a ha
  ·simp at ha;subst ha;exact hv.1.2
 ·rw[a2b h hc hv,Dk,if_pos hq]
theorem a2d{n:Nat}{s:ZS}{m0 m:Mc}{cs:Cls}{x:Nd}{i:Int}{az:List Int}(h:caI n s m0 cs x i m az)(hl:¬i<((x.kids.drop 1).length:Int)):
 Kw s.ns ((ev s.ns n).val cs) (ev s.ns n).blk x s.L m0=(if(cN s x).text=[112,114,105,110,116]∧az.length=1 then Pn (az.headD 0) else FF s.ns (ev s.ns n).blk (cN s x).text az) s.L m:=by
 rw[a2c h.1.2.1.1,h.2,List.drop_eq_nil_of_le (show(x.kids.drop 1).length≤i.toNat by omega)];rfl
theorem b2d{n:Nat}{s:ZS}{m0 m:Mc}{cs:Cls}{x:Nd}{i a:Int}{az:List Int}(hp:caP n s m0 cs x)(h:caI n s m0 cs x i m az)(hl:¬i<((x.kids.drop 1).length:Int))(ht:(cN s x).text=[112,114,105,110,116])(h1:(az.length:Int)=1)(ha:az[0]? =some a):
 caQ n s m0 cs x (0,⟨m.out++[a],m.code,m.steps,m.deep⟩):=by
 have hc:m.code=0:=h.1.2.2.2 (by have:=h.1.2.1.2;omega)
 have g:=NJ h.1.1.1
 have hw:=hp.2.1.2
 have e:pot ⟨m.out++[a],m.code,m.steps,m.deep⟩=pot m-1:=by simp only[pot,List.length_append,List.length_cons,List.length_nil];omega
 refine⟨⟨?_,Fd⟩,⟨⟨⟨g.1.1.1,?_⟩,g.1.2⟩,g.2.1,?_⟩⟩
 ·have hh:az.headD 0=a:=by cases az with
   |nil=>cases ha
   |cons b l=>simp at ha;simpa using ha
  rw[a2d h hl,if_pos ⟨ht,by omega⟩,Po,if_pos hc,hh]
 ·have:=g.2.2;dsimp only at e ⊢;omega
 ·have:=g.2.2;dsimp only at e ⊢;omega
theorem b2e{n:Nat}{s:ZS}{m0 m:Mc}{cs:Cls}{x:Nd}{i:Int}{az:List Int}(hp:caP n s m0 cs x)(h:caI n s m0 cs x i m az):mPz n s m az:=by
 have hb:=a2a h
 refine⟨⟨⟨hp.1.1.1,h.1.1.1.1.2.1⟩,h.1.2.2.1,?_⟩,by rw[h.1.1.1.1.2.2];exact hp.2.2⟩
 have:=hb.1.1.2;simp only[List.length_drop] at this;omega
theorem a2e{n:Nat}{s:ZS}{m0 m:Mc}{cs:Cls}{x:Nd}{i:Int}{az:List Int}{y:Int×Mc}(h:caI n s m0 cs x i m az)(hl:¬i<((x.kids.drop 1).length:Int))(hn:¬((cN s x).text=[112,114,105,110,116]∧(az.length:Int)=1))(hy:mQz n s m (cN s x).text az y):caQ n s m0 cs x y:=by
 refine⟨⟨?_,hy.1.2⟩,?_⟩
 ·rw[a2d h hl,if_neg (fun e=>hn ⟨e.1,by omega⟩)];exact hy.1.1
 ·have:=Gk (NJ h.1.1.1) hy.2
  exact Fp this (by omega)
attribute [local irreducible] caI cN mPz vQz vPz cQz
def IZ(n:Nat):Sig:= {X:=ZX Nd,args:=fun x=>[mcA x.1 (zh x),frA (zf x),.agg (ndA false (zl x))],pre:=fun x=>caP n x.1 (zh x) (zf x).cells (zl x),Y:=Int×List Int×Int×Int×Int,post:=fun x y=>caQ n x.1 (zh x) (zf x).cells (zl x) (yV y),res:=fun x y=> .int .i64 y.1,outs:=fun x y=>[mcA x.1 (yM y.2),frA (zf x),.top],keep:=true}
def KF(n:Nat)(x:ZX Nd):LS:= {ι:=Unit,inv:=fun _=>True,regs:=fun _=>[(0,mcA x.1 (zh x)),(1,frA (zf x)),(5,.box 0 (ndA false (zl x))),(7,.box 0 (ndA false (cN x.1 (zl x))))],als:=[],meas:=fun _=>0}
def RN(n:Nat)(x:ZX Nd):LS:= {ι:=Int×List Int×List Int×Int×Int×Int,inv:=fun i=>caI n x.1 (zh x) (zf x).cells (zl x) i.1 (yM i.2.2) i.2.1,regs:=fun i=>[(0,mcA x.1 (yM i.2.2)),(1,frA (zf x)),(5,.box 0 (ndA false (zl x))),(7,.box 0 (ndA false (cN x.1 (zl x)))),(8,Ab i.2.1),(29,Aj ((zl x).kids.drop 1)),(30,.int .i64 ((zl x).kids.drop 1).length),(31,.int .i64 i.1)],als:=[],meas:=fun i=>((zl x).kids.drop 1).length-i.1.toNat}
def b2f(n:Nat)(x:ZX Nd):LS:= {ι:=List Int×Int×Int×Int,inv:=fun i=>caQ n x.1 (zh x) (zf x).cells (zl x) (0,yM i),regs:=fun i=>[(0,mcA x.1 (yM i)),(1,frA (zf x))],als:=[],meas:=fun _=>0}
theorem b2g(n:Nat)(h:zAll G n):Ai G Tryz.prog 205 (IZ n):=
 vcFun_okP [(104,0,Dm),(179,0,(DI n)),(81,0,(Ic n))] [(25,⟨Int,AZ⟩)] false (fun x=>[(100001,KF n x),(6,RN n x),(100014,b2f n x)]) Tryz.func205 rfl (by decide) ⟨NF,h.val,(a1Y n h),trivial⟩ (fun(x:ZX Nd)=>True∧true=true∧(((((0:Int)≤(0:Int)∧(0:Int)<(↑(List.length (zl x).kids):Int))∧∀(e:Int),(zl x).kids[(0:Nat)]? =some e→((0:Int)≤e∧e<(↑(List.length x.1.ns):Int))∧∀(e_1:Nd),x.1.ns[Int.toNat e]? =some e_1→true=true∧eA (KF n x) [.box 0 [nds x.1.ns,.int .i64 x.1.L,Ab (zh x).out,.int .i64 (0:Int),.int .i64 (zh x).code,.int .i64 (zh x).steps,.int .i64 (zh x).deep],.box 0 [AV.sl false 0 2 (List UInt8×Int) Aw (zf x).cells,.bool (zf x).ended,.int .i64 (zf x).ret],.box 0 [.int .i64 (zl x).kind,.str (zl x).text,Aj (zl x).kids,.bool (zl x).blank],.box 0 [.int .i64 e_1.kind,.str e_1.text,Aj e_1.kids,.bool e_1.blank]])∧((0:Int)≤(0:Int)∧(0:Int)<(↑(List.length (zl x).kids):Int))∧∀(e:Int),(zl x).kids[(0:Nat)]? =some e→((0:Int)≤e∧e<(↑(List.length x.1.ns):Int))∧∀(e_1:Nd),x.1.ns[Int.toNat e]? =some e_1→true=true∧eA (KF n x) [.box 0 [nds x.1.ns,.int .i64 x.1.L,Ab (zh x).out,.int .i64 (0:Int),.int .i64 (zh x).code,.int .i64 (zh x).steps,.int .i64 (zh x).deep],.box 0 [AV.sl false 0 2 (List UInt8×Int) Aw (zf x).cells,.bool (zf x).ended,.int .i64 (zf x).ret],.box 0 [.int .i64 (zl x).kind,.str (zl x).text,Aj (zl x).kids,.bool (zl x).blank],.box 0 [.int .i64 e_1.kind,.str e_1.text,Aj e_1.kids,.bool e_1.blank]])∧(((0:Int)≤(0:Int)∧(0:Int)<(↑(List.length (zl x).kids):Int))∧∀(e:Int),(zl x).kids[(0:Nat)]? =some e→(((0:Int)≤e∧e<(↑(List.length x.1.ns):Int))∧∀(e_1:Nd),x.1.ns[Int.toNat e]? =some e_1→true=true∧eA (KF n x) [.box 0 [nds x.1.ns,.int .i64 x.1.L,Ab (zh x).out,.int .i64 (0:Int),.int .i64 (zh x).code,.int .i64 (zh x).steps,.int .i64 (zh x).deep],.box 0 [AV.sl false 0 2 (List UInt8×Int) Aw (zf x).cells,.bool (zf x).ended,.int .i64 (zf x).ret],.box 0 [.int .i64 (zl x).kind,.str (zl x).text,Aj (zl x).kids,.bool (zl x).blank],.box 0 [.int .i64 e_1.kind,.str e_1.text,Aj e_1.kids,.bool e_1.blank]])∧((0:Int)≤e∧e<(↑(List.length x.1.ns):Int))∧∀(e_1:Nd),x.1.ns[Int.toNat e]? =some e_1→true=true∧eA (KF n x) [.box 0 [nds x.1.ns,.int .i64 x.1.L,Ab (zh x).out,.int .i64 (0:Int),.int .i64 (zh x).code,.int .i64 (zh x).steps,.int .i64 (zh x).deep],.box 0 [AV.sl false 0 2 (List UInt8×Int) Aw (zf x).cells,.bool (zf x).ended,.int .i64 (zf x).ret],.box 0 [.int .i64 (zl x).kind,.str (zl x).text,Aj (zl x).kids,.bool (zl x).blank],.box 0 [.int .i64 e_1.kind,.str e_1.text,Aj e_1.kids,.bool e_1.blank]])∧(((0:Int)≤(0:Int)∧(0:Int)<(↑(List.length (zl x).kids):Int))∧∀(e:Int),(zl x).kids[(0:Nat)]? =some e→((0:Int)≤e∧e<(↑(List.length x.1.ns):Int))∧∀(e_1:Nd),x.1.ns[Int.toNat e]? =some e_1→true=true∧eA (KF n x) [.box 0 [nds x.1.ns,.int .i64 x.1.L,Ab (zh x).out,.int .i64 (0:Int),.int .i64 (zh x).code,.int .i64 (zh x).steps,.int .i64 (zh x).deep],.box 0 [AV.sl false 0 2 (List UInt8×Int) Aw (zf x).cells,.bool (zf x).ended,.int .i64 (zf x).ret],.box 0 [.int .i64 (zl x).kind,.str (zl x).text,Aj (zl x).kids,.bool (zl x).blank],.box 0 [.int .i64 e_1.kind,.str e_1.text,Aj e_1.kids,.bool e_1.blank]])∧((0:Int)≤(0:Int)∧(0:Int)<(↑(List.length (zl x).kids):Int))∧∀(e:Int),(zl x).kids[(0:Nat)]? =some e→((0:Int)≤e∧e<(↑(List.length x.1.ns):Int))∧∀(e_1:Nd),x.1.ns[Int.toNat e]? =some e_1→true=true∧eA (KF n x) [.box 0 [nds x.1.ns,.int .i64 x.1.L,Ab (zh x).out,.int .i64 (0:Int),.int .i64 (zh x).code,.int .i64 (zh x).steps,.int .i64 (zh x).deep],.box 0 [AV.sl false 0 2 (List UInt8×Int) Aw (zf x).cells,.bool (zf x).ended,.int .i64 (zf x).ret],.box 0 [.int .i64 (zl x).kind,.str (zl x).text,Aj (zl x).kids,.bool (zl x).blank],.box 0 [.int .i64 e_1.kind,.str e_1.text,Aj e_1.kids,.bool e_1.blank]])∧∀(i:Unit),True→Aa ((cN x.1 (zl x)).kind != (1:Int)) (cA Dm [.box 0 [nds x.1.ns,.int .i64 x.1.L,Ab (zh x).out,.int .i64 (0:Int),.int .i64 (zh x).code,.int .i64 (zh x).steps,.int .i64 (zh x).deep]] fun x_1 y=>rA (IZ n) x [.int .i64 (0:Int),.box 0 [nds x_1.1.ns,.int .i64 x_1.1.L,Ab (Bm (zg x_1)).out,.int .i64 (0:Int),.int .i64 (Bm (zg x_1)).code,.int .i64 (Bm (zg x_1)).steps,.int .i64 (Bm (zg x_1)).deep],.box 0 [AV.sl false 0 2 (List UInt8×Int) Aw (zf x).cells,.bool (zf x).ended,.int .i64 (zf x).ret],.top]) (((0:Int)≤(1:Int)∧(1:Int)≤(↑(List.length (zl x).kids):Int)∧(↑(List.length (zl x).kids):Int)≤(↑(List.length (zl x).kids):Int))∧eA (RN n x) [.box 0 [nds x.1.ns,.int .i64 x.1.L,Ab (zh x).out,.int .i64 (0:Int),.int .i64 (zh x).code,.int .i64 (zh x).steps,.int .i64 (zh x).deep],.box 0 [AV.sl false 0 2 (List UInt8×Int) Aw (zf x).cells,.bool (zf x).ended,.int .i64 (zf x).ret],.box 0 [.int .i64 (zl x).kind,.str (zl x).text,Aj (zl x).kids,.bool (zl x).blank],.box 0 [.int .i64 (cN x.1 (zl x)).kind,.str (cN x.1 (zl x)).text,Aj (cN x.1 (zl x)).kids,.bool (cN x.1 (zl x)).blank],.nil,Aj (List.drop (1:Nat) (zl x).kids),.int .i64 (↑(List.length (List.drop (1:Nat) (zl x).kids)):Int),.int .i64 (0:Int)]∧∀(i:Int×List Int×List Int×Int×Int×Int),caI n x.1 (zh x) (zf x).cells (zl x) i.1 (yM i.2.2) i.2.1→Aa (decide (i.1<(↑(List.length (List.drop (1:Nat) (zl x).kids)):Int))) (((0:Int)≤i.1∧i.1<(↑(List.length (List.drop (1:Nat) (zl x).kids)):Int))∧∀(e:Int),(List.drop (1:Nat) (zl x).kids)[Int.toNat i.1]? =some e→cA (DI n) [.box 0 [nds x.1.ns,.int .i64 x.1.L,Ab (yM i.2.2).out,.int .i64 (0:Int),.int .i64 (yM i.2.2).code,.int .i64 (yM i.2.2).steps,.int .i64 (yM i.2.2).deep],.box 0 [AV.sl false 0 2 (List UInt8×Int) Aw (zf x).cells,.bool (zf x).ended,.int .i64 (zf x).ret],.int .i64 e] fun x_1 y=>Aa ((yM y.2).code != (0:Int)) (rA (IZ n) x [.int .i64 (0:Int),.box 0 [nds x_1.1.ns,.int .i64 x_1.1.L,Ab (yM y.2).out,.int .i64 (0:Int),.int .i64 (yM y.2).code,.int .i64 (yM y.2).steps,.int .i64 (yM y.2).deep],.box 0 [AV.sl false 0 2 (List UInt8×Int) Aw (zf x_1).cells,.bool (zf x_1).ended,.int .i64 (zf x_1).ret],.top]) (∃(x_2:Int),y.1=x_2∧∃(zs:List Int),Ab [x_2]=Ab zs∧Bj AZ∧AW (List.length i.2.1+List.length zs) (8:Nat)∧inR IntKind.i64 (i.1+(1:Int))∧eN (RN n x) i [.box 0 [nds x_1.1.ns,.int .i64 x_1.1.L,Ab (yM y.2).out,.int .i64 (0:Int),.int .i64 (yM y.2).code,.int .i64 (yM y.2).steps,.int .i64 (yM y.2).deep],.box 0 [AV.sl false 0 2 (List UInt8×Int) Aw (zf x_1).cells,.bool (zf x_1).ended,.int .i64 (zf x_1).ret],.box 0 [.int .i64 (zl x).kind,.str (zl x).text,Aj (zl x).kids,.bool (zl x).blank],.box 0 [.int .i64 (cN x.1 (zl x)).kind,.str (cN x.1 (zl x)).text,Aj (cN x.1 (zl x)).kids,.bool (cN x.1 (zl x)).blank],Ab (i.2.1++zs),Aj (List.drop (1:Nat) (zl x).kids),.int .i64 (↑(List.length (List.drop (1:Nat) (zl x).kids)):Int),.int .i64 (i.1+(1:Int))])) (Aa ((cN x.1 (zl x)).text== #[(112:UInt8),(114:UInt8),(105:UInt8),(110:UInt8),(116:UInt8)].toList) (Aa ((↑(List.length i.2.1):Int)==(1:Int)) (true=true∧(((0:Int)≤(0:Int)∧(0:Int)<(↑(List.length i.2.1):Int))∧((0:Nat)<List.length i.2.1∧∀(x_1:Int),i.2.1[(0:Nat)]? =some x_1→∃(x_2:Int),x_1=x_2∧∃(zs:List Int),Ab [x_2]=Ab zs∧Bj AZ∧AW (List.length (yM i.2.2).out+List.length zs) (8:Nat)∧true=true∧∃(i_1:List Int×Int×Int×Int),caQ n x.1 (zh x) (zf x).cells (zl x) ((0:Int),yM i_1)∧(nds x.1.ns=nds x.1.ns∧x.1.L=x.1.L∧Ab ((yM i.2.2).out++zs)=Ab (yM i_1).out∧(0:Int)=(0:Int)∧(yM i.2.2).code=(yM i_1).code∧(yM i.2.2).steps=(yM i_1).steps∧(yM i.2.2).deep=(yM i_1).deep∧AV.sl false 0 2 (List UInt8×Int) Aw (zf x).cells=AV.sl false 0 2 (List UInt8×Int) Aw (zf x).cells∧(zf x).ended=(zf x).ended∧(zf x).ret=(zf x).ret∧True)∧True)∧(0:Nat)<List.length i.2.1∧∀(x_1:Int),i.2.1[(0:Nat)]? =some x_1→(∃(x_2:Int),x_1=x_2∧∃(zs:List Int),Ab [x_2]=Ab zs∧Bj AZ∧AW (List.length (yM i.2.2).out+List.length zs) (8:Nat)∧true=true∧∃(i_1:List Int×Int×Int×Int),caQ n x.1 (zh x) (zf x).cells (zl x) ((0:Int),yM i_1)∧(nds x.1.ns=nds x.1.ns∧x.1.L=x.1.L∧Ab ((yM i.2.2).out++zs)=Ab (yM i_1).out∧(0:Int)=(0:Int)∧(yM i.2.2).code=(yM i_1).code∧(yM i.2.2).steps=(yM i_1).steps∧(yM i.2.2).deep=(yM i_1).deep∧AV.sl false 0 2 (List UInt8×Int) Aw (zf x).cells=AV.sl false 0 2 (List UInt8×Int) Aw (zf x).cells∧(zf x).ended=(zf x).ended∧(zf x).ret=(zf x).ret∧True)∧True)∧∃(x_2:Int),x_1=x_2∧∃(zs:List Int),Ab [x_2]=Ab zs∧Bj AZ∧AW (List.length (yM i.2.2).out+List.length zs) (8:Nat)∧true=true∧∃(i_1:List Int×Int×Int×Int),caQ n x.1 (zh x) (zf x).cells (zl x) ((0:Int),yM i_1)∧(nds x.1.ns=nds x.1.ns∧x.1.L=x.1.L∧Ab ((yM i.2.2).out++zs)=Ab (yM i_1).out∧(0:Int)=(0:Int)∧(yM i.2.2).code=(yM i_1).code∧(yM i.2.2).steps=(yM i_1).steps∧(yM i.2.2).deep=(yM i_1).deep∧AV.sl false 0 2 (List UInt8×Int) Aw (zf x).cells=AV.sl false 0 2 (List UInt8×Int) Aw (zf x).cells∧(zf x).ended=(zf x).ended∧(zf x).ret=(zf x).ret∧True)∧True)∧∀(i:List Int×Int×Int×Int),caQ n x.1 (zh x) (zf x).cells (zl x) ((0:Int),yM i)→rA (IZ n) x [.int .i64 (0:Int),.box 0 [nds x.1.ns,.int .i64 x.1.L,Ab (yM i).out,.int .i64 (0:Int),.int .i64 (yM i).code,.int .i64 (yM i).steps,.int .i64 (yM i).deep],.box 0 [AV.sl false 0 2 (List UInt8×Int) Aw (zf x).cells,.bool (zf x).ended,.int .i64 (zf x).ret],.top]) (cA (Ic n) [.box 0 [nds x.1.ns,.int .i64 x.1.L,Ab (yM i.2.2).out,.int .i64 (0:Int),.int .i64 (yM i.2.2).code,.int .i64 (yM i.2.2).steps,.int .i64 (yM i.2.2).deep],.str (cN x.1 (zl x)).text,Ab i.2.1] fun x_1 y=>rA (IZ n) x [.int .i64 y.1,.box 0 [nds x_1.1.ns,.int .i64 x_1.1.L,Ab (yM y.2).out,.int .i64 (0:Int),.int .i64 (yM y.2).code,.int .i64 (yM y.2).steps,.int .i64 (yM y.2).deep],.box 0 [AV.sl false 0 2 (List UInt8×Int) Aw (zf x).cells,.bool (zf x).ended,.int .i64 (zf x).ret],.top])) (cA (Ic n) [.box 0 [nds x.1.ns,.int .i64 x.1.L,Ab (yM i.2.2).out,.int .i64 (0:Int),.int .i64 (yM i.2.2).code,.int .i64 (yM i.2.2).steps,.int .i64 (yM i.2.2).deep],.str (cN x.1 (zl x)).text,Ab i.2.1] fun x_1 y=>rA (IZ n) x [.int .i64 y.1,.box 0 [nds x_1.1.ns,.int .i64 x_1.1.L,Ab (yM y.2).out,.int .i64 (0:Int),.int .i64 (yM y.2).code,.int .i64 (yM y.2).steps,.int .i64 (yM y.2).deep],.box 0 [AV.sl false 0 2 (List UInt8×Int) Aw (zf x).cells,.bool (zf x).ended,.int .i64 (zf x).ret],.top])))) (fun x=>by kernel_rfl) fun(x:ZX Nd) (hx:caP n x.1 (zh x) (zf x).cells (zl x))=>(by
 dsimp only[cA,Aw,cls,eA,eN,frA,RN,KF,Aj,mcA,Bc,nds,Ab,rA,Dm,IZ,Ic,DI,Au,Az,mvL,lnL,mvE,lnE,Bq]
 obtain⟨s,o,c,t,d,cs,en,re,z⟩:=x;dsimp only[zh,zf,zl] at hx ⊢
 have hx:caP n s ⟨o,c,t,d⟩ cs z:=hx
 have h1:=hx.2.1.1
 (repeat' first|(with_reducible first|rfl|exact True.intro|apply AK|apply And.intro|((first|apply AA|apply AI|apply AB|apply AJ)<;>intro _))|(apply Ax<;>intro _)|apply AH|refine Ae () ?_ ?_|((first|apply AO|apply AN|apply AM|apply AL|apply AG|apply AF|apply AE|apply AD|apply AC)<;>try dsimp only)|apply Ae|(refine Prod.forall.2 ?_;intro _;try dsimp only)|(intro _;try dsimp only))
 all_goals(try simp only[Ma] at*)
 all_goals(try(have hB:=a2a (show caI _ _ _ _ _ _ _ _ by assumption)))
 all_goals(try(have hO:=b1Z (show caI _ _ _ _ _ _ _ _ by assumption);dsimp only[yM] at hO))
 all_goals(try(rename s.ns[_]? =some _=>hq;have hN:=b1X ‹_› hq))
 all_goals first
  |rfl
  |exact hx
  |exact True.intro
  |(rw[hN];done)
  |(exact(a1Z hx ‹_›).1)
  |(exact(a1Z hx ‹_›).2)
  |exact b1W hx ‹_›
  |exact b1Y hx (by omega)
  |exact b2a hx ‹_› ‹_›
  |exact b2b ‹_› ‹_› ‹_› ‹_›
  |exact b2c ‹_› ‹_› ‹_› ‹_›
  |exact b2d hx ‹_› ‹_› ‹_› ‹_› ‹_›
  |exact b2e hx ‹_›
  |exact a2e ‹_› ‹_› (fun h=>absurd h.1 ‹_›) ‹_›
  |exact a2e ‹_› ‹_› (fun h=>absurd h.2 ‹_›) ‹_›
  |((try simp only[AR,AW,List.length_append,List.length_cons,List.length_nil]);omega)
  |skip)
end Go.My
end
