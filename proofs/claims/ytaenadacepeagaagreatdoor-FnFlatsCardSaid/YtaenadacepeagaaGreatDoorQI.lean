/- joined -/
import Derived.Test.YtaenadacepeagaaGreatDoorQH
set_option linter.unusedSimpArgs false
set_option linter.unusedVariables false
section
namespace Go.My
open Go.Eng Go.Proofs
variable {G:GInv}
def srd(s:ST)(g:Gs):AV:= .box 0 [sgs s.sg,.int .i64 g.pos,.bool g.bad,.int .i64 g.deep,Bd g.nodes]
theorem a1u{sg:List Sg}{g:Gs}(h:g.bad=true∨(sg.length:Int)≤g.pos):pkG sg g 0=Es:=a8O (by simpa using h)
theorem Vt{sg:List Sg}{g:Gs}{e:Sg}(he:sg[g.pos.toNat]? =some e)(hb:g.bad=false)(hl:g.pos<sg.length):pkG sg g 0=e:=a8P (by simpa using he) hb (by omega)
theorem a1v{sg:List Sg}{g:Gs}{k:Int}{t:List UInt8}(hk:k≠0)(h:g.bad=true∨(sg.length:Int)≤g.pos):isG sg g k t=false:=by
 simp [isG,a1u h,Es,Ne.symm hk]
theorem b1u{sg:List Sg}{g:Gs}{e:Sg}{k:Int}{t:List UInt8}(he:sg[g.pos.toNat]? =some e)(hb:g.bad=false)(hl:g.pos<sg.length):isG sg g k t=(decide (e.kind=k)&&(e.text==t)):=by
 rw[isG,Vt he hb hl]
def kdG(sg:List Sg)(g:Gs)(k:Int):Bool:=decide ((pkG sg g 0).kind=k)&&(decide (k≠1)|| !kw (pkG sg g 0).text)
theorem Ng{sg:List Sg}{g:Gs}{k:Int}(hk:k≠0)(h:g.bad=true∨(sg.length:Int)≤g.pos):kdG sg g k=false:=by
 simp [kdG,a1u h,Es,Ne.symm hk]
theorem a1w{sg:List Sg}{g:Gs}{e:Sg}{k:Int}(he:sg[g.pos.toNat]? =some e)(hb:g.bad=false)(hl:g.pos<sg.length):kdG sg g k=(decide (e.kind=k)&&(decide (k≠1)|| !kw e.text)):=by
 rw[kdG,Vt he hb hl]
theorem IB{sg:List Sg}{g:Gs}:kdG sg g 1=nmG sg g 0:=by simp [kdG,nmG]
theorem Rs{sg:List Sg}{g:Gs}{k:Int}(hk:k≠0)(h:kdG sg g k=true):g.bad=false∧g.pos<sg.length:=by
 cases hb:g.bad with
 |true=>rw[Ng hk (.inl hb)] at h;cases h
 |false=>
  refine⟨rfl,?_⟩
  rcases Int.lt_or_le g.pos sg.length with hh|hh
  ·exact hh
  ·rw[Ng hk (.inr hh)] at h;cases h
theorem b1v{e:Nd}{b:Bool}{q:Nd→Prop}(h:q ⟨e.kind,e.text,e.kids,b⟩):
 ∃x':Nd,([AV.int IntKind.i64 x'.kind,AV.str x'.text,AV.sl true 0 1 Int Bw x'.kids]=[AV.int IntKind.i64 e.kind,AV.str e.text,AV.sl true 0 1 Int Bw e.kids]∧(@List.nil AV)=[])∧b=x'.blank∧q x':=
 ⟨⟨e.kind,e.text,e.kids,b⟩,⟨rfl,rfl⟩,rfl,h⟩
def BE(sg:List Sg)(g:Gs)(m:List UInt8):Gs:=if isG sg g 1 m then Au g else g
def Bg(sg:List Sg)(g:Gs)(k:Int):Gs:=if kdG sg g k then Au g else Bt g
def BA(sg:List Sg)(g:Gs)(k:Int):List UInt8:=if kdG sg g k then(pkG sg g 0).text else []
def gBl(g:Gs)(k:Int)(b:Bool):Gs:=if g.bad=false∧k<g.nodes.length then⟨g.pos,g.deep,g.bad,g.nodes.set k.toNat ⟨(Aj g.nodes k).kind,(Aj g.nodes k).text,(Aj g.nodes k).kids,b⟩⟩ else g
theorem b1w{g:Gs}{k:Int}{b:Bool}{e:Nd}(he:g.nodes[k.toNat]? =some e)(hb:g.bad=false)(hk:k<g.nodes.length):g.nodes.set k.toNat ⟨e.kind,e.text,e.kids,b⟩=(gBl g k b).nodes:=by
 rw[gBl,if_pos ⟨hb,hk⟩,Bz he]
def blG(sg:List Sg)(g:Gs):Bool:=decide (g.pos<sg.length)&&(sgO sg g.pos).blank
theorem b1x{sg:List Sg}{g:Gs}{e:Sg}{k:Int}(he:sg[(g.pos+1-1).toNat]? =some e)(hk:k≠0)(h:kdG sg g k=true):e.text=BA sg g k:=by
 obtain⟨hb,hl⟩:=Rs hk h
 rw[BA,if_pos h,Vt (by rw[show g.pos=g.pos+1-1 by omega];exact he) hb hl]
def DU:Sig:= {X:=ST×Int×Int×Bool×List Nd×Int×List UInt8,args:=fun x=>[srd x.1 (xh x),.int .i64 x.2.2.2.2.2.1,.str x.2.2.2.2.2.2],pre:=fun x=>rOk x.1 (xh x)∧x.2.2.2.2.2.1≠0,Y:=Unit,post:=fun x y=>True,res:=fun x y=> .bool (isG x.1.sg (xh x) x.2.2.2.2.2.1 x.2.2.2.2.2.2),outs:=fun x y=>[srd x.1 (xh x),.top,.top],keep:=true}
theorem Pa:Am G Tryz.prog 77 DU:=
 vcFun_okP [] [] false (fun x=>[]) Tryz.func77 rfl (by decide) trivial (fun(x:ST×Int×Int×Bool×List Nd×Int×List UInt8)=>True∧true=true∧true=true∧Aa (!(xh x).bad) (Aa (decide ((xh x).pos<(↑(List.length x.1.sg):Int))) (((0:Int)≤(xh x).pos∧(xh x).pos<(↑(List.length x.1.sg):Int))∧∀(e:Sg),x.1.sg[Int.toNat (xh x).pos]? =some e→Aa (e.kind==x.2.2.2.2.2.1) (((0:Int)≤(xh x).pos∧(xh x).pos<(↑(List.length x.1.sg):Int))∧∀(e:Sg),x.1.sg[Int.toNat (xh x).pos]? =some e→rA DU x [.bool (e.text==x.2.2.2.2.2.2),srd x.1 (xh x),.top,.top]) (rA DU x [.bool false,srd x.1 (xh x),.top,.top])) (rA DU x [.bool false,srd x.1 (xh x),.top,.top])) (rA DU x [.bool false,srd x.1 (xh x),.top,.top])) (fun x=>by kernel_rfl) fun(x:ST×Int×Int×Bool×List Nd×Int×List UInt8) (hx:rOk x.1 (xh x)∧x.2.2.2.2.2.1≠0)=>(by
 dsimp only[Bx,Bd,rA,DU,Bv,sgs,srd,Aw,AR]
 obtain⟨s,p,d,b,ns,k,m⟩:=x;dsimp only[xg,xh] at hx ⊢
 obtain⟨h1,h2⟩:=hx;have hs:=GH h1;dsimp only at hs
 (repeat' first|(with_reducible first|rfl|exact True.intro|apply AM|apply And.intro|((first|apply AC|apply AK|apply AD|apply AL)<;>intro _))|(apply AB<;>intro _)|apply AJ|refine Ag () ?_ ?_|((first|apply AQ|apply AP|apply AO|apply AN|apply AI|apply AH|apply AG|apply AF|apply AE)<;>try dsimp only)|apply Ag|(refine Prod.forall.2 ?_;intro _;try dsimp only)|(intro _;try dsimp only))
 all_goals(try(repeat(rename s.sg[_]? =some _=>hq;revert hq;rename s.sg[_]? =some _=>hr;intro hq;rw[hr] at hq;cases hq)))
 all_goals first
  |rfl
  |exact(a1v h2 (.inl ‹_›)).symm
  |exact(a1v h2 (.inr (by simp only;omega))).symm
  |(rw[b1u ‹_› ‹_› (by simp only;omega)];simp [*];done)
  |((try simp only[AS]);omega)
  |skip)
def Cd:Sig:= {X:=ST×Int×Int×Bool×List Nd×List UInt8,args:=fun x=>[srd x.1 (xh x),.str x.2.2.2.2.2],pre:=fun x=>rOk x.1 (xh x),Y:=Unit,post:=fun x y=>True,res:=fun x y=> .bool (isG x.1.sg (xh x) 4 x.2.2.2.2.2),outs:=fun x y=>[srd x.1 (Ax x.1.sg (xh x) x.2.2.2.2.2),.top],keep:=true}
theorem Hl:Am G Tryz.prog 45 Cd:=
 vcFun_okP [(77,0,DU)] [] false (fun x=>[]) Tryz.func45 rfl (by decide) ⟨Pa,trivial⟩ (fun(x:ST×Int×Int×Bool×List Nd×List UInt8)=>True∧cA DU [srd x.1 (xh x),.int .i64 (4:Int),.str x.2.2.2.2.2] fun x_1 y=>Aa (isG x_1.1.sg (xh x_1) x_1.2.2.2.2.2.1 x_1.2.2.2.2.2.2) (inR IntKind.i64 ((xh x_1).pos+(1:Int))∧rA Cd x [.bool true,.box 0 [sgs x_1.1.sg,.int .i64 ((xh x_1).pos+(1:Int)),.bool (xh x_1).bad,.int .i64 (xh x_1).deep,Bd (xh x_1).nodes],.top]) (rA Cd x [.bool false,srd x_1.1 (xh x_1),.top])) (fun x=>by kernel_rfl) fun(x:ST×Int×Int×Bool×List Nd×List UInt8) (hx:rOk x.1 (xh x))=>(by
 dsimp only[cA,Bx,Bd,rA,DU,Cd,Bv,sgs,srd,Aw,AR,mvL,lnL,mvE,lnE]
 obtain⟨s,p,d,b,ns,m⟩:=x;dsimp only[xg,xh] at hx ⊢
 have hx:rOk s ⟨p,d,b,ns⟩:=hx;have hs:=GH hx;dsimp only at hs
 (repeat' first|(with_reducible first|rfl|exact True.intro|apply AM|apply And.intro|((first|apply AC|apply AK|apply AD|apply AL)<;>intro _))|(apply AB<;>intro _)|apply AJ|refine Ag () ?_ ?_|((first|apply AQ|apply AP|apply AO|apply AN|apply AI|apply AH|apply AG|apply AF|apply AE)<;>try dsimp only)|apply Ag|(refine Prod.forall.2 ?_;intro _;try dsimp only)|(intro _;try dsimp only))
 all_goals first
  |rfl
  |exact hx
  |omega
  |(simp [Ax,Au, *];done)
  |((try simp only[AS]);omega)
  |skip)
def EU:Sig:= {X:=ST×Int×Int×Bool×List Nd×List UInt8,args:=fun x=>[srd x.1 (xh x),.str x.2.2.2.2.2],pre:=fun x=>rOk x.1 (xh x),Y:=Unit,post:=fun x y=>True,res:=fun x y=> .bool (isG x.1.sg (xh x) 1 x.2.2.2.2.2),outs:=fun x y=>[srd x.1 (BE x.1.sg (xh x) x.2.2.2.2.2),.top],keep:=true}
theorem Vu:Am G Tryz.prog 42 EU:=
 vcFun_okP [(77,0,DU)] [] false (fun x=>[]) Tryz.func42 rfl (by decide) ⟨Pa,trivial⟩ (fun(x:ST×Int×Int×Bool×List Nd×List UInt8)=>True∧cA DU [srd x.1 (xh x),.int .i64 (1:Int),.str x.2.2.2.2.2] fun x_1 y=>Aa (isG x_1.1.sg (xh x_1) x_1.2.2.2.2.2.1 x_1.2.2.2.2.2.2) (inR IntKind.i64 ((xh x_1).pos+(1:Int))∧rA EU x [.bool true,.box 0 [sgs x_1.1.sg,.int .i64 ((xh x_1).pos+(1:Int)),.bool (xh x_1).bad,.int .i64 (xh x_1).deep,Bd (xh x_1).nodes],.top]) (rA EU x [.bool false,srd x_1.1 (xh x_1),.top])) (fun x=>by kernel_rfl) fun(x:ST×Int×Int×Bool×List Nd×List UInt8) (hx:rOk x.1 (xh x))=>(by
 dsimp only[cA,Bx,Bd,rA,DU,EU,Bv,sgs,srd,Aw,AR,mvL,lnL,mvE,lnE]
 obtain⟨s,p,d,b,ns,m⟩:=x;dsimp only[xg,xh] at hx ⊢
 have hx:rOk s ⟨p,d,b,ns⟩:=hx;have hs:=GH hx;dsimp only at hs
 (repeat' first|(with_reducible first|rfl|exact True.intro|apply AM|apply And.intro|((first|apply AC|apply AK|apply AD|apply AL)<;>intro _))|(apply AB<;>intro _)|apply AJ|refine Ag () ?_ ?_|((first|apply AQ|apply AP|apply AO|apply AN|apply AI|apply AH|apply AG|apply AF|apply AE)<;>try dsimp only)|apply Ag|(refine Prod.forall.2 ?_;intro _;try dsimp only)|(intro _;try dsimp only))
 all_goals first
  |rfl
  |exact hx
  |omega
  |(simp [BE,Au, *];done)
  |((try simp only[AS]);omega)
  |skip)
def BP:Sig:= {X:=ST×Int×Int×Bool×List Nd×List UInt8,args:=fun x=>[srd x.1 (xh x),.str x.2.2.2.2.2],pre:=fun x=>rOk x.1 (xh x),Y:=Unit,post:=fun x y=>True,res:=fun x y=> .tup [],outs:=fun x y=>[srd x.1 (Av x.1.sg (xh x) x.2.2.2.2.2),.top],keep:=true}
theorem HL:Am G Tryz.prog 44 BP:=
 vcFun_okP [(45,0,Cd)] [] false (fun x=>[]) Tryz.func44 rfl (by decide) ⟨Hl,trivial⟩ (fun(x:ST×Int×Int×Bool×List Nd×List UInt8)=>True∧cA Cd [srd x.1 (xh x),.str x.2.2.2.2.2] fun x_1 y=>Aa (!isG x_1.1.sg (xh x_1) (4:Int) x_1.2.2.2.2.2) (rA BP x [.tup [],.box 0 [sgs x_1.1.sg,.int .i64 (Ax x_1.1.sg (xh x_1) x_1.2.2.2.2.2).pos,.bool true,.int .i64 (Ax x_1.1.sg (xh x_1) x_1.2.2.2.2.2).deep,Bd (Ax x_1.1.sg (xh x_1) x_1.2.2.2.2.2).nodes],.top]) (rA BP x [.tup [],srd x_1.1 (Ax x_1.1.sg (xh x_1) x_1.2.2.2.2.2),.top])) (fun x=>by kernel_rfl) fun(x:ST×Int×Int×Bool×List Nd×List UInt8) (hx:rOk x.1 (xh x))=>(by
 dsimp only[cA,Bx,Bd,rA,Cd,BP,Bv,sgs,srd,Aw,AR,mvL,lnL,mvE,lnE]
 obtain⟨s,p,d,b,ns,m⟩:=x;dsimp only[xg,xh] at hx ⊢
 have hx:rOk s ⟨p,d,b,ns⟩:=hx;have hs:=GH hx;dsimp only at hs
 (repeat' first|(with_reducible first|rfl|exact True.intro|apply AM|apply And.intro|((first|apply AC|apply AK|apply AD|apply AL)<;>intro _))|(apply AB<;>intro _)|apply AJ|refine Ag () ?_ ?_|((first|apply AQ|apply AP|apply AO|apply AN|apply AI|apply AH|apply AG|apply AF|apply AE)<;>try dsimp only)|apply Ag|(refine Prod.forall.2 ?_;intro _;try dsimp only)|(intro _;try dsimp only))
 all_goals first
  |rfl
  |exact hx
  |(simp [Av,Ax,Au,Bt, *];done)
  |((try simp only[AS]);omega)
  |skip)
def DV:Sig:= {X:=ST×Int×Int×Bool×List Nd×Int,args:=fun x=>[srd x.1 (xh x),.int .i64 x.2.2.2.2.2],pre:=fun x=>rOk x.1 (xh x)∧x.2.2.2.2.2≠0,Y:=Unit,post:=fun x y=>True,res:=fun x y=> .bool (kdG x.1.sg (xh x) x.2.2.2.2.2),outs:=fun x y=>[srd x.1 (xh x),.top],keep:=true}
theorem Rt:Am G Tryz.prog 40 DV:=
 vcFun_okP [(76,0,Gc)] [] false (fun x=>[]) Tryz.func40 rfl (by decide) ⟨UI,trivial⟩ (fun(x:ST×Int×Int×Bool×List Nd×Int)=>True∧true=true∧true=true∧Aa (!(xh x).bad) (Aa (decide ((xh x).pos<(↑(List.length x.1.sg):Int))) (((0:Int)≤(xh x).pos∧(xh x).pos<(↑(List.length x.1.sg):Int))∧∀(e:Sg),x.1.sg[Int.toNat (xh x).pos]? =some e→Aa (e.kind==x.2.2.2.2.2) (Aa (x.2.2.2.2.2 != (1:Int)) (rA DV x [.bool true,srd x.1 (xh x),.top]) (((0:Int)≤(xh x).pos∧(xh x).pos<(↑(List.length x.1.sg):Int))∧∀(e:Sg),x.1.sg[Int.toNat (xh x).pos]? =some e→∃(x_1:List UInt8),True∧e.text=x_1∧∃(y0:Unit),(∀(y:Unit),True→AV.bool (kw x_1)=AV.bool (kw x_1))∧true=true∧rA DV x [.bool !kw x_1,srd x.1 (xh x),.top])) (rA DV x [.bool false,srd x.1 (xh x),.top])) (rA DV x [.bool false,srd x.1 (xh x),.top])) (rA DV x [.bool false,srd x.1 (xh x),.top])) (fun x=>by kernel_rfl) fun(x:ST×Int×Int×Bool×List Nd×Int) (hx:rOk x.1 (xh x)∧x.2.2.2.2.2≠0)=>(by
 dsimp only[Bx,Bd,rA,DV,Bv,sgs,srd,Aw,AR]
 obtain⟨s,p,d,b,ns,k⟩:=x;dsimp only[xg,xh] at hx ⊢
 obtain⟨h1,h2⟩:=hx;have hs:=GH h1;dsimp only at hs
 (repeat' first|(with_reducible first|rfl|exact True.intro|apply AM|apply And.intro|((first|apply AC|apply AK|apply AD|apply AL)<;>intro _))|(apply AB<;>intro _)|apply AJ|refine Ag () ?_ ?_|((first|apply AQ|apply AP|apply AO|apply AN|apply AI|apply AH|apply AG|apply AF|apply AE)<;>try dsimp only)|apply Ag|(refine Prod.forall.2 ?_;intro _;try dsimp only)|(intro _;try dsimp only))
 all_goals(try(repeat(rename s.sg[_]? =some _=>hq;revert hq;rename s.sg[_]? =some _=>hr;intro hq;rw[hr] at hq;cases hq)))
 all_goals first
  |rfl
  |exact(Ng h2 (.inl ‹_›)).symm
  |exact(Ng h2 (.inr (by simp only;omega))).symm
  |(rw[a1w ‹_› ‹_› (by simp only;omega)];simp [*];done)
  |((try simp only[AS]);omega)
  |skip)
def CC:Sig:= {X:=ST×Int×Int×Bool×List Nd×Int,args:=fun x=>[srd x.1 (xh x),.int .i64 x.2.2.2.2.2],pre:=fun x=>rOk x.1 (xh x)∧x.2.2.2.2.2≠0,Y:=Unit,post:=fun x y=>True,res:=fun x y=> .str (BA x.1.sg (xh x) x.2.2.2.2.2),outs:=fun x y=>[srd x.1 (Bg x.1.sg (xh x) x.2.2.2.2.2),.top],keep:=true}
theorem Kg:Am G Tryz.prog 41 CC:=
 vcFun_okP [(40,0,DV)] [] false (fun x=>[]) Tryz.func41 rfl (by decide) ⟨Rt,trivial⟩ (fun(x:ST×Int×Int×Bool×List Nd×Int)=>True∧cA DV [srd x.1 (xh x),.int .i64 x.2.2.2.2.2] fun x_1 y=>Aa (!kdG x_1.1.sg (xh x_1) x_1.2.2.2.2.2) (rA CC x [.str #[].toList,.box 0 [sgs x_1.1.sg,.int .i64 (xh x_1).pos,.bool true,.int .i64 (xh x_1).deep,Bd (xh x_1).nodes],.top]) (inR IntKind.i64 ((xh x_1).pos+(1:Int))∧true=true∧true=true∧inR IntKind.i64 ((xh x_1).pos+(1:Int)-(1:Int))∧((0:Int)≤(xh x_1).pos+(1:Int)-(1:Int)∧(xh x_1).pos+(1:Int)-(1:Int)<(↑(List.length x_1.1.sg):Int))∧∀(e:Sg),x_1.1.sg[Int.toNat ((xh x_1).pos+(1:Int)-(1:Int))]? =some e→rA CC x [.str e.text,.box 0 [sgs x_1.1.sg,.int .i64 ((xh x_1).pos+(1:Int)),.bool (xh x_1).bad,.int .i64 (xh x_1).deep,Bd (xh x_1).nodes],.top])) (fun x=>by kernel_rfl) fun(x:ST×Int×Int×Bool×List Nd×Int) (hx:rOk x.1 (xh x)∧x.2.2.2.2.2≠0)=>(by
 dsimp only[cA,Bx,Bd,rA,DV,CC,Bv,sgs,srd,Aw,AR,mvL,lnL,mvE,lnE]
 obtain⟨s,p,d,b,ns,k⟩:=x;dsimp only[xg,xh] at hx ⊢
 obtain⟨h1,h2⟩:=hx;have hs:=GH h1;dsimp only at hs
 (repeat' first|(with_reducible first|rfl|exact True.intro|apply AM|apply And.intro|((first|apply AC|apply AK|apply AD|apply AL)<;>intro _))|(apply AB<;>intro _)|apply AJ|refine Ag () ?_ ?_|((first|apply AQ|apply AP|apply AO|apply AN|apply AI|apply AH|apply AG|apply AF|apply AE)<;>try dsimp only)|apply Ag|(refine Prod.forall.2 ?_;intro _;try dsimp only)|(intro _;try dsimp only))
 all_goals first
  |rfl
  |exact h1
  |exact h2
  |(simp [Bg,BA,Au,Bt, *];done)
  |exact b1x ‹_› h2 ‹_›
  |(have hl:=Rs h2 (show kdG _ _ _=true by assumption);dsimp only at hl;(try simp only[AS]);omega)
  |((try simp only[AS]);omega)
  |skip)
def Bn:Sig:= {X:=ST×Int×Int×Bool×List Nd×Int×List UInt8×List Int,args:=fun x=>[srd x.1 (xh x),.int .i64 x.2.2.2.2.2.1,.str x.2.2.2.2.2.2.1,Ab x.2.2.2.2.2.2.2],pre:=fun x=>rOk x.1 (xh x),Y:=Unit,post:=fun x y=>True,res:=fun x y=> .int .i64 (AX (xh x)),outs:=fun x y=>[srd x.1 (As (xh x) ⟨x.2.2.2.2.2.1,x.2.2.2.2.2.2.1,x.2.2.2.2.2.2.2,false⟩),.top,.top,.top],keep:=true}
theorem Hm:Am G Tryz.prog 25 Bn:=
 vcFun_okP [] [(25,⟨Nd,ndA true⟩)] false (fun x=>[]) Tryz.func25 rfl (by decide) trivial (fun(x:ST×Int×Int×Bool×List Nd×Int×List UInt8×List Int)=>True∧Aa (xh x).bad (rA Bn x [.int .i64 (0:Int),.box 0 [sgs x.1.sg,.int .i64 (xh x).pos,.bool true,.int .i64 (xh x).deep,Bd (xh x).nodes],.top,.top,.top]) (Aa (decide ((↑(List.length (xh x).nodes):Int)≥(300:Int))) (rA Bn x [.int .i64 (0:Int),.box 0 [sgs x.1.sg,.int .i64 (xh x).pos,.bool true,.int .i64 (xh x).deep,Bd (xh x).nodes],.top,.top,.top]) (∃(x_1:Nd),x.2.2.2.2.2.1=x_1.kind∧x.2.2.2.2.2.2.1=x_1.text∧Ab x.2.2.2.2.2.2.2=Ab x_1.kids∧false=x_1.blank∧∃(zs:List Nd),Bd [x_1]=Bd zs∧Bu (ndA true)∧Ba (List.length (xh x).nodes+List.length zs) (56:Nat)∧inR IntKind.i64 ((↑(List.length ((xh x).nodes++zs)):Int)-(1:Int))∧∃(y:Unit),True∧(↑(List.length ((xh x).nodes++zs)):Int)-(1:Int)=AX (xh x)∧sgs x.1.sg=sgs x.1.sg∧(xh x).pos=(As (xh x) {kind:=x.2.2.2.2.2.1,text:=x.2.2.2.2.2.2.1,kids:=x.2.2.2.2.2.2.2,blank:=false}).pos∧(xh x).bad=(As (xh x) {kind:=x.2.2.2.2.2.1,text:=x.2.2.2.2.2.2.1,kids:=x.2.2.2.2.2.2.2,blank:=false}).bad∧(xh x).deep=(As (xh x) {kind:=x.2.2.2.2.2.1,text:=x.2.2.2.2.2.2.1,kids:=x.2.2.2.2.2.2.2,blank:=false}).deep∧Bd ((xh x).nodes++zs)=Bd (As (xh x) {kind:=x.2.2.2.2.2.1,text:=x.2.2.2.2.2.2.1,kids:=x.2.2.2.2.2.2.2,blank:=false}).nodes∧True))) (fun x=>by kernel_rfl) fun(x:ST×Int×Int×Bool×List Nd×Int×List UInt8×List Int) (hx:rOk x.1 (xh x))=>(by
 dsimp only[Bx,Ab,Bd,rA,Bn,Bv,sgs,srd,Aw,AR]
 obtain⟨s,p,d,b,ns,k,t,ks⟩:=x;dsimp only[xg,xh] at hx ⊢
 have hx:rOk s ⟨p,d,b,ns⟩:=hx;have hs:=GH hx;dsimp only at hs
 (repeat' first|refine a8N ?_|(with_reducible first|rfl|exact True.intro|apply AM|apply And.intro|((first|apply AC|apply AK|apply AD|apply AL)<;>intro _))|(apply AB<;>intro _)|apply AJ|refine Ag () ?_ ?_|((first|apply AQ|apply AP|apply AO|apply AN|apply AI|apply AH|apply AG|apply AF|apply AE)<;>try dsimp only)|apply Ag|(refine Prod.forall.2 ?_;intro _;try dsimp only)|(intro _;try dsimp only))
 all_goals first
  |rfl
  |(simp [As,AX,DB,Bt, *];done)
  |(have hn:ns.length=300:=by omega
    simp [As,AX,DB,Bt, *];done)
  |(have hn:ns.length≠300:=by omega
    simp [As,AX,DB,Bt, *];done)
  |((try simp only[AS,Ba,List.length_append,List.length_cons,List.length_nil]);omega)
  |skip)
def FS:Sig:= {X:=ST×Int×Int×Bool×List Nd,args:=fun x=>[srd x.1 (xg x)],pre:=fun x=>rOk x.1 (xg x),Y:=Unit,post:=fun x y=>True,res:=fun x y=> .bool (blG x.1.sg (xg x)),outs:=fun x y=>[srd x.1 (xg x)],keep:=true}
theorem Ru:Am G Tryz.prog 22 FS:=
 vcFun_okP [] [] false (fun x=>[]) Tryz.func22 rfl (by decide) trivial (fun(x:ST×Int×Int×Bool×List Nd)=>True∧true=true∧true=true∧Aa (decide ((xg x).pos<(↑(List.length x.1.sg):Int))) (((0:Int)≤(xg x).pos∧(xg x).pos<(↑(List.length x.1.sg):Int))∧∀(e:Sg),x.1.sg[Int.toNat (xg x).pos]? =some e→rA FS x [.bool e.blank,srd x.1 (xg x)]) (rA FS x [.bool false,srd x.1 (xg x)])) (fun x=>by kernel_rfl) fun(x:ST×Int×Int×Bool×List Nd) (hx:rOk x.1 (xg x))=>(by
 dsimp only[Bx,Bd,rA,FS,Bv,sgs,srd,Aw,AR]
 obtain⟨s,p,d,b,ns⟩:=x;dsimp only[xg,xh] at hx ⊢
 have hx:rOk s ⟨p,d,b,ns⟩:=hx;have hs:=GH hx;dsimp only at hs
 (repeat' first|(with_reducible first|rfl|exact True.intro|apply AM|apply And.intro|((first|apply AC|apply AK|apply AD|apply AL)<;>intro _))|(apply AB<;>intro _)|apply AJ|refine Ag () ?_ ?_|((first|apply AQ|apply AP|apply AO|apply AN|apply AI|apply AH|apply AG|apply AF|apply AE)<;>try dsimp only)|apply Ag|(refine Prod.forall.2 ?_;intro _;try dsimp only)|(intro _;try dsimp only))
 all_goals first
  |rfl
  |(simp [blG,FO (show s.sg[_]? =some _ by assumption), *];done)
  |(simp [blG, *];done)
  |((try simp only[AS]);omega)
  |skip)
def Ei:Sig:= {X:=ST×Int×Int×Bool×List Nd×Int×Bool,args:=fun x=>[srd x.1 (xh x),.int .i64 x.2.2.2.2.2.1,.bool x.2.2.2.2.2.2],pre:=fun x=>rOk x.1 (xh x)∧((xh x).bad=false→0≤x.2.2.2.2.2.1),Y:=Unit,post:=fun x y=>True,res:=fun x y=> .tup [],outs:=fun x y=>[srd x.1 (gBl (xh x) x.2.2.2.2.2.1 x.2.2.2.2.2.2),.top,.top],keep:=true}
theorem Rv:Am G Tryz.prog 24 Ei:=
 vcFun_okP [] [(25,⟨Nd,ndA true⟩)] false (fun x=>[]) Tryz.func24 rfl (by decide) trivial (fun(x:ST×Int×Int×Bool×List Nd×Int×Bool)=>True∧Aa (!(xh x).bad) (Aa (decide (x.2.2.2.2.2.1<(↑(List.length (xh x).nodes):Int))) (((0:Int)≤x.2.2.2.2.2.1∧x.2.2.2.2.2.1<(↑(List.length (xh x).nodes):Int))∧Int.toNat x.2.2.2.2.2.1<List.length (xh x).nodes∧∀(x_1:Nd),(xh x).nodes[Int.toNat x.2.2.2.2.2.1]? =some x_1→∃(x':Nd),([AV.int .i64 x'.kind,.str x'.text,Ab x'.kids]=[.int .i64 x_1.kind,.str x_1.text,Ab x_1.kids]∧(@List.nil AV)=[])∧x.2.2.2.2.2.2=x'.blank∧rA Ei x [.tup [],.box 0 [sgs x.1.sg,.int .i64 (xh x).pos,.bool (xh x).bad,.int .i64 (xh x).deep,Bd (List.set (xh x).nodes (Int.toNat x.2.2.2.2.2.1) x')],.top,.top]) (rA Ei x [.tup [],srd x.1 (xh x),.top,.top])) (rA Ei x [.tup [],srd x.1 (xh x),.top,.top])) (fun x=>by kernel_rfl) fun(x:ST×Int×Int×Bool×List Nd×Int×Bool) (hx:rOk x.1 (xh x)∧((xh x).bad=false→0≤x.2.2.2.2.2.1))=>(by
 dsimp only[Bx,Ab,Bd,rA,Ei,Bv,sgs,srd,Aw,AR]
 obtain⟨s,p,d,b,ns,k,bl⟩:=x;dsimp only[xg,xh] at hx ⊢
 obtain⟨hx,hk⟩:=hx
 have hx:rOk s ⟨p,d,b,ns⟩:=hx;have hs:=GH hx;dsimp only at hs
 (repeat' first|refine b1v ?_|(with_reducible first|rfl|exact True.intro|apply AM|apply And.intro|((first|apply AC|apply AK|apply AD|apply AL)<;>intro _))|(apply AB<;>intro _)|apply AJ|refine Ag () ?_ ?_|((first|apply AQ|apply AP|apply AO|apply AN|apply AI|apply AH|apply AG|apply AF|apply AE)<;>try dsimp only)|apply Ag|(refine Prod.forall.2 ?_;intro _;try dsimp only)|(intro _;try dsimp only))
 all_goals first
  |rfl
  |(simp [gBl, *];done)
  |exact b1w (g:=⟨p,d,b,ns⟩) ‹_› ‹_› ‹_›
  |(have hk2:=hk ‹_›;(try simp only[AS]);omega)
  |((try simp only[AS]);omega)
  |skip)
end Go.My
end
section
namespace Go.My
open Go.Eng
theorem Nh{sg:List Sg}{x:Gs}{f:Ps→PR}{k k':Int}{y y':Gs}(h:Ah sg x f (k,y))(h1:gsOk sg y')(h2:y'.deep=y.deep)(h3:y.pos≤y'.pos)(h4:pur y'=pur y)(h5:y'.bad=false→k'=k):Ah sg x f (k',y'):=by
 obtain⟨⟨a1,a2,a3,a4,a5⟩,b⟩:=h
 simp only at a1 a2 a3 a4 a5 b
 have hb:y'.bad=y.bad:=by
  cases hy:y.bad with
  |true=>exact a0v.1 (h4.trans (DR hy))
  |false=>
   cases hy':y'.bad with
   |false=>rfl
   |true=>rw[DR hy',Dg hy] at h4;cases h4
 refine⟨⟨h1,by simp only;omega,by simp only;omega,by simp only;rw[h4];exact a4,fun p hp=> ?_⟩,fun hw=> ?_⟩
 ·simp only
  have:=a5 p hp
  rw[h5 ?_]
  ·exact this
  ·cases hy:y'.bad with
   |false=>rfl
   |true=>rw[←h4,DR hy,hp] at a4;cases a4
 ·simp only at hw ⊢
  have:=b (by rw[←hb];exact hw);omega
theorem Vv{α:Type}{sg:List Sg}{x y y':Gs}{f g:Ps→Option (α×Ps)}{d:Int}(h:restP sg x f y g d)(h1:gsOk sg y')(h2:y'.deep=y.deep)(h3:y.pos≤y'.pos)(h4:pur y'=pur y):restP sg x f y' g d:=by
 obtain⟨a1,a2,a3,a4⟩:=h
 exact⟨h1,by omega,by omega,by rw[h4];exact a4⟩
theorem Vw{sg:List Sg}{g:Gs}{w:Nd}(h:gsOk sg g)(hl:g.pos<sg.length)(hw:Df w):gsOk sg (As (Au g) w)∧(As (Au g) w).deep=(Di (As g w)).deep∧(Di (As g w)).pos≤(As (Au g) w).pos∧pur (As (Au g) w)=pur (Di (As g w))∧AX (Au g)=AX g:=by
 refine⟨OM (Gj h hl) hw,?_⟩
 cases hf:DB g with
 |true=>
  have hf2:DB (Au g)=true:=hf
  simp only[As,AX,hf,hf2,if_true]
  simp [Di,Bt,Au,pur];omega
 |false=>
  have hf2:DB (Au g)=false:=hf
  have:=(Ra hf).1
  simp only[As,AX,hf,hf2,Bool.false_eq_true,if_false]
  simp [Di,Bt,Au,pur,this]
theorem HM{sg:List Sg}{x g:Gs}{f:Ps→PR}{m:List UInt8}{w:Nd}(hg:gsOk sg g)(hw:Df w)(h:Ah sg x f (CL sg g m,CK sg g m w)):Ah sg x f (AX (Av sg g m),As (Av sg g m) w):=by
 cases hq:isG sg g 4 m with
 |true=>
  obtain⟨a,b,c,d,e⟩:=Vw hg (Dh hq (by omega)).2 hw
  simp only[CK,CL,Av,hq,if_true] at h ⊢
  exact Nh h a b c d (fun _=>e)
 |false=>
  simp only[CK,CL,Av,hq,Bool.false_eq_true,if_false] at h ⊢
  have hf:DB (Bt g)=true:=by simp [DB,Bt]
  simp only[As,AX,hf,if_true]
  exact Nh h hg rfl (Int.le_refl _) rfl (fun _=>rfl)
theorem Pb{sg:List Sg}{g:Gs}{k:Int}(hk:k≠1):kdG sg g k=decide ((pkG sg g 0).kind=k):=by simp [kdG,hk]
theorem Ni{sg:List Sg}{x g:Gs}{f:Ps→PR}{k c:Int}(hs:sgB sg)(hg:gsOk sg g)(hk:k≠0)(hq:kdG sg g k=true)(h:Ah sg x f (AX g,Ev sg g c false)):Ah sg x f (AX (Bg sg g k),As (Bg sg g k) ⟨c,BA sg g k,[],false⟩):=by
 have hl:=Rs hk hq
 have hw:Df ⟨c,(pkG sg g 0).text,[],false⟩:=⟨ON hs,by simp⟩
 obtain⟨a1,a2,a3,a4,a5⟩:=Vw hg hl.2 hw
 simp only[Bg,BA,hq,if_true]
 exact Nh h a1 a2 a3 a4 (fun _=>a5)
theorem b1y{sg:List Sg}{g:Gs}(hs:sgB sg)(hg:gsOk sg g):Ah sg g (BN sg) (AX (Bg sg g 1),As (Bg sg g 1) ⟨1,BA sg g 1,[],false⟩):=by
 have h:=Rc hs hg
 cases hq:nmG sg g 0 with
 |true=>
  refine Ni hs hg (by omega) (by rw[IB];exact hq) ?_
  simp only[DS,Eh,hq,if_true] at h;exact h
 |false=>
  have hq2:kdG sg g 1=false:=by rw[IB];exact hq
  simp only[DS,Eh,hq,Bool.false_eq_true,if_false] at h
  have hf:DB (Bt g)=true:=by simp [DB,Bt]
  simp only[Bg,BA,hq2,Bool.false_eq_true,if_false,As,AX,hf,if_true]
  exact Nh h hg rfl (Int.le_refl _) rfl (fun _=>rfl)
theorem HN{sg:List Sg}{g:Gs}:Bg sg g 1=CO sg g∧BA sg g 1=Dc sg g:=by
 simp only[Bg,CO,BA,Dc,IB];exact⟨trivial,trivial⟩
theorem Rx{sg:List Sg}{g:Gs}{m:List UInt8}(h:g.bad=true):Av sg g m=g:=by
 have:isG sg g 4 m=false:=a0w (DR h) (by omega)
 simp only[Av,this,Bool.false_eq_true,if_false,Bt]
 cases g;simp only at h;simp [h]
theorem Jj{sg:List Sg}{g:Gs}{m:List UInt8}(h:isG sg g 4 m=true):Av sg g m=Au g:=by simp [Av,h]
theorem Pc{sg:List Sg}{g:Gs}{m:List UInt8}(h:isG sg g 4 m=false):Av sg g m=Bt g:=by simp [Av,h]
theorem Vx{w:Nd}{s:Ps}(h:¬300≤s.nodes.length):Bc w s=some ((s.nodes.length:Int),⟨s.pos,s.deep,s.nodes++[w]⟩):=if_neg h
theorem Vy{w:Nd}{s:Ps}(h:300≤s.nodes.length):Bc w s=none:=if_pos h
def chS(sg:List Sg)(n l:Nat)(x y:Gs)(t:List UInt8)(ks:List Int)(N:Nat):Prop:=
 restP sg x (pE sg (n+1) (.chain l)) y (chF sg n l N t ks) 0∧(2*((sg.length:Int)-y.pos)+4≤N∨(t=[]∧2*((sg.length:Int)-y.pos)+3≤N))∧(ks.length:Int)≤y.pos+1∧(y.bad=false→x.pos<y.pos)∧(t=[]→ks.length=1)∧(t≠[]→2≤ks.length∧t∈BI l)
theorem b1z{sg:List Sg}{x:Gs}{n l:Nat}{z:Int×Gs}(h:gsOk sg x)(hl:l≠6)(h1:Ah sg x (pE sg n (.chain (l+1))) z):chS sg n l x z.2 [] [z.1] (2*sg.length+4):=by
 obtain⟨a,b,c⟩:=a9i h hl h1
 have:=a.1.1
 exact⟨a,.inr ⟨rfl,b⟩,by simp;omega,c,fun _=>rfl,fun h=>(h rfl).elim⟩
theorem Vz{sg:List Sg}{l:Nat}{m:List UInt8}{ks:List Int}(hs:sgB sg)(hml:m∈BI l)(hk:(ks.length:Int)≤sg.length+1):Df ⟨7,m,ks,false⟩:=by
 refine⟨?_,by have:=hs.1;simp only;omega⟩
 simp only
 unfold BI at hml
 split at hml<;>simp at hml<;>(first|(subst hml;simp)|(rcases hml with rfl|rfl<;>simp))
theorem b1A{sg:List Sg}{n l:Nat}{x y:Gs}{t:List UInt8}{ks:List Int}{N:Nat}{z:Int×Gs}(h:chS sg n l x y t ks N)(hm:Dk sg l y≠[])(ht:t=[]∨Dk sg l y=t)(hz:Ah sg (Au y) (pE sg n (.chain (l+1))) z):
 chS sg n l x z.2 (Dk sg l y) (ks++[z.1]) (N-1)∧N-1<N:=by
 obtain⟨h1,hN,hk,hb,hk1,hk2⟩:=h
 have hq:=(Kb hm).1
 have hp:=h1.1.1
 have hl:=Dh hq (by omega)
 match N with
 |0=>omega
 |M+1=>
  refine⟨?_,by omega⟩
  have k1:=GJ (g':=fun s=>(pE sg n (.chain (l+1)) s).bind fun p=>chF sg n l M (Dk sg l y) (ks++[p.1]) p.2) h1 (by omega) hq (fun s hs hts=>by
   rw[chF,EM,if_neg ?_,if_neg (by rw[Ka hs];exact hm),Ka hs];rfl
   rw[Ka hs];rintro⟨q1,q2⟩;rcases ht with ht|ht
   ·exact q1 ht
   ·exact q2 ht)
  have k2:=BS (k:=fun k s=>chF sg n l M (Dk sg l y) (ks++[k]) s) k1 hz.1 (fun _ _=>rfl)
  have e:=CS hz
  simp only[Au] at e
  have:=h1.2.2.1
  simp only[Nat.add_sub_cancel]
  refine⟨k2,.inl (by omega),by simp;omega,fun hb2=>by omega,fun he=>(hm he).elim,fun _=>⟨?_,(Kb hm).2⟩⟩
  simp only[List.length_append,List.length_cons,List.length_nil]
  rcases Classical.em (t=[]) with e0|e0
  ·have:=hk1 e0;omega
  ·have:=(hk2 e0).1;omega
theorem b1B{sg:List Sg}{n l:Nat}{x y:Gs}{t:List UInt8}{ks:List Int}{N:Nat}{z:Int×Gs}(hs:sgB sg)(h:chS sg n l x y t ks N)(hm:Dk sg l y≠[])(ht:t≠[])(hne:Dk sg l y≠t)(hz:Ah sg (As (Au y) ⟨7,t,ks,false⟩) (pE sg n (.chain (l+1))) z):
 chS sg n l x z.2 (Dk sg l y) ([AX (Au y)]++[z.1]) (N-2)∧N-2<N:=by
 obtain⟨h1,hN,hk,hb,hk1,hk2⟩:=h
 have hq:=(Kb hm).1
 have hp:=h1.1.1
 have hl:=Dh hq (by omega)
 have hN2:2*((sg.length:Int)-y.pos)+4≤N:=by
  rcases hN with h|h
  ·exact h
  ·exact(ht h.1).elim
 match N with
 |0=>omega
 |1=>omega
 |M+2=>
  refine⟨?_,by omega⟩
  have hw:Df ⟨7,t,ks,false⟩:=Vz hs (hk2 ht).2 (by omega)
  have k1:=GJ (g':=fun s=>(Bc ⟨7,t,ks,false⟩ s).bind fun p=>(pE sg n (.chain (l+1)) p.2).bind fun q=>chF sg n l M (Dk sg l y) ([p.1]++[q.1]) q.2) h1 (by omega) hq (fun s hs hts=>by
   rw[chF,EM,if_pos ⟨ht,by rw[Ka hs];exact hne⟩]
   by_cases h3:300≤s.nodes.length
   ·rw[Vy h3,Vy (s:=adv s) h3];rfl
   ·rw[Vx h3,Vx (s:=adv s) h3]
    simp only[Option.bind_some]
    have e:Ec sg l ⟨s.pos,s.deep,s.nodes++[⟨7,t,ks,false⟩]⟩=Dk sg l y:=by rw[←Ka hs];rfl
    rw[EM,if_neg (by simp),if_neg (by rw[e];exact hm),e];rfl)
  have k2:=BS (k:=fun k s=>(pE sg n (.chain (l+1)) s).bind fun q=>chF sg n l M (Dk sg l y) ([k]++[q.1]) q.2) k1 (Rb k1.1 hw) (fun _ _=>rfl)
  have k3:=BS (k:=fun k s=>chF sg n l M (Dk sg l y) ([AX (Au y)]++[k]) s) k2 hz.1 (fun _ _=>rfl)
  have e:=CS hz
  obtain⟨d1,d2,d3⟩:= @Jf (Au y) ⟨7,t,ks,false⟩
  rw[d2] at e;simp only[Au] at e
  have:=h1.2.2.1
  simp only[Nat.add_sub_cancel]
  refine⟨k3,.inl (by omega),by simp;omega,fun hb2=>by omega,fun he=>(hm he).elim,fun _=>⟨by simp,(Kb hm).2⟩⟩
theorem a1x{sg:List Sg}{n l:Nat}{x y:Gs}{t:List UInt8}{ks:List Int}{N:Nat}{k:Int}(h:chS sg n l x y t ks N)(hm:y.bad=true∨Dk sg l y=[])(hl:ks.length=1)(hk:ks[0]? =some k):Ah sg x (pE sg (n+1) (.chain l)) (k,y):=by
 obtain⟨h1,hN,hk0,hb,hk1,hk2⟩:=h
 rcases hm with hm|hm
 ·exact⟨OP h1 hm,fun hb2=>by simp only at hb2;rw[hm] at hb2;cases hb2⟩
 ·have ht:t=[]:=by
   rcases Classical.em (t=[]) with e0|e0
   ·exact e0
   ·have:=(hk2 e0).1;omega
  subst ht
  have hp:=h1.1.1
  match ks,hl with
  |[k0],_=>
   simp at hk;subst hk
   match N with
   |0=>omega
   |N+1=>exact⟨GI (DT h1 (g':=fun s=>some (k0,s)) (fun s hs=>by rw[chF,EM,if_neg (by simp),if_pos (by rw[Ka hs,hm])];rfl)),hb⟩
theorem a1y{sg:List Sg}{n l:Nat}{x y:Gs}{t:List UInt8}{ks:List Int}{N:Nat}(hs:sgB sg)(h:chS sg n l x y t ks N)(hm:y.bad=true∨Dk sg l y=[])(hl:ks.length≠1):Ah sg x (pE sg (n+1) (.chain l)) (AX y,As y ⟨7,t,ks,false⟩):=by
 obtain⟨h1,hN,hk0,hb,hk1,hk2⟩:=h
 have ht:t≠[]:=fun e=>hl (hk1 e)
 have hp:=h1.1.1
 have hw:Df ⟨7,t,ks,false⟩:=Vz hs (hk2 ht).2 (by omega)
 obtain⟨d1,d2,d3⟩:= @Jf y ⟨7,t,ks,false⟩
 have hN2:2*((sg.length:Int)-y.pos)+4≤N:=by
  rcases hN with h|h
  ·exact h
  ·exact(ht h.1).elim
 match N with
 |0=>omega
 |1=>omega
 |M+2=>
  have k1:restP sg x (pE sg (n+1) (.chain l)) y (Bc ⟨7,t,ks,false⟩) 0:=by
   rcases hm with hm|hm
   ·exact DT h1 (fun s hs=>by rw[DR hm] at hs;cases hs)
   ·refine DT h1 (fun s hs=> ?_)
    rw[chF,EM,if_pos ⟨ht,by rw[Ka hs,hm];exact Ne.symm ht⟩,Bc]
    split
    ·rfl
    ·simp only[Option.bind_some]
     have e:Ec sg l ⟨s.pos,s.deep,s.nodes++[⟨7,t,ks,false⟩]⟩=[]:=by rw[←hm,←Ka hs];rfl
     rw[EM,if_neg (by simp),if_pos e];rfl
  exact⟨Rf k1 hw,fun hb2=>by simp only[d2];exact hb (d3 hb2)⟩
def gM(y:Gs)(m:List UInt8):Gs:=if m=[] then y else Au y
theorem VA{y:Gs}:gM y []=y:=rfl
theorem Ry{y:Gs}{m:List UInt8}(h:m≠[]):gM y m=Au y:=if_neg h
def mkQ(sg:List Sg)(y:Gs)(l:Nat)(i:Int)(m:List UInt8):Prop:=(0≤i∧i≤(BI l).length)∧((m=[]∧Dk sg l y=(((BI l).drop i.toNat).find? fun m=>isG sg y 4 m).getD [])∨(m≠[]∧m=Dk sg l y))
theorem b1C{sg:List Sg}{y:Gs}{l:Nat}:mkQ sg y l 0 []:=⟨by omega,.inl ⟨rfl,rfl⟩⟩
theorem b1D{sg:List Sg}{y:Gs}{l:Nat}{i:Int}{m v:List UInt8}(h:mkQ sg y l i m)(hm:m=[])(ha:(BI l)[i.toNat]? =some v)(hg:isG sg (gM y m) 4 v=false):mkQ sg y l (i+1) m:=by
 subst hm
 have hlt:=(List.getElem?_eq_some_iff.1 ha).1
 refine⟨by have:=h.1;omega,?_⟩
 rcases h.2 with h2|h2
 ·left;refine⟨rfl,?_⟩
  rw[h2.2,List.drop_eq_getElem_cons hlt,(List.getElem?_eq_some_iff.1 ha).2,List.find?_cons_of_neg (by simp;exact hg),show(i+1).toNat=i.toNat+1 by have:=h.1;omega]
 ·exact(h2.1 rfl).elim
theorem VB{sg:List Sg}{y:Gs}{l:Nat}{i:Int}{m v:List UInt8}(h:mkQ sg y l i m)(hm:m=[])(ha:(BI l)[i.toNat]? =some v)(hg:isG sg (gM y m) 4 v=true):mkQ sg y l (i+1) v∧Ax sg (gM y m) v=gM y v:=by
 subst hm
 have hlt:=(List.getElem?_eq_some_iff.1 ha).1
 have hv:=a9j (List.mem_of_getElem? ha)
 refine⟨⟨by have:=h.1;omega,.inr ⟨hv,?_⟩⟩,?_⟩
 ·exact(a9l (List.mem_of_getElem? ha) hg).symm
 ·rw[VA] at hg ⊢;rw[Ry hv];exact Ez hg
theorem b1E{sg:List Sg}{y:Gs}{l:Nat}{i:Int}{m:List UInt8}(h:mkQ sg y l i m)(hi:i<((BI l).length:Int))(hm:m≠[]):mkQ sg y l (i+1) m:=by
 refine⟨by have:=h.1;omega,?_⟩
 rcases h.2 with h2|h2
 ·exact(hm h2.1).elim
 ·exact .inr h2
theorem Rz{sg:List Sg}{y:Gs}{l:Nat}{i:Int}{m:List UInt8}(h:mkQ sg y l i m)(hi:¬i<((BI l).length:Int)):m=Dk sg l y:=by
 rcases h.2 with h2|h2
 ·rw[h2.2,List.drop_eq_nil_of_le (by omega),h2.1];rfl
 ·exact h2.2
theorem a1z{sg:List Sg}{x:Gs}{f:Ps→PR}{a:Int}(h:gsOk sg x)(hb:x.bad=true):Ah sg x f (a,x):=⟨OP (Dj h) hb,fun hb2=>by simp only at hb2;rw[hb] at hb2;cases hb2⟩
theorem b1F{sg:List Sg}{n:Nat}{x y y':Gs}{k k':Int}{N:Nat}(h:enI sg n x y k N)(h1:gsOk sg y')(h2:y'.deep=y.deep)(h3:y.pos≤y'.pos)(h4:pur y'=pur y)(h5:y'.bad=false→k'=k):enI sg n x y' k' N:=by
 obtain⟨a,b,c⟩:=h
 cases hb:y'.bad with
 |false=>
  have hy:y.bad=false:=by
   cases hy:y.bad with
   |false=>rfl
   |true=>rw[DR hy,Dg hb] at h4;cases h4
  rw[h5 hb]
  exact⟨Vv a h1 h2 h3 h4,fun _=>by have:=b hy;omega,fun _=>by have:=c hy;omega⟩
 |true=>
  have hy:y.bad=true:=by
   cases hy:y.bad with
   |true=>rfl
   |false=>rw[DR hb,Dg hy] at h4;cases h4
  refine⟨DT (Vv a h1 h2 h3 h4) (fun s hs=>by rw[DR hb] at hs;cases hs),fun e=>(Bool.noConfusion (hb.symm.trans e)),fun e=>(Bool.noConfusion (hb.symm.trans e))⟩
theorem b1G{sg:List Sg}{n:Nat}{x y:Gs}{a k:Int}{N:Nat}(h:Ah sg x (pE sg (n+1) .fin) (a,y))(hb:y.bad=true):enI sg n x y k N:=
 ⟨DT (a8Q h.1) (fun s hs=>by rw[DR hb] at hs;cases hs),fun e=>(Bool.noConfusion (hb.symm.trans e)),fun e=>(Bool.noConfusion (hb.symm.trans e))⟩
theorem b1H{sg:List Sg}{n:Nat}{x y:Gs}{k:Int}{N:Nat}(hs:sgB sg)(h:enI sg n x y k N)(hp:isG sg y 4 [40]=false)(hq:isG sg y 4 [46]=true):
 enI sg n x (As (Bg sg (Au y) 1) ⟨6,BA sg (Au y) 1,[k],false⟩) (AX (Bg sg (Au y) 1)) (N-1)∧N-1<N:=by
 have hl:=Dh hq (by omega)
 obtain⟨M,rfl⟩:=OT h hl.1
 refine⟨?_,by omega⟩
 have ho:=Gj h.1.1 hl.2
 have hw:Df ⟨6,(pkG sg (Au y) 0).text,[k],false⟩:=⟨ON hs,by simp⟩
 cases hn:nmG sg (Au y) 0 with
 |true=>
  obtain⟨M',e,h2⟩:=a9p hs h hp hq hn
  have:M'=M:=by omega
  subst this
  obtain⟨a1,a2,a3,a4,a5⟩:=Vw ho (by have:=(QY hn).2;omega) hw
  have e1:Bg sg (Au y) 1=Au (Au y):=by rw[Bg,IB,if_pos hn]
  have e2:BA sg (Au y) 1=(pkG sg (Au y) 0).text:=by rw[BA,IB,if_pos hn]
  rw[e1,e2]
  exact b1F h2 a1 a2 a3 a4 (fun _=>a5)
 |false=>
  have h2:=a9q (a:=0) h hp hq hn
  have e1:Bg sg (Au y) 1=Bt (Au y):=by rw[Bg,IB,if_neg (by simp [hn])]
  have hf:DB (Bt (Au y))=true:=by simp [DB,Bt]
  rw[e1]
  have e3:As (Bt (Au y)) ⟨6,BA sg (Au y) 1,[k],false⟩=Bt (Bt (Au y)):=if_pos hf
  rw[e3]
  exact b1G (a:=0) (Nh h2 ho rfl (Int.le_refl _) rfl (fun _=>rfl)) rfl
def vlQ(sg:List Sg)(one:Ps→PR)(m:List UInt8)(ks0:List Int)(x:Gs)(y:List Int×Gs):Prop:=∃l:List Int×Gs,(BG sg x (Bs sg one m (sg.length+1) []) l∧l.1.length≤3001)∧y=(ks0++l.1,Av sg l.2 m)
theorem VC{s:ST}{one:Ps→PR}{m:List UInt8}{ks0:List Int}{x:Gs}{y:List Int×Gs}(hs:sgB s.sg)(h:vlQ s.sg one m ks0 x y):rOk s y.2∧y.1.length≤ks0.length+3001∧y.2.deep=x.deep∧x.pos≤y.2.pos:=by
 obtain⟨l,⟨h1,h2⟩,rfl⟩:=h
 have t:=Hk (m:=m) h1.1
 have:=h1.2.1;have:=h1.2.2.1
 exact⟨⟨hs,t.1⟩,by simp;omega,by simp only;omega,by simp only;omega⟩
theorem a1A{sg:List Sg}{x:Gs}{one:Ps→PR}{k:Int}{y:List Int×Gs}(hx:gsOk sg x)(h:vlQ sg one [41] [k] (Av sg x [40]) y):Ah sg x (Cy sg one k) (AX y.2,As y.2 ⟨5,[],y.1,false⟩):=by
 obtain⟨l,⟨h1,h2⟩,rfl⟩:=h
 exact HM h1.1 ⟨by simp,by simp;omega⟩ (a9D hx ⟨h1,h2⟩)
theorem b1I{sg:List Sg}{x y:Gs}{n N:Nat}{ks:List Int}{c w:Int×Gs}(h:JZ sg n x y ks N)(hq:isG sg y 4 [46,46]=true)(hc:Ah sg (Au y) (BN sg) c)
 (h2:Ah sg c.2 (Cy sg (pE sg n .value) c.1) w):∃M,N=M+1∧JZ sg n x w.2 (ks++[w.1]) M:=by
 obtain⟨h1,hN,hk,hb⟩:=h
 obtain⟨hl1,hl⟩:=Dh hq (by omega)
 match N with
 |0=>omega
 |M+1=>
  refine⟨M,rfl,?_⟩
  have k1:=GJ (g':=fun s=>((BN sg s).bind fun p=>(Cy sg (pE sg n .value) p.1 p.2).bind fun q=>Ee sg (pE sg n .value) M (ks++[q.1]) q.2).bind fun q=>Bc ⟨10,[],q.1,false⟩ q.2)
   h1 (by omega) hq (fun s hs ht=>by rw[Ee,if_pos (show isM sg s [46,46]=true from ht)])
  have k2:=BS (k:=fun k s=>((Cy sg (pE sg n .value) k s).bind fun q=>Ee sg (pE sg n .value) M (ks++[q.1]) q.2).bind fun q=>Bc ⟨10,[],q.1,false⟩ q.2) k1 hc.1 (fun s _=>by simp only[Option.bind_assoc])
  have k3:=BS (k:=fun k s=>(Ee sg (pE sg n .value) M (ks++[k]) s).bind fun q=>Bc ⟨10,[],q.1,false⟩ q.2) k2 h2.1 (fun s _=>by simp only[Option.bind_assoc])
  have e0:(Au y).pos≤c.2.pos:=hc.1.2.2.1
  have e1:=CS h2
  have ea:(Au y).pos=y.pos+1:=rfl
  refine⟨k3,by omega,by simp;omega,fun hb2=> ?_⟩
  have:=h1.2.2.1
  omega
theorem b1J{sg:List Sg}(hm:sgM sg){s:Ps}(h0:0≤s.pos)(h:Gg sg s=true):JY sg s=true:=by
 have hp:∀(n:Nat) (i:Int),0≤i→0≤Da sg n i:=by
  intro n
  induction n with
  |zero=>intro i hi;simpa [Da] using hi
  |succ n ih=>
   intro i hi;rw[Da];split
   ·split
    ·exact ih _ (by omega)
    ·omega
   ·exact hi
 exact a0E hm _ _ (by omega) (by rw[←Vm hm (hp _ _ (by omega))];exact h)
theorem b1K{sg:List Sg}(hm:sgM sg){s:Ps}(h0:0≤s.pos)(h1:JY sg s=true)(h2:Gg sg s=false)(N:Nat):Bs sg (BN sg) [41] N [] (adv s)=none:=by
 have hp:∀(n:Nat) (i:Int),0≤i→0≤Da sg n i:=by
  intro n
  induction n with
  |zero=>intro i hi;simpa [Da] using hi
  |succ n ih=>
   intro i hi;rw[Da];split
   ·split
    ·exact ih _ (by omega)
    ·omega
   ·exact hi
 exact a0F hm (sg.length+1) (s.pos+1) (by omega) h1 (by rw[←Vm hm (hp _ _ (by omega))];exact h2) N [] (adv s) rfl
theorem b1L{sg:List Sg}{x:Gs}{n:Nat}{z:Int×Gs}(hm:sgM sg)(hx:gsOk sg x)(h1:(pkG sg x 0).kind≠1)(h2:(pkG sg x 0).kind≠2)(h3:(pkG sg x 0).kind≠3)(hn:isG sg x 4 [91]=false)(hq:isG sg x 4 [40]=true)
 (ha:∀s,pur x=some s→JY sg s=true) (hz:Ah sg x (fnR sg n) z):Ah sg x (pE sg (n+1) .base) z:=by
 refine Kc hz (fun s hs=> ?_)
 have h0:0≤s.pos:=by obtain⟨_,rfl⟩:=EP.1 hs;exact hx.1.1
 cases har:Gg sg s with
 |true=>rw[OU hs h1 h2 h3,if_neg (by simp [EQ hs hn]),if_pos (by simp [Je hs hq,har]),fnR,BB,if_pos (Je hs hq)];rfl
 |false=>
  rw[OU hs h1 h2 h3,if_neg (by simp [EQ hs hn]),if_neg (by simp [har]),if_pos (Je hs hq),a8T (x:=⟨0,[],[],false⟩) hm h0 (ha s hs) har (fun k=>⟨11,[],[k],false⟩),fnR,BB,if_pos (Je hs hq)]
  simp only[Option.bind_some]
  rw[b1K hm h0 (ha s hs) har];rfl
theorem b1M{sg:List Sg}{x:Gs}{n:Nat}{z:Int×Gs}(hm:sgM sg)(h:gsOk sg x)(h1:(pkG sg x 0).kind≠1)(h2:(pkG sg x 0).kind≠2)(h3:(pkG sg x 0).kind≠3)(hn:isG sg x 4 [91]=false)(hq:isG sg x 4 [40]=true)
 (ha:∀s,pur x=some s→JY sg s=false) (hz:Ah sg (Au x) (pE sg n .value) z):
 Ah sg x (pE sg (n+1) .base) (AX (Av sg z.2 [41]),As (Av sg z.2 [41]) ⟨11,[],[z.1],false⟩):=by
 refine HM (FQ hz) ⟨by simp,by simp⟩ (a9u h h1 h2 h3 hn hq (fun s hs=> ?_) hz)
 have h0:0≤s.pos:=by obtain⟨_,rfl⟩:=EP.1 hs;exact h.1.1
 cases har:Gg sg s with
 |false=>rfl
 |true=>have:=b1J hm h0 har;rw[ha s hs] at this;cases this
end Go.My
end
section
namespace Go.My
open Go.Eng Go.Proofs
variable {G:GInv}
def vQ(r n:Nat)(s:ST)(g:Gs):Prop:=vP r n s g∧sgM s.sg
def wQ(r n:Nat)(s:ST)(g:Gs):Prop:=wP r n s g∧sgM s.sg
def Lt(n:Nat):Sig:= {X:=ST×Int×Int×Bool×List Nd,args:=fun x=>[srd x.1 (xg x)],pre:=fun x=>vQ 11 n x.1 (xg x),Y:=Int×Int×Int×Bool×List Nd,post:=fun x y=>Ah x.1.sg (xg x) (pE x.1.sg n .value) (yS y),res:=fun x y=> .int .i64 y.1,outs:=fun x y=>[srd x.1 (yG y.2)],keep:=true}
def GM(n:Nat):Sig:= {X:=ST×Int×Int×Bool×List Nd,args:=fun x=>[srd x.1 (xg x)],pre:=fun x=>vQ 10 n x.1 (xg x),Y:=Int×Int×Int×Bool×List Nd,post:=fun x y=>Ah x.1.sg (xg x) (pE x.1.sg n .pick) (yS y),res:=fun x y=> .int .i64 y.1,outs:=fun x y=>[srd x.1 (yG y.2)],keep:=true}
def HO(n:Nat):Sig:= {X:=ST×Int×Int×Bool×List Nd×Int,args:=fun x=>[srd x.1 (xh x),.int .i64 x.2.2.2.2.2],pre:=fun x=>wQ (9-x.2.2.2.2.2.toNat) n x.1 (xh x)∧0≤x.2.2.2.2.2∧x.2.2.2.2.2≤6,Y:=Int×Int×Int×Bool×List Nd,post:=fun x y=>Ah x.1.sg (xh x) (pE x.1.sg n (.chain x.2.2.2.2.2.toNat)) (yS y),res:=fun x y=> .int .i64 y.1,outs:=fun x y=>[srd x.1 (yG y.2),.top],keep:=true}
def RA(n:Nat):Sig:= {X:=ST×Int×Int×Bool×List Nd,args:=fun x=>[srd x.1 (xg x)],pre:=fun x=>wQ 2 n x.1 (xg x),Y:=Int×Int×Int×Bool×List Nd,post:=fun x y=>Ah x.1.sg (xg x) (pE x.1.sg n .fin) (yS y),res:=fun x y=> .int .i64 y.1,outs:=fun x y=>[srd x.1 (yG y.2)],keep:=true}
def RB(n:Nat):Sig:= {X:=ST×Int×Int×Bool×List Nd,args:=fun x=>[srd x.1 (xg x)],pre:=fun x=>wQ 1 n x.1 (xg x),Y:=Int×Int×Int×Bool×List Nd,post:=fun x y=>Ah x.1.sg (xg x) (pE x.1.sg n .base) (yS y),res:=fun x y=> .int .i64 y.1,outs:=fun x y=>[srd x.1 (yG y.2)],keep:=true}
structure qAll (G:GInv) (n:Nat):Prop where
 val:Am G Go.Proofs.Tryz.prog 78 (Lt n)
 pick:Am G Go.Proofs.Tryz.prog 88 (GM n)
 chain:Am G Go.Proofs.Tryz.prog 103 (HO n)
 fin:Am G Go.Proofs.Tryz.prog 117 (RA n)
 base:Am G Go.Proofs.Tryz.prog 128 (RB n)
def saI(sg:List Sg)(p:Int)(i:Int)(N:Nat):Prop:=(p+1≤i∧i≤sg.length+1∧(sg.length:Int)-i<N)∧Ey sg (sg.length+1) (p+1)=Ey sg N i
def arG(sg:List Sg)(x:Gs):Bool:=isG sg x 4 [40]&&JY sg ⟨x.pos,x.deep,x.nodes⟩
theorem b1N{sg:List Sg}{p i:Int}{N:Nat}(h:saI sg p i N):p+1≤i∧i≤sg.length+1:=⟨h.1.1,h.1.2.1⟩
theorem b1O{sg:List Sg}{p:Int}(h0:0≤p)(h:p≤sg.length):saI sg p (p+1) (sg.length+1):=⟨by omega,rfl⟩
theorem a1B{sg:List Sg}{p i:Int}{N:Nat}(h0:0≤p)(h:saI sg p i N)(h1:i+1<sg.length)(hk:(sgO sg i).kind=1)(ht:((sgO sg (i+1)).text==[44])=true):saI sg p (i+1+1) (N-1)∧N-1<N:=by
 obtain⟨⟨a1,a2,a3⟩,h4⟩:=h
 match N with
 |0=>omega
 |N+1=>
  refine⟨⟨⟨by omega,by omega,by simp;omega⟩,?_⟩,by omega⟩
  rw[h4,Ey,if_pos ⟨h1,hk⟩,if_pos (by simpa using ht)]
  simp only[Nat.add_sub_cancel];congr 1;omega
theorem b1P{sg:List Sg}{p i:Int}{N:Nat}(h:saI sg p i N)(h1:i+1<sg.length)(hk:(sgO sg i).kind=1)(ht:((sgO sg (i+1)).text==[44])=false):Ey sg (sg.length+1) (p+1)=i+1:=by
 obtain⟨⟨a1,a2,a3⟩,h4⟩:=h
 match N with
 |0=>omega
 |N+1=>rw[h4,Ey,if_pos ⟨h1,hk⟩,if_neg (by simpa using ht)]
theorem b1Q{sg:List Sg}{p i:Int}{N:Nat}(h:saI sg p i N)(h1:¬i+1<sg.length):Ey sg (sg.length+1) (p+1)=i:=by
 rw[h.2]
 match N with
 |0=>rfl
 |N+1=>rw[Ey,if_neg (fun hh=>h1 hh.1)]
theorem b1R{sg:List Sg}{p i:Int}{N:Nat}(h:saI sg p i N)(hk:(sgO sg i).kind≠1):Ey sg (sg.length+1) (p+1)=i:=by
 rw[h.2]
 match N with
 |0=>rfl
 |N+1=>rw[Ey,if_neg (fun hh=>hk hh.2)]
theorem b1S{sg:List Sg}{x:Gs}(h:isG sg x 4 [40]=false):false=arG sg x:=by simp [arG,h]
theorem VD{sg:List Sg}{x:Gs}{i:Int}{b:Bool}(h:isG sg x 4 [40]=true)(hi:Ey sg (sg.length+1) (x.pos+1)=i)(hb:b=Fv sg i):b=arG sg x:=by
 rw[arG,h,Bool.true_and,JY];simp only[hi];exact hb
theorem a1C{sg:List Sg}{i k:Int}{e:Sg}(he:sg[i.toNat]? =some e)(hk:e.kind=k):(sgO sg i).kind=k:=by rw[FO he];exact hk
theorem a1D{sg:List Sg}{i:Int}{e:Sg}{m:List UInt8}{b:Bool}(he:sg[i.toNat]? =some e)(hk:(e.text==m)=b):((sgO sg i).text==m)=b:=by rw[FO he];exact hk
def lqJ(sg:List Sg)(one:Ps→PR)(m:List UInt8)(x y:Gs)(ks:List Int)(N:Nat):Prop:=IA sg one m x y ks N∧(y.bad=false→x.bad=false)
theorem a1E{sg:List Sg}{one:Ps→PR}{m:List UInt8}{x:Gs}(h:gsOk sg x):lqJ sg one m x x [] (sg.length+1):=⟨a9b h,fun h=>h⟩
theorem Jk{s:ST}{one:Ps→PR}{m:List UInt8}{x y:Gs}{ks:List Int}{N:Nat}(hs:sgB s.sg)(h:lqJ s.sg one m x y ks N):rOk s y:=a9C hs h
theorem Pd{s:ST}{one:Ps→PR}{m:List UInt8}{x y:Gs}{ks:List Int}{N:Nat}(hs:sgB s.sg)(h:lqJ s.sg one m x y ks N):ks.length≤3000:=a9A hs h
theorem b1T{s:ST}{one:Ps→PR}{m:List UInt8}{x y:Gs}{ks:List Int}{N n:Nat}(hx:wQ 11 n s x)(h:lqJ s.sg one m x y ks N)(hb:y.bad=false)(hq:isG s.sg y 4 m=false):vQ 11 n s (Ax s.sg y m):=by
 rw[Dw hq];exact⟨a9B hx.1.1.1.1 h hb hx.1.1.2 hx.1.2,hx.2⟩
theorem RC{sg:List Sg}{one:Ps→PR}{m:List UInt8}{x y:Gs}{ks:List Int}{N:Nat}{z:Int×Gs}(h:lqJ sg one m x y ks N)(hq:isG sg y 4 m=false)(hz:Ah sg (Ax sg y m) one z)(hc:isG sg z.2 4 [44]=true):
 lqJ sg one m x (Ax sg z.2 [44]) (ks++[z.1]) (N-1)∧N-1<N:=by
 rw[Dw hq] at hz;exact a9z h hz hq hc
theorem a1F{s:ST}{one:Ps→PR}{m:List UInt8}{ks0:List Int}{x y:Gs}{ks:List Int}{N:Nat}{z:Int×Gs}(hs:sgB s.sg)(h:lqJ s.sg one m x y ks N)(hq:isG s.sg y 4 m=false)(hz:Ah s.sg (Ax s.sg y m) one z)(hc:isG s.sg z.2 4 [44]=false):
 vlQ s.sg one m ks0 x (ks0++ks++[z.1],Av s.sg (Ax s.sg z.2 [44]) m):=by
 rw[Dw hq] at hz
 have a:=a9y h hz hq hc
 refine⟨_,⟨a,?_⟩,?_⟩
 ·have:=Pd hs h;simp;omega
 ·simp only[List.append_assoc]
theorem a1G{s:ST}{one:Ps→PR}{m:List UInt8}{ks0:List Int}{x y:Gs}{ks:List Int}{N:Nat}(hs:sgB s.sg)(h:lqJ s.sg one m x y ks N)(hb:y.bad=true):vlQ s.sg one m ks0 x (ks0++ks,y):=by
 refine⟨_,⟨a9c h.1 hb,?_⟩,by simp only[Rx hb]⟩
 have:=Pd hs h;simp only;omega
theorem a1H{s:ST}{one:Ps→PR}{m:List UInt8}{ks0:List Int}{x y:Gs}{ks:List Int}{N:Nat}(hs:sgB s.sg)(h:lqJ s.sg one m x y ks N)(hq:isG s.sg y 4 m=true):vlQ s.sg one m ks0 x (ks0++ks,Ax s.sg y m):=by
 refine⟨_,⟨a9d h.1 hq,?_⟩,by simp only[Ez hq,Jj hq]⟩
 have:=Pd hs h;simp only;omega
theorem Fx{s:ST}{y:Gs}{m:List UInt8}(h:rOk s y):rOk s (Ax s.sg y m):=by
 cases hq:isG s.sg y 4 m with
 |true=>rw[Ez hq];exact⟨h.1,Gj h.2 (Dh hq (by omega)).2⟩
 |false=>rw[Dw hq];exact h
theorem Hn{s:ST}{y:Gs}{k:Int}(h:rOk s y)(hk:k≠0):rOk s (Bg s.sg y k):=by
 unfold Bg;split
 ·rename_i hq;exact⟨h.1,Gj h.2 (Rs hk hq).2⟩
 ·exact h
theorem Nj{s:ST}{y:Gs}{m:List UInt8}(h:rOk s y):Ah s.sg (Ax s.sg y m) (BN s.sg) (AX (Bg s.sg (Ax s.sg y m) 1),As (Bg s.sg (Ax s.sg y m) 1) ⟨1,BA s.sg (Ax s.sg y m) 1,[],false⟩):=b1y h.1 (Fx h).2
theorem VE{s:ST}{y:Gs}{m:List UInt8}(h:rOk s y):rOk s (As (Bg s.sg (Ax s.sg y m) 1) ⟨1,BA s.sg (Ax s.sg y m) 1,[],false⟩):=⟨h.1,FQ (Nj (m:=m) h)⟩
attribute [local irreducible] pE Bs Cy fnR Ah BG gsOk Av CK As Di Ev Ax DS Eh AX CL pkG isG nmG kdG Bg BA BN vlQ lqJ saI
def DW:Sig:= {X:=ST×Int×Int×Bool×List Nd,args:=fun x=>[srd x.1 (xg x)],pre:=fun x=>rOk x.1 (xg x),Y:=Unit,post:=fun x y=>True,res:=fun x y=> .bool (arG x.1.sg (xg x)),outs:=fun x y=>[srd x.1 (xg x)],keep:=true}
def RD(x:ST×Int×Int×Bool×List Nd):LS:= {ι:=Int×Nat,inv:=fun i=>saI x.1.sg (xg x).pos i.1 i.2,regs:=fun i=>[(0,srd x.1 (xg x)),(3,.int .i64 i.1)],als:=[],meas:=fun i=>i.2}
theorem b1U:Am G Tryz.prog 139 DW:=
 vcFun_okP [(77,0,DU)] [] false (fun x=>[(5,RD x)]) Tryz.func139 rfl (by decide) ⟨Pa,trivial⟩ (fun(x:ST×Int×Int×Bool×List Nd)=>True∧cA DU [srd x.1 (xg x),.int .i64 (4:Int),.str #[(40:UInt8)].toList] fun x_1 y=>Aa (!isG x_1.1.sg (xh x_1) x_1.2.2.2.2.2.1 x_1.2.2.2.2.2.2) (rA DW x [.bool false,srd x_1.1 (xh x_1)]) (inR IntKind.i64 ((xg x).pos+(1:Int))∧eA (RD x) [srd x_1.1 (xh x_1),.int .i64 ((xg x).pos+(1:Int))]∧∀(i:Int×Nat),saI x.1.sg (xg x).pos i.1 i.2→inR IntKind.i64 (i.1+(1:Int))∧Aa (decide (i.1+(1:Int)<(↑(List.length x.1.sg):Int))) (((0:Int)≤i.1∧i.1<(↑(List.length x.1.sg):Int))∧∀(e:Sg),x.1.sg[Int.toNat i.1]? =some e→Aa (e.kind==(1:Int)) (inR IntKind.i64 (i.1+(1:Int))∧((0:Int)≤i.1+(1:Int)∧i.1+(1:Int)<(↑(List.length x.1.sg):Int))∧∀(e:Sg),x.1.sg[Int.toNat (i.1+(1:Int))]? =some e→Aa (!e.text== #[(44:UInt8)].toList) (inR IntKind.i64 (i.1+(1:Int)+(1:Int))∧Aa (decide (i.1+(1:Int)+(1:Int)<(↑(List.length x.1.sg):Int))) (((0:Int)≤i.1+(1:Int)∧i.1+(1:Int)<(↑(List.length x.1.sg):Int))∧∀(e:Sg),x.1.sg[Int.toNat (i.1+(1:Int))]? =some e→Aa (e.text== #[(41:UInt8)].toList) (((0:Int)≤i.1+(1:Int)∧i.1+(1:Int)<(↑(List.length x.1.sg):Int))∧∀(e:Sg),x.1.sg[Int.toNat (i.1+(1:Int))]? =some e→Aa (e.kind==(4:Int)) (inR IntKind.i64 (i.1+(1:Int)+(1:Int))∧((0:Int)≤i.1+(1:Int)+(1:Int)∧i.1+(1:Int)+(1:Int)<(↑(List.length x.1.sg):Int))∧∀(e:Sg),x.1.sg[Int.toNat (i.1+(1:Int)+(1:Int))]? =some e→Aa (e.text== #[(61:UInt8),(62:UInt8)].toList) (inR IntKind.i64 (i.1+(1:Int)+(1:Int))∧((0:Int)≤i.1+(1:Int)+(1:Int)∧i.1+(1:Int)+(1:Int)<(↑(List.length x.1.sg):Int))∧∀(e:Sg),x.1.sg[Int.toNat (i.1+(1:Int)+(1:Int))]? =some e→rA DW x [.bool (e.kind==(4:Int)),srd x.1 (xg x)]) (rA DW x [.bool false,srd x.1 (xg x)])) (rA DW x [.bool false,srd x.1 (xg x)])) (rA DW x [.bool false,srd x.1 (xg x)])) (rA DW x [.bool false,srd x.1 (xg x)])) (inR IntKind.i64 (i.1+(1:Int)+(1:Int))∧eN (RD x) i [srd x.1 (xg x),.int .i64 (i.1+(1:Int)+(1:Int))])) (inR IntKind.i64 (i.1+(1:Int))∧Aa (decide (i.1+(1:Int)<(↑(List.length x.1.sg):Int))) (((0:Int)≤i.1∧i.1<(↑(List.length x.1.sg):Int))∧∀(e:Sg),x.1.sg[Int.toNat i.1]? =some e→Aa (e.text== #[(41:UInt8)].toList) (((0:Int)≤i.1∧i.1<(↑(List.length x.1.sg):Int))∧∀(e:Sg),x.1.sg[Int.toNat i.1]? =some e→Aa (e.kind==(4:Int)) (inR IntKind.i64 (i.1+(1:Int))∧((0:Int)≤i.1+(1:Int)∧i.1+(1:Int)<(↑(List.length x.1.sg):Int))∧∀(e:Sg),x.1.sg[Int.toNat (i.1+(1:Int))]? =some e→Aa (e.text== #[(61:UInt8),(62:UInt8)].toList) (inR IntKind.i64 (i.1+(1:Int))∧((0:Int)≤i.1+(1:Int)∧i.1+(1:Int)<(↑(List.length x.1.sg):Int))∧∀(e:Sg),x.1.sg[Int.toNat (i.1+(1:Int))]? =some e→rA DW x [.bool (e.kind==(4:Int)),srd x.1 (xg x)]) (rA DW x [.bool false,srd x.1 (xg x)])) (rA DW x [.bool false,srd x.1 (xg x)])) (rA DW x [.bool false,srd x.1 (xg x)])) (rA DW x [.bool false,srd x.1 (xg x)]))) (inR IntKind.i64 (i.1+(1:Int))∧Aa (decide (i.1+(1:Int)<(↑(List.length x.1.sg):Int))) (((0:Int)≤i.1∧i.1<(↑(List.length x.1.sg):Int))∧∀(e:Sg),x.1.sg[Int.toNat i.1]? =some e→Aa (e.text== #[(41:UInt8)].toList) (((0:Int)≤i.1∧i.1<(↑(List.length x.1.sg):Int))∧∀(e:Sg),x.1.sg[Int.toNat i.1]? =some e→Aa (e.kind==(4:Int)) (inR IntKind.i64 (i.1+(1:Int))∧((0:Int)≤i.1+(1:Int)∧i.1+(1:Int)<(↑(List.length x.1.sg):Int))∧∀(e:Sg),x.1.sg[Int.toNat (i.1+(1:Int))]? =some e→Aa (e.text== #[(61:UInt8),(62:UInt8)].toList) (inR IntKind.i64 (i.1+(1:Int))∧((0:Int)≤i.1+(1:Int)∧i.1+(1:Int)<(↑(List.length x.1.sg):Int))∧∀(e:Sg),x.1.sg[Int.toNat (i.1+(1:Int))]? =some e→rA DW x [.bool (e.kind==(4:Int)),srd x.1 (xg x)]) (rA DW x [.bool false,srd x.1 (xg x)])) (rA DW x [.bool false,srd x.1 (xg x)])) (rA DW x [.bool false,srd x.1 (xg x)])) (rA DW x [.bool false,srd x.1 (xg x)])))) (fun x=>by kernel_rfl) fun(x:ST×Int×Int×Bool×List Nd) (hx:rOk x.1 (xg x))=>(by
 dsimp only[cA,eA,eN,RD,Bx,Bd,rA,DW,DU,Bv,sgs,srd,Aw,AR,mvL,lnL,mvE,lnE,Br]
 obtain⟨s,p,d,b,ns⟩:=x;dsimp only[xg,xh] at hx ⊢
 have hx:rOk s ⟨p,d,b,ns⟩:=hx;have hs:=GH hx;dsimp only at hs
 (repeat' first|(with_reducible first|rfl|exact True.intro|apply AM|apply And.intro|((first|apply AC|apply AK|apply AD|apply AL)<;>intro _))|(apply AB<;>intro _)|apply AJ|refine Ag () ?_ ?_|((first|apply AQ|apply AP|apply AO|apply AN|apply AI|apply AH|apply AG|apply AF|apply AE)<;>try dsimp only)|apply Ag|(refine Prod.forall.2 ?_;intro _;try dsimp only)|(intro _;try dsimp only))
 all_goals(try dsimp only[xg,xh,yG,yS,iG] at*)
 all_goals first
  |(show Nat;skip)
  |rfl
  |exact hx
  |exact b1O hs.1.1.1 hs.1.1.2
  |exact b1S (x:=⟨p,d,b,ns⟩) ‹_›
  |exact(a1B hs.1.1.1 ‹_› ‹_› (a1C ‹_› ‹_›) (a1D ‹_› ‹_›)).1
  |(have hq:=b1N (show saI _ _ _ _ by assumption);(try simp only[AS]);omega)
  |omega
  |skip
 all_goals first
  |exact(a1B hs.1.1.1 ‹_› ‹_› (a1C ‹_› ‹_›) (a1D ‹_› ‹_›)).2
  |skip
 all_goals(repeat(rename s.sg[_]? =some _=>hq;have hq2:=FO hq;clear hq;subst hq2))
 all_goals first
  |(refine VD (x:=⟨p,d,b,ns⟩) ‹_› (b1P ‹_› ‹_› ‹_› ‹_›) ?_;rw[Bool.eq_iff_iff];simp [Fv,ER, *];done)
  |(refine VD (x:=⟨p,d,b,ns⟩) ‹_› (b1Q ‹_› ‹_›) ?_;rw[Bool.eq_iff_iff];simp [Fv,ER, *];done)
  |(refine VD (x:=⟨p,d,b,ns⟩) ‹_› (b1R ‹_› ‹_›) ?_;rw[Bool.eq_iff_iff];simp [Fv,ER, *];done)
  |skip)
def Gm(n:Nat):Sig:= {X:=ST×Int×Int×Bool×List Nd×List UInt8×List Int,args:=fun x=>[srd x.1 (xh x),.str x.2.2.2.2.2.1,Ab x.2.2.2.2.2.2],pre:=fun x=>wQ 11 n x.1 (xh x)∧x.2.2.2.2.2.2.length≤1,Y:=List Int×Int×Int×Bool×List Nd,post:=fun x y=>vlQ x.1.sg (pE x.1.sg n .value) x.2.2.2.2.2.1 x.2.2.2.2.2.2 (xh x) (yS y),res:=fun x y=>Ab y.1,outs:=fun x y=>[srd x.1 (yG y.2),.top,.top],keep:=true}
def RE(n:Nat)(x:ST×Int×Int×Bool×List Nd×List UInt8×List Int):LS:= {ι:=Int×Int×Bool×List Nd×List Int×Nat,inv:=fun i=>lqJ x.1.sg (pE x.1.sg n .value) x.2.2.2.2.2.1 (xh x) (iG i) i.2.2.2.2.1 i.2.2.2.2.2,regs:=fun i=>[(0,srd x.1 (iG i)),(1,.str x.2.2.2.2.2.1),(2,Ab (x.2.2.2.2.2.2++i.2.2.2.2.1))],als:=[],meas:=fun i=>i.2.2.2.2.2}
theorem VF(n:Nat)(h:qAll G n):Am G Tryz.prog 89 (Gm n):=
 vcFun_okP [(45,0,Cd),(78,0,(Lt n)),(44,0,BP)] [(47,⟨Int,Bw⟩)] false (fun x=>[(1,RE n x)]) Tryz.func89 rfl (by decide) ⟨Hl,h.val,HL,trivial⟩ (fun(x:ST×Int×Int×Bool×List Nd×List UInt8×List Int)=>True∧eA (RE n x) [srd x.1 (xh x),.str x.2.2.2.2.2.1,Ab x.2.2.2.2.2.2]∧∀(i:Int×Int×Bool×List Nd×List Int×Nat),lqJ x.1.sg (pE x.1.sg n NT.value) x.2.2.2.2.2.1 (xh x) (iG i) i.2.2.2.2.1 i.2.2.2.2.2→Aa (!(iG i).bad) (cA Cd [srd x.1 (iG i),.str x.2.2.2.2.2.1] fun x_1 y=>Aa (!isG x_1.1.sg (xh x_1) (4:Int) x_1.2.2.2.2.2) (cA (Lt n) [srd x_1.1 (Ax x_1.1.sg (xh x_1) x_1.2.2.2.2.2)] fun x_2 y=>∃(x_3:Int),y.1=x_3∧∃(zs:List Int),Ab [x_3]=Ab zs∧Bu Bw∧Ba (List.length (x.2.2.2.2.2.2++i.2.2.2.2.1)+List.length zs) (8:Nat)∧cA Cd [srd x_2.1 (yG y.2),.str #[(44:UInt8)].toList] fun x_4 y=>Aa (!isG x_4.1.sg (xh x_4) (4:Int) x_4.2.2.2.2.2) (cA BP [srd x_4.1 (Ax x_4.1.sg (xh x_4) x_4.2.2.2.2.2),.str x.2.2.2.2.2.1] fun x_5 y=>rA (Gm n) x [Ab (x.2.2.2.2.2.2++i.2.2.2.2.1++zs),srd x_5.1 (Av x_5.1.sg (xh x_5) x_5.2.2.2.2.2),.top,.top]) (eN (RE n x) i [srd x_4.1 (Ax x_4.1.sg (xh x_4) x_4.2.2.2.2.2),.str x.2.2.2.2.2.1,Ab (x.2.2.2.2.2.2++i.2.2.2.2.1++zs)])) (rA (Gm n) x [Ab (x.2.2.2.2.2.2++i.2.2.2.2.1),srd x_1.1 (Ax x_1.1.sg (xh x_1) x_1.2.2.2.2.2),.top,.top])) (rA (Gm n) x [Ab (x.2.2.2.2.2.2++i.2.2.2.2.1),srd x.1 (iG i),.top,.top])) (fun x=>by kernel_rfl) fun(x:ST×Int×Int×Bool×List Nd×List UInt8×List Int) (hx:wQ 11 n x.1 (xh x)∧x.2.2.2.2.2.2.length≤1)=>(by
 dsimp only[cA,eA,eN,RE,Bx,Ab,Bd,rA,Cd,Lt,Gm,BP,Bv,sgs,srd,Aw,AR,mvL,lnL,mvE,lnE,Br]
 obtain⟨s,p,d,b,ns,m,ks0⟩:=x;dsimp only[xg,xh] at hx ⊢
 obtain⟨hx,hk0⟩:=hx
 have hx:wQ 11 n s ⟨p,d,b,ns⟩:=hx
 have hs:=hx.1.1.1.1;have h1:=hx.1.1.1
 (repeat' first|(with_reducible first|rfl|exact True.intro|apply AM|apply And.intro|((first|apply AC|apply AK|apply AD|apply AL)<;>intro _))|(apply AB<;>intro _)|apply AJ|refine Ag () ?_ ?_|((first|apply AQ|apply AP|apply AO|apply AN|apply AI|apply AH|apply AG|apply AF|apply AE)<;>try dsimp only)|apply Ag|(refine Prod.forall.2 ?_;intro _;try dsimp only)|(intro _;try dsimp only))
 all_goals(try dsimp only[xg,xh,yG,yS,iG] at*)
 all_goals(try simp only[Gk] at*)
 all_goals first
  |(show Nat;skip)
  |rfl
  |exact h1
  |exact a1E h1.2
  |exact Jk hs ‹_›
  |exact b1T hx ‹_› ‹_› ‹_›
  |exact Fi h1 ‹_›
  |exact Fx (Fi h1 ‹_›)
  |exact(RC ‹_› ‹_› ‹_› ‹_›).1
  |exact a1F hs ‹_› ‹_› ‹_› ‹_›
  |exact a1G hs ‹_› ‹_›
  |exact a1H hs ‹_› ‹_›
  |(simp;done)
  |(have hq:=Pd hs (show lqJ _ _ _ _ _ _ _ by assumption);(try simp only[Ba,List.length_append,List.length_cons,List.length_nil]);omega)
  |skip
 all_goals first
  |exact(RC ‹_› ‹_› ‹_› ‹_›).2
  |(simp;done)
  |skip)
def Gn:Sig:= {X:=ST×Int×Int×Bool×List Nd,args:=fun x=>[srd x.1 (xg x)],pre:=fun x=>rOk x.1 (xg x),Y:=List Int×Int×Int×Bool×List Nd,post:=fun x y=>vlQ x.1.sg (BN x.1.sg) [41] [] (Av x.1.sg (xg x) [40]) (yS y),res:=fun x y=>Ab y.1,outs:=fun x y=>[srd x.1 (yG y.2)],keep:=true}
def RF(x:ST×Int×Int×Bool×List Nd):LS:= {ι:=Int×Int×Bool×List Nd×List Int×Nat,inv:=fun i=>lqJ x.1.sg (BN x.1.sg) [41] (Av x.1.sg (xg x) [40]) (iG i) i.2.2.2.2.1 i.2.2.2.2.2,regs:=fun i=>[(0,srd x.1 (iG i)),(3,Ab i.2.2.2.2.1)],als:=[],meas:=fun i=>i.2.2.2.2.2}
theorem VG:Am G Tryz.prog 46 Gn:=
 vcFun_okP [(45,0,Cd),(44,0,BP),(25,0,Bn),(41,0,CC)] [(47,⟨Int,Bw⟩)] false (fun x=>[(3,RF x)]) Tryz.func46 rfl (by decide) ⟨Hl,HL,Hm,Kg,trivial⟩ (fun(x:ST×Int×Int×Bool×List Nd)=>True∧cA BP [srd x.1 (xg x),.str #[(40:UInt8)].toList] fun x_1 y=>eA (RF x) [srd x_1.1 (Av x_1.1.sg (xh x_1) x_1.2.2.2.2.2),Ab []]∧∀(i:Int×Int×Bool×List Nd×List Int×Nat),lqJ x.1.sg (BN x.1.sg) [(41:UInt8)] (Av x.1.sg (xg x) [(40:UInt8)]) (iG i) i.2.2.2.2.1 i.2.2.2.2.2→Aa (!(iG i).bad) (cA Cd [srd x.1 (iG i),.str #[(41:UInt8)].toList] fun x_2 y=>Aa (!isG x_2.1.sg (xh x_2) (4:Int) x_2.2.2.2.2.2) (cA CC [srd x_2.1 (Ax x_2.1.sg (xh x_2) x_2.2.2.2.2.2),.int .i64 (1:Int)] fun x_3 y=>cA Bn [srd x_3.1 (Bg x_3.1.sg (xh x_3) x_3.2.2.2.2.2),.int .i64 (1:Int),.str (BA x_3.1.sg (xh x_3) x_3.2.2.2.2.2),Ab []] fun x_4 y=>∃(x_5:Int),AX (xh x_4)=x_5∧∃(zs:List Int),Ab [x_5]=Ab zs∧Bu Bw∧Ba (List.length i.2.2.2.2.1+List.length zs) (8:Nat)∧cA Cd [srd x_4.1 (As (xh x_4) {kind:=x_4.2.2.2.2.2.1,text:=x_4.2.2.2.2.2.2.1,kids:=x_4.2.2.2.2.2.2.2,blank:=false}),.str #[(44:UInt8)].toList] fun x_6 y=>Aa (!isG x_6.1.sg (xh x_6) (4:Int) x_6.2.2.2.2.2) (cA BP [srd x_6.1 (Ax x_6.1.sg (xh x_6) x_6.2.2.2.2.2),.str #[(41:UInt8)].toList] fun x_7 y=>rA Gn x [Ab (i.2.2.2.2.1++zs),srd x_7.1 (Av x_7.1.sg (xh x_7) x_7.2.2.2.2.2)]) (eN (RF x) i [srd x_6.1 (Ax x_6.1.sg (xh x_6) x_6.2.2.2.2.2),Ab (i.2.2.2.2.1++zs)])) (rA Gn x [Ab i.2.2.2.2.1,srd x_2.1 (Ax x_2.1.sg (xh x_2) x_2.2.2.2.2.2)])) (rA Gn x [Ab i.2.2.2.2.1,srd x.1 (iG i)])) (fun x=>by kernel_rfl) fun(x:ST×Int×Int×Bool×List Nd) (hx:rOk x.1 (xg x))=>(by
 dsimp only[cA,eA,eN,RF,Bx,Ab,Bd,rA,Cd,Gn,Bn,CC,BP,Bv,sgs,srd,Aw,AR,mvL,lnL,mvE,lnE,Br]
 obtain⟨s,p,d,b,ns⟩:=x;dsimp only[xg,xh] at hx ⊢
 have h1:rOk s ⟨p,d,b,ns⟩:=hx;have hs:=h1.1
 have t:=GL (m:=[40]) h1
 (repeat' first|(with_reducible first|rfl|exact True.intro|apply AM|apply And.intro|((first|apply AC|apply AK|apply AD|apply AL)<;>intro _))|(apply AB<;>intro _)|apply AJ|refine Ag () ?_ ?_|((first|apply AQ|apply AP|apply AO|apply AN|apply AI|apply AH|apply AG|apply AF|apply AE)<;>try dsimp only)|apply Ag|(refine Prod.forall.2 ?_;intro _;try dsimp only)|(intro _;try dsimp only))
 all_goals(try dsimp only[xg,xh,yG,yS,iG] at*)
 all_goals(try simp only[Gk] at*)
 all_goals first
  |(show Nat;skip)
  |rfl
  |exact h1
  |omega
  |exact a1E t.1.2
  |exact Jk hs ‹_›
  |exact Fx (Jk hs ‹_›)
  |exact Hn (Fx (Jk hs ‹_›)) (by omega)
  |exact VE (Jk hs ‹_›)
  |exact Fx (VE (Jk hs ‹_›))
  |exact(RC ‹_› ‹_› (Nj (Jk hs ‹_›)) ‹_›).1
  |exact a1F (ks0:=[]) hs ‹_› ‹_› (Nj (Jk hs ‹_›)) ‹_›
  |exact a1G (ks0:=[]) hs ‹_› ‹_›
  |exact a1H (ks0:=[]) hs ‹_› ‹_›
  |(have hq:=Pd hs (show lqJ _ _ _ _ _ _ _ by assumption);(try simp only[Ba,List.length_append,List.length_cons,List.length_nil]);omega)
  |skip
 all_goals first
  |exact(RC ‹_› ‹_› (Nj (Jk hs ‹_›)) ‹_›).2
  |skip)
end Go.My
end
section
namespace Go.My
open Go.Eng Go.Proofs
variable {G:GInv}
theorem Jl{sg:List Sg}{x:Gs}{k:Int}(h:kdG sg x k=false)(hk:k≠1):(pkG sg x 0).kind≠k:=by
 rw[Pb hk] at h;simpa using h
theorem b1V{sg:List Sg}{x:Gs}{n:Nat}{k:Int}{y:Gs}(hs:sgB sg)(h:gsOk sg x)(h1:kdG sg x 1=false)(hk:(pkG sg x 0).kind=1)(hy:y=Bt x):Ah sg x (pE sg (n+1) .base) (k,y):=by
 have a:=a0L (n:=n) hs h hk
 rw[IB] at h1
 rw[Eh,DS,if_neg (by simp [h1]),if_neg (by simp [h1])] at a
 subst hy
 exact Nh a h rfl (Int.le_refl _) rfl (fun hb=>by simp [Bt] at hb)
theorem b1W{sg:List Sg}{x:Gs}{n:Nat}(hs:sgB sg)(h:gsOk sg x)(h1:kdG sg x 1=true):Ah sg x (pE sg (n+1) .base) (AX (Bg sg x 1),As (Bg sg x 1) ⟨1,BA sg x 1,[],false⟩):=by
 have hn:=h1
 rw[IB] at hn
 have a:=a0L (n:=n) hs h (by simp [nmG] at hn;exact hn.1)
 rw[Eh,DS,if_pos hn,if_pos hn] at a
 exact Ni hs h (by omega) h1 a
theorem a1I{sg:List Sg}{x:Gs}{n:Nat}{k:Int}(hs:sgB sg)(h:gsOk sg x)(hk:k=2∨k=3)(h1:kdG sg x k=true):Ah sg x (pE sg (n+1) .base) (AX (Bg sg x k),As (Bg sg x k) ⟨k,BA sg x k,[],false⟩):=by
 have hn:=h1
 rw[Pb (by omega)] at hn
 exact Ni hs h (by omega) h1 (a9s hs h (by simpa using hn) hk)
theorem VH{sg:List Sg}{x:Gs}{m:List UInt8}(hq:isG sg x 4 m=true):(pkG sg x 0).kind≠1:=by
 simp [isG] at hq;rw[hq.1];omega
theorem b1X{s:ST}{x:Gs}{n:Nat}{v:List Int×Gs}(h:rOk s x)(h1:kdG s.sg x 1=false)(h2:kdG s.sg x 2=false)(h3:kdG s.sg x 3=false)(hq:isG s.sg x 4 [91]=true)(hv:vlQ s.sg (pE s.sg n .value) [93] [] (Ax s.sg x [91]) v):
 Ah s.sg x (pE s.sg (n+1) .base) (AX v.2,As v.2 ⟨4,[],v.1,false⟩):=by
 rw[Ez hq] at hv
 obtain⟨l,⟨a,b⟩,rfl⟩:=hv
 exact HM a.1 ⟨by simp,by simp;omega⟩ (a9t h.2 (VH hq) (Jl h2 (by omega)) (Jl h3 (by omega)) hq a b)
theorem b1Y{s:ST}{x:Gs}{n:Nat}{v:List Int×Gs}{z:Int×Gs}(hm:sgM s.sg)(h:rOk s x)(h1:kdG s.sg x 1=false)(h2:kdG s.sg x 2=false)(h3:kdG s.sg x 3=false)(hn:isG s.sg x 4 [91]=false)(ha:arG s.sg (Ax s.sg x [91])=true)
 (hv:vlQ s.sg (BN s.sg) [41] [] (Av s.sg (Ax s.sg x [91]) [40]) v) (hz:Ah s.sg (Av s.sg v.2 [61,62]) (pE s.sg n .pick) z):Ah s.sg x (pE s.sg (n+1) .base) (AX z.2,As z.2 ⟨9,[],v.1++[z.1],false⟩):=by
 rw[Dw hn] at ha hv
 simp only[arG,Bool.and_eq_true] at ha
 obtain⟨l,⟨a,b⟩,rfl⟩:=hv
 refine b1L hm h.2 (VH ha.1) (Jl h2 (by omega)) (Jl h3 (by omega)) hn ha.1 (fun s0 hs=> ?_) (a9w (l:=l) h.2 a b hz)
 obtain⟨_,rfl⟩:=EP.1 hs;exact ha.2
theorem b1Z{s:ST}{x:Gs}{n:Nat}{z:Int×Gs}(hm:sgM s.sg)(h:rOk s x)(h1:kdG s.sg x 1=false)(h2:kdG s.sg x 2=false)(h3:kdG s.sg x 3=false)(hn:isG s.sg x 4 [91]=false)(ha:arG s.sg (Ax s.sg x [91])=false)(hb:(Av s.sg (Ax s.sg x [91]) [40]).bad=false)
 (hz:Ah s.sg (Av s.sg (Ax s.sg x [91]) [40]) (pE s.sg n .value) z):Ah s.sg x (pE s.sg (n+1) .base) (AX (Av s.sg z.2 [41]),As (Av s.sg z.2 [41]) ⟨11,[],[z.1],false⟩):=by
 rw[Dw hn] at ha hb hz
 have hq:isG s.sg x 4 [40]=true:=by
  cases hq:isG s.sg x 4 [40] with
  |true=>rfl
  |false=>rw[Pc hq] at hb;cases hb
 rw[Jj hq] at hz
 simp only[arG,hq,Bool.true_and] at ha
 refine b1M hm h.2 (VH hq) (Jl h2 (by omega)) (Jl h3 (by omega)) hn hq (fun s0 hs=> ?_) hz
 obtain⟨_,rfl⟩:=EP.1 hs;exact ha
theorem b2a{s:ST}{x:Gs}{n:Nat}{k:Int}(h:rOk s x)(h1:kdG s.sg x 1=false)(h2:kdG s.sg x 2=false)(h3:kdG s.sg x 3=false)(hn:isG s.sg x 4 [91]=false)(hx:x.bad=false)(hb:(Av s.sg (Ax s.sg x [91]) [40]).bad=true):
 Ah s.sg x (pE s.sg (n+1) .base) (k,Av s.sg (Ax s.sg x [91]) [40]):=by
 rw[Dw hn] at hb ⊢
 have hq:isG s.sg x 4 [40]=false:=by
  cases hq:isG s.sg x 4 [40] with
  |false=>rfl
  |true=>rw[Jj hq] at hb;simp only[Au] at hb;rw[hx] at hb;cases hb
 rw[Pc hq]
 rcases Classical.em ((pkG s.sg x 0).kind=1) with e|e
 ·exact b1V h.1 h.2 h1 e rfl
 ·exact a9v h.2 e (Jl h2 (by omega)) (Jl h3 (by omega)) hn hq
theorem b2b{s:ST}{x:Gs}{n:Nat}(hx:wQ 1 (n+1) s x)(hq:isG s.sg x 4 [91]=true):wQ 11 n s (Ax s.sg x [91]):=by
 rw[Ez hq];exact⟨(a0M hq (by omega) hx.1.1.1 hx.1.1.2 hx.1.2 (by omega)).1,hx.2⟩
theorem b2c{s:ST}{x:Gs}{n:Nat}{v:List Int×Gs}(hx:wQ 1 (n+1) s x)(hn:isG s.sg x 4 [91]=false)(ha:arG s.sg (Ax s.sg x [91])=true)(hv:vlQ s.sg (BN s.sg) [41] [] (Av s.sg (Ax s.sg x [91]) [40]) v):vQ 10 n s (Av s.sg v.2 [61,62]):=by
 rw[Dw hn] at ha hv
 simp only[arG,Bool.and_eq_true] at ha
 obtain⟨l,a,rfl⟩:=hv
 exact⟨a9E (x:=x) (n:=n) (l:=l) hx.1.1.1 (hx.1.1.2 (Dh ha.1 (by omega)).1) ha.1 (by have:=hx.1.2;omega) a,hx.2⟩
theorem b2d{s:ST}{x:Gs}{n:Nat}(hx:wQ 1 (n+1) s x)(hn:isG s.sg x 4 [91]=false)(hb:(Av s.sg (Ax s.sg x [91]) [40]).bad=false):vQ 11 n s (Av s.sg (Ax s.sg x [91]) [40]):=by
 rw[Dw hn] at hb ⊢
 have hq:isG s.sg x 4 [40]=true:=by
  cases hq:isG s.sg x 4 [40] with
  |true=>rfl
  |false=>rw[Pc hq] at hb;cases hb
 rw[Jj hq];exact⟨(a0M hq (by omega) hx.1.1.1 hx.1.1.2 hx.1.2 (by omega)).2,hx.2⟩
theorem VI{s:ST}{one:Ps→PR}{m:List UInt8}{ks0:List Int}{x:Gs}{y:List Int×Gs}(hs:sgB s.sg)(h:vlQ s.sg one m ks0 x y):rOk s y.2:=(VC hs h).1
theorem VJ{s:ST}{one:Ps→PR}{m:List UInt8}{ks0:List Int}{x:Gs}{y:List Int×Gs}(hs:sgB s.sg)(h:vlQ s.sg one m ks0 x y):y.1.length≤ks0.length+3001:=(VC hs h).2.1
def eqJ(sg:List Sg)(n:Nat)(x y:Gs)(k:Int)(N:Nat):Prop:=enI sg n x y k N∧(y.bad=false→y.deep≤20)
theorem b2e{s:ST}{x:Gs}{n:Nat}{z:Int×Gs}(hx:wQ 2 (n+1) s x)(hz:Ah s.sg x (pE s.sg n .base) z):eqJ s.sg n x z.2 z.1 (s.sg.length+1):=a9G hx.1.1.1 hx.1.1.2 hz
theorem a1J{s:ST}{x y:Gs}{n:Nat}{k:Int}{N:Nat}(hx:wQ 2 (n+1) s x)(h:eqJ s.sg n x y k N):rOk s y:=⟨hx.1.1.1.1,h.1.1.1⟩
theorem b2f{s:ST}{x y:Gs}{n:Nat}{k:Int}{N:Nat}(hx:wQ 2 (n+1) s x)(h:eqJ s.sg n x y k N)(hq:isG s.sg y 4 [40]=true):wQ 11 n s (Ax s.sg y [40]):=by
 have hb:=(Dh hq (by omega)).1
 have:=h.1.2.2 hb;have:=hx.1.2
 have hl:=Dh hq (by omega)
 rw[Ez hq]
 have e1:(Au y).pos=y.pos+1:=rfl
 have e2:(Au y).deep=y.deep:=rfl
 exact⟨⟨⟨⟨hx.1.1.1.1,Gj h.1.1.1 hl.2⟩,fun _=>by rw[e2];exact h.2 hb⟩,by omega⟩,hx.2⟩
theorem a1K{s:ST}{x y:Gs}{n:Nat}{k:Int}{N:Nat}{v:List Int×Gs}(hx:wQ 2 (n+1) s x)(h:eqJ s.sg n x y k N)(hq:isG s.sg y 4 [40]=true)(hv:vlQ s.sg (pE s.sg n .value) [41] [k] (Ax s.sg y [40]) v):
 eqJ s.sg n x (As v.2 ⟨5,[],v.1,false⟩) (AX v.2) (N-1)∧N-1<N:=by
 rw[Ez hq,←Jj hq] at hv
 have hw:=a1A h.1.1.1 hv
 exact a9H h hw hq
theorem a1L{s:ST}{x y:Gs}{n:Nat}{k:Int}{N:Nat}(hx:wQ 2 (n+1) s x)(h:eqJ s.sg n x y k N)(hp:isG s.sg y 4 [40]=false)(hq:isG s.sg (Ax s.sg y [40]) 4 [46]=true):
 eqJ s.sg n x (As (Bg s.sg (Ax s.sg (Ax s.sg y [40]) [46]) 1) ⟨6,BA s.sg (Ax s.sg (Ax s.sg y [40]) [46]) 1,[k],false⟩) (AX (Bg s.sg (Ax s.sg (Ax s.sg y [40]) [46]) 1)) (N-1)∧N-1<N:=by
 rw[Dw hp] at hq ⊢
 rw[Ez hq]
 obtain⟨a,b⟩:=b1H hx.1.1.1.1 h.1 hp hq
 refine⟨⟨a,fun _=> ?_⟩,b⟩
 rw[Vn]
 have:=h.2 (Dh hq (by omega)).1
 have e:(Bg s.sg (Au y) 1).deep=y.deep:=by unfold Bg;split<;>rfl
 omega
theorem VK{s:ST}{x y:Gs}{n:Nat}{k:Int}{N:Nat}(hx:wQ 2 (n+1) s x)(h:eqJ s.sg n x y k N):rOk s (Ax s.sg y [40])∧rOk s (Ax s.sg (Ax s.sg y [40]) [46])∧rOk s (Bg s.sg (Ax s.sg (Ax s.sg y [40]) [46]) 1):=
 have a:=Fx (m:=[40]) (a1J hx h)
 ⟨a,Fx a,Hn (Fx a) (by omega)⟩
theorem b2g{s:ST}{x y:Gs}{n:Nat}{k:Int}{N:Nat}(h:eqJ s.sg n x y k N)(hb:y.bad=true):Ah s.sg x (pE s.sg (n+1) .fin) (k,y):=a9n h.1 hb
theorem b2h{s:ST}{x y:Gs}{n:Nat}{k:Int}{N:Nat}(h:eqJ s.sg n x y k N)(hb:y.bad=false)(hp:isG s.sg y 4 [40]=false)(hq:isG s.sg (Ax s.sg y [40]) 4 [46]=false):Ah s.sg x (pE s.sg (n+1) .fin) (k,Ax s.sg (Ax s.sg y [40]) [46]):=by
 rw[Dw hp] at hq ⊢
 rw[Dw hq];exact a9r h.1 hb hp hq
attribute [local irreducible] pE Bs Cy fnR Ah BG gsOk Av CK As Di Ev Ax DS Eh AX CL pkG isG nmG kdG Bg BA BN vlQ lqJ saI arG eqJ
def IC(n:Nat):Sig:= {X:=ST×Int×Int×Bool×List Nd,args:=fun x=>[srd x.1 (xg x)],pre:=fun x=>wQ 1 (n+1) x.1 (xg x),Y:=Int×Int×Int×Bool×List Nd,post:=fun x y=>Ah x.1.sg (xg x) (pE x.1.sg (n+1) .base) (yS y),res:=fun x y=> .int .i64 y.1,outs:=fun x y=>[srd x.1 (yG y.2)],keep:=true}
theorem b2i(n:Nat)(h:qAll G n):Am G Tryz.prog 128 (IC n):=
 vcFun_okP [(40,0,DV),(41,0,CC),(25,0,Bn),(45,0,Cd),(89,0,(Gm n)),(139,0,DW),(46,0,Gn),(44,0,BP),(88,0,(GM n)),(78,0,(Lt n))] [(47,⟨Int,Bw⟩)] false (fun x=>[]) Tryz.func128 rfl (by decide) ⟨Rt,Kg,Hm,Hl,(VF n h),b1U,VG,HL,h.pick,h.val,trivial⟩ (fun(x:ST×Int×Int×Bool×List Nd)=>True∧Aa (xg x).bad (rA (IC n) x [.int .i64 (0:Int),srd x.1 (xg x)]) (cA DV [srd x.1 (xg x),.int .i64 (1:Int)] fun x_1 y=>Aa (kdG x_1.1.sg (xh x_1) x_1.2.2.2.2.2) (cA CC [srd x_1.1 (xh x_1),.int .i64 (1:Int)] fun x_2 y=>cA Bn [srd x_2.1 (Bg x_2.1.sg (xh x_2) x_2.2.2.2.2.2),.int .i64 (1:Int),.str (BA x_2.1.sg (xh x_2) x_2.2.2.2.2.2),Ab []] fun x_3 y=>rA (IC n) x [.int .i64 (AX (xh x_3)),srd x_3.1 (As (xh x_3) {kind:=x_3.2.2.2.2.2.1,text:=x_3.2.2.2.2.2.2.1,kids:=x_3.2.2.2.2.2.2.2,blank:=false})]) (cA DV [srd x_1.1 (xh x_1),.int .i64 (2:Int)] fun x_2 y=>Aa (kdG x_2.1.sg (xh x_2) x_2.2.2.2.2.2) (cA CC [srd x_2.1 (xh x_2),.int .i64 (2:Int)] fun x_3 y=>cA Bn [srd x_3.1 (Bg x_3.1.sg (xh x_3) x_3.2.2.2.2.2),.int .i64 (2:Int),.str (BA x_3.1.sg (xh x_3) x_3.2.2.2.2.2),Ab []] fun x_4 y=>rA (IC n) x [.int .i64 (AX (xh x_4)),srd x_4.1 (As (xh x_4) {kind:=x_4.2.2.2.2.2.1,text:=x_4.2.2.2.2.2.2.1,kids:=x_4.2.2.2.2.2.2.2,blank:=false})]) (cA DV [srd x_2.1 (xh x_2),.int .i64 (3:Int)] fun x_3 y=>Aa (kdG x_3.1.sg (xh x_3) x_3.2.2.2.2.2) (cA CC [srd x_3.1 (xh x_3),.int .i64 (3:Int)] fun x_4 y=>cA Bn [srd x_4.1 (Bg x_4.1.sg (xh x_4) x_4.2.2.2.2.2),.int .i64 (3:Int),.str (BA x_4.1.sg (xh x_4) x_4.2.2.2.2.2),Ab []] fun x_5 y=>rA (IC n) x [.int .i64 (AX (xh x_5)),srd x_5.1 (As (xh x_5) {kind:=x_5.2.2.2.2.2.1,text:=x_5.2.2.2.2.2.2.1,kids:=x_5.2.2.2.2.2.2.2,blank:=false})]) (cA Cd [srd x_3.1 (xh x_3),.str #[(91:UInt8)].toList] fun x_4 y=>Aa (isG x_4.1.sg (xh x_4) (4:Int) x_4.2.2.2.2.2) (cA (Gm n) [srd x_4.1 (Ax x_4.1.sg (xh x_4) x_4.2.2.2.2.2),.str #[(93:UInt8)].toList,Ab []] fun x_5 y=>cA Bn [srd x_5.1 (yG y.2),.int .i64 (4:Int),.str #[].toList,Ab y.1] fun x_6 y=>rA (IC n) x [.int .i64 (AX (xh x_6)),srd x_6.1 (As (xh x_6) {kind:=x_6.2.2.2.2.2.1,text:=x_6.2.2.2.2.2.2.1,kids:=x_6.2.2.2.2.2.2.2,blank:=false})]) (cA DW [srd x_4.1 (Ax x_4.1.sg (xh x_4) x_4.2.2.2.2.2)] fun x_5 y=>Aa (arG x_5.1.sg (xg x_5)) (cA Gn [srd x_5.1 (xg x_5)] fun x_6 y=>cA BP [srd x_6.1 (yG y.2),.str #[(61:UInt8),(62:UInt8)].toList] fun x_7 y_1=>cA (GM n) [srd x_7.1 (Av x_7.1.sg (xh x_7) x_7.2.2.2.2.2)] fun x_8 y_2=>∃(x_9:Int),y_2.1=x_9∧∃(zs:List Int),Ab [x_9]=Ab zs∧Bu Bw∧Ba (List.length y.1+List.length zs) (8:Nat)∧cA Bn [srd x_8.1 (yG y_2.2),.int .i64 (9:Int),.str #[].toList,Ab (y.1++zs)] fun x_10 y=>rA (IC n) x [.int .i64 (AX (xh x_10)),srd x_10.1 (As (xh x_10) {kind:=x_10.2.2.2.2.2.1,text:=x_10.2.2.2.2.2.2.1,kids:=x_10.2.2.2.2.2.2.2,blank:=false})]) (cA BP [srd x_5.1 (xg x_5),.str #[(40:UInt8)].toList] fun x_6 y=>Aa (Av x_6.1.sg (xh x_6) x_6.2.2.2.2.2).bad (rA (IC n) x [.int .i64 (0:Int),srd x_6.1 (Av x_6.1.sg (xh x_6) x_6.2.2.2.2.2)]) (cA (Lt n) [srd x_6.1 (Av x_6.1.sg (xh x_6) x_6.2.2.2.2.2)] fun x_7 y=>cA BP [srd x_7.1 (yG y.2),.str #[(41:UInt8)].toList] fun x_8 y_1=>∃(x_9:Int),y.1=x_9∧cA Bn [srd x_8.1 (Av x_8.1.sg (xh x_8) x_8.2.2.2.2.2),.int .i64 (11:Int),.str #[].toList,Ab [x_9]] fun x_10 y=>rA (IC n) x [.int .i64 (AX (xh x_10)),srd x_10.1 (As (xh x_10) {kind:=x_10.2.2.2.2.2.1,text:=x_10.2.2.2.2.2.2.1,kids:=x_10.2.2.2.2.2.2.2,blank:=false})])))))))) (fun x=>by kernel_rfl) fun(x:ST×Int×Int×Bool×List Nd) (hx:wQ 1 (n+1) x.1 (xg x))=>(by
 dsimp only[cA,Bx,Ab,Bd,rA,DW,IC,DV,Cd,Gn,GM,Bn,CC,Lt,Gm,BP,Bv,sgs,srd,Aw,AR,mvL,lnL,mvE,lnE]
 obtain⟨s,p,d,b,ns⟩:=x;dsimp only[xg,xh] at hx ⊢
 have hx:wQ 1 (n+1) s ⟨p,d,b,ns⟩:=hx
 have h1:=hx.1.1.1;have hs:=h1.1
 (repeat' first|(with_reducible first|rfl|exact True.intro|apply AM|apply And.intro|((first|apply AC|apply AK|apply AD|apply AL)<;>intro _))|(apply AB<;>intro _)|apply AJ|refine Ag () ?_ ?_|((first|apply AQ|apply AP|apply AO|apply AN|apply AI|apply AH|apply AG|apply AF|apply AE)<;>try dsimp only)|apply Ag|(refine Prod.forall.2 ?_;intro _;try dsimp only)|(intro _;try dsimp only))
 all_goals(try dsimp only[xg,xh,yG,yS,iG] at*)
 all_goals(try simp only[Gk] at*)
 all_goals first
  |rfl
  |exact h1
  |omega
  |(simp;done)
  |exact a1z h1.2 ‹_›
  |exact b1W hs h1.2 ‹_›
  |exact a1I hs h1.2 (.inl rfl) ‹_›
  |exact a1I hs h1.2 (.inr rfl) ‹_›
  |exact Hn h1 (by omega)
  |exact b2b hx ‹_›
  |exact b1X h1 ‹_› ‹_› ‹_› ‹_› ‹_›
  |exact VI hs ‹_›
  |exact Fx h1
  |exact b2c hx ‹_› ‹_› ‹_›
  |exact b2d hx ‹_› ‹_›
  |exact(GL (Fx h1)).1
  |exact Fi h1 ‹_›
  |exact(GL (Fi h1 ‹_›)).1
  |exact b1Y hx.2 h1 ‹_› ‹_› ‹_› ‹_› ‹_› ‹_› ‹_›
  |exact b1Z hx.2 h1 ‹_› ‹_› ‹_› ‹_› ‹_› ‹_› ‹_›
  |exact b2a h1 ‹_› ‹_› ‹_› ‹_› ‹_› ‹_›
  |(have hq:=VJ hs (show vlQ _ _ _ [] _ _ by assumption);(try simp only[Ba,List.length_append,List.length_cons,List.length_nil] at*);omega)
  |skip)
def RG(n:Nat):Sig:= {X:=ST×Int×Int×Bool×List Nd,args:=fun x=>[srd x.1 (xg x)],pre:=fun x=>wQ 2 (n+1) x.1 (xg x),Y:=Int×Int×Int×Bool×List Nd,post:=fun x y=>Ah x.1.sg (xg x) (pE x.1.sg (n+1) .fin) (yS y),res:=fun x y=> .int .i64 y.1,outs:=fun x y=>[srd x.1 (yG y.2)],keep:=true}
def Pe(n:Nat)(x:ST×Int×Int×Bool×List Nd):LS:= {ι:=Int×Int×Bool×List Nd×Int×Nat,inv:=fun i=>eqJ x.1.sg n (xg x) (iG i) i.2.2.2.2.1 i.2.2.2.2.2,regs:=fun i=>[(0,srd x.1 (iG i)),(3,.int .i64 i.2.2.2.2.1)],als:=[],meas:=fun i=>i.2.2.2.2.2}
theorem b2j(n:Nat)(h:qAll G n):Am G Tryz.prog 117 (RG n):=
 vcFun_okP [(128,0,(RB n)),(45,0,Cd),(89,0,(Gm n)),(25,0,Bn),(41,0,CC)] [(47,⟨Int,Bw⟩)] false (fun x=>[(2,Pe n x)]) Tryz.func117 rfl (by decide) ⟨h.base,Hl,(VF n h),Hm,Kg,trivial⟩ (fun(x:ST×Int×Int×Bool×List Nd)=>True∧cA (RB n) [srd x.1 (xg x)] fun x_1 y=>eA (Pe n x) [srd x_1.1 (yG y.2),.int .i64 y.1]∧∀(i:Int×Int×Bool×List Nd×Int×Nat),eqJ x.1.sg n (xg x) (iG i) i.2.2.2.2.1 i.2.2.2.2.2→Aa (!(iG i).bad) (cA Cd [srd x.1 (iG i),.str #[(40:UInt8)].toList] fun x_2 y=>Aa (isG x_2.1.sg (xh x_2) (4:Int) x_2.2.2.2.2.2) (∃(x_3:Int),i.2.2.2.2.1=x_3∧cA (Gm n) [srd x_2.1 (Ax x_2.1.sg (xh x_2) x_2.2.2.2.2.2),.str #[(41:UInt8)].toList,Ab [x_3]] fun x_4 y=>cA Bn [srd x_4.1 (yG y.2),.int .i64 (5:Int),.str #[].toList,Ab y.1] fun x_5 y=>eN (Pe n x) i [srd x_5.1 (As (xh x_5) {kind:=x_5.2.2.2.2.2.1,text:=x_5.2.2.2.2.2.2.1,kids:=x_5.2.2.2.2.2.2.2,blank:=false}),.int .i64 (AX (xh x_5))]) (cA Cd [srd x_2.1 (Ax x_2.1.sg (xh x_2) x_2.2.2.2.2.2),.str #[(46:UInt8)].toList] fun x_3 y=>Aa (isG x_3.1.sg (xh x_3) (4:Int) x_3.2.2.2.2.2) (cA CC [srd x_3.1 (Ax x_3.1.sg (xh x_3) x_3.2.2.2.2.2),.int .i64 (1:Int)] fun x_4 y=>∃(x_5:Int),i.2.2.2.2.1=x_5∧cA Bn [srd x_4.1 (Bg x_4.1.sg (xh x_4) x_4.2.2.2.2.2),.int .i64 (6:Int),.str (BA x_4.1.sg (xh x_4) x_4.2.2.2.2.2),Ab [x_5]] fun x_6 y=>eN (Pe n x) i [srd x_6.1 (As (xh x_6) {kind:=x_6.2.2.2.2.2.1,text:=x_6.2.2.2.2.2.2.1,kids:=x_6.2.2.2.2.2.2.2,blank:=false}),.int .i64 (AX (xh x_6))]) (rA (RG n) x [.int .i64 i.2.2.2.2.1,srd x_3.1 (Ax x_3.1.sg (xh x_3) x_3.2.2.2.2.2)]))) (rA (RG n) x [.int .i64 i.2.2.2.2.1,srd x.1 (iG i)])) (fun x=>by kernel_rfl) fun(x:ST×Int×Int×Bool×List Nd) (hx:wQ 2 (n+1) x.1 (xg x))=>(by
 dsimp only[cA,eA,eN,Pe,Bx,Ab,Bd,rA,RB,RG,Cd,Bn,CC,Gm,Bv,sgs,srd,Aw,AR,mvL,lnL,mvE,lnE,Br]
 obtain⟨s,p,d,b,ns⟩:=x;dsimp only[xg,xh] at hx ⊢
 have hx:wQ 2 (n+1) s ⟨p,d,b,ns⟩:=hx
 have h1:=hx.1.1.1;have hs:=h1.1
 (repeat' first|(with_reducible first|rfl|exact True.intro|apply AM|apply And.intro|((first|apply AC|apply AK|apply AD|apply AL)<;>intro _))|(apply AB<;>intro _)|apply AJ|refine Ag () ?_ ?_|((first|apply AQ|apply AP|apply AO|apply AN|apply AI|apply AH|apply AG|apply AF|apply AE)<;>try dsimp only)|apply Ag|(refine Prod.forall.2 ?_;intro _;try dsimp only)|(intro _;try dsimp only))
 all_goals(try dsimp only[xg,xh,yG,yS,iG] at*)
 all_goals(try simp only[Gk] at*)
 all_goals first
  |(show Nat;skip)
  |rfl
  |exact⟨a9I hx.1.1.1 hx.1.1.2 hx.1.2,hx.2⟩
  |exact b2e hx ‹_›
  |exact a1J hx ‹_›
  |exact b2f hx ‹_› ‹_›
  |exact(VK hx ‹_›).1
  |exact(VK hx ‹_›).2.1
  |exact(VK hx ‹_›).2.2
  |exact VI hs ‹_›
  |exact(a1K hx ‹_› ‹_› ‹_›).1
  |exact(a1L hx ‹_› ‹_› ‹_›).1
  |exact b2g ‹_› ‹_›
  |exact b2h ‹_› ‹_› ‹_› ‹_›
  |omega
  |(simp;done)
  |skip
 all_goals first
  |exact(a1K hx ‹_› ‹_› ‹_›).2
  |exact(a1L hx ‹_› ‹_› ‹_›).2
  |skip)
end Go.My
end
section
namespace Go.My
open Go.Eng Go.Proofs
variable {G:GInv}
theorem bt{a b:List UInt8}(h:(a==b)=true):a=b:=by simpa using h
theorem bf{a b:List UInt8}(h:(a==b)=false):a≠b:=by simpa using h
def csJ(sg:List Sg)(n l:Nat)(x y:Gs)(t:List UInt8)(ks:List Int)(N:Nat):Prop:=chS sg n l x y t ks N∧(y.bad=false→y.deep≤20)
theorem b2k{s:ST}{x:Gs}{n:Nat}{l:Int}(hx:wQ (9-l.toNat) (n+1) s x)(hl:l>5)(h6:l≤6):wQ 2 n s x:=by
 have e:l.toNat=6:=by omega
 have a:=hx.1.2
 rw[e] at a
 exact⟨⟨hx.1.1,by omega⟩,hx.2⟩
theorem b2l{s:ST}{x:Gs}{n:Nat}{l:Int}{z:Int×Gs}(hl:l>5)(h6:l≤6)(h:Ah s.sg x (pE s.sg n .fin) z):Ah s.sg x (pE s.sg (n+1) (.chain l.toNat)) z:=a9K (by omega) h
theorem b2m{s:ST}{x:Gs}{n:Nat}{l:Int}(hx:wQ (9-l.toNat) (n+1) s x)(h0:0≤l)(hl:¬l>5):wQ (9-(l+1).toNat) n s x:=⟨⟨hx.1.1,by have:=hx.1.2;omega⟩,hx.2⟩
theorem b2n{s:ST}{x:Gs}{n:Nat}{l:Int}{z:Int×Gs}(hx:wQ (9-l.toNat) (n+1) s x)(h0:0≤l)(hl:¬l>5)(hz:Ah s.sg x (pE s.sg n (.chain (l+1).toNat)) z):csJ s.sg n l.toNat x z.2 [] [z.1] (2*s.sg.length+4):=by
 rw[show(l+1).toNat=l.toNat+1 by omega] at hz
 exact⟨b1z hx.1.1.1.2 (by omega) hz,OW hz hx.1.1.2⟩
theorem a1M{s:ST}{x y:Gs}{n l:Nat}{t:List UInt8}{ks:List Int}{N:Nat}(hs:sgB s.sg)(h:csJ s.sg n l x y t ks N):rOk s y:=⟨hs,h.1.1.1⟩
theorem a1N{s:ST}{x y:Gs}{n l:Nat}{t:List UInt8}{ks:List Int}{N:Nat}{i:Int}{m:List UInt8}(hs:sgB s.sg)(h:csJ s.sg n l x y t ks N)(hq:mkQ s.sg y l i m):rOk s (gM y m):=by
 unfold gM;split
 ·exact a1M hs h
 ·rename_i hm
  rcases hq.2 with h2|h2
  ·exact(hm h2.1).elim
  ·have hg:=(Kb (sg:=s.sg) (l:=l) (g:=y) (by rw[←h2.2];exact hm)).1
   exact⟨hs,Gj h.1.1.1 (Dh hg (by omega)).2⟩
theorem a1O{s:ST}{x y:Gs}{n:Nat}{l:Int}{t:List UInt8}{ks:List Int}{N:Nat}{i:Int}{m:List UInt8}(hx:wQ (9-l.toNat) (n+1) s x)(h0:0≤l)(hl:¬l>5)(h:csJ s.sg n l.toNat x y t ks N)(hq:mkQ s.sg y l.toNat i m)(hm:m≠[]):wQ (9-(l+1).toNat) n s (gM y m):=by
 have hr:=a1N hx.1.1.1.1 h hq
 rw[Ry hm] at hr ⊢
 rcases hq.2 with h2|h2
 ·exact(hm h2.1).elim
 ·have hg:=(Kb (sg:=s.sg) (l:=l.toNat) (g:=y) (by rw[←h2.2];exact hm)).1
  have hb:=Dh hg (by omega)
  have e1:(Au y).pos=y.pos+1:=rfl
  have e2:(Au y).deep=y.deep:=rfl
  have:=h.1.1.2.2.1;have:=hx.1.2;have:=h.2 hb.1
  exact⟨⟨⟨hr,fun _=>by omega⟩,by omega⟩,hx.2⟩
theorem b2o{s:ST}{x y:Gs}{n:Nat}{l:Int}{t:List UInt8}{ks:List Int}{N:Nat}{i:Int}{m:List UInt8}(hx:wQ (9-l.toNat) (n+1) s x)(h0:0≤l)(hl:¬l>5)(h:csJ s.sg n l.toNat x y t ks N)(hq:mkQ s.sg y l.toNat i m)(hm:m≠[])(ht:t≠[]):wQ (9-(l+1).toNat) n s (As (gM y m) ⟨7,t,ks,false⟩):=by
 have a:=a1O hx h0 hl h hq hm
 obtain⟨d1,d2,d3⟩:= @Jf (gM y m) ⟨7,t,ks,false⟩
 have hw:=Vz (ks:=ks) hx.1.1.1.1 (h.1.2.2.2.2.2 ht).2 (by have:=h.1.2.2.1;have:=h.1.1.1.1;omega)
 exact⟨⟨⟨⟨a.1.1.1.1,OM a.1.1.1.2 hw⟩,fun hb=>by rw[d1];exact a.1.1.2 (d3 hb)⟩,by rw[d2];exact a.1.2⟩,a.2⟩
theorem RH{s:ST}{x y:Gs}{n:Nat}{l:Int}{t:List UInt8}{ks:List Int}{N:Nat}{i:Int}{m:List UInt8}{z:Int×Gs}(h0:0≤l)(h:csJ s.sg n l.toNat x y t ks N)(hq:mkQ s.sg y l.toNat i m)(hi:¬i<((BI l.toNat).length:Int))(hm:m≠[])(ht:t=[]∨m=t)
 (hz:Ah s.sg (gM y m) (pE s.sg n (.chain (l+1).toNat)) z):csJ s.sg n l.toNat x z.2 m (ks++[z.1]) (N-1)∧N-1<N:=by
 have e:=Rz hq hi
 rw[Ry hm,show(l+1).toNat=l.toNat+1 by omega] at hz
 obtain⟨a,b⟩:=b1A h.1 (by rw[←e];exact hm) (by rw[←e];exact ht) hz
 rw[←e] at a
 have hg:=(Kb (sg:=s.sg) (l:=l.toNat) (g:=y) (by rw[←e];exact hm)).1
 exact⟨⟨a,OW hz (fun _=>h.2 (Dh hg (by omega)).1)⟩,b⟩
theorem a1P{s:ST}{x y:Gs}{n:Nat}{l:Int}{t:List UInt8}{ks:List Int}{N:Nat}{i:Int}{m:List UInt8}{z:Int×Gs}(hs:sgB s.sg)(h0:0≤l)(h:csJ s.sg n l.toNat x y t ks N)(hq:mkQ s.sg y l.toNat i m)(hi:¬i<((BI l.toNat).length:Int))(hm:m≠[])(ht:t≠[])(hne:m≠t)
 (hz:Ah s.sg (As (gM y m) ⟨7,t,ks,false⟩) (pE s.sg n (.chain (l+1).toNat)) z):csJ s.sg n l.toNat x z.2 m ([AX (gM y m)]++[z.1]) (N-2)∧N-2<N:=by
 have e:=Rz hq hi
 rw[Ry hm] at hz ⊢
 rw[show(l+1).toNat=l.toNat+1 by omega] at hz
 obtain⟨a,b⟩:=b1B hs h.1 (by rw[←e];exact hm) ht (by rw[←e];exact hne) hz
 rw[←e] at a
 have hg:=(Kb (sg:=s.sg) (l:=l.toNat) (g:=y) (by rw[←e];exact hm)).1
 refine⟨⟨a,OW hz (fun hb=> ?_)⟩,b⟩
 rw[Vn];exact h.2 (Dh hg (by omega)).1
theorem b2p{s:ST}{x y:Gs}{n l:Nat}{t:List UInt8}{ks:List Int}{N:Nat}{i:Int}{m:List UInt8}{k:Int}(h:csJ s.sg n l x y t ks N)(hq:mkQ s.sg y l i m)(hi:¬i<((BI l).length:Int))(hm:m=[])(hl:(ks.length:Int)=1)(hk:ks[(0:Int).toNat]? =some k):Ah s.sg x (pE s.sg (n+1) (.chain l)) (k,gM y m):=by
 have e:=Rz hq hi
 subst hm
 exact a1x h.1 (.inr e.symm) (by omega) hk
theorem b2q{s:ST}{x y:Gs}{n l:Nat}{t:List UInt8}{ks:List Int}{N:Nat}{i:Int}{m:List UInt8}(hs:sgB s.sg)(h:csJ s.sg n l x y t ks N)(hq:mkQ s.sg y l i m)(hi:¬i<((BI l).length:Int))(hm:m=[])(hl:(ks.length:Int)≠1):Ah s.sg x (pE s.sg (n+1) (.chain l)) (AX (gM y m),As (gM y m) ⟨7,t,ks,false⟩):=by
 have e:=Rz hq hi
 subst hm
 exact a1y hs h.1 (.inr e.symm) (by omega)
theorem b2r{s:ST}{x y:Gs}{n l:Nat}{t:List UInt8}{ks:List Int}{N:Nat}{k:Int}(h:csJ s.sg n l x y t ks N)(hb:y.bad=true)(hl:(ks.length:Int)=1)(hk:ks[(0:Int).toNat]? =some k):Ah s.sg x (pE s.sg (n+1) (.chain l)) (k,y):=a1x h.1 (.inl hb) (by omega) hk
theorem b2s{s:ST}{x y:Gs}{n l:Nat}{t:List UInt8}{ks:List Int}{N:Nat}(hs:sgB s.sg)(h:csJ s.sg n l x y t ks N)(hb:y.bad=true)(hl:(ks.length:Int)≠1):Ah s.sg x (pE s.sg (n+1) (.chain l)) (AX y,As y ⟨7,t,ks,false⟩):=a1y hs h.1 (.inl hb) (by omega)
theorem b2t{s:ST}{x y:Gs}{n l:Nat}{t:List UInt8}{ks:List Int}{N:Nat}(hs:sgB s.sg)(h:csJ s.sg n l x y t ks N):ks.length≤3001∧1≤ks.length:=by
 have h1:=h.1.2.2.1;have h2:=h.1.1.1.1.2;have h3:=hs.1
 refine⟨by omega,?_⟩
 rcases Classical.em (t=[]) with e|e
 ·have:=h.1.2.2.2.2.1 e;omega
 ·have:=(h.1.2.2.2.2.2 e).1;omega
theorem b2u{sg:List Sg}{y:Gs}{l:Nat}{i:Int}{m:List UInt8}(h:mkQ sg y l i m):(0≤i∧i≤(BI l).length)∧(BI l).length≤2:=⟨h.1,a9F⟩
theorem Kh{sg:List Sg}{y:Gs}{l:Nat}{i:Int}{m v:List UInt8}(h:mkQ sg y l i m)(hm:m=[])(ha:(BI l)[i.toNat]? =some v)(hg:isG sg (gM y m) 4 v=true):
 (Ax sg (gM y m) v).pos=(gM y v).pos∧(Ax sg (gM y m) v).bad=(gM y v).bad∧(Ax sg (gM y m) v).deep=(gM y v).deep∧(Ax sg (gM y m) v).nodes=(gM y v).nodes:=by
 rw[(VB h hm ha hg).2];exact⟨rfl,rfl,rfl,rfl⟩
theorem b2v{sg:List Sg}{p d:Int}{b:Bool}{ns:List Nd}{f:Ps→PR}{z:Int×Gs}(hd:d≤20)(h:d+1>20)(hz:Ah sg ⟨p,d+1,true,ns⟩ f z):Ah sg (pkX ⟨p,d,b,ns⟩) f z:=by
 have e:pkX ⟨p,d,b,ns⟩=⟨p,d+1,true,ns⟩:=by simp only[pkX];rw[if_pos (show d=20 by omega)];rfl
 rw[e];exact hz
theorem b2w{sg:List Sg}{p d:Int}{b:Bool}{ns:List Nd}{f:Ps→PR}{z:Int×Gs}(h:¬d+1>20)(hz:Ah sg ⟨p,d+1,b,ns⟩ f z):Ah sg (pkX ⟨p,d,b,ns⟩) f z:=by
 have e:pkX ⟨p,d,b,ns⟩=⟨p,d+1,b,ns⟩:=by simp only[pkX];rw[if_neg (show¬d=20 by omega)];rfl
 rw[e];exact hz
theorem b2x{s:ST}{p d:Int}{b:Bool}{ns:List Nd}{n:Nat}(hx:vQ 10 (n+1) s ⟨p,d,b,ns⟩)(h:d+1>20):wQ (9-(0:Int).toNat) n s ⟨p,d+1,true,ns⟩:=by
 have a:=(a0N hx.1.1.1 hx.1.1.2 hx.1.2).1
 have hd:=hx.1.1.2;simp only at hd
 have e:pkX ⟨p,d,b,ns⟩=⟨p,d+1,true,ns⟩:=by simp only[pkX];rw[if_pos (show d=20 by omega)];rfl
 rw[e] at a;exact⟨a,hx.2⟩
theorem b2y{s:ST}{p d:Int}{b:Bool}{ns:List Nd}{n:Nat}(hx:vQ 10 (n+1) s ⟨p,d,b,ns⟩)(h:¬d+1>20):wQ (9-(0:Int).toNat) n s ⟨p,d+1,b,ns⟩:=by
 have a:=(a0N hx.1.1.1 hx.1.1.2 hx.1.2).1
 have e:pkX ⟨p,d,b,ns⟩=⟨p,d+1,b,ns⟩:=by simp only[pkX];rw[if_neg (show¬d=20 by omega)];rfl
 rw[e] at a;exact⟨a,hx.2⟩
theorem b2z{s:ST}{x y:Gs}{n:Nat}{ks:List Int}{N:Nat}(hx:vQ 11 (n+1) s x)(h:vaJ s.sg n x y ks N)(hq:isG s.sg y 4 [46,46]=true):
 wQ 11 n s (Av s.sg (As (Bg s.sg (Ax s.sg y [46,46]) 1) ⟨1,BA s.sg (Ax s.sg y [46,46]) 1,[],false⟩) [40]):=by
 have hr:=Vo hx.1.1.1 h
 have a:=Nj (m:=[46,46]) hr
 have e:=CS a
 have t:=Hk (m:=[40]) (FQ a)
 rw[Ez hq] at a e t ⊢
 simp only at e t
 have e1:(Au y).pos=y.pos+1:=rfl
 have e2:(Au y).deep=y.deep:=rfl
 have:=h.1.1.2.2.1;have:=h.2;have:=hx.1.2
 exact⟨⟨⟨⟨hx.1.1.1.1,t.1⟩,fun _=>by omega⟩,by omega⟩,hx.2⟩
theorem a1Q{s:ST}{x y:Gs}{n:Nat}{ks:List Int}{N:Nat}{v:List Int×Gs}(hs:sgB s.sg)(h:vaJ s.sg n x y ks N)(hq:isG s.sg y 4 [46,46]=true)
 (hv:vlQ s.sg (pE s.sg n .value) [41] [AX (Bg s.sg (Ax s.sg y [46,46]) 1)] (Av s.sg (As (Bg s.sg (Ax s.sg y [46,46]) 1) ⟨1,BA s.sg (Ax s.sg y [46,46]) 1,[],false⟩) [40]) v):
 vaJ s.sg n x (As v.2 ⟨5,[],v.1,false⟩) (ks++[AX v.2]) (N-1)∧N-1<N:=by
 have a:=Nj (m:=[46,46]) (show rOk s y from⟨hs,h.1.1.1⟩)
 have hw:=a1A (FQ a) hv
 have e:=(CS a).1
 rw[Ez hq] at a e
 obtain⟨c1,c2⟩:=Na (b1I h.1 hq a (by rw[Ez hq] at hw;exact hw))
 have e2:(Au y).deep=y.deep:=rfl
 have e3:=(CS hw).1
 rw[Ez hq] at e3
 have:=h.2
 exact⟨a0P ⟨c1,by simp only at*;omega⟩,c2⟩
theorem VL{s:ST}{x y:Gs}{n:Nat}{ks:List Int}{N:Nat}(hs:sgB s.sg)(h:vaJ s.sg n x y ks N):rOk s (Ax s.sg y [46,46])∧rOk s (Bg s.sg (Ax s.sg y [46,46]) 1)∧rOk s (As (Bg s.sg (Ax s.sg y [46,46]) 1) ⟨1,BA s.sg (Ax s.sg y [46,46]) 1,[],false⟩):=
 have hr:rOk s y:=⟨hs,h.1.1.1⟩
 ⟨Fx hr,Hn (Fx hr) (by omega),VE hr⟩
def lqI(s:ST)(e:Int)(j:Int×Int×Bool×List Nd×List UInt8×List Int×Nat):LS:= {
 ι:=Int×List UInt8,inv:=fun i=>mkQ s.sg (iF j) e.toNat i.1 i.2,regs:=fun i=>[(0,srd s (gM (iF j) i.2)),(1,.int .i64 e),(5,Ab j.2.2.2.2.2.1),(6,.str j.2.2.2.2.1),(7,.sl false 0 1 (List UInt8) Ai (BI e.toNat)),(8,.str i.2),(9,.int .i64 i.1)],als:=[],meas:=fun i=>(BI e.toNat).length-i.1.toNat}
def lqO(n:Nat)(x:ST×Int×Int×Bool×List Nd×Int):LS:= {
 ι:=Int×Int×Bool×List Nd×List UInt8×List Int×Nat,inv:=fun i=>csJ x.1.sg n x.2.2.2.2.2.toNat (xh x) (iF i) i.2.2.2.2.1 i.2.2.2.2.2.1 i.2.2.2.2.2.2,regs:=fun i=>[(0,srd x.1 (iF i)),(1,.int .i64 x.2.2.2.2.2),(5,Ab i.2.2.2.2.2.1),(6,.str i.2.2.2.2.1),(7,.sl false 0 1 (List UInt8) Ai (BI x.2.2.2.2.2.toNat))],als:=[],meas:=fun i=>i.2.2.2.2.2.2,
 sub:=fun j=>[(9,lqI x.1 x.2.2.2.2.2 j)]}
attribute [local irreducible] pE Bs Cy fnR Ah BG gsOk Av CK As Di Ev Ax DS Eh AX CL pkG isG nmG kdG Bg BA BN vlQ lqJ saI arG eqJ csJ mkQ gM vaJ
def HP:Sig:= {X:=Int,args:=fun x=>[.int .i64 x],pre:=fun x=>0≤x∧x≤5,Y:=Unit,post:=fun x y=>True,res:=fun x y=> .sl false 0 1 (List UInt8) Ai (BI x.toNat),outs:=fun x y=>[.top],keep:=true}
theorem b2A:Am G Tryz.prog 118 HP:=
 vcFun_okP [] [(39,⟨List UInt8,Ai⟩)] false (fun x=>[]) Tryz.func118 rfl (by decide) trivial (fun(x:Int)=>True∧Aa (x==(0:Int)) (∃(x_1:List UInt8),#[(124:UInt8),(124:UInt8)].toList=x_1∧rA HP x [AV.sl true 0 1 (List UInt8) Ai [x_1],.top]) (Aa (x==(1:Int)) (∃(x_1:List UInt8),#[(38:UInt8),(38:UInt8)].toList=x_1∧rA HP x [AV.sl true 0 1 (List UInt8) Ai [x_1],.top]) (Aa (x==(2:Int)) (∃(x_1:List UInt8),#[(61:UInt8),(61:UInt8)].toList=x_1∧rA HP x [AV.sl true 0 1 (List UInt8) Ai [x_1],.top]) (Aa (x==(3:Int)) (∃(x_1:List UInt8),#[(60:UInt8)].toList=x_1∧rA HP x [AV.sl true 0 1 (List UInt8) Ai [x_1],.top]) (Aa (x==(4:Int)) (∃(x_1:List UInt8),#[(43:UInt8)].toList=x_1∧∃(x_2:List UInt8),#[(45:UInt8)].toList=x_2∧rA HP x [AV.sl true 0 1 (List UInt8) Ai [x_1,x_2],.top]) (∃(x_1:List UInt8),#[(42:UInt8)].toList=x_1∧rA HP x [AV.sl true 0 1 (List UInt8) Ai [x_1],.top])))))) (fun x=>by kernel_rfl) fun(x:Int) (hx:0≤x∧x≤5)=>(by
 dsimp only[rA,HP,Aw,AR]
 obtain⟨h1,h2⟩:=hx
 have hh:x=0∨x=1∨x=2∨x=3∨x=4∨x=5:=by omega
 rcases hh with rfl|rfl|rfl|rfl|rfl|rfl
 all_goals(repeat' first|(with_reducible first|rfl|exact True.intro|apply AM|apply And.intro|((first|apply AC|apply AK|apply AD|apply AL)<;>intro _))|(apply AB<;>intro _)|apply AJ|refine Ag () ?_ ?_|((first|apply AQ|apply AP|apply AO|apply AN|apply AI|apply AH|apply AG|apply AF|apply AE)<;>try dsimp only)|apply Ag|(refine Prod.forall.2 ?_;intro _;try dsimp only)|(intro _;try dsimp only))
 all_goals first
  |rfl
  |omega
  |(simp [Ba];done)
  |skip)
def Lu(n:Nat):Sig:= {X:=ST×Int×Int×Bool×List Nd×Int,args:=fun x=>[srd x.1 (xh x),.int .i64 x.2.2.2.2.2],pre:=fun x=>wQ (9-x.2.2.2.2.2.toNat) (n+1) x.1 (xh x)∧0≤x.2.2.2.2.2∧x.2.2.2.2.2≤6,Y:=Int×Int×Int×Bool×List Nd,post:=fun x y=>Ah x.1.sg (xh x) (pE x.1.sg (n+1) (.chain x.2.2.2.2.2.toNat)) (yS y),res:=fun x y=> .int .i64 y.1,outs:=fun x y=>[srd x.1 (yG y.2),.top],keep:=true}
theorem b2B(n:Nat)(h:qAll G n):Am G Tryz.prog 103 (Lu n):=
 vcFun_okP [(117,0,(RA n)),(103,0,(HO n)),(118,0,HP),(45,0,Cd),(25,0,Bn)] [(47,⟨Int,Bw⟩),(39,⟨List UInt8,Ai⟩)] false (fun x=>[(6,lqO n x)]) Tryz.func103 rfl (by decide) ⟨h.fin,h.chain,b2A,Hl,Hm,trivial⟩ (fun(x:ST×Int×Int×Bool×List Nd×Int)=>True∧Aa (decide (x.2.2.2.2.2>(5:Int))) (cA (RA n) [srd x.1 (xh x)] fun x_1 y=>rA (Lu n) x [.int .i64 y.1,srd x_1.1 (yG y.2),.top]) (inR IntKind.i64 (x.2.2.2.2.2+(1:Int))∧cA (HO n) [srd x.1 (xh x),.int .i64 (x.2.2.2.2.2+(1:Int))] fun x_1 y=>∃(x_2:Int),y.1=x_2∧cA HP [.int .i64 x.2.2.2.2.2] fun x_3 y_1=>eA (lqO n x) [srd x_1.1 (yG y.2),.int .i64 x.2.2.2.2.2,Ab [x_2],.str #[].toList,AV.sl false 0 1 (List UInt8) Ai (BI (Int.toNat x_3))]∧∀(i:Int×Int×Bool×List Nd×List UInt8×List Int×Nat),csJ x.1.sg n (Int.toNat x.2.2.2.2.2) (xh x) (iF i) i.2.2.2.2.1 i.2.2.2.2.2.1 i.2.2.2.2.2.2→Aa (!(iF i).bad) (eA (lqI x.1 x.2.2.2.2.2 i) [srd x.1 (iF i),.int .i64 x.2.2.2.2.2,Ab i.2.2.2.2.2.1,.str i.2.2.2.2.1,AV.sl false 0 1 (List UInt8) Ai (BI (Int.toNat x.2.2.2.2.2)),.str #[].toList,.int .i64 (0:Int)]∧∀(i_1:Int×List UInt8),mkQ x.1.sg (iF i) (Int.toNat x.2.2.2.2.2) i_1.1 i_1.2→Aa (decide (i_1.1<(↑(List.length (BI (Int.toNat x.2.2.2.2.2))):Int))) (Aa (i_1.2== #[].toList) (((0:Int)≤i_1.1∧i_1.1<(↑(List.length (BI (Int.toNat x.2.2.2.2.2))):Int))∧∀(e:List UInt8),(BI (Int.toNat x.2.2.2.2.2))[Int.toNat i_1.1]? =some e→cA Cd [srd x.1 (gM (iF i) i_1.2),.str e] fun x_4 y=>Aa (isG x_4.1.sg (xh x_4) (4:Int) x_4.2.2.2.2.2) (((0:Int)≤i_1.1∧i_1.1<(↑(List.length (BI (Int.toNat x.2.2.2.2.2))):Int))∧∀(e:List UInt8),(BI (Int.toNat x.2.2.2.2.2))[Int.toNat i_1.1]? =some e→inR IntKind.i64 (i_1.1+(1:Int))∧eN (lqI x.1 x.2.2.2.2.2 i) i_1 [srd x_4.1 (Ax x_4.1.sg (xh x_4) x_4.2.2.2.2.2),.int .i64 x.2.2.2.2.2,Ab i.2.2.2.2.2.1,.str i.2.2.2.2.1,AV.sl false 0 1 (List UInt8) Ai (BI (Int.toNat x.2.2.2.2.2)),.str e,.int .i64 (i_1.1+(1:Int))]) (inR IntKind.i64 (i_1.1+(1:Int))∧eN (lqI x.1 x.2.2.2.2.2 i) i_1 [srd x_4.1 (Ax x_4.1.sg (xh x_4) x_4.2.2.2.2.2),.int .i64 x.2.2.2.2.2,Ab i.2.2.2.2.2.1,.str i.2.2.2.2.1,AV.sl false 0 1 (List UInt8) Ai (BI (Int.toNat x.2.2.2.2.2)),.str i_1.2,.int .i64 (i_1.1+(1:Int))])) (inR IntKind.i64 (i_1.1+(1:Int))∧eN (lqI x.1 x.2.2.2.2.2 i) i_1 [srd x.1 (gM (iF i) i_1.2),.int .i64 x.2.2.2.2.2,Ab i.2.2.2.2.2.1,.str i.2.2.2.2.1,AV.sl false 0 1 (List UInt8) Ai (BI (Int.toNat x.2.2.2.2.2)),.str i_1.2,.int .i64 (i_1.1+(1:Int))])) (Aa (i_1.2== #[].toList) (Aa ((↑(List.length i.2.2.2.2.2.1):Int)==(1:Int)) (((0:Int)≤(0:Int)∧(0:Int)<(↑(List.length i.2.2.2.2.2.1):Int))∧(0:Nat)<List.length i.2.2.2.2.2.1∧∀(x_4:Int),i.2.2.2.2.2.1[(0:Nat)]? =some x_4→rA (Lu n) x [.int .i64 x_4,srd x.1 (gM (iF i) i_1.2),.top]) (cA Bn [srd x.1 (gM (iF i) i_1.2),.int .i64 (7:Int),.str i.2.2.2.2.1,Ab i.2.2.2.2.2.1] fun x_4 y=>rA (Lu n) x [.int .i64 (AX (xh x_4)),srd x_4.1 (As (xh x_4) {kind:=x_4.2.2.2.2.2.1,text:=x_4.2.2.2.2.2.2.1,kids:=x_4.2.2.2.2.2.2.2,blank:=false}),.top])) (Aa (!i.2.2.2.2.1== #[].toList) (Aa (!i_1.2==i.2.2.2.2.1) (cA Bn [srd x.1 (gM (iF i) i_1.2),.int .i64 (7:Int),.str i.2.2.2.2.1,Ab i.2.2.2.2.2.1] fun x_4 y=>∃(x_5:Int),AX (xh x_4)=x_5∧inR IntKind.i64 (x.2.2.2.2.2+(1:Int))∧cA (HO n) [srd x_4.1 (As (xh x_4) {kind:=x_4.2.2.2.2.2.1,text:=x_4.2.2.2.2.2.2.1,kids:=x_4.2.2.2.2.2.2.2,blank:=false}),.int .i64 (x.2.2.2.2.2+(1:Int))] fun x_6 y=>∃(x_7:Int),y.1=x_7∧∃(zs:List Int),Ab [x_7]=Ab zs∧Bu Bw∧Ba (List.length [x_5]+List.length zs) (8:Nat)∧eN (lqO n x) i [srd x_6.1 (yG y.2),.int .i64 x.2.2.2.2.2,Ab ([x_5]++zs),.str i_1.2,AV.sl false 0 1 (List UInt8) Ai (BI (Int.toNat x.2.2.2.2.2))]) (inR IntKind.i64 (x.2.2.2.2.2+(1:Int))∧cA (HO n) [srd x.1 (gM (iF i) i_1.2),.int .i64 (x.2.2.2.2.2+(1:Int))] fun x_4 y=>∃(x_5:Int),y.1=x_5∧∃(zs:List Int),Ab [x_5]=Ab zs∧Bu Bw∧Ba (List.length i.2.2.2.2.2.1+List.length zs) (8:Nat)∧eN (lqO n x) i [srd x_4.1 (yG y.2),.int .i64 x.2.2.2.2.2,Ab (i.2.2.2.2.2.1++zs),.str i_1.2,AV.sl false 0 1 (List UInt8) Ai (BI (Int.toNat x.2.2.2.2.2))])) (inR IntKind.i64 (x.2.2.2.2.2+(1:Int))∧cA (HO n) [srd x.1 (gM (iF i) i_1.2),.int .i64 (x.2.2.2.2.2+(1:Int))] fun x_4 y=>∃(x_5:Int),y.1=x_5∧∃(zs:List Int),Ab [x_5]=Ab zs∧Bu Bw∧Ba (List.length i.2.2.2.2.2.1+List.length zs) (8:Nat)∧eN (lqO n x) i [srd x_4.1 (yG y.2),.int .i64 x.2.2.2.2.2,Ab (i.2.2.2.2.2.1++zs),.str i_1.2,AV.sl false 0 1 (List UInt8) Ai (BI (Int.toNat x.2.2.2.2.2))])))) (Aa ((↑(List.length i.2.2.2.2.2.1):Int)==(1:Int)) (((0:Int)≤(0:Int)∧(0:Int)<(↑(List.length i.2.2.2.2.2.1):Int))∧(0:Nat)<List.length i.2.2.2.2.2.1∧∀(x_4:Int),i.2.2.2.2.2.1[(0:Nat)]? =some x_4→rA (Lu n) x [.int .i64 x_4,srd x.1 (iF i),.top]) (cA Bn [srd x.1 (iF i),.int .i64 (7:Int),.str i.2.2.2.2.1,Ab i.2.2.2.2.2.1] fun x_4 y=>rA (Lu n) x [.int .i64 (AX (xh x_4)),srd x_4.1 (As (xh x_4) {kind:=x_4.2.2.2.2.2.1,text:=x_4.2.2.2.2.2.2.1,kids:=x_4.2.2.2.2.2.2.2,blank:=false}),.top])))) (fun x=>by kernel_rfl) fun(x:ST×Int×Int×Bool×List Nd×Int) (hx:wQ (9-x.2.2.2.2.2.toNat) (n+1) x.1 (xh x)∧0≤x.2.2.2.2.2∧x.2.2.2.2.2≤6)=>(by
 dsimp only[cA,eA,eN,lqI,lqO,Bx,Ab,Bd,rA,HO,Lu,RA,HP,Cd,Bn,Bv,sgs,srd,Aw,AR,mvL,lnL,mvE,lnE,Br]
 obtain⟨s,p,d,b,ns,e⟩:=x;dsimp only[xg,xh] at hx ⊢
 obtain⟨hx,h4,h5⟩:=hx
 have hx:wQ (9-e.toNat) (n+1) s ⟨p,d,b,ns⟩:=hx
 have h1:=hx.1.1.1;have hs:=h1.1
 (repeat' first|(with_reducible first|rfl|exact True.intro|apply AM|apply And.intro|((first|apply AC|apply AK|apply AD|apply AL)<;>intro _))|(apply AB<;>intro _)|apply AJ|refine Ag () ?_ ?_|((first|apply AQ|apply AP|apply AO|apply AN|apply AI|apply AH|apply AG|apply AF|apply AE)<;>try dsimp only)|apply Ag|(refine Prod.forall.2 ?_;intro _;try dsimp only)|(intro _;try dsimp only))
 all_goals(try dsimp only[xg,xh,yG,yS,iG,iF] at*)
 all_goals(try simp only[Gk] at*)
 all_goals first
  |(show Nat;skip)
  |rfl
  |assumption
  |exact h1
  |exact b2k hx ‹_› h5
  |exact b2l ‹_› h5 ‹_›
  |exact b2m hx h4 ‹_›
  |exact b2n hx h4 ‹_› ‹_›
  |exact a1M hs ‹_›
  |exact a1N hs ‹_› ‹_›
  |exact b1C
  |(simp only[VA];done)
  |exact(Kh ‹_› ‹_› ‹_› ‹_›).1
  |exact(Kh ‹_› ‹_› ‹_› ‹_›).2.1
  |exact(Kh ‹_› ‹_› ‹_› ‹_›).2.2.1
  |exact(Kh ‹_› ‹_› ‹_› ‹_›).2.2.2
  |exact b1D ‹_› ‹_› ‹_› ‹_›
  |exact(VB ‹_› ‹_› ‹_› ‹_›).1
  |exact b1E ‹_› ‹_› ‹_›
  |exact a1O hx h4 ‹_› ‹_› ‹_› ‹_›
  |exact b2o hx h4 ‹_› ‹_› ‹_› ‹_› (bf ‹_›)
  |exact(a1P hs h4 ‹_› ‹_› ‹_› ‹_› (bf ‹_›) (bf ‹_›) ‹_›).1
  |exact(RH h4 ‹_› ‹_› ‹_› ‹_› (.inl (bt ‹_›)) ‹_›).1
  |exact(RH h4 ‹_› ‹_› ‹_› ‹_› (.inr (bt ‹_›)) ‹_›).1
  |exact b2p ‹_› ‹_› ‹_› ‹_› ‹_› ‹_›
  |exact b2q hs ‹_› ‹_› ‹_› ‹_› ‹_›
  |exact b2r ‹_› ‹_› ‹_› ‹_›
  |exact b2s hs ‹_› ‹_› ‹_›
  |((try simp only[AS]);omega)
  |(have hq:=b2u (show mkQ _ _ _ _ _ by assumption);(try simp only[AS]);omega)
  |(have hq:=b2t hs (show csJ _ _ _ _ _ _ _ _ by assumption);(try simp only[Ba,List.length_append,List.length_cons,List.length_nil]);omega)
  |skip
 all_goals first
  |exact(a1P hs h4 ‹_› ‹_› ‹_› ‹_› (bf ‹_›) (bf ‹_›) ‹_›).2
  |exact(RH h4 ‹_› ‹_› ‹_› ‹_› (.inl (bt ‹_›)) ‹_›).2
  |exact(RH h4 ‹_› ‹_› ‹_› ‹_› (.inr (bt ‹_›)) ‹_›).2
  |(simp only[VA];done)
  |skip
 all_goals(try(repeat(rename(BI _)[_]? =some _=>hq;revert hq;rename(BI _)[_]? =some _=>hr;intro hq;rw[hr] at hq;cases hq)))
 all_goals first
  |exact(VB ‹_› ‹_› ‹_› ‹_›).1
  |exact(Kh ‹_› ‹_› ‹_› ‹_›).1
  |exact(Kh ‹_› ‹_› ‹_› ‹_›).2.1
  |exact(Kh ‹_› ‹_› ‹_› ‹_›).2.2.1
  |exact(Kh ‹_› ‹_› ‹_› ‹_›).2.2.2
  |(rw[Dw ‹_›];done)
  |skip)
def Lv(n:Nat):Sig:= {X:=ST×Int×Int×Bool×List Nd,args:=fun x=>[srd x.1 (xg x)],pre:=fun x=>vQ 10 (n+1) x.1 (xg x),Y:=Int×Int×Int×Bool×List Nd,post:=fun x y=>Ah x.1.sg (xg x) (pE x.1.sg (n+1) .pick) (yS y),res:=fun x y=> .int .i64 y.1,outs:=fun x y=>[srd x.1 (yG y.2)],keep:=true}
theorem b2C(n:Nat)(h:qAll G n):Am G Tryz.prog 88 (Lv n):=
 vcFun_okP [(103,0,(HO n)),(45,0,Cd),(88,0,(GM n)),(44,0,BP),(25,0,Bn)] [(47,⟨Int,Bw⟩)] false (fun x=>[]) Tryz.func88 rfl (by decide) ⟨h.chain,Hl,h.pick,HL,Hm,trivial⟩ (fun(x:ST×Int×Int×Bool×List Nd)=>True∧Aa (xg x).bad (rA (Lv n) x [.int .i64 (0:Int),srd x.1 (xg x)]) (inR IntKind.i64 ((xg x).deep+(1:Int))∧Aa (decide ((xg x).deep+(1:Int)>(20:Int))) (cA (HO n) [.box 0 [sgs x.1.sg,.int .i64 (xg x).pos,.bool true,.int .i64 ((xg x).deep+(1:Int)),Bd (xg x).nodes],.int .i64 (0:Int)] fun x_1 y=>cA Cd [srd x_1.1 (yG y.2),.str #[(63:UInt8)].toList] fun x_2 y_1=>Aa (isG x_2.1.sg (xh x_2) (4:Int) x_2.2.2.2.2.2) (cA (GM n) [srd x_2.1 (Ax x_2.1.sg (xh x_2) x_2.2.2.2.2.2)] fun x_3 y_2=>cA BP [srd x_3.1 (yG y_2.2),.str #[(58:UInt8)].toList] fun x_4 y_3=>cA (GM n) [srd x_4.1 (Av x_4.1.sg (xh x_4) x_4.2.2.2.2.2)] fun x_5 y_4=>∃(x_6:Int),y.1=x_6∧∃(x_7:Int),y_2.1=x_7∧∃(x_8:Int),y_4.1=x_8∧cA Bn [srd x_5.1 (yG y_4.2),.int .i64 (8:Int),.str #[].toList,Ab [x_6,x_7,x_8]] fun x_9 y=>inR IntKind.i64 ((As (xh x_9) {kind:=x_9.2.2.2.2.2.1,text:=x_9.2.2.2.2.2.2.1,kids:=x_9.2.2.2.2.2.2.2,blank:=false}).deep-(1:Int))∧rA (Lv n) x [.int .i64 (AX (xh x_9)),.box 0 [sgs x_9.1.sg,.int .i64 (As (xh x_9) {kind:=x_9.2.2.2.2.2.1,text:=x_9.2.2.2.2.2.2.1,kids:=x_9.2.2.2.2.2.2.2,blank:=false}).pos,.bool (As (xh x_9) {kind:=x_9.2.2.2.2.2.1,text:=x_9.2.2.2.2.2.2.1,kids:=x_9.2.2.2.2.2.2.2,blank:=false}).bad,.int .i64 ((As (xh x_9) {kind:=x_9.2.2.2.2.2.1,text:=x_9.2.2.2.2.2.2.1,kids:=x_9.2.2.2.2.2.2.2,blank:=false}).deep-(1:Int)),Bd (As (xh x_9) {kind:=x_9.2.2.2.2.2.1,text:=x_9.2.2.2.2.2.2.1,kids:=x_9.2.2.2.2.2.2.2,blank:=false}).nodes]]) (inR IntKind.i64 ((Ax x_2.1.sg (xh x_2) x_2.2.2.2.2.2).deep-(1:Int))∧rA (Lv n) x [.int .i64 y.1,.box 0 [sgs x_2.1.sg,.int .i64 (Ax x_2.1.sg (xh x_2) x_2.2.2.2.2.2).pos,.bool (Ax x_2.1.sg (xh x_2) x_2.2.2.2.2.2).bad,.int .i64 ((Ax x_2.1.sg (xh x_2) x_2.2.2.2.2.2).deep-(1:Int)),Bd (Ax x_2.1.sg (xh x_2) x_2.2.2.2.2.2).nodes]])) (cA (HO n) [.box 0 [sgs x.1.sg,.int .i64 (xg x).pos,.bool (xg x).bad,.int .i64 ((xg x).deep+(1:Int)),Bd (xg x).nodes],.int .i64 (0:Int)] fun x_1 y=>cA Cd [srd x_1.1 (yG y.2),.str #[(63:UInt8)].toList] fun x_2 y_1=>Aa (isG x_2.1.sg (xh x_2) (4:Int) x_2.2.2.2.2.2) (cA (GM n) [srd x_2.1 (Ax x_2.1.sg (xh x_2) x_2.2.2.2.2.2)] fun x_3 y_2=>cA BP [srd x_3.1 (yG y_2.2),.str #[(58:UInt8)].toList] fun x_4 y_3=>cA (GM n) [srd x_4.1 (Av x_4.1.sg (xh x_4) x_4.2.2.2.2.2)] fun x_5 y_4=>∃(x_6:Int),y.1=x_6∧∃(x_7:Int),y_2.1=x_7∧∃(x_8:Int),y_4.1=x_8∧cA Bn [srd x_5.1 (yG y_4.2),.int .i64 (8:Int),.str #[].toList,Ab [x_6,x_7,x_8]] fun x_9 y=>inR IntKind.i64 ((As (xh x_9) {kind:=x_9.2.2.2.2.2.1,text:=x_9.2.2.2.2.2.2.1,kids:=x_9.2.2.2.2.2.2.2,blank:=false}).deep-(1:Int))∧rA (Lv n) x [.int .i64 (AX (xh x_9)),.box 0 [sgs x_9.1.sg,.int .i64 (As (xh x_9) {kind:=x_9.2.2.2.2.2.1,text:=x_9.2.2.2.2.2.2.1,kids:=x_9.2.2.2.2.2.2.2,blank:=false}).pos,.bool (As (xh x_9) {kind:=x_9.2.2.2.2.2.1,text:=x_9.2.2.2.2.2.2.1,kids:=x_9.2.2.2.2.2.2.2,blank:=false}).bad,.int .i64 ((As (xh x_9) {kind:=x_9.2.2.2.2.2.1,text:=x_9.2.2.2.2.2.2.1,kids:=x_9.2.2.2.2.2.2.2,blank:=false}).deep-(1:Int)),Bd (As (xh x_9) {kind:=x_9.2.2.2.2.2.1,text:=x_9.2.2.2.2.2.2.1,kids:=x_9.2.2.2.2.2.2.2,blank:=false}).nodes]]) (inR IntKind.i64 ((Ax x_2.1.sg (xh x_2) x_2.2.2.2.2.2).deep-(1:Int))∧rA (Lv n) x [.int .i64 y.1,.box 0 [sgs x_2.1.sg,.int .i64 (Ax x_2.1.sg (xh x_2) x_2.2.2.2.2.2).pos,.bool (Ax x_2.1.sg (xh x_2) x_2.2.2.2.2.2).bad,.int .i64 ((Ax x_2.1.sg (xh x_2) x_2.2.2.2.2.2).deep-(1:Int)),Bd (Ax x_2.1.sg (xh x_2) x_2.2.2.2.2.2).nodes]])))) (fun x=>by kernel_rfl) fun(x:ST×Int×Int×Bool×List Nd) (hx:vQ 10 (n+1) x.1 (xg x))=>(by
 dsimp only[cA,Bx,Ab,Bd,rA,HO,Cd,GM,Lv,Bn,BP,Bv,sgs,srd,Aw,AR,mvL,lnL,mvE,lnE]
 obtain⟨s,p,d,b,ns⟩:=x;dsimp only[xg,xh] at hx ⊢
 have hx:vQ 10 (n+1) s ⟨p,d,b,ns⟩:=hx
 have h1:=hx.1.1.1;have h2:=hx.1.1.2;have h3:=hx.1.2;have hs:=h1.1;dsimp only at h2 h3
 (repeat' first|(with_reducible first|rfl|exact True.intro|apply AM|apply And.intro|((first|apply AC|apply AK|apply AD|apply AL)<;>intro _))|(apply AB<;>intro _)|apply AJ|refine Ag () ?_ ?_|((first|apply AQ|apply AP|apply AO|apply AN|apply AI|apply AH|apply AG|apply AF|apply AE)<;>try dsimp only)|apply Ag|(refine Prod.forall.2 ?_;intro _;try dsimp only)|(intro _;try dsimp only))
 all_goals(try dsimp only[xg,xh,yG,yS,iG,iF] at*)
 all_goals(try simp only[Gk] at*)
 all_goals(try(first|(have hz:=b2v (b:=b) h2 ‹_› (show Ah s.sg ⟨p,d+1,true,ns⟩ (pE s.sg n (.chain _)) _ by assumption))|(have hz:=b2w ‹_› (show Ah s.sg ⟨p,d+1,b,ns⟩ (pE s.sg n (.chain _)) _ by assumption))))
 all_goals first
  |rfl
  |assumption
  |exact a1z h1.2 ‹_›
  |exact b2x hx ‹_›
  |exact b2y hx ‹_›
  |exact Fi h1 hz
  |(clear hz;exact Fi h1 ‹_›)
  |exact⟨a0O h1 h2 h3 hz ‹_›,hx.2⟩
  |exact⟨a9L h1 h2 h3 hz ‹_› ‹_›,hx.2⟩
  |exact a9M h1 h2 hz ‹_› ‹_› ‹_›
  |exact a9N h1 h2 hz ‹_›
  |(have hq:=a9O h1 hz ‹_›;(try dsimp only at hq);(try simp only[AS]);omega)
  |(have hq:=a9P (show Ah s.sg (Av s.sg _ _) _ _ by assumption);(try dsimp only at hq);(try simp only[AS,Vn]);omega)
  |(have hq:=(GH h1).1.2;dsimp only at hq;(try simp only[AS]);omega)
  |skip)
def RI(n:Nat):Sig:= {X:=ST×Int×Int×Bool×List Nd,args:=fun x=>[srd x.1 (xg x)],pre:=fun x=>vQ 11 (n+1) x.1 (xg x),Y:=Int×Int×Int×Bool×List Nd,post:=fun x y=>Ah x.1.sg (xg x) (pE x.1.sg (n+1) .value) (yS y),res:=fun x y=> .int .i64 y.1,outs:=fun x y=>[srd x.1 (yG y.2)],keep:=true}
def RJ(n:Nat)(x:ST×Int×Int×Bool×List Nd):LS:= {ι:=Int×Int×Bool×List Nd×List Int×Nat,inv:=fun i=>vaJ x.1.sg n (xg x) (iG i) i.2.2.2.2.1 i.2.2.2.2.2,regs:=fun i=>[(0,srd x.1 (iG i)),(4,Ab i.2.2.2.2.1)],als:=[],meas:=fun i=>i.2.2.2.2.2}
theorem b2D(n:Nat)(h:qAll G n):Am G Tryz.prog 78 (RI n):=
 vcFun_okP [(88,0,(GM n)),(77,0,DU),(45,0,Cd),(41,0,CC),(25,0,Bn),(44,0,BP),(89,0,(Gm n))] [(47,⟨Int,Bw⟩)] false (fun x=>[(5,RJ n x)]) Tryz.func78 rfl (by decide) ⟨h.pick,Pa,Hl,Kg,Hm,HL,(VF n h),trivial⟩ (fun(x:ST×Int×Int×Bool×List Nd)=>True∧cA (GM n) [srd x.1 (xg x)] fun x_1 y=>cA DU [srd x_1.1 (yG y.2),.int .i64 (4:Int),.str #[(46:UInt8),(46:UInt8)].toList] fun x_2 y_1=>Aa (!isG x_2.1.sg (xh x_2) x_2.2.2.2.2.2.1 x_2.2.2.2.2.2.2) (rA (RI n) x [.int .i64 y.1,srd x_2.1 (xh x_2)]) (∃(x_3:Int),y.1=x_3∧eA (RJ n x) [srd x_2.1 (xh x_2),Ab [x_3]]∧∀(i:Int×Int×Bool×List Nd×List Int×Nat),vaJ x.1.sg n (xg x) (iG i) i.2.2.2.2.1 i.2.2.2.2.2→cA Cd [srd x.1 (iG i),.str #[(46:UInt8),(46:UInt8)].toList] fun x_4 y=>Aa (isG x_4.1.sg (xh x_4) (4:Int) x_4.2.2.2.2.2) (cA CC [srd x_4.1 (Ax x_4.1.sg (xh x_4) x_4.2.2.2.2.2),.int .i64 (1:Int)] fun x_5 y=>cA Bn [srd x_5.1 (Bg x_5.1.sg (xh x_5) x_5.2.2.2.2.2),.int .i64 (1:Int),.str (BA x_5.1.sg (xh x_5) x_5.2.2.2.2.2),Ab []] fun x_6 y=>cA BP [srd x_6.1 (As (xh x_6) {kind:=x_6.2.2.2.2.2.1,text:=x_6.2.2.2.2.2.2.1,kids:=x_6.2.2.2.2.2.2.2,blank:=false}),.str #[(40:UInt8)].toList] fun x_7 y=>∃(x_8:Int),AX (xh x_6)=x_8∧cA (Gm n) [srd x_7.1 (Av x_7.1.sg (xh x_7) x_7.2.2.2.2.2),.str #[(41:UInt8)].toList,Ab [x_8]] fun x_9 y=>cA Bn [srd x_9.1 (yG y.2),.int .i64 (5:Int),.str #[].toList,Ab y.1] fun x_10 y=>∃(x_11:Int),AX (xh x_10)=x_11∧∃(zs:List Int),Ab [x_11]=Ab zs∧Bu Bw∧Ba (List.length i.2.2.2.2.1+List.length zs) (8:Nat)∧eN (RJ n x) i [srd x_10.1 (As (xh x_10) {kind:=x_10.2.2.2.2.2.1,text:=x_10.2.2.2.2.2.2.1,kids:=x_10.2.2.2.2.2.2.2,blank:=false}),Ab (i.2.2.2.2.1++zs)]) (cA Bn [srd x_4.1 (Ax x_4.1.sg (xh x_4) x_4.2.2.2.2.2),.int .i64 (10:Int),.str #[].toList,Ab i.2.2.2.2.1] fun x_5 y=>rA (RI n) x [.int .i64 (AX (xh x_5)),srd x_5.1 (As (xh x_5) {kind:=x_5.2.2.2.2.2.1,text:=x_5.2.2.2.2.2.2.1,kids:=x_5.2.2.2.2.2.2.2,blank:=false})]))) (fun x=>by kernel_rfl) fun(x:ST×Int×Int×Bool×List Nd) (hx:vQ 11 (n+1) x.1 (xg x))=>(by
 dsimp only[cA,eA,eN,RJ,Bx,Ab,Bd,rA,DU,Cd,GM,Bn,CC,RI,Gm,BP,Bv,sgs,srd,Aw,AR,mvL,lnL,mvE,lnE,Br]
 obtain⟨s,p,d,b,ns⟩:=x;dsimp only[xg,xh] at hx ⊢
 have hx:vQ 11 (n+1) s ⟨p,d,b,ns⟩:=hx
 have h1:=hx.1.1.1;have h2:=hx.1.1.2;have h3:=hx.1.2;have hs:=h1.1;dsimp only at h2 h3
 (repeat' first|(with_reducible first|rfl|exact True.intro|apply AM|apply And.intro|((first|apply AC|apply AK|apply AD|apply AL)<;>intro _))|(apply AB<;>intro _)|apply AJ|refine Ag () ?_ ?_|((first|apply AQ|apply AP|apply AO|apply AN|apply AI|apply AH|apply AG|apply AF|apply AE)<;>try dsimp only)|apply Ag|(refine Prod.forall.2 ?_;intro _;try dsimp only)|(intro _;try dsimp only))
 all_goals(try dsimp only[xg,xh,yG,yS,iG] at*)
 all_goals(try simp only[Gk] at*)
 all_goals first
  |(show Nat;skip)
  |rfl
  |assumption
  |exact⟨a9Q h1 h2 h3,hx.2⟩
  |exact Fi h1 ‹_›
  |exact a9R h1 ‹_› ‹_›
  |exact a9S h1 h2 ‹_› ‹_›
  |exact Vo h1 ‹_›
  |exact(VL hs ‹_›).1
  |exact(VL hs ‹_›).2.1
  |exact(VL hs ‹_›).2.2
  |exact b2z hx ‹_› ‹_›
  |exact VI hs ‹_›
  |exact(a1Q hs ‹_› ‹_› ‹_›).1
  |exact a9U h1 ‹_› ‹_›
  |exact a9V h1 ‹_› ‹_›
  |omega
  |(simp;done)
  |(have hq:=a9T hs (show vaJ _ _ _ _ _ _ by assumption);(try simp only[Ba,List.length_append,List.length_cons,List.length_nil]);omega)
  |skip
 all_goals first
  |exact(a1Q hs ‹_› ‹_› ‹_›).2
  |skip)
theorem VM{r:Nat}{s:ST}{g:Gs}(hr:1≤r)(h:wQ r 0 s g):False:=b0C hr h.1
theorem a1R{r:Nat}{s:ST}{g:Gs}(hr:1≤r)(h:vQ r 0 s g):False:=b0D hr h.1
theorem b2E:qAll G 0:=
 ⟨Lq Tryz.func78 rfl (by decide) (fun x h=>a1R (by omega) h),Lq Tryz.func88 rfl (by decide) (fun x h=>a1R (by omega) h),
  Lq Tryz.func103 rfl (by decide) (fun x h=>VM (by have:=h.2;omega) h.1),Lq Tryz.func117 rfl (by decide) (fun x h=>VM (by omega) h),Lq Tryz.func128 rfl (by decide) (fun x h=>VM (by omega) h)⟩
theorem b2F(n:Nat):qAll G n:=by
 induction n with
 |zero=>exact b2E
 |succ n ih=>exact⟨b2D n ih,b2C n ih,b2B n ih,b2j n ih,b2i n ih⟩
def FT:Sig:= {X:=ST×Int×Int×Bool×List Nd,args:=fun x=>[srd x.1 (xg x)],pre:=fun x=>okD x.1 (xg x)∧sgM x.1.sg,Y:=Int×Int×Int×Bool×List Nd,post:=fun x y=>Ah x.1.sg (xg x) (Cg x.1.sg) (yS y),res:=fun x y=> .int .i64 y.1,outs:=fun x y=>[srd x.1 (yG y.2)],keep:=true}
theorem a1S{s:ST}{g:Gs}(h:okD s g∧sgM s.sg):vQ 11 peN s g:=⟨b0E h.1,h.2⟩
theorem VN:Am G Go.Proofs.Tryz.prog 78 FT:=
 have c:=(b2F (G:=G) peN).val
 ⟨⟨c.1.1,fun x y hx hy=>c.1.2 x y (a1S hx) hy⟩,fun x hx=>c.2 x (a1S hx)⟩
end Go.My
end
