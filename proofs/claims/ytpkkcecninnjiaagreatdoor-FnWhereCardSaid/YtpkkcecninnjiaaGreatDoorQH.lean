/- joined -/
import Derived.Test.YtpkkcecninnjiaaGreatDoorQG
set_option linter.unusedSimpArgs false
set_option linter.unusedVariables false
section
namespace Go.My
open Go.Eng Go.Proofs
variable {G:GInv}
variable {e:Sg}{g:Gs}{k:Int}{sg:List Sg}
def srd(s:ST)(g:Gs):AV:= .box 0 [sgs s.sg,.int .i64 g.pos,.bool g.bad,.int .i64 g.deep,BJ g.nodes]
theorem b0n(h:g.bad=true∨(sg.length:Int)≤g.pos):pkG sg g 0=Gv:=c0n (by simpa using h)
theorem a2M(he:sg[g.pos.toNat]? =some e)(hb:g.bad=false)(hl:g.pos<sg.length):pkG sg g 0=e:=c0o (by simpa using he) hb (by omega)
theorem b0o{t:Aa}(hk:k≠0)(h:g.bad=true∨(sg.length:Int)≤g.pos):isG sg g k t=false:=by
 simp [isG,b0n h,Gv,Ne.symm hk]
theorem c2S{t:Aa}(he:sg[g.pos.toNat]? =some e)(hb:g.bad=false)(hl:g.pos<sg.length):isG sg g k t=(decide (e.kind=k)&&(e.text==t)):=by
 rw[isG,a2M he hb hl]
def kdG(sg:List Sg)(g:Gs)(k:Int):Bool:=decide ((pkG sg g 0).kind=k)&&(decide (k≠1)|| !kw (pkG sg g 0).text)
theorem RJ(hk:k≠0)(h:g.bad=true∨(sg.length:Int)≤g.pos):kdG sg g k=false:=by
 simp [kdG,b0n h,Gv,Ne.symm hk]
theorem b0p(he:sg[g.pos.toNat]? =some e)(hb:g.bad=false)(hl:g.pos<sg.length):kdG sg g k=(decide (e.kind=k)&&(decide (k≠1)|| !kw e.text)):=by
 rw[kdG,a2M he hb hl]
theorem Ls:kdG sg g 1=nmG sg g 0:=by simp [kdG,nmG]
theorem XF(hk:k≠0)(h:kdG sg g k=true):g.bad=false∧g.pos<sg.length:=by
 cases hb:g.bad with
 |true=>rw[RJ hk (.inl hb)] at h;cases h
 |false=>
  refine⟨rfl,?_⟩
  rcases Int.lt_or_le g.pos sg.length with hh|hh
  ·exact hh
  ·rw[RJ hk (.inr hh)] at h;cases h
theorem c2T{e:Nd}{b:Bool}{q:Nd→Prop}(h:q ⟨e.kind,e.text,e.kids,b⟩):
 ∃x':Nd,([AV.int IntKind.i64 x'.kind,AV.str x'.text,AV.sl true 0 1 Int BE x'.kids]=[AV.int IntKind.i64 e.kind,AV.str e.text,AV.sl true 0 1 Int BE e.kids]∧(@List.nil AV)=[])∧b=x'.blank∧q x':=
 ⟨⟨e.kind,e.text,e.kids,b⟩,⟨rfl,rfl⟩,rfl,h⟩
def Cc(sg:List Sg)(g:Gs)(m:Aa):Gs:=if isG sg g 1 m then Au g else g
def Bi(sg:List Sg)(g:Gs)(k:Int):Gs:=if kdG sg g k then Au g else Bw g
def BK(sg:List Sg)(g:Gs)(k:Int):Aa:=if kdG sg g k then(pkG sg g 0).text else []
def gBl(g:Gs)(k:Int)(b:Bool):Gs:=if g.bad=false∧k<g.nodes.length then⟨g.pos,g.deep,g.bad,g.nodes.set k.toNat ⟨(Ab g.nodes k).kind,(Ab g.nodes k).text,(Ab g.nodes k).kids,b⟩⟩ else g
theorem c2U{b:Bool}{e:Nd}(he:g.nodes[k.toNat]? =some e)(hb:g.bad=false)(hk:k<g.nodes.length):g.nodes.set k.toNat ⟨e.kind,e.text,e.kids,b⟩=(gBl g k b).nodes:=by
 rw[gBl,if_pos ⟨hb,hk⟩,BR he]
def blG(sg:List Sg)(g:Gs):Bool:=decide (g.pos<sg.length)&&(sgO sg g.pos).blank
theorem c2V(he:sg[(g.pos+1-1).toNat]? =some e)(hk:k≠0)(h:kdG sg g k=true):e.text=BK sg g k:=by
 obtain⟨hb,hl⟩:=XF hk h
 rw[BK,if_pos h,a2M (by rw[show g.pos=g.pos+1-1 by omega];exact he) hb hl]
def Fs:Sig:=⟨ST×Int×Int×Bool×List Nd×Int×Aa,fun x=>[srd x.1 (xh x),.q x.2.2.2.2.2.1,.str x.2.2.2.2.2.2],fun x=>rOk x.1 (xh x)∧x.2.2.2.2.2.1≠0,Unit,fun x y=>True,fun x y=> .bool (isG x.1.sg (xh x) x.2.2.2.2.2.1 x.2.2.2.2.2.2),fun x y=>[srd x.1 (xh x),.top,.top],true,[],[]⟩
theorem UD:CtG G 77 Fs:=
 vFq [] [] (fun x=>[]) Tryz.func77 trivial (fun x=>True∧true=true∧true=true∧Ae (!(xh x).bad) (Ae (decide ((xh x).pos<(nL x.1.sg))) ((0≤(xh x).pos∧(xh x).pos<(nL x.1.sg))∧∀(e:Sg),x.1.sg[Int.toNat (xh x).pos]? =some e→Ae (e.kind==(G5 x)) ((0≤(xh x).pos∧(xh x).pos<(nL x.1.sg))∧∀(e:Sg),x.1.sg[Int.toNat (xh x).pos]? =some e→rA Fs x [.bool (e.text==(Z6 x)),srd x.1 (xh x),.top,.top]) (rA Fs x [.bool false,srd x.1 (xh x),.top,.top])) (rA Fs x [.bool false,srd x.1 (xh x),.top,.top])) (rA Fs x [.bool false,srd x.1 (xh x),.top,.top])) (by kernel_rfl) fun(x:ST×Int×Int×Bool×List Nd×Int×Aa) (hx:rOk x.1 (xh x)∧x.2.2.2.2.2.1≠0)=>(by
 dsimp only[nL,G5,Z6,Ce,BJ,rA,Fs,CD,sgs,srd,AB,AF,AV.q]
 obtain⟨s,p,d,b,ns,k,m⟩:=x;dsimp only[xg,xh] at hx ⊢
 obtain⟨h1,h2⟩:=hx;have hs:=IQ h1;dsimp only at hs
 (repeat' first|(with_reducible first|rfl|exact⟨⟩|apply AG|apply AM)|apply AL|(apply AK<;>try dsimp only)|apply AJ|((try refine AH.2 ?_);intro _;try dsimp only))
 all_goals(try(repeat(rename s.sg[_]? =some _=>hq;revert hq;rename s.sg[_]? =some _=>hr;intro hq;rw[hr] at hq;cases hq)))
 all_goals first
  |rfl
  |exact(b0o h2 (.inl ‹_›)).symm
  |exact(b0o h2 (.inr (by simp only;omega))).symm
  |(rw[c2S ‹_› ‹_› (by simp only;omega)];simp [*];done)
  |((try simp only[Aw]);omega)
  |skip)
def Cw:Sig:=⟨ST×Int×Int×Bool×List Nd×Aa,fun x=>[srd x.1 (xh x),.str x.2.2.2.2.2],fun x=>rOk x.1 (xh x),Unit,fun x y=>True,fun x y=> .bool (isG x.1.sg (xh x) 4 x.2.2.2.2.2),fun x y=>[srd x.1 (AA x.1.sg (xh x) x.2.2.2.2.2),.top],true,[],[]⟩
theorem JP:CtG G 52 Cw:=
 vFq [(77,0,Fs)] [] (fun x=>[]) Tryz.func52 ⟨UD,trivial⟩ (fun x=>True∧cA Fs [srd x.1 (xh x),.q 4,.str (Z5 x)] fun x_1 y=>Ae (isG x_1.1.sg (xh x_1) (G5 x_1) (Z6 x_1)) (inR .i64 ((xh x_1).pos+1)∧rA Cw x [.bool true,.box 0 [sgs x_1.1.sg,.q ((xh x_1).pos+1),.bool (xh x_1).bad,.q (xh x_1).deep,BJ (xh x_1).nodes],.top]) (rA Cw x [.bool false,srd x_1.1 (xh x_1),.top])) (by kernel_rfl) fun(x:ST×Int×Int×Bool×List Nd×Aa) (hx:rOk x.1 (xh x))=>(by
 dsimp only[G5,Z5,Z6,cA,Ce,BJ,rA,Fs,Cw,CD,sgs,srd,AB,AF,mvL,lnL,mvE,lnE,AV.q]
 obtain⟨s,p,d,b,ns,m⟩:=x;dsimp only[xg,xh] at hx ⊢
 have hx:rOk s ⟨p,d,b,ns⟩:=hx;have hs:=IQ hx;dsimp only at hs
 (repeat' first|(with_reducible first|rfl|exact⟨⟩|apply AG|apply AM)|apply AL|(apply AK<;>try dsimp only)|apply AJ|((try refine AH.2 ?_);intro _;try dsimp only))
 all_goals first
  |rfl
  |exact hx
  |omega
  |(simp [AA,Au, *];done)
  |((try simp only[Aw]);omega)
  |skip)
def FX:Sig:=⟨ST×Int×Int×Bool×List Nd×Aa,fun x=>[srd x.1 (xh x),.str x.2.2.2.2.2],fun x=>rOk x.1 (xh x),Unit,fun x y=>True,fun x y=> .bool (isG x.1.sg (xh x) 1 x.2.2.2.2.2),fun x y=>[srd x.1 (Cc x.1.sg (xh x) x.2.2.2.2.2),.top],true,[],[]⟩
theorem a2N:CtG G 49 FX:=
 vFq [(77,0,Fs)] [] (fun x=>[]) Tryz.func49 ⟨UD,trivial⟩ (fun x=>True∧cA Fs [srd x.1 (xh x),.q 1,.str (Z5 x)] fun x_1 y=>Ae (isG x_1.1.sg (xh x_1) (G5 x_1) (Z6 x_1)) (inR .i64 ((xh x_1).pos+1)∧rA FX x [.bool true,.box 0 [sgs x_1.1.sg,.q ((xh x_1).pos+1),.bool (xh x_1).bad,.q (xh x_1).deep,BJ (xh x_1).nodes],.top]) (rA FX x [.bool false,srd x_1.1 (xh x_1),.top])) (by kernel_rfl) fun(x:ST×Int×Int×Bool×List Nd×Aa) (hx:rOk x.1 (xh x))=>(by
 dsimp only[G5,Z5,Z6,cA,Ce,BJ,rA,Fs,FX,CD,sgs,srd,AB,AF,mvL,lnL,mvE,lnE,AV.q]
 obtain⟨s,p,d,b,ns,m⟩:=x;dsimp only[xg,xh] at hx ⊢
 have hx:rOk s ⟨p,d,b,ns⟩:=hx;have hs:=IQ hx;dsimp only at hs
 (repeat' first|(with_reducible first|rfl|exact⟨⟩|apply AG|apply AM)|apply AL|(apply AK<;>try dsimp only)|apply AJ|((try refine AH.2 ?_);intro _;try dsimp only))
 all_goals first
  |rfl
  |exact hx
  |omega
  |(simp [Cc,Au, *];done)
  |((try simp only[Aw]);omega)
  |skip)
def Ct:Sig:=⟨ST×Int×Int×Bool×List Nd×Aa,fun x=>[srd x.1 (xh x),.str x.2.2.2.2.2],fun x=>rOk x.1 (xh x),Unit,fun x y=>True,fun x y=> .tup [],fun x y=>[srd x.1 (Ax x.1.sg (xh x) x.2.2.2.2.2),.top],true,[],[]⟩
theorem Ky:CtG G 51 Ct:=
 vFq [(52,0,Cw)] [] (fun x=>[]) Tryz.func51 ⟨JP,trivial⟩ (fun x=>True∧cA Cw [srd x.1 (xh x),.str (Z5 x)] fun x_1 y=>Ae (!isG x_1.1.sg (xh x_1) (4:Int) (Z5 x_1)) (rA Ct x [.tup [],.box 0 [sgs x_1.1.sg,.q (AA x_1.1.sg (xh x_1) (Z5 x_1)).pos,.bool true,.q (AA x_1.1.sg (xh x_1) (Z5 x_1)).deep,BJ (AA x_1.1.sg (xh x_1) (Z5 x_1)).nodes],.top]) (rA Ct x [.tup [],srd x_1.1 (AA x_1.1.sg (xh x_1) (Z5 x_1)),.top])) (by kernel_rfl) fun(x:ST×Int×Int×Bool×List Nd×Aa) (hx:rOk x.1 (xh x))=>(by
 dsimp only[Z5,cA,Ce,BJ,rA,Cw,Ct,CD,sgs,srd,AB,AF,mvL,lnL,mvE,lnE,AV.q]
 obtain⟨s,p,d,b,ns,m⟩:=x;dsimp only[xg,xh] at hx ⊢
 have hx:rOk s ⟨p,d,b,ns⟩:=hx;have hs:=IQ hx;dsimp only at hs
 (repeat' first|(with_reducible first|rfl|exact⟨⟩|apply AG|apply AM)|apply AL|(apply AK<;>try dsimp only)|apply AJ|((try refine AH.2 ?_);intro _;try dsimp only))
 all_goals first
  |rfl
  |exact hx
  |(simp [Ax,AA,Au,Bw, *];done)
  |((try simp only[Aw]);omega)
  |skip)
def Ft:Sig:=⟨ST×Int×Int×Bool×List Nd×Int,fun x=>[srd x.1 (xh x),.q x.2.2.2.2.2],fun x=>rOk x.1 (xh x)∧x.2.2.2.2.2≠0,Unit,fun x y=>True,fun x y=> .bool (kdG x.1.sg (xh x) x.2.2.2.2.2),fun x y=>[srd x.1 (xh x),.top],true,[],[]⟩
theorem XG:CtG G 47 Ft:=
 vFq [(76,0,HW)] [] (fun x=>[]) Tryz.func47 ⟨a2e,trivial⟩ (fun x=>True∧true=true∧true=true∧Ae (!(xh x).bad) (Ae (decide ((xh x).pos<(nL x.1.sg))) ((0≤(xh x).pos∧(xh x).pos<(nL x.1.sg))∧∀(e:Sg),x.1.sg[Int.toNat (xh x).pos]? =some e→Ae (e.kind==(Z5 x)) (Ae ((Z5 x) != (1:Int)) (rA Ft x [.bool true,srd x.1 (xh x),.top]) ((0≤(xh x).pos∧(xh x).pos<(nL x.1.sg))∧∀(e:Sg),x.1.sg[Int.toNat (xh x).pos]? =some e→∃(x_1:Aa),True∧e.text=x_1∧∃(y0:Unit),(∀(y:Unit),True→AV.bool (kw x_1)=AV.bool (kw x_1))∧true=true∧rA Ft x [.bool !kw x_1,srd x.1 (xh x),.top])) (rA Ft x [.bool false,srd x.1 (xh x),.top])) (rA Ft x [.bool false,srd x.1 (xh x),.top])) (rA Ft x [.bool false,srd x.1 (xh x),.top])) (by kernel_rfl) fun(x:ST×Int×Int×Bool×List Nd×Int) (hx:rOk x.1 (xh x)∧x.2.2.2.2.2≠0)=>(by
 dsimp only[nL,Z5,Ce,BJ,rA,Ft,CD,sgs,srd,AB,AF,AV.q]
 obtain⟨s,p,d,b,ns,k⟩:=x;dsimp only[xg,xh] at hx ⊢
 obtain⟨h1,h2⟩:=hx;have hs:=IQ h1;dsimp only at hs
 (repeat' first|(with_reducible first|rfl|exact⟨⟩|apply AG|apply AM)|apply AL|(apply AK<;>try dsimp only)|apply AJ|((try refine AH.2 ?_);intro _;try dsimp only))
 all_goals(try(repeat(rename s.sg[_]? =some _=>hq;revert hq;rename s.sg[_]? =some _=>hr;intro hq;rw[hr] at hq;cases hq)))
 all_goals first
  |rfl
  |exact(RJ h2 (.inl ‹_›)).symm
  |exact(RJ h2 (.inr (by simp only;omega))).symm
  |(rw[b0p ‹_› ‹_› (by simp only;omega)];simp [*];done)
  |((try simp only[Aw]);omega)
  |skip)
def Dh:Sig:=⟨ST×Int×Int×Bool×List Nd×Int,fun x=>[srd x.1 (xh x),.q x.2.2.2.2.2],fun x=>rOk x.1 (xh x)∧x.2.2.2.2.2≠0,Unit,fun x y=>True,fun x y=> .str (BK x.1.sg (xh x) x.2.2.2.2.2),fun x y=>[srd x.1 (Bi x.1.sg (xh x) x.2.2.2.2.2),.top],true,[],[]⟩
theorem NR:CtG G 48 Dh:=
 vFq [(47,0,Ft)] [] (fun x=>[]) Tryz.func48 ⟨XG,trivial⟩ (fun x=>True∧cA Ft [srd x.1 (xh x),.q (Z5 x)] fun x_1 y=>Ae (!kdG x_1.1.sg (xh x_1) (Z5 x_1)) (rA Dh x [.str #[].toList,.box 0 [sgs x_1.1.sg,.q (xh x_1).pos,.bool true,.q (xh x_1).deep,BJ (xh x_1).nodes],.top]) (inR .i64 ((xh x_1).pos+1)∧true=true∧true=true∧inR .i64 ((xh x_1).pos+1-(1:Int))∧(0≤(xh x_1).pos+1-(1:Int)∧(xh x_1).pos+1-1<(nL x_1.1.sg))∧∀(e:Sg),x_1.1.sg[Int.toNat ((xh x_1).pos+1-(1:Int))]? =some e→rA Dh x [.str e.text,.box 0 [sgs x_1.1.sg,.q ((xh x_1).pos+1),.bool (xh x_1).bad,.q (xh x_1).deep,BJ (xh x_1).nodes],.top])) (by kernel_rfl) fun(x:ST×Int×Int×Bool×List Nd×Int) (hx:rOk x.1 (xh x)∧x.2.2.2.2.2≠0)=>(by
 dsimp only[nL,Z5,cA,Ce,BJ,rA,Ft,Dh,CD,sgs,srd,AB,AF,mvL,lnL,mvE,lnE,AV.q]
 obtain⟨s,p,d,b,ns,k⟩:=x;dsimp only[xg,xh] at hx ⊢
 obtain⟨h1,h2⟩:=hx;have hs:=IQ h1;dsimp only at hs
 (repeat' first|(with_reducible first|rfl|exact⟨⟩|apply AG|apply AM)|apply AL|(apply AK<;>try dsimp only)|apply AJ|((try refine AH.2 ?_);intro _;try dsimp only))
 all_goals first
  |rfl
  |exact h1
  |exact h2
  |(simp [Bi,BK,Au,Bw, *];done)
  |exact c2V ‹_› h2 ‹_›
  |(have hl:=XF h2 ‹kdG _ _ _=true›;dsimp only at hl;(try simp only[Aw]);omega)
  |((try simp only[Aw]);omega)
  |skip)
def BD:Sig:=⟨ST×Int×Int×Bool×List Nd×Int×Aa×Ad,fun x=>[srd x.1 (xh x),.q x.2.2.2.2.2.1,.str x.2.2.2.2.2.2.1,An x.2.2.2.2.2.2.2],fun x=>rOk x.1 (xh x),Unit,fun x y=>True,fun x y=> .q (AQ (xh x)),fun x y=>[srd x.1 (Av (xh x) ⟨x.2.2.2.2.2.1,x.2.2.2.2.2.2.1,x.2.2.2.2.2.2.2,false⟩),.top,.top,.top],true,[],[]⟩
theorem JQ:CtG G 35 BD:=
 vFq [] [(40,⟨Nd,ndA true⟩)] (fun x=>[]) Tryz.func35 trivial (fun x=>True∧Ae (xh x).bad (rA BD x [.q 0,.box 0 [sgs x.1.sg,.q (xh x).pos,.bool true,.q (xh x).deep,BJ (xh x).nodes],.top,.top,.top]) (Ae (decide ((↑((xh x).nodes.length):Int)≥(300:Int))) (rA BD x [.q 0,.box 0 [sgs x.1.sg,.q (xh x).pos,.bool true,.q (xh x).deep,BJ (xh x).nodes],.top,.top,.top]) (∃(x_1:Nd),(G5 x)=x_1.kind∧(G6 x)=x_1.text∧An (Z7 x)=An x_1.kids∧false=x_1.blank∧∃(zs:List Nd),BJ [x_1]=BJ zs∧Ca (ndA true)∧Bb ((xh x).nodes.length+zs.length) (56:Nat)∧inR .i64 ((↑(((xh x).nodes++zs).length):Int)-(1:Int))∧∃(y:Unit),True∧(↑(((xh x).nodes++zs).length):Int)-1=AQ (xh x)∧sgs x.1.sg=sgs x.1.sg∧(xh x).pos=(Av (xh x) {kind:=(G5 x),text:=(G6 x),kids:=(Z7 x),blank:=false}).pos∧(xh x).bad=(Av (xh x) {kind:=(G5 x),text:=(G6 x),kids:=(Z7 x),blank:=false}).bad∧(xh x).deep=(Av (xh x) {kind:=(G5 x),text:=(G6 x),kids:=(Z7 x),blank:=false}).deep∧BJ ((xh x).nodes++zs)=BJ (Av (xh x) {kind:=(G5 x),text:=(G6 x),kids:=(Z7 x),blank:=false}).nodes∧True))) (by kernel_rfl) fun(x:ST×Int×Int×Bool×List Nd×Int×Aa×Ad) (hx:rOk x.1 (xh x))=>(by
 dsimp only[G5,G6,Z7,Ce,An,BJ,rA,BD,CD,sgs,srd,AB,AF,AV.q]
 obtain⟨s,p,d,b,ns,k,t,ks⟩:=x;dsimp only[xg,xh] at hx ⊢
 have hx:rOk s ⟨p,d,b,ns⟩:=hx;have hs:=IQ hx;dsimp only at hs
 (repeat' first|refine c0m ?_|(with_reducible first|rfl|exact⟨⟩|apply AG|apply AM)|apply AL|(apply AK<;>try dsimp only)|apply AJ|((try refine AH.2 ?_);intro _;try dsimp only))
 all_goals first
  |rfl
  |(simp [Av,AQ,EZ,Bw, *];done)
  |(have hn:ns.length=300:=by omega
    simp [Av,AQ,EZ,Bw, *];done)
  |(have hn:ns.length≠300:=by omega
    simp [Av,AQ,EZ,Bw, *];done)
  |((try simp only[Aw,Bb,Ba,AE,AX]);omega)
  |skip)
def Ig:Sig:=⟨ST×Int×Int×Bool×List Nd,fun x=>[srd x.1 (xg x)],fun x=>rOk x.1 (xg x),Unit,fun x y=>True,fun x y=> .bool (blG x.1.sg (xg x)),fun x y=>[srd x.1 (xg x)],true,[],[]⟩
theorem XH:CtG G 32 Ig:=
 vFq [] [] (fun x=>[]) Tryz.func32 trivial (fun x=>True∧true=true∧true=true∧Ae (decide ((xg x).pos<(nL x.1.sg))) ((0≤(xg x).pos∧(xg x).pos<(nL x.1.sg))∧∀(e:Sg),x.1.sg[Int.toNat (xg x).pos]? =some e→rA Ig x [.bool e.blank,srd x.1 (xg x)]) (rA Ig x [.bool false,srd x.1 (xg x)])) (by kernel_rfl) fun(x:ST×Int×Int×Bool×List Nd) (hx:rOk x.1 (xg x))=>(by
 dsimp only[nL,Ce,BJ,rA,Ig,CD,sgs,srd,AB,AF]
 obtain⟨s,p,d,b,ns⟩:=x;dsimp only[xg,xh] at hx ⊢
 have hx:rOk s ⟨p,d,b,ns⟩:=hx;have hs:=IQ hx;dsimp only at hs
 (repeat' first|(with_reducible first|rfl|exact⟨⟩|apply AG|apply AM)|apply AL|(apply AK<;>try dsimp only)|apply AJ|((try refine AH.2 ?_);intro _;try dsimp only))
 all_goals first
  |rfl
  |(simp [blG,Ia ‹s.sg[_]? =some _›, *];done)
  |(simp [blG, *];done)
  |((try simp only[Aw]);omega)
  |skip)
def GA:Sig:=⟨ST×Int×Int×Bool×List Nd×Int×Bool,fun x=>[srd x.1 (xh x),.q x.2.2.2.2.2.1,.bool x.2.2.2.2.2.2],fun x=>rOk x.1 (xh x)∧((xh x).bad=false→0≤x.2.2.2.2.2.1),Unit,fun x y=>True,fun x y=> .tup [],fun x y=>[srd x.1 (gBl (xh x) x.2.2.2.2.2.1 x.2.2.2.2.2.2),.top,.top],true,[],[]⟩
theorem XI:CtG G 34 GA:=
 vFq [] [(40,⟨Nd,ndA true⟩)] (fun x=>[]) Tryz.func34 trivial (fun x=>True∧Ae (!(xh x).bad) (Ae (decide ((G5 x)<(↑((xh x).nodes.length):Int))) ((0≤(G5 x)∧(G5 x)<(↑((xh x).nodes.length):Int))∧Int.toNat (G5 x)<(xh x).nodes.length∧∀(x_1:Nd),(xh x).nodes[Int.toNat (G5 x)]? =some x_1→∃(x':Nd),([AV.q x'.kind,.str x'.text,An x'.kids]=[.q x_1.kind,.str x_1.text,An x_1.kids]∧(@List.nil AV)=[])∧(Z6 x)=x'.blank∧rA GA x [.tup [],.box 0 [sgs x.1.sg,.q (xh x).pos,.bool (xh x).bad,.q (xh x).deep,BJ (List.set (xh x).nodes (Int.toNat (G5 x)) x')],.top,.top]) (rA GA x [.tup [],srd x.1 (xh x),.top,.top])) (rA GA x [.tup [],srd x.1 (xh x),.top,.top])) (by kernel_rfl) fun(x:ST×Int×Int×Bool×List Nd×Int×Bool) (hx:rOk x.1 (xh x)∧((xh x).bad=false→0≤x.2.2.2.2.2.1))=>(by
 dsimp only[G5,Z6,Ce,An,BJ,rA,GA,CD,sgs,srd,AB,AF,AV.q]
 obtain⟨s,p,d,b,ns,k,bl⟩:=x;dsimp only[xg,xh] at hx ⊢
 obtain⟨hx,hk⟩:=hx
 have hx:rOk s ⟨p,d,b,ns⟩:=hx;have hs:=IQ hx;dsimp only at hs
 (repeat' first|refine c2T ?_|(with_reducible first|rfl|exact⟨⟩|apply AG|apply AM)|apply AL|(apply AK<;>try dsimp only)|apply AJ|((try refine AH.2 ?_);intro _;try dsimp only))
 all_goals first
  |rfl
  |(simp [gBl, *];done)
  |exact c2U (g:=⟨p,d,b,ns⟩) ‹_› ‹_› ‹_›
  |(have hk2:=hk ‹_›;(try simp only[Aw]);omega)
  |((try simp only[Aw]);omega)
  |skip)
end Go.My
end
section
namespace Go.My
open Go.Eng
variable {N l n:Nat}{f:Ps→PR}{g x y y':Gs}{i k:Int}{ks:Ad}{m t:Aa}{s:Ps}{sg:List Sg}{w:Nd}{z:Int×Gs}
theorem RK{k':Int}(h:Ag sg x f (k,y))(h1:gsOk sg y')(h2:y'.deep=y.deep)(h3:y.pos≤y'.pos)(h4:pur y'=pur y)(h5:y'.bad=false→k'=k):Ag sg x f (k',y'):=by
 obtain⟨⟨a1,a2,a3,a4,a5⟩,b⟩:=h
 simp only at a1 a2 a3 a4 a5 b
 have hb:y'.bad=y.bad:=by
  cases hy:y.bad with
  |true=>exact a9u.1 (h4.trans (Fp hy))
  |false=>
   cases hy':y'.bad with
   |false=>rfl
   |true=>rw[Fp hy',Ef hy] at h4;cases h4
 refine⟨⟨h1,by simp only;omega,by simp only;omega,by simp only;rw[h4];exact a4,fun p hp=> ?_⟩,fun hw=> ?_⟩
 ·simp only
  have:=a5 p hp
  rw[h5 ?_]
  ·exact this
  ·cases hy:y'.bad with
   |false=>rfl
   |true=>rw[←h4,Fp hy,hp] at a4;cases a4
 ·simp only at hw ⊢
  have:=b (by rw[←hb];exact hw);omega
theorem a2O{α:Type}{f g:Ps→Option (α×Ps)}{d:Int}(h:restP sg x f y g d)(h1:gsOk sg y')(h2:y'.deep=y.deep)(h3:y.pos≤y'.pos)(h4:pur y'=pur y):restP sg x f y' g d:=by
 obtain⟨a1,a2,a3,a4⟩:=h
 exact⟨h1,by omega,by omega,by rw[h4];exact a4⟩
theorem a2P(h:gsOk sg g)(hl:g.pos<sg.length)(hw:Ee w):gsOk sg (Av (Au g) w)∧(Av (Au g) w).deep=(Eh (Av g w)).deep∧(Eh (Av g w)).pos≤(Av (Au g) w).pos∧pur (Av (Au g) w)=pur (Eh (Av g w))∧AQ (Au g)=AQ g:=by
 refine⟨Us (Ib h hl) hw,?_⟩
 cases hf:EZ g with
 |true=>
  have hf2:EZ (Au g)=true:=hf
  simp only[Av,AQ,hf,hf2,BN]
  simp [Eh,Bw,Au,pur];omega
 |false=>
  have hf2:EZ (Au g)=false:=hf
  have:=(Xl hf).1
  simp only[Av,AQ,hf,hf2,Bl,Br]
  simp [Eh,Bw,Au,pur,this]
theorem Kz(hg:gsOk sg g)(hw:Ee w)(h:Ag sg x f (Dr sg g m,Dq sg g m w)):Ag sg x f (AQ (Ax sg g m),Av (Ax sg g m) w):=by
 cases hq:isG sg g 4 m with
 |true=>
  obtain⟨a,b,c,d,e⟩:=a2P hg (Eg hq (by omega)).2 hw
  simp only[Dq,Dr,Ax,hq,BN] at h ⊢
  exact RK h a b c d (fun _=>e)
 |false=>
  simp only[Dq,Dr,Ax,hq,Bl,Br] at h ⊢
  have hf:EZ (Bw g)=true:=by simp [EZ,Bw]
  simp only[Av,AQ,hf,BN]
  exact RK h hg rfl (Em _) rfl (fun _=>rfl)
theorem UE(hk:k≠1):kdG sg g k=decide ((pkG sg g 0).kind=k):=by simp [kdG,hk]
theorem RM{c:Int}(hs:sgB sg)(hg:gsOk sg g)(hk:k≠0)(hq:kdG sg g k=true)(h:Ag sg x f (AQ g,FT sg g c false)):Ag sg x f (AQ (Bi sg g k),Av (Bi sg g k) ⟨c,BK sg g k,[],false⟩):=by
 have hl:=XF hk hq
 have hw:Ee ⟨c,(pkG sg g 0).text,[],false⟩:=⟨Ut hs,by simp⟩
 obtain⟨a1,a2,a3,a4,a5⟩:=a2P hg hl.2 hw
 simp only[Bi,BK,hq,BN]
 exact RK h a1 a2 a3 a4 (fun _=>a5)
theorem c2W(hs:sgB sg)(hg:gsOk sg g):Ag sg g (Cn sg) (AQ (Bi sg g 1),Av (Bi sg g 1) ⟨1,BK sg g 1,[],false⟩):=by
 have h:=Xn hs hg
 cases hq:nmG sg g 0 with
 |true=>
  refine RM hs hg (by omega) (by rw[Ls];exact hq) ?_
  simp only[Fq,FD,hq,BN] at h;exact h
 |false=>
  have hq2:kdG sg g 1=false:=by rw[Ls];exact hq
  simp only[Fq,FD,hq,Bl,Br] at h
  have hf:EZ (Bw g)=true:=by simp [EZ,Bw]
  simp only[Bi,BK,hq2,Bl,Br,Av,AQ,hf,BN]
  exact RK h hg rfl (Em _) rfl (fun _=>rfl)
theorem KA:Bi sg g 1=Dx sg g∧BK sg g 1=DX sg g:=by
 simp only[Bi,Dx,BK,DX,Ls];exact⟨trivial,trivial⟩
theorem XJ(h:g.bad=true):Ax sg g m=g:=by
 have:isG sg g 4 m=false:=a9v (Fp h) (by omega)
 simp only[Ax,this,Bl,Br,Bw]
 cases g;simp only at h;simp [h]
theorem Mx(h:isG sg g 4 m=true):Ax sg g m=Au g:=by simp [Ax,h]
theorem UF(h:isG sg g 4 m=false):Ax sg g m=Bw g:=by simp [Ax,h]
theorem a2Q(h:¬300≤s.nodes.length):Bd w s=some ((s.nodes.length:Int),⟨s.pos,s.deep,s.nodes++[w]⟩):=if_neg h
theorem a2R(h:300≤s.nodes.length):Bd w s=none:=if_pos h
def chS(sg:List Sg)(n l:Nat)(x y:Gs)(t:Aa)(ks:Ad)(N:Nat):Prop:=
 restP sg x (pE sg (n+1) (.chain l)) y (chF sg n l N t ks) 0∧(2*((sg.length:Int)-y.pos)+4≤N∨(t=[]∧2*((sg.length:Int)-y.pos)+3≤N))∧(ks.length:Int)≤y.pos+1∧(y.bad=false→x.pos<y.pos)∧(t=[]→ks.length=1)∧(t≠[]→2≤ks.length∧t∈Ck l)
theorem c2X(h:gsOk sg x)(hl:l≠6)(h1:Ag sg x (pE sg n (.chain (l+1))) z):chS sg n l x z.2 [] [z.1] (2*sg.length+4):=by
 obtain⟨a,b,c⟩:=c0H h hl h1
 have:=a.1.1
 exact⟨a,.inr ⟨rfl,b⟩,by simp;omega,c,fun _=>rfl,fun h=>(h rfl).elim⟩
theorem a2S(hs:sgB sg)(hml:m∈Ck l)(hk:(ks.length:Int)≤sg.length+1):Ee ⟨7,m,ks,false⟩:=by
 refine⟨?_,by have:=hs.1;simp only;omega⟩
 simp only
 unfold Ck at hml
 split at hml<;>simp at hml<;>(first|(subst hml;simp)|(rcases hml with rfl|rfl<;>simp))
theorem c2Y(h:chS sg n l x y t ks N)(hm:Ej sg l y≠[])(ht:t=[]∨Ej sg l y=t)(hz:Ag sg (Au y) (pE sg n (.chain (l+1))) z):
 chS sg n l x z.2 (Ej sg l y) (ks++[z.1]) (N-1)∧N-1<N:=by
 obtain⟨h1,hN,hk,hb,hk1,hk2⟩:=h
 have hq:=(NK hm).1
 have hp:=h1.1.1
 have hl:=Eg hq (by omega)
 match N with
 |0=>omega
 |M+1=>
  refine⟨?_,by omega⟩
  have k1:=IT (g':=fun s=>(pE sg n (.chain (l+1)) s).bind fun p=>chF sg n l M (Ej sg l y) (ks++[p.1]) p.2) h1 (by omega) hq (fun s hs hts=>by
   rw[chF,HH,if_neg ?_,if_neg (by rw[NJ hs];exact hm),NJ hs];rfl
   rw[NJ hs];rintro⟨q1,q2⟩;rcases ht with ht|ht
   ·exact q1 ht
   ·exact q2 ht)
  have k2:=Cq (k:=fun k s=>chF sg n l M (Ej sg l y) (ks++[k]) s) k1 hz.1 (fun _ _=>rfl)
  have e:=DG hz
  simp only[Au] at e
  have:=h1.2.2.1
  simp only[Nat.add_sub_cancel]
  refine⟨k2,.inl (by omega),by simp;omega,fun hb2=>by omega,fun he=>(hm he).elim,fun _=>⟨?_,(NK hm).2⟩⟩
  simp only[Ba,AE,AX]
  rcases Classical.em (t=[]) with e0|e0
  ·have:=hk1 e0;omega
  ·have:=(hk2 e0).1;omega
theorem c2Z(hs:sgB sg)(h:chS sg n l x y t ks N)(hm:Ej sg l y≠[])(ht:t≠[])(hne:Ej sg l y≠t)(hz:Ag sg (Av (Au y) ⟨7,t,ks,false⟩) (pE sg n (.chain (l+1))) z):
 chS sg n l x z.2 (Ej sg l y) ([AQ (Au y)]++[z.1]) (N-2)∧N-2<N:=by
 obtain⟨h1,hN,hk,hb,hk1,hk2⟩:=h
 have hq:=(NK hm).1
 have hp:=h1.1.1
 have hl:=Eg hq (by omega)
 have hN2:2*((sg.length:Int)-y.pos)+4≤N:=by
  rcases hN with h|h
  ·exact h
  ·exact(ht h.1).elim
 match N with
 |0=>omega
 |1=>omega
 |M+2=>
  refine⟨?_,by omega⟩
  have hw:Ee ⟨7,t,ks,false⟩:=a2S hs (hk2 ht).2 (by omega)
  have k1:=IT (g':=fun s=>(Bd ⟨7,t,ks,false⟩ s).bind fun p=>(pE sg n (.chain (l+1)) p.2).bind fun q=>chF sg n l M (Ej sg l y) ([p.1]++[q.1]) q.2) h1 (by omega) hq (fun s hs hts=>by
   rw[chF,HH,if_pos ⟨ht,by rw[NJ hs];exact hne⟩]
   by_cases h3:300≤s.nodes.length
   ·rw[a2R h3,a2R (s:=adv s) h3];rfl
   ·rw[a2Q h3,a2Q (s:=adv s) h3]
    simp only[De]
    have e:GP sg l ⟨s.pos,s.deep,s.nodes++[⟨7,t,ks,false⟩]⟩=Ej sg l y:=by rw[←NJ hs];rfl
    rw[HH,if_neg (by simp),if_neg (by rw[e];exact hm),e];rfl)
  have k2:=Cq (k:=fun k s=>(pE sg n (.chain (l+1)) s).bind fun q=>chF sg n l M (Ej sg l y) ([k]++[q.1]) q.2) k1 (Xm k1.1 hw) (fun _ _=>rfl)
  have k3:=Cq (k:=fun k s=>chF sg n l M (Ej sg l y) ([AQ (Au y)]++[k]) s) k2 hz.1 (fun _ _=>rfl)
  have e:=DG hz
  obtain⟨d1,d2,d3⟩:= @Mt (Au y) ⟨7,t,ks,false⟩
  rw[d2] at e;simp only[Au] at e
  have:=h1.2.2.1
  simp only[Nat.add_sub_cancel]
  refine⟨k3,.inl (by omega),by simp;omega,fun hb2=>by omega,fun he=>(hm he).elim,fun _=>⟨by simp,(NK hm).2⟩⟩
theorem b0q(h:chS sg n l x y t ks N)(hm:y.bad=true∨Ej sg l y=[])(hl:ks.length=1)(hk:ks[0]? =some k):Ag sg x (pE sg (n+1) (.chain l)) (k,y):=by
 obtain⟨h1,hN,hk0,hb,hk1,hk2⟩:=h
 rcases hm with hm|hm
 ·exact⟨Uv h1 hm,fun hb2=>by simp only at hb2;rw[hm] at hb2;cases hb2⟩
 ·have ht:t=[]:=by
   rcases Classical.em (t=[]) with e0|e0
   ·exact e0
   ·have:=(hk2 e0).1;omega
  subst ht
  have hp:=h1.1.1
  match ks,hl with
  |[k0],_=>
   simp at hk;subst hk
   match N with
   |0=>omega
   |N+1=>exact⟨IR (Fr h1 (g':=fun s=>some (k0,s)) (fun s hs=>by rw[chF,HH,if_neg (by simp),if_pos (by rw[NJ hs,hm])];rfl)),hb⟩
theorem b0r(hs:sgB sg)(h:chS sg n l x y t ks N)(hm:y.bad=true∨Ej sg l y=[])(hl:ks.length≠1):Ag sg x (pE sg (n+1) (.chain l)) (AQ y,Av y ⟨7,t,ks,false⟩):=by
 obtain⟨h1,hN,hk0,hb,hk1,hk2⟩:=h
 have ht:t≠[]:=fun e=>hl (hk1 e)
 have hp:=h1.1.1
 have hw:Ee ⟨7,t,ks,false⟩:=a2S hs (hk2 ht).2 (by omega)
 obtain⟨d1,d2,d3⟩:= @Mt y ⟨7,t,ks,false⟩
 have hN2:2*((sg.length:Int)-y.pos)+4≤N:=by
  rcases hN with h|h
  ·exact h
  ·exact(ht h.1).elim
 match N with
 |0=>omega
 |1=>omega
 |M+2=>
  have k1:restP sg x (pE sg (n+1) (.chain l)) y (Bd ⟨7,t,ks,false⟩) 0:=by
   rcases hm with hm|hm
   ·exact Fr h1 (fun s hs=>by rw[Fp hm] at hs;cases hs)
   ·refine Fr h1 (fun s hs=> ?_)
    rw[chF,HH,if_pos ⟨ht,by rw[NJ hs,hm];exact Ne.symm ht⟩,Bd]
    split
    ·rfl
    ·simp only[De]
     have e:GP sg l ⟨s.pos,s.deep,s.nodes++[⟨7,t,ks,false⟩]⟩=[]:=by rw[←hm,←NJ hs];rfl
     rw[HH,if_neg (by simp),if_pos e];rfl
  exact⟨Xq k1 hw,fun hb2=>by simp only[d2];exact hb (d3 hb2)⟩
def gM(y:Gs)(m:Aa):Gs:=if m=[] then y else Au y
theorem a2T:gM y []=y:=rfl
theorem XK(h:m≠[]):gM y m=Au y:=if_neg h
def mkQ(sg:List Sg)(y:Gs)(l:Nat)(i:Int)(m:Aa):Prop:=(0≤i∧i≤(Ck l).length)∧((m=[]∧Ej sg l y=(((Ck l).drop i.toNat).find? fun m=>isG sg y 4 m).getD [])∨(m≠[]∧m=Ej sg l y))
theorem c3a:mkQ sg y l 0 []:=⟨by omega,.inl ⟨rfl,rfl⟩⟩
theorem c3b{v:Aa}(h:mkQ sg y l i m)(hm:m=[])(ha:(Ck l)[i.toNat]? =some v)(hg:isG sg (gM y m) 4 v=false):mkQ sg y l (i+1) m:=by
 subst hm
 have hlt:=(DT.1 ha).1
 refine⟨by have:=h.1;omega,?_⟩
 rcases h.2 with h2|h2
 ·left;refine⟨rfl,?_⟩
  rw[h2.2,Gh hlt,(DT.1 ha).2,List.find?_cons_of_neg (by simp;exact hg),show(i+1).toNat=i.toNat+1 by have:=h.1;omega]
 ·exact(h2.1 rfl).elim
theorem a2U{v:Aa}(h:mkQ sg y l i m)(hm:m=[])(ha:(Ck l)[i.toNat]? =some v)(hg:isG sg (gM y m) 4 v=true):mkQ sg y l (i+1) v∧AA sg (gM y m) v=gM y v:=by
 subst hm
 have hlt:=(DT.1 ha).1
 have hv:=c0I (Iv ha)
 refine⟨⟨by have:=h.1;omega,.inr ⟨hv,?_⟩⟩,?_⟩
 ·exact(c0K (Iv ha) hg).symm
 ·rw[a2T] at hg ⊢;rw[XK hv];exact FW hg
theorem c3c(h:mkQ sg y l i m)(hi:i<((Ck l).length:Int))(hm:m≠[]):mkQ sg y l (i+1) m:=by
 refine⟨by have:=h.1;omega,?_⟩
 rcases h.2 with h2|h2
 ·exact(hm h2.1).elim
 ·exact .inr h2
theorem XL(h:mkQ sg y l i m)(hi:¬i<((Ck l).length:Int)):m=Ej sg l y:=by
 rcases h.2 with h2|h2
 ·rw[h2.2,OA (by omega),h2.1];rfl
 ·exact h2.2
theorem b0s{a:Int}(h:gsOk sg x)(hb:x.bad=true):Ag sg x f (a,x):=⟨Uv (Ei h) hb,fun hb2=>by simp only at hb2;rw[hb] at hb2;cases hb2⟩
theorem c3d{k':Int}(h:enI sg n x y k N)(h1:gsOk sg y')(h2:y'.deep=y.deep)(h3:y.pos≤y'.pos)(h4:pur y'=pur y)(h5:y'.bad=false→k'=k):enI sg n x y' k' N:=by
 obtain⟨a,b,c⟩:=h
 cases hb:y'.bad with
 |false=>
  have hy:y.bad=false:=by
   cases hy:y.bad with
   |false=>rfl
   |true=>rw[Fp hy,Ef hb] at h4;cases h4
  rw[h5 hb]
  exact⟨a2O a h1 h2 h3 h4,fun _=>by have:=b hy;omega,fun _=>by have:=c hy;omega⟩
 |true=>
  have hy:y.bad=true:=by
   cases hy:y.bad with
   |true=>rfl
   |false=>rw[Fp hb,Ef hy] at h4;cases h4
  refine⟨Fr (a2O a h1 h2 h3 h4) (fun s hs=>by rw[Fp hb] at hs;cases hs),fun e=>(Bool.noConfusion (hb.symm.trans e)),fun e=>(Bool.noConfusion (hb.symm.trans e))⟩
theorem c3e{a:Int}(h:Ag sg x (pE sg (n+1) .fin) (a,y))(hb:y.bad=true):enI sg n x y k N:=
 ⟨Fr (c0p h.1) (fun s hs=>by rw[Fp hb] at hs;cases hs),fun e=>(Bool.noConfusion (hb.symm.trans e)),fun e=>(Bool.noConfusion (hb.symm.trans e))⟩
theorem c3f(hs:sgB sg)(h:enI sg n x y k N)(hp:isG sg y 4 [40]=false)(hq:isG sg y 4 [46]=true):
 enI sg n x (Av (Bi sg (Au y) 1) ⟨6,BK sg (Au y) 1,[k],false⟩) (AQ (Bi sg (Au y) 1)) (N-1)∧N-1<N:=by
 have hl:=Eg hq (by omega)
 obtain⟨M,rfl⟩:=Ux h hl.1
 refine⟨?_,by omega⟩
 have ho:=Ib h.1.1 hl.2
 have hw:Ee ⟨6,(pkG sg (Au y) 0).text,[k],false⟩:=⟨Ut hs,by simp⟩
 cases hn:nmG sg (Au y) 0 with
 |true=>
  obtain⟨M',e,h2⟩:=c0O hs h hp hq hn
  have:M'=M:=by omega
  subst this
  obtain⟨a1,a2,a3,a4,a5⟩:=a2P ho (by have:=(Xj hn).2;omega) hw
  have e1:Bi sg (Au y) 1=Au (Au y):=by rw[Bi,Ls,if_pos hn]
  have e2:BK sg (Au y) 1=(pkG sg (Au y) 0).text:=by rw[BK,Ls,if_pos hn]
  rw[e1,e2]
  exact c3d h2 a1 a2 a3 a4 (fun _=>a5)
 |false=>
  have h2:=c0P (a:=0) h hp hq hn
  have e1:Bi sg (Au y) 1=Bw (Au y):=by rw[Bi,Ls,if_neg (by simp [hn])]
  have hf:EZ (Bw (Au y))=true:=by simp [EZ,Bw]
  rw[e1]
  have e3:Av (Bw (Au y)) ⟨6,BK sg (Au y) 1,[k],false⟩=Bw (Bw (Au y)):=if_pos hf
  rw[e3]
  exact c3e (a:=0) (RK h2 ho rfl (Em _) rfl (fun _=>rfl)) rfl
def vlQ(sg:List Sg)(one:Ps→PR)(m:Aa)(ks0:Ad)(x:Gs)(y:Ad×Gs):Prop:=∃l:Ad×Gs,(BU sg x (BG sg one m (sg.length+1) []) l∧l.1.length≤3001)∧y=(ks0++l.1,Ax sg l.2 m)
theorem a2V{s:ST}{one:Ps→PR}{ks0:Ad}{y:Ad×Gs}(hs:sgB s.sg)(h:vlQ s.sg one m ks0 x y):rOk s y.2∧y.1.length≤ks0.length+3001∧y.2.deep=x.deep∧x.pos≤y.2.pos:=by
 obtain⟨l,⟨h1,h2⟩,rfl⟩:=h
 have t:=JO (m:=m) h1.1
 have:=h1.2.1;have:=h1.2.2.1
 exact⟨⟨hs,t.1⟩,by simp;omega,by simp only;omega,by simp only;omega⟩
theorem b0t{one:Ps→PR}{y:Ad×Gs}(hx:gsOk sg x)(h:vlQ sg one [41] [k] (Ax sg x [40]) y):Ag sg x (DL sg one k) (AQ y.2,Av y.2 ⟨5,[],y.1,false⟩):=by
 obtain⟨l,⟨h1,h2⟩,rfl⟩:=h
 exact Kz h1.1 ⟨by simp,by simp;omega⟩ (c1c hx ⟨h1,h2⟩)
theorem c3g{c w:Int×Gs}(h:NI sg n x y ks N)(hq:isG sg y 4 [46,46]=true)(hc:Ag sg (Au y) (Cn sg) c)
 (h2:Ag sg c.2 (DL sg (pE sg n .value) c.1) w):∃M,N=M+1∧NI sg n x w.2 (ks++[w.1]) M:=by
 obtain⟨h1,hN,hk,hb⟩:=h
 obtain⟨hl1,hl⟩:=Eg hq (by omega)
 match N with
 |0=>omega
 |M+1=>
  refine⟨M,rfl,?_⟩
  have k1:=IT (g':=fun s=>((Cn sg s).bind fun p=>(DL sg (pE sg n .value) p.1 p.2).bind fun q=>GR sg (pE sg n .value) M (ks++[q.1]) q.2).bind fun q=>Bd ⟨10,[],q.1,false⟩ q.2)
   h1 (by omega) hq (fun s hs ht=>by rw[GR,if_pos (show isM sg s [46,46]=true from ht)])
  have k2:=Cq (k:=fun k s=>((DL sg (pE sg n .value) k s).bind fun q=>GR sg (pE sg n .value) M (ks++[q.1]) q.2).bind fun q=>Bd ⟨10,[],q.1,false⟩ q.2) k1 hc.1 (fun s _=>by simp only[Option.bind_assoc])
  have k3:=Cq (k:=fun k s=>(GR sg (pE sg n .value) M (ks++[k]) s).bind fun q=>Bd ⟨10,[],q.1,false⟩ q.2) k2 h2.1 (fun s _=>by simp only[Option.bind_assoc])
  have e0:(Au y).pos≤c.2.pos:=hc.1.2.2.1
  have e1:=DG h2
  have ea:(Au y).pos=y.pos+1:=rfl
  refine⟨k3,by omega,by simp;omega,fun hb2=> ?_⟩
  have:=h1.2.2.1
  omega
theorem c3h(hm:sgM sg)(h0:0≤s.pos)(h:NE sg s=true):NH sg s=true:=by
 have hp:∀(n:Nat) (i:Int),0≤i→0≤FB sg n i:=by
  intro n
  induction n with
  |zero=>intro i hi;simpa [FB] using hi
  |succ n ih=>
   intro i hi;rw[FB];split
   ·split
    ·exact ih _ (by omega)
    ·omega
   ·exact hi
 exact a9D hm _ _ (by omega) (by rw[←a2B hm (hp _ _ (by omega))];exact h)
theorem c3i(hm:sgM sg)(h0:0≤s.pos)(h1:NH sg s=true)(h2:NE sg s=false)(N:Nat):BG sg (Cn sg) [41] N [] (adv s)=none:=by
 have hp:∀(n:Nat) (i:Int),0≤i→0≤FB sg n i:=by
  intro n
  induction n with
  |zero=>intro i hi;simpa [FB] using hi
  |succ n ih=>
   intro i hi;rw[FB];split
   ·split
    ·exact ih _ (by omega)
    ·omega
   ·exact hi
 exact a9E hm (sg.length+1) (s.pos+1) (by omega) h1 (by rw[←a2B hm (hp _ _ (by omega))];exact h2) N [] (adv s) rfl
theorem c3j(hm:sgM sg)(hx:gsOk sg x)(h1:(pkG sg x 0).kind≠1)(h2:(pkG sg x 0).kind≠2)(h3:(pkG sg x 0).kind≠3)(hn:isG sg x 4 [91]=false)(hq:isG sg x 4 [40]=true)
 (ha:∀s,pur x=some s→NH sg s=true) (hz:Ag sg x (fnR sg n) z):Ag sg x (pE sg (n+1) .base) z:=by
 refine NL hz (fun s hs=> ?_)
 have h0:0≤s.pos:=by obtain⟨_,rfl⟩:=Gw.1 hs;exact hx.1.1
 cases har:NE sg s with
 |true=>rw[Uy hs h1 h2 h3,if_neg (by simp [Gx hs hn]),if_pos (by simp [Ms hs hq,har]),fnR,BS,if_pos (Ms hs hq)];rfl
 |false=>
  rw[Uy hs h1 h2 h3,if_neg (by simp [Gx hs hn]),if_neg (by simp [har]),if_pos (Ms hs hq),c0s (x:=⟨0,[],[],false⟩) hm h0 (ha s hs) har (fun k=>⟨11,[],[k],false⟩),fnR,BS,if_pos (Ms hs hq)]
  simp only[De]
  rw[c3i hm h0 (ha s hs) har];rfl
theorem c3k(hm:sgM sg)(h:gsOk sg x)(h1:(pkG sg x 0).kind≠1)(h2:(pkG sg x 0).kind≠2)(h3:(pkG sg x 0).kind≠3)(hn:isG sg x 4 [91]=false)(hq:isG sg x 4 [40]=true)
 (ha:∀s,pur x=some s→NH sg s=false) (hz:Ag sg (Au x) (pE sg n .value) z):
 Ag sg x (pE sg (n+1) .base) (AQ (Ax sg z.2 [41]),Av (Ax sg z.2 [41]) ⟨11,[],[z.1],false⟩):=by
 refine Kz (HJ hz) ⟨by simp,by simp⟩ (c0T h h1 h2 h3 hn hq (fun s hs=> ?_) hz)
 have h0:0≤s.pos:=by obtain⟨_,rfl⟩:=Gw.1 hs;exact h.1.1
 cases har:NE sg s with
 |false=>rfl
 |true=>have:=c3h hm h0 har;rw[ha s hs] at this;cases this
end Go.My
end
section
namespace Go.My
open Go.Eng Go.Proofs
variable {G:GInv}
variable {N:Nat}{i p:Int}{ks ks0:Ad}{m:Aa}{one:Ps→PR}{s:ST}{sg:List Sg}{x y:Gs}
def vQ(r n:Nat)(s:ST)(g:Gs):Prop:=vP r n s g∧sgM s.sg
def wQ(r n:Nat)(s:ST)(g:Gs):Prop:=wP r n s g∧sgM s.sg
def Pu(n:Nat):Sig:=⟨ST×Int×Int×Bool×List Nd,fun x=>[srd x.1 (xg x)],fun x=>vQ 11 n x.1 (xg x),Int×Int×Int×Bool×List Nd,fun x y=>Ag x.1.sg (xg x) (pE x.1.sg n .value) (yS y),fun x y=> .int .i64 y.1,fun x y=>[srd x.1 (yG y.2)],true,[],[]⟩
def KB(n:Nat):Sig:=⟨ST×Int×Int×Bool×List Nd,fun x=>[srd x.1 (xg x)],fun x=>vQ 10 n x.1 (xg x),Int×Int×Int×Bool×List Nd,fun x y=>Ag x.1.sg (xg x) (pE x.1.sg n .pick) (yS y),fun x y=> .int .i64 y.1,fun x y=>[srd x.1 (yG y.2)],true,[],[]⟩
def KC(n:Nat):Sig:=⟨ST×Int×Int×Bool×List Nd×Int,fun x=>[srd x.1 (xh x),.int .i64 x.2.2.2.2.2],fun x=>wQ (9-x.2.2.2.2.2.toNat) n x.1 (xh x)∧0≤x.2.2.2.2.2∧x.2.2.2.2.2≤6,Int×Int×Int×Bool×List Nd,fun x y=>Ag x.1.sg (xh x) (pE x.1.sg n (.chain x.2.2.2.2.2.toNat)) (yS y),fun x y=> .int .i64 y.1,fun x y=>[srd x.1 (yG y.2),.top],true,[],[]⟩
def XM(n:Nat):Sig:=⟨ST×Int×Int×Bool×List Nd,fun x=>[srd x.1 (xg x)],fun x=>wQ 2 n x.1 (xg x),Int×Int×Int×Bool×List Nd,fun x y=>Ag x.1.sg (xg x) (pE x.1.sg n .fin) (yS y),fun x y=> .int .i64 y.1,fun x y=>[srd x.1 (yG y.2)],true,[],[]⟩
def XN(n:Nat):Sig:=⟨ST×Int×Int×Bool×List Nd,fun x=>[srd x.1 (xg x)],fun x=>wQ 1 n x.1 (xg x),Int×Int×Int×Bool×List Nd,fun x y=>Ag x.1.sg (xg x) (pE x.1.sg n .base) (yS y),fun x y=> .int .i64 y.1,fun x y=>[srd x.1 (yG y.2)],true,[],[]⟩
structure qAll (G:GInv) (n:Nat):Prop where
 val:CtG G 78 (Pu n)
 pick:CtG G 93 (KB n)
 chain:CtG G 108 (KC n)
 fin:CtG G 134 (XM n)
 base:CtG G 155 (XN n)
def saI(sg:List Sg)(p:Int)(i:Int)(N:Nat):Prop:=(p+1≤i∧i≤sg.length+1∧(sg.length:Int)-i<N)∧FV sg (sg.length+1) (p+1)=FV sg N i
def arG(sg:List Sg)(x:Gs):Bool:=isG sg x 4 [40]&&NH sg ⟨x.pos,x.deep,x.nodes⟩
theorem c3l(h:saI sg p i N):p+1≤i∧i≤sg.length+1:=⟨h.1.1,h.1.2.1⟩
theorem c3m(h0:0≤p)(h:p≤sg.length):saI sg p (p+1) (sg.length+1):=⟨by omega,rfl⟩
theorem b0u(h0:0≤p)(h:saI sg p i N)(h1:i+1<sg.length)(hk:(sgO sg i).kind=1)(ht:((sgO sg (i+1)).text==[44])=true):saI sg p (i+1+1) (N-1)∧N-1<N:=by
 obtain⟨⟨a1,a2,a3⟩,h4⟩:=h
 match N with
 |0=>omega
 |N+1=>
  refine⟨⟨⟨by omega,by omega,by simp;omega⟩,?_⟩,by omega⟩
  rw[h4,FV,if_pos ⟨h1,hk⟩,if_pos (by simpa using ht)]
  simp only[Nat.add_sub_cancel];congr 1;omega
theorem c3n(h:saI sg p i N)(h1:i+1<sg.length)(hk:(sgO sg i).kind=1)(ht:((sgO sg (i+1)).text==[44])=false):FV sg (sg.length+1) (p+1)=i+1:=by
 obtain⟨⟨a1,a2,a3⟩,h4⟩:=h
 match N with
 |0=>omega
 |N+1=>rw[h4,FV,if_pos ⟨h1,hk⟩,if_neg (by simpa using ht)]
theorem c3o(h:saI sg p i N)(h1:¬i+1<sg.length):FV sg (sg.length+1) (p+1)=i:=by
 rw[h.2]
 match N with
 |0=>rfl
 |N+1=>rw[FV,if_neg (fun hh=>h1 hh.1)]
theorem c3p(h:saI sg p i N)(hk:(sgO sg i).kind≠1):FV sg (sg.length+1) (p+1)=i:=by
 rw[h.2]
 match N with
 |0=>rfl
 |N+1=>rw[FV,if_neg (fun hh=>hk hh.2)]
theorem c3q(h:isG sg x 4 [40]=false):false=arG sg x:=by simp [arG,h]
theorem a2W{b:Bool}(h:isG sg x 4 [40]=true)(hi:FV sg (sg.length+1) (x.pos+1)=i)(hb:b=Hj sg i):b=arG sg x:=by
 rw[arG,h,Kf,NH];simp only[hi];exact hb
theorem b0v{k:Int}{e:Sg}(he:sg[i.toNat]? =some e)(hk:e.kind=k):(sgO sg i).kind=k:=by rw[Ia he];exact hk
theorem b0w{e:Sg}{b:Bool}(he:sg[i.toNat]? =some e)(hk:(e.text==m)=b):((sgO sg i).text==m)=b:=by rw[Ia he];exact hk
def lqJ(sg:List Sg)(one:Ps→PR)(m:Aa)(x y:Gs)(ks:Ad)(N:Nat):Prop:=Lr sg one m x y ks N∧(y.bad=false→x.bad=false)
theorem b0x(h:gsOk sg x):lqJ sg one m x x [] (sg.length+1):=⟨c0A h,fun h=>h⟩
theorem Mz(hs:sgB s.sg)(h:lqJ s.sg one m x y ks N):rOk s y:=c1b hs h
theorem UG(hs:sgB s.sg)(h:lqJ s.sg one m x y ks N):ks.length≤3000:=c0Z hs h
theorem c3r{n:Nat}(hx:wQ 11 n s x)(h:lqJ s.sg one m x y ks N)(hb:y.bad=false)(hq:isG s.sg y 4 m=false):vQ 11 n s (AA s.sg y m):=by
 rw[EL hq];exact⟨c1a hx.1.1.1.1 h hb hx.1.1.2 hx.1.2,hx.2⟩
theorem XO{z:Int×Gs}(h:lqJ sg one m x y ks N)(hq:isG sg y 4 m=false)(hz:Ag sg (AA sg y m) one z)(hc:isG sg z.2 4 [44]=true):
 lqJ sg one m x (AA sg z.2 [44]) (ks++[z.1]) (N-1)∧N-1<N:=by
 rw[EL hq] at hz;exact c0Y h hz hq hc
theorem b0y{z:Int×Gs}(hs:sgB s.sg)(h:lqJ s.sg one m x y ks N)(hq:isG s.sg y 4 m=false)(hz:Ag s.sg (AA s.sg y m) one z)(hc:isG s.sg z.2 4 [44]=false):
 vlQ s.sg one m ks0 x (ks0++ks++[z.1],Ax s.sg (AA s.sg z.2 [44]) m):=by
 rw[EL hq] at hz
 have a:=c0X h hz hq hc
 refine⟨_,⟨a,?_⟩,?_⟩
 ·have:=UG hs h;simp;omega
 ·simp only[Bz]
theorem b0z(hs:sgB s.sg)(h:lqJ s.sg one m x y ks N)(hb:y.bad=true):vlQ s.sg one m ks0 x (ks0++ks,y):=by
 refine⟨_,⟨c0B h.1 hb,?_⟩,by simp only[XJ hb]⟩
 have:=UG hs h;simp only;omega
theorem b0A(hs:sgB s.sg)(h:lqJ s.sg one m x y ks N)(hq:isG s.sg y 4 m=true):vlQ s.sg one m ks0 x (ks0++ks,AA s.sg y m):=by
 refine⟨_,⟨c0C h.1 hq,?_⟩,by simp only[FW hq,Mx hq]⟩
 have:=UG hs h;simp only;omega
theorem Hl(h:rOk s y):rOk s (AA s.sg y m):=by
 cases hq:isG s.sg y 4 m with
 |true=>rw[FW hq];exact⟨h.1,Ib h.2 (Eg hq (by omega)).2⟩
 |false=>rw[EL hq];exact h
theorem JR{k:Int}(h:rOk s y)(hk:k≠0):rOk s (Bi s.sg y k):=by
 unfold Bi;split
 ·rename_i hq;exact⟨h.1,Ib h.2 (XF hk hq).2⟩
 ·exact h
theorem RN(h:rOk s y):Ag s.sg (AA s.sg y m) (Cn s.sg) (AQ (Bi s.sg (AA s.sg y m) 1),Av (Bi s.sg (AA s.sg y m) 1) ⟨1,BK s.sg (AA s.sg y m) 1,[],false⟩):=c2W h.1 (Hl h).2
theorem a2X(h:rOk s y):rOk s (Av (Bi s.sg (AA s.sg y m) 1) ⟨1,BK s.sg (AA s.sg y m) 1,[],false⟩):=⟨h.1,HJ (RN (m:=m) h)⟩
attribute [local irreducible] pE BG DL fnR Ag BU gsOk Ax Dq Av Eh FT AA Fq FD AQ Dr pkG isG nmG kdG Bi BK Cn vlQ lqJ saI
def Hm:Sig:=⟨ST×Int×Int×Bool×List Nd,fun x=>[srd x.1 (xg x)],fun x=>rOk x.1 (xg x),Unit,fun x y=>True,fun x y=> .bool (arG x.1.sg (xg x)),fun x y=>[srd x.1 (xg x)],true,[],[]⟩
def XP(x:ST×Int×Int×Bool×List Nd):LS:=⟨Int×Nat,fun i=>saI x.1.sg (xg x).pos i.1 i.2,fun i=>[(0,srd x.1 (xg x)),(3,.q i.1)],[],fun i=>i.2,fun _=>[],[]⟩
def a2Y(x:ST×Int×Int×Bool×List Nd)(i:Int×Nat):Prop:=Ae (decide (i.1+1<(nL x.1.sg))) ((0≤i.1∧i.1<(nL x.1.sg))∧(∀(e:Sg),x.1.sg[Int.toNat i.1]? =some e→Ae (e.text== #[(41:UInt8)].toList) ((0≤i.1∧i.1<(nL x.1.sg))∧(∀(e:Sg),x.1.sg[Int.toNat i.1]? =some e→Ae (e.kind==4) (inR .i64 (i.1+(1:Int))∧((0≤i.1+(1:Int)∧i.1+1<(nL x.1.sg))∧(∀(e:Sg),x.1.sg[Int.toNat (i.1+(1:Int))]? =some e→Ae (e.text== #[(61:UInt8),62].toList) (inR .i64 (i.1+(1:Int))∧((0≤i.1+(1:Int)∧i.1+1<(nL x.1.sg))∧(∀(e:Sg),x.1.sg[Int.toNat (i.1+(1:Int))]? =some e→rA Hm x [.bool (e.kind==4),srd x.1 (xg x)]))) (rA Hm x [.bool false,srd x.1 (xg x)])))) (rA Hm x [.bool false,srd x.1 (xg x)]))) (rA Hm x [.bool false,srd x.1 (xg x)]))) (rA Hm x [.bool false,srd x.1 (xg x)])
theorem c3s:CtG G 160 Hm:=
 vFq [(77,0,Fs)] [] (fun x=>[(5,XP x)]) Tryz.func160 ⟨UD,trivial⟩ (fun x=>True∧cA Fs [srd x.1 (xg x),.q 4,.str #[(40:UInt8)].toList] fun x_1 y=>Ae (!isG x_1.1.sg (xh x_1) (G5 x_1) (Z6 x_1)) (rA Hm x [.bool false,srd x_1.1 (xh x_1)]) (inR .i64 ((xg x).pos+1)∧eA (XP x) [srd x_1.1 (xh x_1),.q ((xg x).pos+1)]∧∀(i:Int×Nat),saI x.1.sg (xg x).pos i.1 i.2→inR .i64 (i.1+(1:Int))∧Ae (decide (i.1+1<(nL x.1.sg))) ((0≤i.1∧i.1<(nL x.1.sg))∧∀(e:Sg),x.1.sg[Int.toNat i.1]? =some e→Ae (e.kind==1) (inR .i64 (i.1+(1:Int))∧(0≤i.1+(1:Int)∧i.1+1<(nL x.1.sg))∧∀(e:Sg),x.1.sg[Int.toNat (i.1+(1:Int))]? =some e→Ae (!e.text== #[(44:UInt8)].toList) (inR .i64 (i.1+(1:Int)+(1:Int))∧Ae (decide (i.1+(1:Int)+1<(nL x.1.sg))) ((0≤i.1+(1:Int)∧i.1+1<(nL x.1.sg))∧∀(e:Sg),x.1.sg[Int.toNat (i.1+(1:Int))]? =some e→Ae (e.text== #[(41:UInt8)].toList) ((0≤i.1+(1:Int)∧i.1+1<(nL x.1.sg))∧∀(e:Sg),x.1.sg[Int.toNat (i.1+(1:Int))]? =some e→Ae (e.kind==4) (inR .i64 (i.1+(1:Int)+(1:Int))∧(0≤i.1+(1:Int)+(1:Int)∧i.1+(1:Int)+1<(nL x.1.sg))∧∀(e:Sg),x.1.sg[Int.toNat (i.1+(1:Int)+(1:Int))]? =some e→Ae (e.text== #[(61:UInt8),62].toList) (inR .i64 (i.1+(1:Int)+(1:Int))∧(0≤i.1+(1:Int)+(1:Int)∧i.1+(1:Int)+1<(nL x.1.sg))∧∀(e:Sg),x.1.sg[Int.toNat (i.1+(1:Int)+(1:Int))]? =some e→rA Hm x [.bool (e.kind==4),srd x.1 (xg x)]) (rA Hm x [.bool false,srd x.1 (xg x)])) (rA Hm x [.bool false,srd x.1 (xg x)])) (rA Hm x [.bool false,srd x.1 (xg x)])) (rA Hm x [.bool false,srd x.1 (xg x)])) (inR .i64 (i.1+(1:Int)+(1:Int))∧eN (XP x) i [srd x.1 (xg x),.q (i.1+(1:Int)+(1:Int))])) (inR .i64 (i.1+(1:Int))∧(a2Y x i))) (inR .i64 (i.1+(1:Int))∧(a2Y x i)))) (by kernel_rfl) fun(x:ST×Int×Int×Bool×List Nd) (hx:rOk x.1 (xg x))=>(by
 dsimp only[nL,G5,Z6,a2Y,cA,eA,eN,XP,Ce,BJ,rA,Hm,Fs,CD,sgs,srd,AB,AF,mvL,lnL,mvE,lnE,Bn,AV.q]
 obtain⟨s,p,d,b,ns⟩:=x;dsimp only[xg,xh] at hx ⊢
 have hx:rOk s ⟨p,d,b,ns⟩:=hx;have hs:=IQ hx;dsimp only at hs
 (repeat' first|(with_reducible first|rfl|exact⟨⟩|apply AG|apply AM)|apply AL|(apply AK<;>try dsimp only)|apply AJ|((try refine AH.2 ?_);intro _;try dsimp only))
 all_goals(try dsimp only[xg,xh,yG,yS,iG] at*)
 all_goals first
  |(show Nat;skip)
  |rfl
  |exact hx
  |exact c3m hs.1.1.1 hs.1.1.2
  |exact c3q (x:=⟨p,d,b,ns⟩) ‹_›
  |exact(b0u hs.1.1.1 ‹_› ‹_› (b0v ‹_› ‹_›) (b0w ‹_› ‹_›)).1
  |(have hq:=c3l ‹saI _ _ _ _›;(try simp only[Aw]);omega)
  |omega
  |skip
 all_goals first
  |exact(b0u hs.1.1.1 ‹_› ‹_› (b0v ‹_› ‹_›) (b0w ‹_› ‹_›)).2
  |skip
 all_goals(repeat(rename s.sg[_]? =some _=>hq;have hq2:=Ia hq;clear hq;subst hq2))
 all_goals first
  |(refine a2W (x:=⟨p,d,b,ns⟩) ‹_› (c3n ‹_› ‹_› ‹_› ‹_›) ?_;rw[DR];simp [Hj,Gy, *];done)
  |(refine a2W (x:=⟨p,d,b,ns⟩) ‹_› (c3o ‹_› ‹_›) ?_;rw[DR];simp [Hj,Gy, *];done)
  |(refine a2W (x:=⟨p,d,b,ns⟩) ‹_› (c3p ‹_› ‹_›) ?_;rw[DR];simp [Hj,Gy, *];done)
  |skip)
def Ih(n:Nat):Sig:=⟨ST×Int×Int×Bool×List Nd×Aa×Ad,fun x=>[srd x.1 (xh x),.str x.2.2.2.2.2.1,An x.2.2.2.2.2.2],fun x=>wQ 11 n x.1 (xh x)∧x.2.2.2.2.2.2.length≤1,Ad×Int×Int×Bool×List Nd,fun x y=>vlQ x.1.sg (pE x.1.sg n .value) x.2.2.2.2.2.1 x.2.2.2.2.2.2 (xh x) (yS y),fun x y=>An y.1,fun x y=>[srd x.1 (yG y.2),.top,.top],true,[],[]⟩
def XQ(n:Nat)(x:ST×Int×Int×Bool×List Nd×Aa×Ad):LS:=⟨Int×Int×Bool×List Nd×Ad×Nat,fun i=>lqJ x.1.sg (pE x.1.sg n .value) x.2.2.2.2.2.1 (xh x) (iG i) i.2.2.2.2.1 i.2.2.2.2.2,fun i=>[(0,srd x.1 (iG i)),(1,.str x.2.2.2.2.2.1),(2,An (x.2.2.2.2.2.2++i.2.2.2.2.1))],[],fun i=>i.2.2.2.2.2,fun _=>[],[]⟩
theorem a2Z(n:Nat)(h:qAll G n):CtG G 94 (Ih n):=
 vFq [(52,0,Cw),(78,0,(Pu n)),(51,0,Ct)] [(27,⟨Int,BE⟩)] (fun x=>[(1,XQ n x)]) Tryz.func94 ⟨JP,h.val,Ky,trivial⟩ (fun x=>True∧eA (XQ n x) [srd x.1 (xh x),.str (G5 x),An (Z6 x)]∧∀(i:Int×Int×Bool×List Nd×Ad×Nat),lqJ x.1.sg (pE x.1.sg n NT.value) (G5 x) (xh x) (iG i) (G4 i) (Z5 i)→Ae (!(iG i).bad) (cA Cw [srd x.1 (iG i),.str (G5 x)] fun x_1 y=>Ae (!isG x_1.1.sg (xh x_1) (4:Int) (Z5 x_1)) (cA (Pu n) [srd x_1.1 (AA x_1.1.sg (xh x_1) (Z5 x_1))] fun x_2 y=>∃(x_3:Int),y.1=x_3∧∃(zs:Ad),An [x_3]=An zs∧Ca BE∧Bb (((Z6 x)++(G4 i)).length+zs.length) (8:Nat)∧cA Cw [srd x_2.1 (yG y.2),.str #[(44:UInt8)].toList] fun x_4 y=>Ae (!isG x_4.1.sg (xh x_4) (4:Int) (Z5 x_4)) (cA Ct [srd x_4.1 (AA x_4.1.sg (xh x_4) (Z5 x_4)),.str (G5 x)] fun x_5 y=>rA (Ih n) x [An ((Z6 x)++(G4 i)++zs),srd x_5.1 (Ax x_5.1.sg (xh x_5) (Z5 x_5)),.top,.top]) (eN (XQ n x) i [srd x_4.1 (AA x_4.1.sg (xh x_4) (Z5 x_4)),.str (G5 x),An ((Z6 x)++(G4 i)++zs)])) (rA (Ih n) x [An ((Z6 x)++(G4 i)),srd x_1.1 (AA x_1.1.sg (xh x_1) (Z5 x_1)),.top,.top])) (rA (Ih n) x [An ((Z6 x)++(G4 i)),srd x.1 (iG i),.top,.top])) (by kernel_rfl) fun(x:ST×Int×Int×Bool×List Nd×Aa×Ad) (hx:wQ 11 n x.1 (xh x)∧x.2.2.2.2.2.2.length≤1)=>(by
 dsimp only[G4,G5,Z5,Z6,cA,eA,eN,XQ,Ce,An,BJ,rA,Cw,Pu,Ih,Ct,CD,sgs,srd,AB,AF,mvL,lnL,mvE,lnE,Bn]
 obtain⟨s,p,d,b,ns,m,ks0⟩:=x;dsimp only[xg,xh] at hx ⊢
 obtain⟨hx,hk0⟩:=hx
 have hx:wQ 11 n s ⟨p,d,b,ns⟩:=hx
 have hs:=hx.1.1.1.1;have h1:=hx.1.1.1
 (repeat' first|(with_reducible first|rfl|exact⟨⟩|apply AG|apply AM)|apply AL|(apply AK<;>try dsimp only)|apply AJ|((try refine AH.2 ?_);intro _;try dsimp only))
 all_goals(try dsimp only[xg,xh,yG,yS,iG] at*)
 all_goals(try simp only[Ic] at*)
 all_goals first
  |(show Nat;skip)
  |rfl
  |exact h1
  |exact b0x h1.2
  |exact Mz hs ‹_›
  |exact c3r hx ‹_› ‹_› ‹_›
  |exact GS h1 ‹_›
  |exact Hl (GS h1 ‹_›)
  |exact(XO ‹_› ‹_› ‹_› ‹_›).1
  |exact b0y hs ‹_› ‹_› ‹_› ‹_›
  |exact b0z hs ‹_› ‹_›
  |exact b0A hs ‹_› ‹_›
  |(simp;done)
  |(have hq:=UG hs ‹lqJ _ _ _ _ _ _ _›;(try simp only[Bb,Ba,AE,AX]);omega)
  |skip
 all_goals first
  |exact(XO ‹_› ‹_› ‹_› ‹_›).2
  |(simp;done)
  |skip)
def Ii:Sig:=⟨ST×Int×Int×Bool×List Nd,fun x=>[srd x.1 (xg x)],fun x=>rOk x.1 (xg x),Ad×Int×Int×Bool×List Nd,fun x y=>vlQ x.1.sg (Cn x.1.sg) [41] [] (Ax x.1.sg (xg x) [40]) (yS y),fun x y=>An y.1,fun x y=>[srd x.1 (yG y.2)],true,[],[]⟩
def XR(x:ST×Int×Int×Bool×List Nd):LS:=⟨Int×Int×Bool×List Nd×Ad×Nat,fun i=>lqJ x.1.sg (Cn x.1.sg) [41] (Ax x.1.sg (xg x) [40]) (iG i) i.2.2.2.2.1 i.2.2.2.2.2,fun i=>[(0,srd x.1 (iG i)),(3,An i.2.2.2.2.1)],[],fun i=>i.2.2.2.2.2,fun _=>[],[]⟩
theorem a3a:CtG G 53 Ii:=
 vFq [(52,0,Cw),(51,0,Ct),(35,0,BD),(48,0,Dh)] [(27,⟨Int,BE⟩)] (fun x=>[(3,XR x)]) Tryz.func53 ⟨JP,Ky,JQ,NR,trivial⟩ (fun x=>True∧cA Ct [srd x.1 (xg x),.str #[(40:UInt8)].toList] fun x_1 y=>eA (XR x) [srd x_1.1 (Ax x_1.1.sg (xh x_1) (Z5 x_1)),An []]∧∀(i:Int×Int×Bool×List Nd×Ad×Nat),lqJ x.1.sg (Cn x.1.sg) [(41:UInt8)] (Ax x.1.sg (xg x) [(40:UInt8)]) (iG i) (G4 i) (Z5 i)→Ae (!(iG i).bad) (cA Cw [srd x.1 (iG i),.str #[(41:UInt8)].toList] fun x_2 y=>Ae (!isG x_2.1.sg (xh x_2) (4:Int) (Z5 x_2)) (cA Dh [srd x_2.1 (AA x_2.1.sg (xh x_2) (Z5 x_2)),.q 1] fun x_3 y=>cA BD [srd x_3.1 (Bi x_3.1.sg (xh x_3) (Z5 x_3)),.q 1,.str (BK x_3.1.sg (xh x_3) (Z5 x_3)),An []] fun x_4 y=>∃(x_5:Int),AQ (xh x_4)=x_5∧∃(zs:Ad),An [x_5]=An zs∧Ca BE∧Bb ((G4 i).length+zs.length) (8:Nat)∧cA Cw [srd x_4.1 (Av (xh x_4) {kind:=(G5 x_4),text:=(G6 x_4),kids:=(Z7 x_4),blank:=false}),.str #[(44:UInt8)].toList] fun x_6 y=>Ae (!isG x_6.1.sg (xh x_6) (4:Int) (Z5 x_6)) (cA Ct [srd x_6.1 (AA x_6.1.sg (xh x_6) (Z5 x_6)),.str #[(41:UInt8)].toList] fun x_7 y=>rA Ii x [An ((G4 i)++zs),srd x_7.1 (Ax x_7.1.sg (xh x_7) (Z5 x_7))]) (eN (XR x) i [srd x_6.1 (AA x_6.1.sg (xh x_6) (Z5 x_6)),An ((G4 i)++zs)])) (rA Ii x [An (G4 i),srd x_2.1 (AA x_2.1.sg (xh x_2) (Z5 x_2))])) (rA Ii x [An (G4 i),srd x.1 (iG i)])) (by kernel_rfl) fun(x:ST×Int×Int×Bool×List Nd) (hx:rOk x.1 (xg x))=>(by
 dsimp only[G4,G5,G6,Z5,Z7,cA,eA,eN,XR,Ce,An,BJ,rA,Cw,Ii,BD,Dh,Ct,CD,sgs,srd,AB,AF,mvL,lnL,mvE,lnE,Bn,AV.q]
 obtain⟨s,p,d,b,ns⟩:=x;dsimp only[xg,xh] at hx ⊢
 have h1:rOk s ⟨p,d,b,ns⟩:=hx;have hs:=h1.1
 have t:=IV (m:=[40]) h1
 (repeat' first|(with_reducible first|rfl|exact⟨⟩|apply AG|apply AM)|apply AL|(apply AK<;>try dsimp only)|apply AJ|((try refine AH.2 ?_);intro _;try dsimp only))
 all_goals(try dsimp only[xg,xh,yG,yS,iG] at*)
 all_goals(try simp only[Ic] at*)
 all_goals first
  |(show Nat;skip)
  |rfl
  |exact h1
  |omega
  |exact b0x t.1.2
  |exact Mz hs ‹_›
  |exact Hl (Mz hs ‹_›)
  |exact JR (Hl (Mz hs ‹_›)) (by omega)
  |exact a2X (Mz hs ‹_›)
  |exact Hl (a2X (Mz hs ‹_›))
  |exact(XO ‹_› ‹_› (RN (Mz hs ‹_›)) ‹_›).1
  |exact b0y (ks0:=[]) hs ‹_› ‹_› (RN (Mz hs ‹_›)) ‹_›
  |exact b0z (ks0:=[]) hs ‹_› ‹_›
  |exact b0A (ks0:=[]) hs ‹_› ‹_›
  |(have hq:=UG hs ‹lqJ _ _ _ _ _ _ _›;(try simp only[Bb,Ba,AE,AX]);omega)
  |skip
 all_goals first
  |exact(XO ‹_› ‹_› (RN (Mz hs ‹_›)) ‹_›).2
  |skip)
end Go.My
end
section
namespace Go.My
open Go.Eng Go.Proofs
variable {G:GInv}
variable {N n:Nat}{k:Int}{m:Aa}{s:ST}{sg:List Sg}{v:Ad×Gs}{x y:Gs}{z:Int×Gs}
theorem MA(h:kdG sg x k=false)(hk:k≠1):(pkG sg x 0).kind≠k:=by
 rw[UE hk] at h;simpa using h
theorem c3t(hs:sgB sg)(h:gsOk sg x)(h1:kdG sg x 1=false)(hk:(pkG sg x 0).kind=1)(hy:y=Bw x):Ag sg x (pE sg (n+1) .base) (k,y):=by
 have a:=a9K (n:=n) hs h hk
 rw[Ls] at h1
 rw[FD,Fq,if_neg (by simp [h1]),if_neg (by simp [h1])] at a
 subst hy
 exact RK a h rfl (Em _) rfl (fun hb=>by simp [Bw] at hb)
theorem c3u(hs:sgB sg)(h:gsOk sg x)(h1:kdG sg x 1=true):Ag sg x (pE sg (n+1) .base) (AQ (Bi sg x 1),Av (Bi sg x 1) ⟨1,BK sg x 1,[],false⟩):=by
 have hn:=h1
 rw[Ls] at hn
 have a:=a9K (n:=n) hs h (by simp [nmG] at hn;exact hn.1)
 rw[FD,Fq,if_pos hn,if_pos hn] at a
 exact RM hs h (by omega) h1 a
theorem b0B(hs:sgB sg)(h:gsOk sg x)(hk:k=2∨k=3)(h1:kdG sg x k=true):Ag sg x (pE sg (n+1) .base) (AQ (Bi sg x k),Av (Bi sg x k) ⟨k,BK sg x k,[],false⟩):=by
 have hn:=h1
 rw[UE (by omega)] at hn
 exact RM hs h (by omega) h1 (c0R hs h (by simpa using hn) hk)
theorem a3b(hq:isG sg x 4 m=true):(pkG sg x 0).kind≠1:=by
 simp [isG] at hq;rw[hq.1];omega
theorem c3v(h:rOk s x)(h1:kdG s.sg x 1=false)(h2:kdG s.sg x 2=false)(h3:kdG s.sg x 3=false)(hq:isG s.sg x 4 [91]=true)(hv:vlQ s.sg (pE s.sg n .value) [93] [] (AA s.sg x [91]) v):
 Ag s.sg x (pE s.sg (n+1) .base) (AQ v.2,Av v.2 ⟨4,[],v.1,false⟩):=by
 rw[FW hq] at hv
 obtain⟨l,⟨a,b⟩,rfl⟩:=hv
 exact Kz a.1 ⟨by simp,by simp;omega⟩ (c0S h.2 (a3b hq) (MA h2 (by omega)) (MA h3 (by omega)) hq a b)
theorem c3w(hm:sgM s.sg)(h:rOk s x)(h1:kdG s.sg x 1=false)(h2:kdG s.sg x 2=false)(h3:kdG s.sg x 3=false)(hn:isG s.sg x 4 [91]=false)(ha:arG s.sg (AA s.sg x [91])=true)
 (hv:vlQ s.sg (Cn s.sg) [41] [] (Ax s.sg (AA s.sg x [91]) [40]) v) (hz:Ag s.sg (Ax s.sg v.2 [61,62]) (pE s.sg n .pick) z):Ag s.sg x (pE s.sg (n+1) .base) (AQ z.2,Av z.2 ⟨9,[],v.1++[z.1],false⟩):=by
 rw[EL hn] at ha hv
 simp only[arG,AY] at ha
 obtain⟨l,⟨a,b⟩,rfl⟩:=hv
 refine c3j hm h.2 (a3b ha.1) (MA h2 (by omega)) (MA h3 (by omega)) hn ha.1 (fun s0 hs=> ?_) (c0V (l:=l) h.2 a b hz)
 obtain⟨_,rfl⟩:=Gw.1 hs;exact ha.2
theorem c3x(hm:sgM s.sg)(h:rOk s x)(h1:kdG s.sg x 1=false)(h2:kdG s.sg x 2=false)(h3:kdG s.sg x 3=false)(hn:isG s.sg x 4 [91]=false)(ha:arG s.sg (AA s.sg x [91])=false)(hb:(Ax s.sg (AA s.sg x [91]) [40]).bad=false)
 (hz:Ag s.sg (Ax s.sg (AA s.sg x [91]) [40]) (pE s.sg n .value) z):Ag s.sg x (pE s.sg (n+1) .base) (AQ (Ax s.sg z.2 [41]),Av (Ax s.sg z.2 [41]) ⟨11,[],[z.1],false⟩):=by
 rw[EL hn] at ha hb hz
 have hq:isG s.sg x 4 [40]=true:=by
  cases hq:isG s.sg x 4 [40] with
  |true=>rfl
  |false=>rw[UF hq] at hb;cases hb
 rw[Mx hq] at hz
 simp only[arG,hq,Kf] at ha
 refine c3k hm h.2 (a3b hq) (MA h2 (by omega)) (MA h3 (by omega)) hn hq (fun s0 hs=> ?_) hz
 obtain⟨_,rfl⟩:=Gw.1 hs;exact ha
theorem c3y(h:rOk s x)(h1:kdG s.sg x 1=false)(h2:kdG s.sg x 2=false)(h3:kdG s.sg x 3=false)(hn:isG s.sg x 4 [91]=false)(hx:x.bad=false)(hb:(Ax s.sg (AA s.sg x [91]) [40]).bad=true):
 Ag s.sg x (pE s.sg (n+1) .base) (k,Ax s.sg (AA s.sg x [91]) [40]):=by
 rw[EL hn] at hb ⊢
 have hq:isG s.sg x 4 [40]=false:=by
  cases hq:isG s.sg x 4 [40] with
  |false=>rfl
  |true=>rw[Mx hq] at hb;simp only[Au] at hb;rw[hx] at hb;cases hb
 rw[UF hq]
 rcases Classical.em ((pkG s.sg x 0).kind=1) with e|e
 ·exact c3t h.1 h.2 h1 e rfl
 ·exact c0U h.2 e (MA h2 (by omega)) (MA h3 (by omega)) hn hq
theorem c3z(hx:wQ 1 (n+1) s x)(hq:isG s.sg x 4 [91]=true):wQ 11 n s (AA s.sg x [91]):=by
 rw[FW hq];exact⟨(a9L hq (by omega) hx.1.1.1 hx.1.1.2 hx.1.2 (by omega)).1,hx.2⟩
theorem c3A(hx:wQ 1 (n+1) s x)(hn:isG s.sg x 4 [91]=false)(ha:arG s.sg (AA s.sg x [91])=true)(hv:vlQ s.sg (Cn s.sg) [41] [] (Ax s.sg (AA s.sg x [91]) [40]) v):vQ 10 n s (Ax s.sg v.2 [61,62]):=by
 rw[EL hn] at ha hv
 simp only[arG,AY] at ha
 obtain⟨l,a,rfl⟩:=hv
 exact⟨c1d (x:=x) (n:=n) (l:=l) hx.1.1.1 (hx.1.1.2 (Eg ha.1 (by omega)).1) ha.1 (by have:=hx.1.2;omega) a,hx.2⟩
theorem c3B(hx:wQ 1 (n+1) s x)(hn:isG s.sg x 4 [91]=false)(hb:(Ax s.sg (AA s.sg x [91]) [40]).bad=false):vQ 11 n s (Ax s.sg (AA s.sg x [91]) [40]):=by
 rw[EL hn] at hb ⊢
 have hq:isG s.sg x 4 [40]=true:=by
  cases hq:isG s.sg x 4 [40] with
  |true=>rfl
  |false=>rw[UF hq] at hb;cases hb
 rw[Mx hq];exact⟨(a9L hq (by omega) hx.1.1.1 hx.1.1.2 hx.1.2 (by omega)).2,hx.2⟩
theorem a3c{one:Ps→PR}{ks0:Ad}{y:Ad×Gs}(hs:sgB s.sg)(h:vlQ s.sg one m ks0 x y):rOk s y.2:=(a2V hs h).1
theorem a3d{one:Ps→PR}{ks0:Ad}{y:Ad×Gs}(hs:sgB s.sg)(h:vlQ s.sg one m ks0 x y):y.1.length≤ks0.length+3001:=(a2V hs h).2.1
def eqJ(sg:List Sg)(n:Nat)(x y:Gs)(k:Int)(N:Nat):Prop:=enI sg n x y k N∧(y.bad=false→y.deep≤20)
theorem c3C(hx:wQ 2 (n+1) s x)(hz:Ag s.sg x (pE s.sg n .base) z):eqJ s.sg n x z.2 z.1 (s.sg.length+1):=c1f hx.1.1.1 hx.1.1.2 hz
theorem b0C(hx:wQ 2 (n+1) s x)(h:eqJ s.sg n x y k N):rOk s y:=⟨hx.1.1.1.1,h.1.1.1⟩
theorem c3D(hx:wQ 2 (n+1) s x)(h:eqJ s.sg n x y k N)(hq:isG s.sg y 4 [40]=true):wQ 11 n s (AA s.sg y [40]):=by
 have hb:=(Eg hq (by omega)).1
 have:=h.1.2.2 hb;have:=hx.1.2
 have hl:=Eg hq (by omega)
 rw[FW hq]
 have e1:(Au y).pos=y.pos+1:=rfl
 have e2:(Au y).deep=y.deep:=rfl
 exact⟨⟨⟨⟨hx.1.1.1.1,Ib h.1.1.1 hl.2⟩,fun _=>by rw[e2];exact h.2 hb⟩,by omega⟩,hx.2⟩
theorem b0D(hx:wQ 2 (n+1) s x)(h:eqJ s.sg n x y k N)(hq:isG s.sg y 4 [40]=true)(hv:vlQ s.sg (pE s.sg n .value) [41] [k] (AA s.sg y [40]) v):
 eqJ s.sg n x (Av v.2 ⟨5,[],v.1,false⟩) (AQ v.2) (N-1)∧N-1<N:=by
 rw[FW hq,←Mx hq] at hv
 have hw:=b0t h.1.1.1 hv
 exact c1g h hw hq
theorem b0E(hx:wQ 2 (n+1) s x)(h:eqJ s.sg n x y k N)(hp:isG s.sg y 4 [40]=false)(hq:isG s.sg (AA s.sg y [40]) 4 [46]=true):
 eqJ s.sg n x (Av (Bi s.sg (AA s.sg (AA s.sg y [40]) [46]) 1) ⟨6,BK s.sg (AA s.sg (AA s.sg y [40]) [46]) 1,[k],false⟩) (AQ (Bi s.sg (AA s.sg (AA s.sg y [40]) [46]) 1)) (N-1)∧N-1<N:=by
 rw[EL hp] at hq ⊢
 rw[FW hq]
 obtain⟨a,b⟩:=c3f hx.1.1.1.1 h.1 hp hq
 refine⟨⟨a,fun _=> ?_⟩,b⟩
 rw[a2C]
 have:=h.2 (Eg hq (by omega)).1
 have e:(Bi s.sg (Au y) 1).deep=y.deep:=by unfold Bi;split<;>rfl
 omega
theorem a3e(hx:wQ 2 (n+1) s x)(h:eqJ s.sg n x y k N):rOk s (AA s.sg y [40])∧rOk s (AA s.sg (AA s.sg y [40]) [46])∧rOk s (Bi s.sg (AA s.sg (AA s.sg y [40]) [46]) 1):=
 have a:=Hl (m:=[40]) (b0C hx h)
 ⟨a,Hl a,JR (Hl a) (by omega)⟩
theorem c3E(h:eqJ s.sg n x y k N)(hb:y.bad=true):Ag s.sg x (pE s.sg (n+1) .fin) (k,y):=c0M h.1 hb
theorem c3F(h:eqJ s.sg n x y k N)(hb:y.bad=false)(hp:isG s.sg y 4 [40]=false)(hq:isG s.sg (AA s.sg y [40]) 4 [46]=false):Ag s.sg x (pE s.sg (n+1) .fin) (k,AA s.sg (AA s.sg y [40]) [46]):=by
 rw[EL hp] at hq ⊢
 rw[EL hq];exact c0Q h.1 hb hp hq
attribute [local irreducible] pE BG DL fnR Ag BU gsOk Ax Dq Av Eh FT AA Fq FD AQ Dr pkG isG nmG kdG Bi BK Cn vlQ lqJ saI arG eqJ
def Lt(n:Nat):Sig:=⟨ST×Int×Int×Bool×List Nd,fun x=>[srd x.1 (xg x)],fun x=>wQ 1 (n+1) x.1 (xg x),Int×Int×Int×Bool×List Nd,fun x y=>Ag x.1.sg (xg x) (pE x.1.sg (n+1) .base) (yS y),fun x y=> .q y.1,fun x y=>[srd x.1 (yG y.2)],true,[],[]⟩
theorem c3G(n:Nat)(h:qAll G n):CtG G 155 (Lt n):=
 vFq [(47,0,Ft),(48,0,Dh),(35,0,BD),(52,0,Cw),(94,0,(Ih n)),(160,0,Hm),(53,0,Ii),(51,0,Ct),(93,0,(KB n)),(78,0,(Pu n))] [(27,⟨Int,BE⟩)] (fun x=>[]) Tryz.func155 ⟨XG,NR,JQ,JP,(a2Z n h),c3s,a3a,Ky,h.pick,h.val,trivial⟩ (fun x=>True∧Ae (xg x).bad (rA (Lt n) x [.q 0,srd x.1 (xg x)]) (cA Ft [srd x.1 (xg x),.q 1] fun x_1 y=>Ae (kdG x_1.1.sg (xh x_1) (Z5 x_1)) (cA Dh [srd x_1.1 (xh x_1),.q 1] fun x_2 y=>cA BD [srd x_2.1 (Bi x_2.1.sg (xh x_2) (Z5 x_2)),.q 1,.str (BK x_2.1.sg (xh x_2) (Z5 x_2)),An []] fun x_3 y=>rA (Lt n) x [.q (AQ (xh x_3)),srd x_3.1 (Av (xh x_3) {kind:=(G5 x_3),text:=(G6 x_3),kids:=(Z7 x_3),blank:=false})]) (cA Ft [srd x_1.1 (xh x_1),.q 2] fun x_2 y=>Ae (kdG x_2.1.sg (xh x_2) (Z5 x_2)) (cA Dh [srd x_2.1 (xh x_2),.q 2] fun x_3 y=>cA BD [srd x_3.1 (Bi x_3.1.sg (xh x_3) (Z5 x_3)),.q 2,.str (BK x_3.1.sg (xh x_3) (Z5 x_3)),An []] fun x_4 y=>rA (Lt n) x [.q (AQ (xh x_4)),srd x_4.1 (Av (xh x_4) {kind:=(G5 x_4),text:=(G6 x_4),kids:=(Z7 x_4),blank:=false})]) (cA Ft [srd x_2.1 (xh x_2),.q 3] fun x_3 y=>Ae (kdG x_3.1.sg (xh x_3) (Z5 x_3)) (cA Dh [srd x_3.1 (xh x_3),.q 3] fun x_4 y=>cA BD [srd x_4.1 (Bi x_4.1.sg (xh x_4) (Z5 x_4)),.q 3,.str (BK x_4.1.sg (xh x_4) (Z5 x_4)),An []] fun x_5 y=>rA (Lt n) x [.q (AQ (xh x_5)),srd x_5.1 (Av (xh x_5) {kind:=(G5 x_5),text:=(G6 x_5),kids:=(Z7 x_5),blank:=false})]) (cA Cw [srd x_3.1 (xh x_3),.str #[(91:UInt8)].toList] fun x_4 y=>Ae (isG x_4.1.sg (xh x_4) (4:Int) (Z5 x_4)) (cA (Ih n) [srd x_4.1 (AA x_4.1.sg (xh x_4) (Z5 x_4)),.str #[(93:UInt8)].toList,An []] fun x_5 y=>cA BD [srd x_5.1 (yG y.2),.q 4,.str #[].toList,An y.1] fun x_6 y=>rA (Lt n) x [.q (AQ (xh x_6)),srd x_6.1 (Av (xh x_6) {kind:=(G5 x_6),text:=(G6 x_6),kids:=(Z7 x_6),blank:=false})]) (cA Hm [srd x_4.1 (AA x_4.1.sg (xh x_4) (Z5 x_4))] fun x_5 y=>Ae (arG x_5.1.sg (xg x_5)) (cA Ii [srd x_5.1 (xg x_5)] fun x_6 y=>cA Ct [srd x_6.1 (yG y.2),.str #[(61:UInt8),62].toList] fun x_7 y_1=>cA (KB n) [srd x_7.1 (Ax x_7.1.sg (xh x_7) (Z5 x_7))] fun x_8 y_2=>∃(x_9:Int),y_2.1=x_9∧∃(zs:Ad),An [x_9]=An zs∧Ca BE∧Bb (y.1.length+zs.length) (8:Nat)∧cA BD [srd x_8.1 (yG y_2.2),.q 9,.str #[].toList,An (y.1++zs)] fun x_10 y=>rA (Lt n) x [.q (AQ (xh x_10)),srd x_10.1 (Av (xh x_10) {kind:=(G5 x_10),text:=(G6 x_10),kids:=(Z7 x_10),blank:=false})]) (cA Ct [srd x_5.1 (xg x_5),.str #[(40:UInt8)].toList] fun x_6 y=>Ae (Ax x_6.1.sg (xh x_6) (Z5 x_6)).bad (rA (Lt n) x [.q 0,srd x_6.1 (Ax x_6.1.sg (xh x_6) (Z5 x_6))]) (cA (Pu n) [srd x_6.1 (Ax x_6.1.sg (xh x_6) (Z5 x_6))] fun x_7 y=>cA Ct [srd x_7.1 (yG y.2),.str #[(41:UInt8)].toList] fun x_8 y_1=>∃(x_9:Int),y.1=x_9∧cA BD [srd x_8.1 (Ax x_8.1.sg (xh x_8) (Z5 x_8)),.q 11,.str #[].toList,An [x_9]] fun x_10 y=>rA (Lt n) x [.q (AQ (xh x_10)),srd x_10.1 (Av (xh x_10) {kind:=(G5 x_10),text:=(G6 x_10),kids:=(Z7 x_10),blank:=false})])))))))) (by kernel_rfl) fun(x:ST×Int×Int×Bool×List Nd) (hx:wQ 1 (n+1) x.1 (xg x))=>(by
 dsimp only[G5,G6,Z5,Z7,cA,Ce,An,BJ,rA,Hm,Lt,Ft,Cw,Ii,KB,BD,Dh,Pu,Ih,Ct,CD,sgs,srd,AB,AF,mvL,lnL,mvE,lnE,AV.q]
 obtain⟨s,p,d,b,ns⟩:=x;dsimp only[xg,xh] at hx ⊢
 have hx:wQ 1 (n+1) s ⟨p,d,b,ns⟩:=hx
 have h1:=hx.1.1.1;have hs:=h1.1
 (repeat' first|(with_reducible first|rfl|exact⟨⟩|apply AG|apply AM)|apply AL|(apply AK<;>try dsimp only)|apply AJ|((try refine AH.2 ?_);intro _;try dsimp only))
 all_goals(try dsimp only[xg,xh,yG,yS,iG] at*)
 all_goals(try simp only[Ic] at*)
 all_goals first
  |rfl
  |exact h1
  |omega
  |(simp;done)
  |exact b0s h1.2 ‹_›
  |exact c3u hs h1.2 ‹_›
  |exact b0B hs h1.2 (.inl rfl) ‹_›
  |exact b0B hs h1.2 (.inr rfl) ‹_›
  |exact JR h1 (by omega)
  |exact c3z hx ‹_›
  |exact c3v h1 ‹_› ‹_› ‹_› ‹_› ‹_›
  |exact a3c hs ‹_›
  |exact Hl h1
  |exact c3A hx ‹_› ‹_› ‹_›
  |exact c3B hx ‹_› ‹_›
  |exact(IV (Hl h1)).1
  |exact GS h1 ‹_›
  |exact(IV (GS h1 ‹_›)).1
  |exact c3w hx.2 h1 ‹_› ‹_› ‹_› ‹_› ‹_› ‹_› ‹_›
  |exact c3x hx.2 h1 ‹_› ‹_› ‹_› ‹_› ‹_› ‹_› ‹_›
  |exact c3y h1 ‹_› ‹_› ‹_› ‹_› ‹_› ‹_›
  |(have hq:=a3d hs ‹vlQ _ _ _ [] _ _›;(try simp only[Bb,Ba,AE,AX] at*);omega)
  |skip)
def XS(n:Nat):Sig:=⟨ST×Int×Int×Bool×List Nd,fun x=>[srd x.1 (xg x)],fun x=>wQ 2 (n+1) x.1 (xg x),Int×Int×Int×Bool×List Nd,fun x y=>Ag x.1.sg (xg x) (pE x.1.sg (n+1) .fin) (yS y),fun x y=> .q y.1,fun x y=>[srd x.1 (yG y.2)],true,[],[]⟩
def UH(n:Nat)(x:ST×Int×Int×Bool×List Nd):LS:=⟨Int×Int×Bool×List Nd×Int×Nat,fun i=>eqJ x.1.sg n (xg x) (iG i) i.2.2.2.2.1 i.2.2.2.2.2,fun i=>[(0,srd x.1 (iG i)),(3,.q i.2.2.2.2.1)],[],fun i=>i.2.2.2.2.2,fun _=>[],[]⟩
theorem c3H(n:Nat)(h:qAll G n):CtG G 134 (XS n):=
 vFq [(155,0,(XN n)),(52,0,Cw),(94,0,(Ih n)),(35,0,BD),(48,0,Dh)] [(27,⟨Int,BE⟩)] (fun x=>[(2,UH n x)]) Tryz.func134 ⟨h.base,JP,(a2Z n h),JQ,NR,trivial⟩ (fun x=>True∧cA (XN n) [srd x.1 (xg x)] fun x_1 y=>eA (UH n x) [srd x_1.1 (yG y.2),.q y.1]∧∀(i:Int×Int×Bool×List Nd×Int×Nat),eqJ x.1.sg n (xg x) (iG i) (G4 i) (Z5 i)→Ae (!(iG i).bad) (cA Cw [srd x.1 (iG i),.str #[(40:UInt8)].toList] fun x_2 y=>Ae (isG x_2.1.sg (xh x_2) (4:Int) (Z5 x_2)) (∃(x_3:Int),(G4 i)=x_3∧cA (Ih n) [srd x_2.1 (AA x_2.1.sg (xh x_2) (Z5 x_2)),.str #[(41:UInt8)].toList,An [x_3]] fun x_4 y=>cA BD [srd x_4.1 (yG y.2),.q 5,.str #[].toList,An y.1] fun x_5 y=>eN (UH n x) i [srd x_5.1 (Av (xh x_5) {kind:=(G5 x_5),text:=(G6 x_5),kids:=(Z7 x_5),blank:=false}),.q (AQ (xh x_5))]) (cA Cw [srd x_2.1 (AA x_2.1.sg (xh x_2) (Z5 x_2)),.str #[(46:UInt8)].toList] fun x_3 y=>Ae (isG x_3.1.sg (xh x_3) (4:Int) (Z5 x_3)) (cA Dh [srd x_3.1 (AA x_3.1.sg (xh x_3) (Z5 x_3)),.q 1] fun x_4 y=>∃(x_5:Int),(G4 i)=x_5∧cA BD [srd x_4.1 (Bi x_4.1.sg (xh x_4) (Z5 x_4)),.q 6,.str (BK x_4.1.sg (xh x_4) (Z5 x_4)),An [x_5]] fun x_6 y=>eN (UH n x) i [srd x_6.1 (Av (xh x_6) {kind:=(G5 x_6),text:=(G6 x_6),kids:=(Z7 x_6),blank:=false}),.q (AQ (xh x_6))]) (rA (XS n) x [.q (G4 i),srd x_3.1 (AA x_3.1.sg (xh x_3) (Z5 x_3))]))) (rA (XS n) x [.q (G4 i),srd x.1 (iG i)])) (by kernel_rfl) fun(x:ST×Int×Int×Bool×List Nd) (hx:wQ 2 (n+1) x.1 (xg x))=>(by
 dsimp only[G4,G5,G6,Z5,Z7,cA,eA,eN,UH,Ce,An,BJ,rA,XN,XS,Cw,BD,Dh,Ih,CD,sgs,srd,AB,AF,mvL,lnL,mvE,lnE,Bn,AV.q]
 obtain⟨s,p,d,b,ns⟩:=x;dsimp only[xg,xh] at hx ⊢
 have hx:wQ 2 (n+1) s ⟨p,d,b,ns⟩:=hx
 have h1:=hx.1.1.1;have hs:=h1.1
 (repeat' first|(with_reducible first|rfl|exact⟨⟩|apply AG|apply AM)|apply AL|(apply AK<;>try dsimp only)|apply AJ|((try refine AH.2 ?_);intro _;try dsimp only))
 all_goals(try dsimp only[xg,xh,yG,yS,iG] at*)
 all_goals(try simp only[Ic] at*)
 all_goals first
  |(show Nat;skip)
  |rfl
  |exact⟨c1h hx.1.1.1 hx.1.1.2 hx.1.2,hx.2⟩
  |exact c3C hx ‹_›
  |exact b0C hx ‹_›
  |exact c3D hx ‹_› ‹_›
  |exact(a3e hx ‹_›).1
  |exact(a3e hx ‹_›).2.1
  |exact(a3e hx ‹_›).2.2
  |exact a3c hs ‹_›
  |exact(b0D hx ‹_› ‹_› ‹_›).1
  |exact(b0E hx ‹_› ‹_› ‹_›).1
  |exact c3E ‹_› ‹_›
  |exact c3F ‹_› ‹_› ‹_› ‹_›
  |omega
  |(simp;done)
  |skip
 all_goals first
  |exact(b0D hx ‹_› ‹_› ‹_›).2
  |exact(b0E hx ‹_› ‹_› ‹_›).2
  |skip)
end Go.My
end
section
namespace Go.My
open Go.Eng Go.Proofs
variable {G:GInv}
variable {N l n:Nat}{b:Bool}{d i p:Int}{g x y:Gs}{ks:Ad}{m t:Aa}{ns:List Nd}{s:ST}{sg:List Sg}{z:Int×Gs}
theorem bt{a b:Aa}(h:(a==b)=true):a=b:=by simpa using h
theorem bf{a b:Aa}(h:(a==b)=false):a≠b:=by simpa using h
def csJ(sg:List Sg)(n l:Nat)(x y:Gs)(t:Aa)(ks:Ad)(N:Nat):Prop:=chS sg n l x y t ks N∧(y.bad=false→y.deep≤20)
theorem c3I{l:Int}(hx:wQ (9-l.toNat) (n+1) s x)(hl:l>5)(h6:l≤6):wQ 2 n s x:=by
 have e:l.toNat=6:=by omega
 have a:=hx.1.2
 rw[e] at a
 exact⟨⟨hx.1.1,by omega⟩,hx.2⟩
theorem c3J{l:Int}(hl:l>5)(h6:l≤6)(h:Ag s.sg x (pE s.sg n .fin) z):Ag s.sg x (pE s.sg (n+1) (.chain l.toNat)) z:=c1j (by omega) h
theorem c3K{l:Int}(hx:wQ (9-l.toNat) (n+1) s x)(h0:0≤l)(hl:¬l>5):wQ (9-(l+1).toNat) n s x:=⟨⟨hx.1.1,by have:=hx.1.2;omega⟩,hx.2⟩
theorem c3L{l:Int}(hx:wQ (9-l.toNat) (n+1) s x)(h0:0≤l)(hl:¬l>5)(hz:Ag s.sg x (pE s.sg n (.chain (l+1).toNat)) z):csJ s.sg n l.toNat x z.2 [] [z.1] (2*s.sg.length+4):=by
 rw[show(l+1).toNat=l.toNat+1 by omega] at hz
 exact⟨c2X hx.1.1.1.2 (by omega) hz,Uz hz hx.1.1.2⟩
theorem b0F(hs:sgB s.sg)(h:csJ s.sg n l x y t ks N):rOk s y:=⟨hs,h.1.1.1⟩
theorem b0G(hs:sgB s.sg)(h:csJ s.sg n l x y t ks N)(hq:mkQ s.sg y l i m):rOk s (gM y m):=by
 unfold gM;split
 ·exact b0F hs h
 ·rename_i hm
  rcases hq.2 with h2|h2
  ·exact(hm h2.1).elim
  ·have hg:=(NK (sg:=s.sg) (l:=l) (g:=y) (by rw[←h2.2];exact hm)).1
   exact⟨hs,Ib h.1.1.1 (Eg hg (by omega)).2⟩
theorem b0H{l:Int}(hx:wQ (9-l.toNat) (n+1) s x)(h0:0≤l)(hl:¬l>5)(h:csJ s.sg n l.toNat x y t ks N)(hq:mkQ s.sg y l.toNat i m)(hm:m≠[]):wQ (9-(l+1).toNat) n s (gM y m):=by
 have hr:=b0G hx.1.1.1.1 h hq
 rw[XK hm] at hr ⊢
 rcases hq.2 with h2|h2
 ·exact(hm h2.1).elim
 ·have hg:=(NK (sg:=s.sg) (l:=l.toNat) (g:=y) (by rw[←h2.2];exact hm)).1
  have hb:=Eg hg (by omega)
  have e1:(Au y).pos=y.pos+1:=rfl
  have e2:(Au y).deep=y.deep:=rfl
  have:=h.1.1.2.2.1;have:=hx.1.2;have:=h.2 hb.1
  exact⟨⟨⟨hr,fun _=>by omega⟩,by omega⟩,hx.2⟩
theorem c3M{l:Int}(hx:wQ (9-l.toNat) (n+1) s x)(h0:0≤l)(hl:¬l>5)(h:csJ s.sg n l.toNat x y t ks N)(hq:mkQ s.sg y l.toNat i m)(hm:m≠[])(ht:t≠[]):wQ (9-(l+1).toNat) n s (Av (gM y m) ⟨7,t,ks,false⟩):=by
 have a:=b0H hx h0 hl h hq hm
 obtain⟨d1,d2,d3⟩:= @Mt (gM y m) ⟨7,t,ks,false⟩
 have hw:=a2S (ks:=ks) hx.1.1.1.1 (h.1.2.2.2.2.2 ht).2 (by have:=h.1.2.2.1;have:=h.1.1.1.1;omega)
 exact⟨⟨⟨⟨a.1.1.1.1,Us a.1.1.1.2 hw⟩,fun hb=>by rw[d1];exact a.1.1.2 (d3 hb)⟩,by rw[d2];exact a.1.2⟩,a.2⟩
theorem XT{l:Int}(h0:0≤l)(h:csJ s.sg n l.toNat x y t ks N)(hq:mkQ s.sg y l.toNat i m)(hi:¬i<((Ck l.toNat).length:Int))(hm:m≠[])(ht:t=[]∨m=t)
 (hz:Ag s.sg (gM y m) (pE s.sg n (.chain (l+1).toNat)) z):csJ s.sg n l.toNat x z.2 m (ks++[z.1]) (N-1)∧N-1<N:=by
 have e:=XL hq hi
 rw[XK hm,show(l+1).toNat=l.toNat+1 by omega] at hz
 obtain⟨a,b⟩:=c2Y h.1 (by rw[←e];exact hm) (by rw[←e];exact ht) hz
 rw[←e] at a
 have hg:=(NK (sg:=s.sg) (l:=l.toNat) (g:=y) (by rw[←e];exact hm)).1
 exact⟨⟨a,Uz hz (fun _=>h.2 (Eg hg (by omega)).1)⟩,b⟩
theorem b0I{l:Int}(hs:sgB s.sg)(h0:0≤l)(h:csJ s.sg n l.toNat x y t ks N)(hq:mkQ s.sg y l.toNat i m)(hi:¬i<((Ck l.toNat).length:Int))(hm:m≠[])(ht:t≠[])(hne:m≠t)
 (hz:Ag s.sg (Av (gM y m) ⟨7,t,ks,false⟩) (pE s.sg n (.chain (l+1).toNat)) z):csJ s.sg n l.toNat x z.2 m ([AQ (gM y m)]++[z.1]) (N-2)∧N-2<N:=by
 have e:=XL hq hi
 rw[XK hm] at hz ⊢
 rw[show(l+1).toNat=l.toNat+1 by omega] at hz
 obtain⟨a,b⟩:=c2Z hs h.1 (by rw[←e];exact hm) ht (by rw[←e];exact hne) hz
 rw[←e] at a
 have hg:=(NK (sg:=s.sg) (l:=l.toNat) (g:=y) (by rw[←e];exact hm)).1
 refine⟨⟨a,Uz hz (fun hb=> ?_)⟩,b⟩
 rw[a2C];exact h.2 (Eg hg (by omega)).1
theorem c3N{k:Int}(h:csJ s.sg n l x y t ks N)(hq:mkQ s.sg y l i m)(hi:¬i<((Ck l).length:Int))(hm:m=[])(hl:(ks.length:Int)=1)(hk:ks[(0:Int).toNat]? =some k):Ag s.sg x (pE s.sg (n+1) (.chain l)) (k,gM y m):=by
 have e:=XL hq hi
 subst hm
 exact b0q h.1 (.inr e.symm) (by omega) hk
theorem c3O(hs:sgB s.sg)(h:csJ s.sg n l x y t ks N)(hq:mkQ s.sg y l i m)(hi:¬i<((Ck l).length:Int))(hm:m=[])(hl:(ks.length:Int)≠1):Ag s.sg x (pE s.sg (n+1) (.chain l)) (AQ (gM y m),Av (gM y m) ⟨7,t,ks,false⟩):=by
 have e:=XL hq hi
 subst hm
 exact b0r hs h.1 (.inr e.symm) (by omega)
theorem c3P{k:Int}(h:csJ s.sg n l x y t ks N)(hb:y.bad=true)(hl:(ks.length:Int)=1)(hk:ks[(0:Int).toNat]? =some k):Ag s.sg x (pE s.sg (n+1) (.chain l)) (k,y):=b0q h.1 (.inl hb) (by omega) hk
theorem c3Q(hs:sgB s.sg)(h:csJ s.sg n l x y t ks N)(hb:y.bad=true)(hl:(ks.length:Int)≠1):Ag s.sg x (pE s.sg (n+1) (.chain l)) (AQ y,Av y ⟨7,t,ks,false⟩):=b0r hs h.1 (.inl hb) (by omega)
theorem c3R(hs:sgB s.sg)(h:csJ s.sg n l x y t ks N):ks.length≤3001∧1≤ks.length:=by
 have h1:=h.1.2.2.1;have h2:=h.1.1.1.1.2;have h3:=hs.1
 refine⟨by omega,?_⟩
 rcases Classical.em (t=[]) with e|e
 ·have:=h.1.2.2.2.2.1 e;omega
 ·have:=(h.1.2.2.2.2.2 e).1;omega
theorem c3S(h:mkQ sg y l i m):(0≤i∧i≤(Ck l).length)∧(Ck l).length≤2:=⟨h.1,c1e⟩
theorem NS{v:Aa}(h:mkQ sg y l i m)(hm:m=[])(ha:(Ck l)[i.toNat]? =some v)(hg:isG sg (gM y m) 4 v=true):
 (AA sg (gM y m) v).pos=(gM y v).pos∧(AA sg (gM y m) v).bad=(gM y v).bad∧(AA sg (gM y m) v).deep=(gM y v).deep∧(AA sg (gM y m) v).nodes=(gM y v).nodes:=by
 rw[(a2U h hm ha hg).2];exact⟨rfl,rfl,rfl,rfl⟩
theorem c3T{f:Ps→PR}(hd:d≤20)(h:d+1>20)(hz:Ag sg ⟨p,d+1,true,ns⟩ f z):Ag sg (pkX ⟨p,d,b,ns⟩) f z:=by
 have e:pkX ⟨p,d,b,ns⟩=⟨p,d+1,true,ns⟩:=by simp only[pkX];rw[if_pos (show d=20 by omega)];rfl
 rw[e];exact hz
theorem c3U{f:Ps→PR}(h:¬d+1>20)(hz:Ag sg ⟨p,d+1,b,ns⟩ f z):Ag sg (pkX ⟨p,d,b,ns⟩) f z:=by
 have e:pkX ⟨p,d,b,ns⟩=⟨p,d+1,b,ns⟩:=by simp only[pkX];rw[if_neg (show¬d=20 by omega)];rfl
 rw[e];exact hz
theorem c3V(hx:vQ 10 (n+1) s ⟨p,d,b,ns⟩)(h:d+1>20):wQ (9-(0:Int).toNat) n s ⟨p,d+1,true,ns⟩:=by
 have a:=(a9M hx.1.1.1 hx.1.1.2 hx.1.2).1
 have hd:=hx.1.1.2;simp only at hd
 have e:pkX ⟨p,d,b,ns⟩=⟨p,d+1,true,ns⟩:=by simp only[pkX];rw[if_pos (show d=20 by omega)];rfl
 rw[e] at a;exact⟨a,hx.2⟩
theorem c3W(hx:vQ 10 (n+1) s ⟨p,d,b,ns⟩)(h:¬d+1>20):wQ (9-(0:Int).toNat) n s ⟨p,d+1,b,ns⟩:=by
 have a:=(a9M hx.1.1.1 hx.1.1.2 hx.1.2).1
 have e:pkX ⟨p,d,b,ns⟩=⟨p,d+1,b,ns⟩:=by simp only[pkX];rw[if_neg (show¬d=20 by omega)];rfl
 rw[e] at a;exact⟨a,hx.2⟩
theorem c3X(hx:vQ 11 (n+1) s x)(h:vaJ s.sg n x y ks N)(hq:isG s.sg y 4 [46,46]=true):
 wQ 11 n s (Ax s.sg (Av (Bi s.sg (AA s.sg y [46,46]) 1) ⟨1,BK s.sg (AA s.sg y [46,46]) 1,[],false⟩) [40]):=by
 have hr:=a2D hx.1.1.1 h
 have a:=RN (m:=[46,46]) hr
 have e:=DG a
 have t:=JO (m:=[40]) (HJ a)
 rw[FW hq] at a e t ⊢
 simp only at e t
 have e1:(Au y).pos=y.pos+1:=rfl
 have e2:(Au y).deep=y.deep:=rfl
 have:=h.1.1.2.2.1;have:=h.2;have:=hx.1.2
 exact⟨⟨⟨⟨hx.1.1.1.1,t.1⟩,fun _=>by omega⟩,by omega⟩,hx.2⟩
theorem b0J{v:Ad×Gs}(hs:sgB s.sg)(h:vaJ s.sg n x y ks N)(hq:isG s.sg y 4 [46,46]=true)
 (hv:vlQ s.sg (pE s.sg n .value) [41] [AQ (Bi s.sg (AA s.sg y [46,46]) 1)] (Ax s.sg (Av (Bi s.sg (AA s.sg y [46,46]) 1) ⟨1,BK s.sg (AA s.sg y [46,46]) 1,[],false⟩) [40]) v):
 vaJ s.sg n x (Av v.2 ⟨5,[],v.1,false⟩) (ks++[AQ v.2]) (N-1)∧N-1<N:=by
 have a:=RN (m:=[46,46]) (show rOk s y from⟨hs,h.1.1.1⟩)
 have hw:=b0t (HJ a) hv
 have e:=(DG a).1
 rw[FW hq] at a e
 obtain⟨c1,c2⟩:=RE (c3g h.1 hq a (by rw[FW hq] at hw;exact hw))
 have e2:(Au y).deep=y.deep:=rfl
 have e3:=(DG hw).1
 rw[FW hq] at e3
 have:=h.2
 exact⟨a9O ⟨c1,by simp only at*;omega⟩,c2⟩
theorem a3f(hs:sgB s.sg)(h:vaJ s.sg n x y ks N):rOk s (AA s.sg y [46,46])∧rOk s (Bi s.sg (AA s.sg y [46,46]) 1)∧rOk s (Av (Bi s.sg (AA s.sg y [46,46]) 1) ⟨1,BK s.sg (AA s.sg y [46,46]) 1,[],false⟩):=
 have hr:rOk s y:=⟨hs,h.1.1.1⟩
 ⟨Hl hr,JR (Hl hr) (by omega),a2X hr⟩
def lqI(s:ST)(e:Int)(j:Int×Int×Bool×List Nd×Aa×Ad×Nat):LS:=⟨Int×Aa,fun i=>mkQ s.sg (iF j) e.toNat i.1 i.2,fun i=>[(0,srd s (gM (iF j) i.2)),(1,.int .i64 e),(5,An j.2.2.2.2.2.1),(6,.str j.2.2.2.2.1),(7,.sl false 0 1 Aa Bo (Ck e.toNat)),(8,.str i.2),(9,.int .i64 i.1)],[],fun i=>(Ck e.toNat).length-i.1.toNat,fun _=>[],[]⟩
def lqO(n:Nat)(x:ST×Int×Int×Bool×List Nd×Int):LS:=⟨Int×Int×Bool×List Nd×Aa×Ad×Nat,fun i=>csJ x.1.sg n x.2.2.2.2.2.toNat (xh x) (iF i) i.2.2.2.2.1 i.2.2.2.2.2.1 i.2.2.2.2.2.2,fun i=>[(0,srd x.1 (iF i)),(1,.int .i64 x.2.2.2.2.2),(5,An i.2.2.2.2.2.1),(6,.str i.2.2.2.2.1),(7,.sl false 0 1 Aa Bo (Ck x.2.2.2.2.2.toNat))],[],fun i=>i.2.2.2.2.2.2,fun j=>[(9,lqI x.1 x.2.2.2.2.2 j)],[]⟩
attribute [local irreducible] pE BG DL fnR Ag BU gsOk Ax Dq Av Eh FT AA Fq FD AQ Dr pkG isG nmG kdG Bi BK Cn vlQ lqJ saI arG eqJ csJ mkQ gM vaJ
def KD:Sig:=⟨Int,fun x=>[.q x],fun x=>0≤x∧x≤5,Unit,fun x y=>True,fun x y=> .sl false 0 1 Aa Bo (Ck x.toNat),fun x y=>[.top],true,[],[]⟩
theorem c3Y:CtG G 135 KD:=
 vFq [] [(44,⟨Aa,Bo⟩)] (fun x=>[]) Tryz.func135 trivial (fun(x:Int)=>True∧Ae (x==0) (∃(x_1:Aa),#[(124:UInt8),124].toList=x_1∧rA KD x [AV.sl true 0 1 Aa Bo [x_1],.top]) (Ae (x==1) (∃(x_1:Aa),#[(38:UInt8),38].toList=x_1∧rA KD x [AV.sl true 0 1 Aa Bo [x_1],.top]) (Ae (x==2) (∃(x_1:Aa),#[(61:UInt8),61].toList=x_1∧rA KD x [AV.sl true 0 1 Aa Bo [x_1],.top]) (Ae (x==3) (∃(x_1:Aa),#[(60:UInt8)].toList=x_1∧rA KD x [AV.sl true 0 1 Aa Bo [x_1],.top]) (Ae (x==4) (∃(x_1:Aa),#[(43:UInt8)].toList=x_1∧∃(x_2:Aa),#[(45:UInt8)].toList=x_2∧rA KD x [AV.sl true 0 1 Aa Bo [x_1,x_2],.top]) (∃(x_1:Aa),#[(42:UInt8)].toList=x_1∧rA KD x [AV.sl true 0 1 Aa Bo [x_1],.top])))))) (by kernel_rfl) fun(x:Int) (hx:0≤x∧x≤5)=>(by
 dsimp only[rA,KD,AB,AF,AV.q]
 obtain⟨h1,h2⟩:=hx
 have hh:x=0∨x=1∨x=2∨x=3∨x=4∨x=5:=by omega
 rcases hh with rfl|rfl|rfl|rfl|rfl|rfl
 all_goals(repeat' first|(with_reducible first|rfl|exact⟨⟩|apply AG|apply AM)|apply AL|(apply AK<;>try dsimp only)|apply AJ|((try refine AH.2 ?_);intro _;try dsimp only))
 all_goals first
  |rfl
  |omega
  |(simp [Bb];done)
  |skip)
def Pv(n:Nat):Sig:=⟨ST×Int×Int×Bool×List Nd×Int,fun x=>[srd x.1 (xh x),.q x.2.2.2.2.2],fun x=>wQ (9-x.2.2.2.2.2.toNat) (n+1) x.1 (xh x)∧0≤x.2.2.2.2.2∧x.2.2.2.2.2≤6,Int×Int×Int×Bool×List Nd,fun x y=>Ag x.1.sg (xh x) (pE x.1.sg (n+1) (.chain x.2.2.2.2.2.toNat)) (yS y),fun x y=> .q y.1,fun x y=>[srd x.1 (yG y.2),.top],true,[],[]⟩
def a3g(n:Nat)(x:ST×Int×Int×Bool×List Nd×Int)(i:Int×Int×Bool×List Nd×Aa×Ad×Nat)(i_1:Int×Aa):Prop:=cA (KC n) [srd x.1 (gM (iF i) i_1.2),.q ((Z5 x)+(1:Int))] fun x_4 y=>∃(x_5:Int),y.1=x_5∧(∃(zs:Ad),An [x_5]=An zs∧(Ca BE∧(Bb ((G5 i).length+zs.length) (8:Nat)∧(eN (lqO n x) i [srd x_4.1 (yG y.2),.q (Z5 x),An ((G5 i)++zs),.str i_1.2,AV.sl false 0 1 Aa Bo (Ck (Int.toNat (Z5 x)))]))))
theorem c3Z(n:Nat)(h:qAll G n):CtG G 108 (Pv n):=
 vFq [(134,0,(XM n)),(108,0,(KC n)),(135,0,KD),(52,0,Cw),(35,0,BD)] [(27,⟨Int,BE⟩),(44,⟨Aa,Bo⟩)] (fun x=>[(6,lqO n x)]) Tryz.func108 ⟨h.fin,h.chain,c3Y,JP,JQ,trivial⟩ (fun x=>True∧Ae (decide ((Z5 x)>(5:Int))) (cA (XM n) [srd x.1 (xh x)] fun x_1 y=>rA (Pv n) x [.q y.1,srd x_1.1 (yG y.2),.top]) (inR .i64 ((Z5 x)+(1:Int))∧cA (KC n) [srd x.1 (xh x),.q ((Z5 x)+(1:Int))] fun x_1 y=>∃(x_2:Int),y.1=x_2∧cA KD [.q (Z5 x)] fun x_3 y_1=>eA (lqO n x) [srd x_1.1 (yG y.2),.q (Z5 x),An [x_2],.str #[].toList,AV.sl false 0 1 Aa Bo (Ck (Int.toNat x_3))]∧∀(i:Int×Int×Bool×List Nd×Aa×Ad×Nat),csJ x.1.sg n (Int.toNat (Z5 x)) (xh x) (iF i) (G4 i) (G5 i) (Z6 i)→Ae (!(iF i).bad) (eA (lqI x.1 (Z5 x) i) [srd x.1 (iF i),.q (Z5 x),An (G5 i),.str (G4 i),AV.sl false 0 1 Aa Bo (Ck (Int.toNat (Z5 x))),.str #[].toList,.q 0]∧∀(i_1:Int×Aa),mkQ x.1.sg (iF i) (Int.toNat (Z5 x)) i_1.1 i_1.2→Ae (decide (i_1.1<(↑((Ck (Int.toNat (Z5 x))).length):Int))) (Ae (i_1.2== #[].toList) ((0≤i_1.1∧i_1.1<(↑((Ck (Int.toNat (Z5 x))).length):Int))∧∀(e:Aa),(Ck (Int.toNat (Z5 x)))[Int.toNat i_1.1]? =some e→cA Cw [srd x.1 (gM (iF i) i_1.2),.str e] fun x_4 y=>Ae (isG x_4.1.sg (xh x_4) (4:Int) (Z5 x_4)) ((0≤i_1.1∧i_1.1<(↑((Ck (Int.toNat (Z5 x))).length):Int))∧∀(e:Aa),(Ck (Int.toNat (Z5 x)))[Int.toNat i_1.1]? =some e→inR .i64 (i_1.1+(1:Int))∧eN (lqI x.1 (Z5 x) i) i_1 [srd x_4.1 (AA x_4.1.sg (xh x_4) (Z5 x_4)),.q (Z5 x),An (G5 i),.str (G4 i),AV.sl false 0 1 Aa Bo (Ck (Int.toNat (Z5 x))),.str e,.q (i_1.1+(1:Int))]) (inR .i64 (i_1.1+(1:Int))∧eN (lqI x.1 (Z5 x) i) i_1 [srd x_4.1 (AA x_4.1.sg (xh x_4) (Z5 x_4)),.q (Z5 x),An (G5 i),.str (G4 i),AV.sl false 0 1 Aa Bo (Ck (Int.toNat (Z5 x))),.str i_1.2,.q (i_1.1+(1:Int))])) (inR .i64 (i_1.1+(1:Int))∧eN (lqI x.1 (Z5 x) i) i_1 [srd x.1 (gM (iF i) i_1.2),.q (Z5 x),An (G5 i),.str (G4 i),AV.sl false 0 1 Aa Bo (Ck (Int.toNat (Z5 x))),.str i_1.2,.q (i_1.1+(1:Int))])) (Ae (i_1.2== #[].toList) (Ae ((nL (G5 i))==(1:Int)) (((0:Int)≤(0:Int)∧0<(nL (G5 i)))∧(0:Nat)<(G5 i).length∧∀(x_4:Int),(G5 i)[(0:Nat)]? =some x_4→rA (Pv n) x [.q x_4,srd x.1 (gM (iF i) i_1.2),.top]) (cA BD [srd x.1 (gM (iF i) i_1.2),.q 7,.str (G4 i),An (G5 i)] fun x_4 y=>rA (Pv n) x [.q (AQ (xh x_4)),srd x_4.1 (Av (xh x_4) {kind:=(G5 x_4),text:=(G6 x_4),kids:=(Z7 x_4),blank:=false}),.top])) (Ae (!(G4 i)== #[].toList) (Ae (!i_1.2==(G4 i)) (cA BD [srd x.1 (gM (iF i) i_1.2),.q 7,.str (G4 i),An (G5 i)] fun x_4 y=>∃(x_5:Int),AQ (xh x_4)=x_5∧inR .i64 ((Z5 x)+(1:Int))∧cA (KC n) [srd x_4.1 (Av (xh x_4) {kind:=(G5 x_4),text:=(G6 x_4),kids:=(Z7 x_4),blank:=false}),.q ((Z5 x)+(1:Int))] fun x_6 y=>∃(x_7:Int),y.1=x_7∧∃(zs:Ad),An [x_7]=An zs∧Ca BE∧Bb (List.length [x_5]+zs.length) (8:Nat)∧eN (lqO n x) i [srd x_6.1 (yG y.2),.q (Z5 x),An ([x_5]++zs),.str i_1.2,AV.sl false 0 1 Aa Bo (Ck (Int.toNat (Z5 x)))]) (inR .i64 ((Z5 x)+(1:Int))∧(a3g n x i i_1))) (inR .i64 ((Z5 x)+(1:Int))∧(a3g n x i i_1))))) (Ae ((nL (G5 i))==(1:Int)) (((0:Int)≤(0:Int)∧0<(nL (G5 i)))∧(0:Nat)<(G5 i).length∧∀(x_4:Int),(G5 i)[(0:Nat)]? =some x_4→rA (Pv n) x [.q x_4,srd x.1 (iF i),.top]) (cA BD [srd x.1 (iF i),.q 7,.str (G4 i),An (G5 i)] fun x_4 y=>rA (Pv n) x [.q (AQ (xh x_4)),srd x_4.1 (Av (xh x_4) {kind:=(G5 x_4),text:=(G6 x_4),kids:=(Z7 x_4),blank:=false}),.top])))) (by kernel_rfl) fun(x:ST×Int×Int×Bool×List Nd×Int) (hx:wQ (9-x.2.2.2.2.2.toNat) (n+1) x.1 (xh x)∧0≤x.2.2.2.2.2∧x.2.2.2.2.2≤6)=>(by
 dsimp only[nL,G4,G5,G6,Z5,Z6,Z7,a3g,cA,eA,eN,lqI,lqO,Ce,An,BJ,rA,KC,Pv,XM,KD,Cw,BD,CD,sgs,srd,AB,AF,mvL,lnL,mvE,lnE,Bn,AV.q]
 obtain⟨s,p,d,b,ns,e⟩:=x;dsimp only[xg,xh] at hx ⊢
 obtain⟨hx,h4,h5⟩:=hx
 have hx:wQ (9-e.toNat) (n+1) s ⟨p,d,b,ns⟩:=hx
 have h1:=hx.1.1.1;have hs:=h1.1
 (repeat' first|(with_reducible first|rfl|exact⟨⟩|apply AG|apply AM)|apply AL|(apply AK<;>try dsimp only)|apply AJ|((try refine AH.2 ?_);intro _;try dsimp only))
 all_goals(try dsimp only[xg,xh,yG,yS,iG,iF] at*)
 all_goals(try simp only[Ic] at*)
 all_goals first
  |(show Nat;skip)
  |rfl
  |assumption
  |exact h1
  |exact c3I hx ‹_› h5
  |exact c3J ‹_› h5 ‹_›
  |exact c3K hx h4 ‹_›
  |exact c3L hx h4 ‹_› ‹_›
  |exact b0F hs ‹_›
  |exact b0G hs ‹_› ‹_›
  |exact c3a
  |(simp only[a2T];done)
  |exact(NS ‹_› ‹_› ‹_› ‹_›).1
  |exact(NS ‹_› ‹_› ‹_› ‹_›).2.1
  |exact(NS ‹_› ‹_› ‹_› ‹_›).2.2.1
  |exact(NS ‹_› ‹_› ‹_› ‹_›).2.2.2
  |exact c3b ‹_› ‹_› ‹_› ‹_›
  |exact(a2U ‹_› ‹_› ‹_› ‹_›).1
  |exact c3c ‹_› ‹_› ‹_›
  |exact b0H hx h4 ‹_› ‹_› ‹_› ‹_›
  |exact c3M hx h4 ‹_› ‹_› ‹_› ‹_› (bf ‹_›)
  |exact(b0I hs h4 ‹_› ‹_› ‹_› ‹_› (bf ‹_›) (bf ‹_›) ‹_›).1
  |exact(XT h4 ‹_› ‹_› ‹_› ‹_› (.inl (bt ‹_›)) ‹_›).1
  |exact(XT h4 ‹_› ‹_› ‹_› ‹_› (.inr (bt ‹_›)) ‹_›).1
  |exact c3N ‹_› ‹_› ‹_› ‹_› ‹_› ‹_›
  |exact c3O hs ‹_› ‹_› ‹_› ‹_› ‹_›
  |exact c3P ‹_› ‹_› ‹_› ‹_›
  |exact c3Q hs ‹_› ‹_› ‹_›
  |((try simp only[Aw]);omega)
  |(have hq:=c3S ‹mkQ _ _ _ _ _›;(try simp only[Aw]);omega)
  |(have hq:=c3R hs ‹csJ _ _ _ _ _ _ _ _›;(try simp only[Bb,Ba,AE,AX]);omega)
  |skip
 all_goals first
  |exact(b0I hs h4 ‹_› ‹_› ‹_› ‹_› (bf ‹_›) (bf ‹_›) ‹_›).2
  |exact(XT h4 ‹_› ‹_› ‹_› ‹_› (.inl (bt ‹_›)) ‹_›).2
  |exact(XT h4 ‹_› ‹_› ‹_› ‹_› (.inr (bt ‹_›)) ‹_›).2
  |(simp only[a2T];done)
  |skip
 all_goals(try(repeat(rename(Ck _)[_]? =some _=>hq;revert hq;rename(Ck _)[_]? =some _=>hr;intro hq;rw[hr] at hq;cases hq)))
 all_goals first
  |exact(a2U ‹_› ‹_› ‹_› ‹_›).1
  |exact(NS ‹_› ‹_› ‹_› ‹_›).1
  |exact(NS ‹_› ‹_› ‹_› ‹_›).2.1
  |exact(NS ‹_› ‹_› ‹_› ‹_›).2.2.1
  |exact(NS ‹_› ‹_› ‹_› ‹_›).2.2.2
  |(rw[EL ‹_›];done)
  |skip)
def RO(n:Nat):Sig:=⟨ST×Int×Int×Bool×List Nd,fun x=>[srd x.1 (xg x)],fun x=>vQ 10 (n+1) x.1 (xg x),Int×Int×Int×Bool×List Nd,fun x y=>Ag x.1.sg (xg x) (pE x.1.sg (n+1) .pick) (yS y),fun x y=> .q y.1,fun x y=>[srd x.1 (yG y.2)],true,[],[]⟩
def a3h(n:Nat)(x:ST×Int×Int×Bool×List Nd)(x_2:Cw.X)(y:(KC n).Y):Prop:=cA (KB n) [srd x_2.1 (AA x_2.1.sg (xh x_2) (Z5 x_2))] fun x_3 y_2=>cA Ct [srd x_3.1 (yG y_2.2),.str #[(58:UInt8)].toList] fun x_4 y_3=>cA (KB n) [srd x_4.1 (Ax x_4.1.sg (xh x_4) (Z5 x_4))] fun x_5 y_4=>∃(x_6:Int),y.1=x_6∧(∃(x_7:Int),y_2.1=x_7∧(∃(x_8:Int),y_4.1=x_8∧(cA BD [srd x_5.1 (yG y_4.2),.q 8,.str #[].toList,An [x_6,x_7,x_8]] fun x_9 y=>inR .i64 ((Av (xh x_9) {kind:=(G5 x_9),text:=(G6 x_9),kids:=(Z7 x_9),blank:=false}).deep-1)∧(rA (RO n) x [.q (AQ (xh x_9)),.box 0 [sgs x_9.1.sg,.q (Av (xh x_9) {kind:=(G5 x_9),text:=(G6 x_9),kids:=(Z7 x_9),blank:=false}).pos,.bool (Av (xh x_9) {kind:=(G5 x_9),text:=(G6 x_9),kids:=(Z7 x_9),blank:=false}).bad,.q ((Av (xh x_9) {kind:=(G5 x_9),text:=(G6 x_9),kids:=(Z7 x_9),blank:=false}).deep-1),BJ (Av (xh x_9) {kind:=(G5 x_9),text:=(G6 x_9),kids:=(Z7 x_9),blank:=false}).nodes]]))))
theorem c4a(n:Nat)(h:qAll G n):CtG G 93 (RO n):=
 vFq [(108,0,(KC n)),(52,0,Cw),(93,0,(KB n)),(51,0,Ct),(35,0,BD)] [(27,⟨Int,BE⟩)] (fun x=>[]) Tryz.func93 ⟨h.chain,JP,h.pick,Ky,JQ,trivial⟩ (fun x=>True∧Ae (xg x).bad (rA (RO n) x [.q 0,srd x.1 (xg x)]) (inR .i64 ((xg x).deep+1)∧Ae (decide ((xg x).deep+1>(20:Int))) (cA (KC n) [.box 0 [sgs x.1.sg,.q (xg x).pos,.bool true,.q ((xg x).deep+1),BJ (xg x).nodes],.q 0] fun x_1 y=>cA Cw [srd x_1.1 (yG y.2),.str #[(63:UInt8)].toList] fun x_2 y_1=>Ae (isG x_2.1.sg (xh x_2) (4:Int) (Z5 x_2)) (a3h n x x_2 y) (inR .i64 ((AA x_2.1.sg (xh x_2) (Z5 x_2)).deep-1)∧(rA (RO n) x [.q y.1,.box 0 [sgs x_2.1.sg,.q (AA x_2.1.sg (xh x_2) (Z5 x_2)).pos,.bool (AA x_2.1.sg (xh x_2) (Z5 x_2)).bad,.q ((AA x_2.1.sg (xh x_2) (Z5 x_2)).deep-1),BJ (AA x_2.1.sg (xh x_2) (Z5 x_2)).nodes]]))) (cA (KC n) [.box 0 [sgs x.1.sg,.q (xg x).pos,.bool (xg x).bad,.q ((xg x).deep+1),BJ (xg x).nodes],.q 0] fun x_1 y=>cA Cw [srd x_1.1 (yG y.2),.str #[(63:UInt8)].toList] fun x_2 y_1=>Ae (isG x_2.1.sg (xh x_2) (4:Int) (Z5 x_2)) (a3h n x x_2 y) (inR .i64 ((AA x_2.1.sg (xh x_2) (Z5 x_2)).deep-1)∧(rA (RO n) x [.q y.1,.box 0 [sgs x_2.1.sg,.q (AA x_2.1.sg (xh x_2) (Z5 x_2)).pos,.bool (AA x_2.1.sg (xh x_2) (Z5 x_2)).bad,.q ((AA x_2.1.sg (xh x_2) (Z5 x_2)).deep-1),BJ (AA x_2.1.sg (xh x_2) (Z5 x_2)).nodes]]))))) (by kernel_rfl) fun(x:ST×Int×Int×Bool×List Nd) (hx:vQ 10 (n+1) x.1 (xg x))=>(by
 dsimp only[G5,G6,Z5,Z7,a3h,cA,Ce,An,BJ,rA,KC,Cw,KB,RO,BD,Ct,CD,sgs,srd,AB,AF,mvL,lnL,mvE,lnE,AV.q]
 obtain⟨s,p,d,b,ns⟩:=x;dsimp only[xg,xh] at hx ⊢
 have hx:vQ 10 (n+1) s ⟨p,d,b,ns⟩:=hx
 have h1:=hx.1.1.1;have h2:=hx.1.1.2;have h3:=hx.1.2;have hs:=h1.1;dsimp only at h2 h3
 (repeat' first|(with_reducible first|rfl|exact⟨⟩|apply AG|apply AM)|apply AL|(apply AK<;>try dsimp only)|apply AJ|((try refine AH.2 ?_);intro _;try dsimp only))
 all_goals(try dsimp only[xg,xh,yG,yS,iG,iF] at*)
 all_goals(try simp only[Ic] at*)
 all_goals(try(first|(have hz:=c3T (b:=b) h2 ‹_› (show Ag s.sg ⟨p,d+1,true,ns⟩ (pE s.sg n (.chain _)) _ by assumption))|(have hz:=c3U ‹_› (show Ag s.sg ⟨p,d+1,b,ns⟩ (pE s.sg n (.chain _)) _ by assumption))))
 all_goals first
  |rfl
  |assumption
  |exact b0s h1.2 ‹_›
  |exact c3V hx ‹_›
  |exact c3W hx ‹_›
  |exact GS h1 hz
  |(clear hz;exact GS h1 ‹_›)
  |exact⟨a9N h1 h2 h3 hz ‹_›,hx.2⟩
  |exact⟨c1k h1 h2 h3 hz ‹_› ‹_›,hx.2⟩
  |exact c1l h1 h2 hz ‹_› ‹_› ‹_›
  |exact c1m h1 h2 hz ‹_›
  |(have hq:=c1n h1 hz ‹_›;(try dsimp only at hq);(try simp only[Aw]);omega)
  |(have hq:=c1o ‹Ag s.sg (Ax s.sg _ _) _ _›;(try dsimp only at hq);(try simp only[Aw,a2C]);omega)
  |(have hq:=(IQ h1).1.2;dsimp only at hq;(try simp only[Aw]);omega)
  |skip)
def XU(n:Nat):Sig:=⟨ST×Int×Int×Bool×List Nd,fun x=>[srd x.1 (xg x)],fun x=>vQ 11 (n+1) x.1 (xg x),Int×Int×Int×Bool×List Nd,fun x y=>Ag x.1.sg (xg x) (pE x.1.sg (n+1) .value) (yS y),fun x y=> .q y.1,fun x y=>[srd x.1 (yG y.2)],true,[],[]⟩
def XV(n:Nat)(x:ST×Int×Int×Bool×List Nd):LS:=⟨Int×Int×Bool×List Nd×Ad×Nat,fun i=>vaJ x.1.sg n (xg x) (iG i) i.2.2.2.2.1 i.2.2.2.2.2,fun i=>[(0,srd x.1 (iG i)),(4,An i.2.2.2.2.1)],[],fun i=>i.2.2.2.2.2,fun _=>[],[]⟩
theorem c4b(n:Nat)(h:qAll G n):CtG G 78 (XU n):=
 vFq [(93,0,(KB n)),(77,0,Fs),(52,0,Cw),(48,0,Dh),(35,0,BD),(51,0,Ct),(94,0,(Ih n))] [(27,⟨Int,BE⟩)] (fun x=>[(5,XV n x)]) Tryz.func78 ⟨h.pick,UD,JP,NR,JQ,Ky,(a2Z n h),trivial⟩ (fun x=>True∧cA (KB n) [srd x.1 (xg x)] fun x_1 y=>cA Fs [srd x_1.1 (yG y.2),.q 4,.str #[(46:UInt8),46].toList] fun x_2 y_1=>Ae (!isG x_2.1.sg (xh x_2) (G5 x_2) (Z6 x_2)) (rA (XU n) x [.q y.1,srd x_2.1 (xh x_2)]) (∃(x_3:Int),y.1=x_3∧eA (XV n x) [srd x_2.1 (xh x_2),An [x_3]]∧∀(i:Int×Int×Bool×List Nd×Ad×Nat),vaJ x.1.sg n (xg x) (iG i) (G4 i) (Z5 i)→cA Cw [srd x.1 (iG i),.str #[(46:UInt8),46].toList] fun x_4 y=>Ae (isG x_4.1.sg (xh x_4) (4:Int) (Z5 x_4)) (cA Dh [srd x_4.1 (AA x_4.1.sg (xh x_4) (Z5 x_4)),.q 1] fun x_5 y=>cA BD [srd x_5.1 (Bi x_5.1.sg (xh x_5) (Z5 x_5)),.q 1,.str (BK x_5.1.sg (xh x_5) (Z5 x_5)),An []] fun x_6 y=>cA Ct [srd x_6.1 (Av (xh x_6) {kind:=(G5 x_6),text:=(G6 x_6),kids:=(Z7 x_6),blank:=false}),.str #[(40:UInt8)].toList] fun x_7 y=>∃(x_8:Int),AQ (xh x_6)=x_8∧cA (Ih n) [srd x_7.1 (Ax x_7.1.sg (xh x_7) (Z5 x_7)),.str #[(41:UInt8)].toList,An [x_8]] fun x_9 y=>cA BD [srd x_9.1 (yG y.2),.q 5,.str #[].toList,An y.1] fun x_10 y=>∃(x_11:Int),AQ (xh x_10)=x_11∧∃(zs:Ad),An [x_11]=An zs∧Ca BE∧Bb ((G4 i).length+zs.length) (8:Nat)∧eN (XV n x) i [srd x_10.1 (Av (xh x_10) {kind:=(G5 x_10),text:=(G6 x_10),kids:=(Z7 x_10),blank:=false}),An ((G4 i)++zs)]) (cA BD [srd x_4.1 (AA x_4.1.sg (xh x_4) (Z5 x_4)),.q 10,.str #[].toList,An (G4 i)] fun x_5 y=>rA (XU n) x [.q (AQ (xh x_5)),srd x_5.1 (Av (xh x_5) {kind:=(G5 x_5),text:=(G6 x_5),kids:=(Z7 x_5),blank:=false})]))) (by kernel_rfl) fun(x:ST×Int×Int×Bool×List Nd) (hx:vQ 11 (n+1) x.1 (xg x))=>(by
 dsimp only[G4,G5,G6,Z5,Z6,Z7,cA,eA,eN,XV,Ce,An,BJ,rA,Fs,Cw,KB,BD,Dh,XU,Ih,Ct,CD,sgs,srd,AB,AF,mvL,lnL,mvE,lnE,Bn,AV.q]
 obtain⟨s,p,d,b,ns⟩:=x;dsimp only[xg,xh] at hx ⊢
 have hx:vQ 11 (n+1) s ⟨p,d,b,ns⟩:=hx
 have h1:=hx.1.1.1;have h2:=hx.1.1.2;have h3:=hx.1.2;have hs:=h1.1;dsimp only at h2 h3
 (repeat' first|(with_reducible first|rfl|exact⟨⟩|apply AG|apply AM)|apply AL|(apply AK<;>try dsimp only)|apply AJ|((try refine AH.2 ?_);intro _;try dsimp only))
 all_goals(try dsimp only[xg,xh,yG,yS,iG] at*)
 all_goals(try simp only[Ic] at*)
 all_goals first
  |(show Nat;skip)
  |rfl
  |assumption
  |exact⟨c1p h1 h2 h3,hx.2⟩
  |exact GS h1 ‹_›
  |exact c1q h1 ‹_› ‹_›
  |exact c1r h1 h2 ‹_› ‹_›
  |exact a2D h1 ‹_›
  |exact(a3f hs ‹_›).1
  |exact(a3f hs ‹_›).2.1
  |exact(a3f hs ‹_›).2.2
  |exact c3X hx ‹_› ‹_›
  |exact a3c hs ‹_›
  |exact(b0J hs ‹_› ‹_› ‹_›).1
  |exact c1t h1 ‹_› ‹_›
  |exact c1u h1 ‹_› ‹_›
  |omega
  |(simp;done)
  |(have hq:=c1s hs ‹vaJ _ _ _ _ _ _›;(try simp only[Bb,Ba,AE,AX]);omega)
  |skip
 all_goals first
  |exact(b0J hs ‹_› ‹_› ‹_›).2
  |skip)
theorem a3i{r:Nat}(hr:1≤r)(h:wQ r 0 s g):False:=c2b hr h.1
theorem b0K{r:Nat}(hr:1≤r)(h:vQ r 0 s g):False:=c2c hr h.1
theorem c4c:qAll G 0:=
 ⟨Pq Tryz.func78 rfl (by decide) (fun x h=>b0K (by omega) h),Pq Tryz.func93 rfl (by decide) (fun x h=>b0K (by omega) h),
  Pq Tryz.func108 rfl (by decide) (fun x h=>a3i (by have:=h.2;omega) h.1),Pq Tryz.func134 rfl (by decide) (fun x h=>a3i (by omega) h),Pq Tryz.func155 rfl (by decide) (fun x h=>a3i (by omega) h)⟩
theorem c4d(n:Nat):qAll G n:=by
 induction n with
 |zero=>exact c4c
 |succ n ih=>exact⟨c4b n ih,c4a n ih,c3Z n ih,c3H n ih,c3G n ih⟩
def JS:Sig:=⟨ST×Int×Int×Bool×List Nd,fun x=>[srd x.1 (xg x)],fun x=>okD x.1 (xg x)∧sgM x.1.sg,Int×Int×Int×Bool×List Nd,fun x y=>Ag x.1.sg (xg x) (CE x.1.sg) (yS y),fun x y=> .int .i64 y.1,fun x y=>[srd x.1 (yG y.2)],true,[],[]⟩
theorem b0L(h:okD s g∧sgM s.sg):vQ 11 peN s g:=⟨c2d h.1,h.2⟩
theorem a3j:CtG G 78 JS:=
 have c:=(c4d (G:=G) peN).val
 ⟨⟨c.1.1,fun x y hx hy=>c.1.2 x y (b0L hx) hy⟩,fun x hx=>c.2 x (b0L hx)⟩
end Go.My
end
section
namespace Go.My
open Go.Eng
variable {f:Bool→Ps→PR}{k:Int}{sg:List Sg}{x y:Gs}
def a3k(e:Nd)(b:Bool):Nd:=⟨e.kind,e.text,e.kids,b⟩
def XW(b:Bool)(p:Int×Ps):Int×Ps:=(p.1,⟨p.2.pos,p.2.deep,p.2.nodes.set p.1.toNat (a3k (Ab p.2.nodes p.1) b)⟩)
def BL(f:Bool→Ps→PR):Prop:=∀b s,f b s=(f false s).map (XW b)∧∀p,f b s=some p→1≤p.2.nodes.length∧p.1=(p.2.nodes.length:Int)-1
theorem RP{t:Aa}{ks:Ad}:BL (fun b=>Bd ⟨k,t,ks,b⟩):=by
 intro b s
 by_cases h:300≤s.nodes.length
 ·simp only[a2R h];exact⟨rfl,fun p hp=>by cases hp⟩
 ·simp only[a2Q h]
  refine⟨?_,fun p hp=>by simp only[AS] at hp;subst hp;simp⟩
  simp only[Kj,XW,LN]
  congr 3
  have e:Ab (s.nodes++[⟨k,t,ks,false⟩]) (s.nodes.length:Int)=⟨k,t,ks,false⟩:=BR (by simp)
  rw[e]
  simp [a3k]
theorem b0M(h:BL f):BL (fun b s=>Hg (f b s)):=by
 intro b s
 obtain⟨h1,h2⟩:=h b s
 refine⟨?_,fun p hp=> ?_⟩
 ·simp only[Hg];rw[h1]
  cases f false s with
  |none=>rfl
  |some p=>rfl
 ·simp only[Hg,FM] at hp
  obtain⟨q,hq,rfl⟩:=hp
  exact h2 q hq
theorem HL{α:Type}{h:Ps→Option (α×Ps)}{g:Bool→α→Ps→PR}(hg:∀a,BL (fun b=>g b a)):BL (fun b s=>(h s).bind fun p=>g b p.1 p.2):=by
 intro b s
 simp only
 cases h s with
 |none=>exact⟨rfl,fun p hp=>by cases hp⟩
 |some p=>exact hg p.1 b p.2
theorem a3l{h:Ps→Option Ps}{g:Bool→Ps→PR}(hg:BL g):BL (fun b s=>(h s).bind fun p=>g b p):=by
 intro b s
 simp only
 cases h s with
 |none=>exact⟨rfl,fun p hp=>by cases hp⟩
 |some p=>exact hg b p
theorem HM{c:Ps→Prop}[inst:∀s,Decidable (c s)]{g:Bool→Ps→PR}(hf:BL f)(hg:BL g):BL (fun b s=>if c s then f b s else g b s):=by
 intro b s
 by_cases h:c s
 ·simp only[if_pos h];exact hf b s
 ·simp only[if_neg h];exact hg b s
theorem b0N:BL (fun _ _=>none):=fun b s=>⟨rfl,fun p hp=>by cases hp⟩
theorem Pw{a:Ps→Ps}(h:BL f):BL (fun b s=>f b (a s)):=fun b s=>h b (a s)
theorem c4e{f:Ps→Bool→Ps→PR}(h:∀q,BL (f q)):BL (fun b s=>f s b s):=fun b s=>h s b s
theorem a3m:BL (Hh sg k):=fun b s=>b0M (RP (k:=k) (t:=(sgO sg s.pos).text) (ks:=[])) b s
theorem Px{m:Aa}{t:Aa}{ks:Ad}:BL (fun b=>Bt sg m ⟨k,t,ks,b⟩):=HM (c:=fun s=>isM sg s m=true) (b0M RP) b0N
theorem a3n:BL (Eq sg):=
 HL (h:=HG sg) (g:=fun b t s=>if isM sg s [61] then(CE sg (adv s)).bind fun q=>Bt sg [59] ⟨12,t,[q.1],b⟩ q.2 else Bt sg [59] ⟨12,t,[],b⟩ s) (fun t=>
  HM (c:=fun s=>isM sg s [61]=true) (HL (h:=fun s=>CE sg (adv s)) (g:=fun b k s=>Bt sg [59] ⟨12,t,[k],b⟩ s) (fun _=>Px)) Px)
theorem c4f:BL (IU sg):=
 HM (c:=fun s=>isM sg s [59]=true) Px (HL (h:=CE sg) (g:=fun b k s=>Bt sg [59] ⟨15,[],[k],b⟩ s) (fun _=>Px))
theorem c4g{n:Nat}:BL (ifR sg n):=
 HL (h:=Ez sg) (g:=fun b c s=>(Cf sg (stR sg n) s).bind fun q=>if isW sg q.2 [101,108,115,101] then(Cf sg (stR sg n) (adv q.2)).bind fun r=>Bd ⟨16,[],[c,q.1,r.1],b⟩ r.2 else Bd ⟨16,[],[c,q.1],b⟩ q.2) (fun c=>
  HL (h:=Cf sg (stR sg n)) (g:=fun b k s=>if isW sg s [101,108,115,101] then(Cf sg (stR sg n) (adv s)).bind fun r=>Bd ⟨16,[],[c,k,r.1],b⟩ r.2 else Bd ⟨16,[],[c,k],b⟩ s) (fun k=>
   HM (c:=fun s=>isW sg s [101,108,115,101]=true) (HL (h:=fun s=>Cf sg (stR sg n) (adv s)) (g:=fun b r s=>Bd ⟨16,[],[c,k,r],b⟩ s) (fun _=>RP)) RP))
theorem c4h{n:Nat}:BL (whR sg n):=
 HL (h:=Ez sg) (g:=fun b c s=>(Cf sg (stR sg n) s).bind fun q=>Bd ⟨17,[],[c,q.1],b⟩ q.2) (fun c=>HL (h:=Cf sg (stR sg n)) (g:=fun b k s=>Bd ⟨17,[],[c,k],b⟩ s) (fun _=>RP))
theorem c4i:BL (doR sg):=HL (h:=CE sg) (g:=fun b k s=>Bt sg [59] ⟨14,[],[k],b⟩ s) (fun _=>Px)
theorem a3o:∀ {n:Nat},BL (stR sg n)
 |0=>b0N
 |n+1=>by
  intro b s
  rw[Mv,Mv]
  exact HM (c:=fun s=>(sgO sg s.pos).kind=5) a3m (HM (c:=fun s=>isW sg s [118,97,114]=true) (Pw (a:=adv) a3n) (HM (c:=fun s=>isW sg s [114,101,116,117,114,110]=true) (Pw (a:=adv) c4f)
   (HM (c:=fun s=>isW sg s [105,102]=true) (Pw (a:=adv) c4g) (HM (c:=fun s=>isW sg s [119,104,105,108,101]=true) (Pw (a:=adv) c4h)
     (HM (c:=fun s=>(DF sg s.pos&&isM sg (adv s) [61])=true) (c4e (f:=fun q b s=>(CE sg (adv (adv s))).bind fun p=>Bt sg [59] ⟨13,(sgO sg q.pos).text,[p.1],b⟩ p.2) (fun q=>HL (h:=fun s=>CE sg (adv (adv s))) (g:=fun b k s=>Bt sg [59] ⟨13,(sgO sg q.pos).text,[k],b⟩ s) (fun _=>Px))) c4i))))) b s
theorem b0O:BL (HI sg):=
 HL (h:=HG sg) (g:=fun b t s=>(BS sg [40] s).bind fun s1=>(BG sg (Cn sg) [41] (sg.length+1) [] s1).bind fun q=>(BS sg [41] q.2).bind fun s2=>(Hi sg s2).bind fun r=>Bd ⟨20,t,q.1++[r.1],b⟩ r.2) (fun t=>
  a3l (h:=BS sg [40]) (g:=fun b s1=>(BG sg (Cn sg) [41] (sg.length+1) [] s1).bind fun q=>(BS sg [41] q.2).bind fun s2=>(Hi sg s2).bind fun r=>Bd ⟨20,t,q.1++[r.1],b⟩ r.2)
   (HL (h:=BG sg (Cn sg) [41] (sg.length+1) []) (g:=fun b ks s=>(BS sg [41] s).bind fun s2=>(Hi sg s2).bind fun r=>Bd ⟨20,t,ks++[r.1],b⟩ r.2) (fun ks=>
     a3l (h:=BS sg [41]) (g:=fun b s2=>(Hi sg s2).bind fun r=>Bd ⟨20,t,ks++[r.1],b⟩ r.2) (HL (h:=Hi sg) (g:=fun b k s=>Bd ⟨20,t,ks++[k],b⟩ s) (fun _=>RP)))))
theorem a3p:BL (Ed sg):=HM (c:=fun s=>(sgO sg s.pos).kind=5) a3m (HM (c:=fun s=>isW sg s [118,97,114]=true) (Pw (a:=adv) a3n) b0O)
theorem c4j:BL (IP sg):=
 HL (h:=HG sg) (g:=fun b t s=>(BS sg [123] s).bind fun s1=>(Dp sg (Ed sg) [125] (sg.length+1) [] s1).bind fun q=>Bt sg [125] ⟨21,t,q.1,b⟩ q.2) (fun t=>
  a3l (h:=BS sg [123]) (g:=fun b s1=>(Dp sg (Ed sg) [125] (sg.length+1) [] s1).bind fun q=>Bt sg [125] ⟨21,t,q.1,b⟩ q.2)
   (HL (h:=Dp sg (Ed sg) [125] (sg.length+1) []) (g:=fun b ks s=>Bt sg [125] ⟨21,t,ks,b⟩ s) (fun _=>Px)))
theorem a3q:BL (Er sg):=HM (c:=fun s=>(sgO sg s.pos).kind=5) a3m (HM (c:=fun s=>isW sg s [118,97,114]=true) (Pw (a:=adv) a3n) (HM (c:=fun s=>isW sg s [99,108,97,115,115]=true) (Pw (a:=adv) c4j) b0O))
theorem b0P(hf:BL f)(h:Ag sg x (f false) (k,y))(hb:y.bad=false):1≤y.nodes.length∧k=(y.nodes.length:Int)-1:=by
 obtain⟨⟨a1,a2,a3,a4,a5⟩,_⟩:=h
 simp only at a4 a5
 rw[Ef hb] at a4
 cases hp:(pur x).bind (f false) with
 |none=>rw[hp] at a4;cases a4
 |some p=>
  rw[hp] at a4
  simp only[Kj,AS] at a4
  have e:=a5 p hp
  cases hs:pur x with
  |none=>rw[hs] at hp;cases hp
  |some s=>
   rw[hs] at hp;simp only[De] at hp
   have:=(hf false s).2 p hp
   rw[←a4] at this;simp only at this;rw[e];exact this
theorem a3r{b:Bool}(hf:BL f)(h:Ag sg x (f false) (k,y)):Ag sg x (f b) (k,gBl y k b):=by
 have hk:=b0P hf h
 obtain⟨⟨a1,a2,a3,a4,a5⟩,c⟩:=h
 simp only at a1 a2 a3 a4 a5 c
 have eb:(pur x).bind (f b)=((pur x).bind (f false)).map (XW b):=by
  cases pur x with
  |none=>rfl
  |some s=>exact(hf b s).1
 cases hb:y.bad with
 |true=>
  have e:gBl y k b=y:=by rw[gBl,if_neg (by simp [hb])]
  rw[e]
  rw[Fp hb] at a4
  have hn:(pur x).bind (f false)=none:=by
   cases hp:(pur x).bind (f false) with
   |none=>rfl
   |some p=>rw[hp] at a4;cases a4
  refine⟨⟨a1,a2,a3,?_,fun p hp=> ?_⟩,c⟩
  ·rw[eb,hn,Fp hb];rfl
  ·rw[eb,hn] at hp;cases hp
 |false=>
  obtain⟨k1,k2⟩:=hk hb
  have hlt:k<(y.nodes.length:Int):=by omega
  have e:gBl y k b=⟨y.pos,y.deep,y.bad,y.nodes.set k.toNat (a3k (Ab y.nodes k) b)⟩:=by rw[gBl,if_pos ⟨hb,hlt⟩];rfl
  rw[e]
  have hat:Ee (Ab y.nodes k):=by
   have hkl:k.toNat<y.nodes.length:=by omega
   have:=a1.2.2.2 (y.nodes[k.toNat]) (List.getElem_mem hkl)
   rw[BR (DS hkl)];exact this
  refine⟨⟨⟨a1.1,a1.2.1,by simpa using a1.2.2.1,fun w hw=> ?_⟩,a2,a3,?_,fun p hp=> ?_⟩,c⟩
  ·rcases VP hw with hw|hw
   ·exact a1.2.2.2 w hw
   ·subst hw;exact hat
  ·rw[eb]
   rw[Ef hb] at a4
   cases hp:(pur x).bind (f false) with
   |none=>rw[hp] at a4;cases a4
   |some p=>
    rw[hp] at a4
    simp only[Kj,AS] at a4 ⊢
    have:=a5 p hp
    rw[Ef (by exact hb)]
    simp only[XW,←a4,this]
  ·rw[eb,FM] at hp
   obtain⟨q,hq,rfl⟩:=hp
   exact a5 q hq
theorem RQ(hf:BL f)(h:Ag sg x (f false) (k,y)):y.bad=false→0≤k:=fun hb=>by have:=b0P hf h hb;omega
theorem a3s(hb:y.bad=false):blG sg y=(pkG sg y 0).blank:=by
 rw[blG,pkG]
 by_cases h:y.pos<sg.length
 ·rw[if_neg (by simp [hb];omega)];simp [h]
 ·rw[if_pos (.inr (by omega))];simp [h,Gv]
theorem c4k{one:Bool→Ps→PR}(h:gsOk sg x)(hd:x.deep≤20):restP sg x (Cf sg one) (pkX (Ax sg x [123]))
 (fun s1=>(Dp sg one [125] (sg.length+1) [] s1).bind fun p=>(Bt sg [125] ⟨18,[],p.1,false⟩ p.2).map fun q=>(q.1,dp q.2 (-1))) 1:=by
 have t:=JO (m:=[123]) h
 have a:=c1C (one:=one) h hd
 have t1:=t.1;have t2:=t.2.1
 by_cases h20:x.deep=20
 ·rw[if_pos h20] at a
  have e:pkX (Ax sg x [123])=gDp (Bw (Ax sg x [123])) 1:=by rw[pkX,if_pos (by omega)]
  have e2:Ax sg (gDp (Bw x) 1) [123]=gDp (Bw x) 1:=XJ rfl
  rw[e2] at a
  rw[e]
  refine a2O a ⟨t1.1,by simp only[gDp,Bw];omega,t1.2.2⟩ (by simp only[gDp,Bw];omega) (by simp only[gDp,Bw];omega) rfl
 ·rw[if_neg h20] at a
  have e:pkX (Ax sg x [123])=gDp (Ax sg x [123]) 1:=by rw[pkX,if_neg (by omega)]
  rw[e]
  have e2:Ax sg (gDp x 1) [123]=gDp (Ax sg x [123]) 1:=by
   have:isG sg (gDp x 1) 4 [123]=isG sg x 4 [123]:=rfl
   cases hq:isG sg x 4 [123] with
   |true=>rw[Mx hq,Mx (by rw[this];exact hq)];rfl
   |false=>rw[UF hq,UF (by rw[this];exact hq)];rfl
  rw[e2] at a;exact a
theorem b0Q{g:Gs}{d:Int}{w:Nd}:Av (gDp g d) w=gDp (Av g w) d∧AQ (gDp g d)=AQ g:=by
 have hf:EZ (gDp g d)=EZ g:=rfl
 unfold Av AQ
 rw[hf]
 cases EZ g<;>exact⟨rfl,rfl⟩
theorem b0R{one:Bool→Ps→PR}{l:Ad×Gs}(h:gsOk sg x)(hd:x.deep≤20)(hl:BU sg (pkX (Ax sg x [123])) (Dp sg one [125] (sg.length+1) []) l)(hll:l.1.length≤3001):
 Ag sg x (Cf sg one) (AQ (gDp (Ax sg l.2 [125]) (-1)),Av (gDp (Ax sg l.2 [125]) (-1)) ⟨18,[],l.1,false⟩):=by
 have k1:=Cq (k:=fun ks s=>(Bt sg [125] ⟨18,[],ks,false⟩ s).map fun q=>(q.1,dp q.2 (-1))) (c4k h hd) hl (fun _ _=>rfl)
 have hw:Ee ⟨18,[],l.1,false⟩:=⟨by simp,by simp only;omega⟩
 have hc:=Kz k1.1 hw (Rz (m:=[125]) k1.1 hw)
 have k2:=Cq (k:=fun k s=>some (k,dp s (-1))) k1 hc.1 (fun s _=>by cases Bt sg [125] ⟨18,[],l.1,false⟩ s<;>rfl)
 simp only at k2
 rw[(b0Q (w:=⟨18,[],l.1,false⟩)).1,(b0Q (w:=⟨18,[],l.1,false⟩)).2]
 refine⟨IR (Pn (e:= -1) k2 ?_ (fun s hs=>rfl)),fun hb=> ?_⟩
 ·have:=k2.2.1;have:=h.2.1;omega
 ·have:=hc.2 hb
  have:=k1.2.2.1
  simp only[gDp] at*;omega
end Go.My
end
