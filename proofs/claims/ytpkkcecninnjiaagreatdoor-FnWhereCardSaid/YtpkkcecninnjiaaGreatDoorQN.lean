/- joined -/
import Derived.Test.YtpkkcecninnjiaaGreatDoorQM
set_option linter.unusedSimpArgs false
set_option linter.unusedVariables false
section
namespace Go.My
open Go.Eng Go.Proofs
variable {G:GInv}
variable {a b:Ad}{i x y:Int}
def Ou:Sig:=⟨Int×Int×Int×Int,fun x=>[.agg [.q x.1,.q x.2.1],.agg [.q x.2.2.1,.q x.2.2.2]],fun x=>True,Unit,fun x y=>True,fun x y=> .bool (PE ⟨x.1,x.2.1⟩ ⟨x.2.2.1,x.2.2.2⟩),fun x y=>[.top,.top],false,[],[]⟩
theorem d2E:CtG G 123 Ou:=
 vFq [] [] (fun x=>[]) Tryz.func123 trivial (fun x=>U4∧Ae (decide (x.1<x.2.2.1)) (rA Ou x [.bool true,.top,.top]) (Ae (x.1==x.2.2.1) (rA Ou x [.bool (decide (x.2.1<x.2.2.2)),.top,.top]) (rA Ou x [.bool false,.top,.top]))) (by kernel_rfl) fun(x:Int×Int×Int×Int) (hx:True)=>(by
 dsimp only[U4,rA,Ou,AB,AF,AV.q]
 obtain⟨a,b,c,d⟩:=x;dsimp only at hx ⊢
 (repeat' first|(with_reducible first|rfl|exact⟨⟩|apply AG|apply AM)|apply AL|(apply AK<;>try dsimp only)|apply AJ|((try refine AH.2 ?_);intro _;try dsimp only))
 all_goals(simp [PE, *]<;>omega))
theorem d2F(h:cmI a b i)(hx:a[i.toNat]? =some x)(hy:b[i.toNat]? =some y)(hl:x<y): -1=Fa a b:=by rw[a4D h hx hy,if_pos hl]
theorem d2G(h:cmI a b i)(hx:a[i.toNat]? =some x)(hy:b[i.toNat]? =some y)(hl:¬x<y)(hg:x>y):1=Fa a b:=by rw[a4D h hx hy,if_neg hl,if_pos hg]
theorem d2H(h:cmI a b i)(hi:i<a.length)(hib:i<b.length)(hx:a[i.toNat]? =some x)(hy:b[i.toNat]? =some y)(hl:¬x<y)(hg:¬x>y):cmI a b (i+1):=
 c7y h hi (by omega) hx hy (by unfold Va;rw[if_neg hl,if_neg (by omega)])
theorem b5h(h:cmI a b i)(hi:¬i<a.length∨¬i<b.length):Fa a b=if(a.length:Int)<b.length then-1 else if(a.length:Int)>b.length then 1 else 0:=by
 by_cases e:i<a.length
 ·rw[←c7x h e (by omega),if_neg (by have:=h.1;omega),if_pos (by have:=h.1;omega)]
 ·rw[c7z h e]
  split
  ·rfl
  ·rw[if_neg (by have:=h.1;omega)]
attribute [local irreducible] cmI Va Fa
def Ho:Sig:=⟨Ad×Ad,fun x=>[Al x.1,Al x.2],fun x=>x.1.length<2^62∧x.2.length<2^62,Unit,fun x y=>True,fun x y=> .q (Fa x.1 x.2),fun x y=>[.top,.top],false,[],[]⟩
def ZH(x:Ad×Ad):LS:=⟨Int,fun i=>cmI x.1 x.2 i,fun i=>[(0,Al x.1),(1,Al x.2),(5,.q i)],[],fun i=>x.1.length-i.toNat,fun _=>[],[]⟩
theorem b5i:CtG G 124 Ho:=
 vFq [] [] (fun x=>[(2,ZH x)]) Tryz.func124 trivial (fun x=>U4∧eA (ZH x) [Al x.1,Al x.2,.q 0]∧∀(i:Int),cmI x.1 x.2 i→Ae (decide (i<(nL x.1))) (Ae (decide (i<(nL x.2))) (true=true∧true=true∧(0≤i∧i<(nL x.1))∧∀(e:Int),x.1[Int.toNat i]? =some e→(0≤i∧i<(nL x.2))∧∀(e_1:Int),x.2[Int.toNat i]? =some e_1→Ae (decide (e<e_1)) (rA Ho x [.q (-1:Int),.top,.top]) (true=true∧true=true∧(0≤i∧i<(nL x.1))∧∀(e:Int),x.1[Int.toNat i]? =some e→(0≤i∧i<(nL x.2))∧∀(e_2:Int),x.2[Int.toNat i]? =some e_2→Ae (decide (e>e_2)) (rA Ho x [.q 1,.top,.top]) (inR .i64 (i+1)∧eN (ZH x) i [Al x.1,Al x.2,.q (i+1)]))) (Ae (decide ((nL x.1)<(nL x.2))) (rA Ho x [.q (-1:Int),.top,.top]) (Ae (decide ((nL x.1)>(nL x.2))) (rA Ho x [.q 1,.top,.top]) (rA Ho x [.q 0,.top,.top])))) (Ae (decide ((nL x.1)<(nL x.2))) (rA Ho x [.q (-1:Int),.top,.top]) (Ae (decide ((nL x.1)>(nL x.2))) (rA Ho x [.q 1,.top,.top]) (rA Ho x [.q 0,.top,.top])))) (by kernel_rfl) fun(x:Ad×Ad) (hx:x.1.length<2^62∧x.2.length<2^62)=>(by
 dsimp only[nL,U4,eA,eN,ZH,Al,rA,Ho,AB,AF,Bn,AV.q]
 obtain⟨a,b⟩:=x;dsimp only at hx ⊢
 obtain⟨h1,h2⟩:=hx
 have hrg:∀i,cmI a b i→0≤i∧i≤a.length∧i≤b.length:=fun i h=>by unfold cmI at h;exact h.1
 (repeat' first|(with_reducible first|rfl|exact⟨⟩|apply AG|apply AM)|apply AL|(apply AK<;>try dsimp only)|apply AJ|((try refine AH.2 ?_);intro _;try dsimp only))
 all_goals(try(repeat(rename a[_]? =some _=>hq;revert hq;rename a[_]? =some _=>hr;intro hq;rw[hr] at hq;cases hq)))
 all_goals(try(repeat(rename b[_]? =some _=>hq;revert hq;rename b[_]? =some _=>hr;intro hq;rw[hr] at hq;cases hq)))
 all_goals first
  |with_reducible rfl
  |exact c7w
  |exact d2F ‹_› ‹_› ‹_› ‹_›
  |exact d2G ‹_› ‹_› ‹_› ‹_› ‹_›
  |exact d2H ‹_› ‹_› ‹_› ‹_› ‹_› ‹_› ‹_›
  |(have hq:=hrg _ ‹_›;(try simp only[Aw]);omega)
  |(rw[b5h ‹_› (.inl ‹_›)];split<;>(try split)<;>omega)
  |(rw[b5h ‹_› (.inr ‹_›)];split<;>(try split)<;>omega)
  |skip)
def Qe:Sig:=⟨Ad×Int×Ad×Int,fun x=>[.agg [Al x.1,.q x.2.1],.agg [Al x.2.2.1,.q x.2.2.2]],fun x=>x.1.length<2^62∧x.2.2.1.length<2^62,Unit,fun x y=>True,fun x y=> .bool (Di ⟨x.1,x.2.1⟩ ⟨x.2.2.1,x.2.2.2⟩),fun x y=>[.top,.top],false,[],[]⟩
theorem b5j:CtG G 148 Qe:=
 vFq [(124,0,Ho)] [] (fun x=>[]) Tryz.func148 ⟨b5i,trivial⟩ (fun x=>U4∧Ae (decide (x.2.1<x.2.2.2)) (rA Qe x [.bool true,.top,.top]) (Ae (x.2.1==x.2.2.2) (cA Ho [Al x.1,Al x.2.2.1] fun x_1 y=>rA Qe x [.bool (decide (Fa x_1.1 x_1.2<(0:Int))),.top,.top]) (rA Qe x [.bool false,.top,.top]))) (by kernel_rfl) fun(x:Ad×Int×Ad×Int) (hx:x.1.length<2^62∧x.2.2.1.length<2^62)=>(by
 dsimp only[U4,cA,Al,rA,Ho,Qe,AB,AF,mvL,lnL,mvE,lnE,mvG,mvH,lnG,lnH,AV.q]
 obtain⟨a,b,c,d⟩:=x;dsimp only at hx ⊢
 obtain⟨h1,h2⟩:=hx
 (repeat' first|(with_reducible first|rfl|exact⟨⟩|apply AG|apply AM)|apply AL|(apply AK<;>try dsimp only)|apply AJ|((try refine AH.2 ?_);intro _;try dsimp only))
 all_goals first
  |rfl
  |assumption
  |(simp [Di, *];done)
  |(simp [Di, *];omega)
  |skip)
def ZI(x:List StW×Ad×Int):LS:=⟨List StW×Int×Nat,fun i=>upI x.1 ⟨x.2.1,x.2.2⟩ i.1 i.2.1 i.2.2,fun i=>[(0,Jj i.1),(5,.int .i64 i.2.1)],[],fun i=>i.2.1.toNat,fun _=>[],[]⟩
theorem d2I{l0:List StW}{x:StW}{l:List StW}{n:Nat}(h:upI l0 x l i n)(hi:¬i>0):l=FG l0 x:=b3c h (.inl hi)
attribute [local irreducible] upI dwI Di FG CS dnK
def Qf:Sig:=⟨List StW×Ad×Int,fun x=>[Jj x.1,.agg [Al x.2.1,.q x.2.2]],fun x=>x.1.length<2^40∧(∀s∈x.1,s.vals.length<2^62)∧x.2.1.length<2^62,Unit,fun x y=>True,fun x y=>Jj (FG x.1 ⟨x.2.1,x.2.2⟩),fun x y=>[.top,.top],true,[],[]⟩
theorem d2J:CtG G 127 Qf:=
 vFq [(148,0,Qe)] [(159,⟨StW,stA⟩)] (fun x=>[(3,ZI x)]) Tryz.func127 ⟨b5j,trivial⟩ (fun x=>True∧∃(x_1:StW),Al x.2.1=Al x_1.vals∧x.2.2=x_1.sum∧∃(zs:List StW),AV.sl true 0 2 StW stA [x_1]=AV.sl true 0 2 StW stA zs∧Ca stA∧Bb (x.1.length+zs.length) (32:Nat)∧inR .i64 ((↑((x.1++zs).length):Int)-(1:Int))∧eA (ZI x) [AV.sl true 0 2 StW stA (x.1++zs),.q ((↑((x.1++zs).length):Int)-(1:Int))]∧∀(i:List StW×Int×Nat),upI x.1 {vals:=x.2.1,sum:=x.2.2} i.1 i.2.1 i.2.2→true=true∧true=true∧Ae (decide (i.2.1>(0:Int))) ((0≤i.2.1∧i.2.1<(nL i.1))∧Int.toNat i.2.1<i.1.length∧∀(x_2:StW),i.1[Int.toNat i.2.1]? =some x_2→inR .i64 (i.2.1+(1:Int))∧(2:Int)≠(0:Int)∧inR .i64 (Int.tdiv (i.2.1+(1:Int)) (2:Int))∧inR .i64 (Int.tdiv (i.2.1+(1:Int)) (2:Int)-(1:Int))∧(0≤Int.tdiv (i.2.1+(1:Int)) (2:Int)-(1:Int)∧Int.tdiv (i.2.1+(1:Int)) (2:Int)-1<(nL i.1))∧Int.toNat (Int.tdiv (i.2.1+(1:Int)) (2:Int)-(1:Int))<i.1.length∧∀(x_3:StW),i.1[Int.toNat (Int.tdiv (i.2.1+(1:Int)) (2:Int)-(1:Int))]? =some x_3→∃(x_4:Ad×Int×Ad×Int),(x_4.1.length<(4611686018427387904:Nat)∧x_4.2.2.1.length<(4611686018427387904:Nat))∧Al x_2.vals=Al x_4.1∧x_2.sum=x_4.2.1∧Al x_3.vals=Al x_4.2.2.1∧x_3.sum=x_4.2.2.2∧∃(y0:Unit),(∀(y:Unit),True→AV.bool (Di {vals:=x_4.1,sum:=x_4.2.1} {vals:=x_4.2.2.1,sum:=x_4.2.2.2})=AV.bool (Di {vals:=x_4.1,sum:=x_4.2.1} {vals:=x_4.2.2.1,sum:=x_4.2.2.2}))∧true=true∧Ae (Di {vals:=x_4.1,sum:=x_4.2.1} {vals:=x_4.2.2.1,sum:=x_4.2.2.2}) (inR .i64 (i.2.1+(1:Int))∧(2:Int)≠(0:Int)∧inR .i64 (Int.tdiv (i.2.1+(1:Int)) (2:Int))∧inR .i64 (Int.tdiv (i.2.1+(1:Int)) (2:Int)-(1:Int))∧(0≤i.2.1∧i.2.1<(nL i.1))∧Int.toNat i.2.1<i.1.length∧∀(x_5:StW),i.1[Int.toNat i.2.1]? =some x_5→(0≤Int.tdiv (i.2.1+(1:Int)) (2:Int)-(1:Int)∧Int.tdiv (i.2.1+(1:Int)) (2:Int)-1<(nL i.1))∧Int.toNat (Int.tdiv (i.2.1+(1:Int)) (2:Int)-(1:Int))<i.1.length∧∀(x_6:StW),i.1[Int.toNat (Int.tdiv (i.2.1+(1:Int)) (2:Int)-(1:Int))]? =some x_6→(0≤i.2.1∧i.2.1<(nL i.1))∧Int.toNat i.2.1<i.1.length∧∀(x_7:StW),i.1[Int.toNat i.2.1]? =some x_7→∃(x':StW),((@List.nil AV)=[]∧(@List.nil AV)=[])∧Al x_6.vals=Al x'.vals∧x_6.sum=x'.sum∧(0≤Int.tdiv (i.2.1+(1:Int)) (2:Int)-(1:Int)∧Int.tdiv (i.2.1+(1:Int)) (2:Int)-1<(↑((List.set i.1 (Int.toNat i.2.1) x').length):Int))∧Int.toNat (Int.tdiv (i.2.1+(1:Int)) (2:Int)-(1:Int))<(List.set i.1 (Int.toNat i.2.1) x').length∧∀(x_8:StW),(List.set i.1 (Int.toNat i.2.1) x')[Int.toNat (Int.tdiv (i.2.1+(1:Int)) (2:Int)-(1:Int))]? =some x_8→∃(x'_1:StW),((@List.nil AV)=[]∧(@List.nil AV)=[])∧Al x_5.vals=Al x'_1.vals∧x_5.sum=x'_1.sum∧eN (ZI x) i [AV.sl true 0 2 StW stA (List.set (List.set i.1 (Int.toNat i.2.1) x') (Int.toNat (Int.tdiv (i.2.1+(1:Int)) (2:Int)-(1:Int))) x'_1),.q (Int.tdiv (i.2.1+(1:Int)) (2:Int)-(1:Int))]) (rA Qf x [AV.sl true 0 2 StW stA i.1,.top,.top])) (rA Qf x [AV.sl true 0 2 StW stA i.1,.top,.top])) (by kernel_rfl) fun(x:List StW×Ad×Int) (hx:x.1.length<2^40∧(∀s∈x.1,s.vals.length<2^62)∧x.2.1.length<2^62)=>(by
 dsimp only[nL,eA,eN,Al,ZI,Jj,rA,Qf,Yq,AB,AF,Bn,AV.q]
 obtain⟨l0,v,n⟩:=x;dsimp only at hx ⊢
 obtain⟨h1,h2,h3⟩:=hx
 (repeat' first|(apply b3d<;>try dsimp only)|(with_reducible first|rfl|exact⟨⟩|apply AG|apply AM)|apply AL|(apply AK<;>try dsimp only)|apply AJ|((try refine AH.2 ?_);intro _;try dsimp only))
 all_goals(try(repeat(rename(_:List StW)[_]? =some _=>hq;revert hq;rename(_:List StW)[_]? =some _=>hr;intro hq;rw[hr] at hq;cases hq)))
 all_goals first
  |rfl
  |assumption
  |omega
  |(unfold Bb;simp only[Ba,List.length_singleton];omega)
  |exact c7G
  |(simp only[Ba,List.length_singleton];omega)
  |(have hb:=a4E ‹upI _ _ _ _ _›;have ha:=a4e ‹_›;unfold abv at ha;(try rw[Lf]);omega)
  |(have hb:=a4E ‹upI _ _ _ _ _›;omega)
  |exact c7C ‹_› h2 h3 ‹_›
  |exact c7F ‹_› ‹_› ‹Di _ _=true› ‹_› ‹_› ‹_› ‹_›
  |exact c7E ‹_› ‹_› ‹_› ‹_›
  |exact d2I ‹_› ‹_›
  |exact()
  |skip)
end Go.My
end
section
namespace Go.My
open Go.Eng Go.Proofs
variable {G:GInv}
variable {bud k w:Int}{e:Ru}{h:Hu}{l:List StW}{n:Nat}{p:Pc}{x:StW}
def Qg:Sig:=⟨Pc×Ad,fun x=>[.agg (pcA false x.1),Al x.2],fun x=>x.1.ties.length≤2^40∧x.2.length≤2^40,Unit,fun x y=>True,fun x y=> .bool (UU x.1 x.2),fun x y=>[.top,.top],false,[],[]⟩
def Qh(x:Pc×Ad):LS:=⟨Int,fun i=>DQ (Jc x.2) x.1.ties i,fun i=>[(1,Al x.2),(2,.box 0 (pcA false x.1)),(5,.q x.2.length),(6,.q i)],[],fun i=>x.1.ties.length-i.toNat,fun _=>[],[]⟩
theorem d2K:CtG G 126 Qg:=
 vFq [(20,0,BZ)] [] (fun x=>[(3,Qh x)]) Tryz.func126 ⟨JK,trivial⟩ (fun x=>U4∧eA (Qh x) [Al x.2,.box 0 (pcA false x.1),.q (nL x.2),.q 0]∧∀(i:Int),DQ (Jc x.2) x.1.ties i→Ae (decide (i<(nL x.1.ties))) ((0≤i∧i<(nL x.1.ties))∧∀(e:Ti),x.1.ties[Int.toNat i]? =some e→inR .i64 ((nL x.2)-(1:Int))∧cA BZ [.q e.kid,.q 0,.q ((nL x.2)-(1:Int))] fun x_1 y=>Ae (inn x_1.1 x_1.2.1 x_1.2.2) (inR .i64 ((nL x.2)-(1:Int))∧cA BZ [.q e.up,.q 0,.q ((nL x.2)-(1:Int))] fun x_2 y=>Ae (inn x_2.1 x_2.2.1 x_2.2.2) ((0≤e.kid∧e.kid<(nL x.2))∧∀(e_1:Int),x.2[Int.toNat e.kid]? =some e_1→Ae (decide (e_1>(0:Int))) ((0≤e.up∧e.up<(nL x.2))∧∀(e_2:Int),x.2[Int.toNat e.up]? =some e_2→Ae (e_2==(0:Int)) (rA Qg x [.bool false,.top,.top]) (inR .i64 (i+1)∧eN (Qh x) i [Al x.2,.box 0 (pcA false x.1),.q (nL x.2),.q (i+1)])) (inR .i64 (i+1)∧eN (Qh x) i [Al x.2,.box 0 (pcA false x.1),.q (nL x.2),.q (i+1)])) (inR .i64 (i+1)∧eN (Qh x) i [Al x.2,.box 0 (pcA false x.1),.q (nL x.2),.q (i+1)])) (inR .i64 (i+1)∧eN (Qh x) i [Al x.2,.box 0 (pcA false x.1),.q (nL x.2),.q (i+1)])) (rA Qg x [.bool true,.top,.top])) (by kernel_rfl) fun(x:Pc×Ad) (hx:x.1.ties.length≤2^40∧x.2.length≤2^40)=>(by
 dsimp only[nL,U4,cA,EP,eA,eN,Qh,Al,pcA,rA,EO,BZ,Qg,EQ,ER,AB,AF,mvL,lnL,mvE,lnE,mvG,mvH,lnG,lnH,Bn,AV.q]
 obtain⟨p,v⟩:=x;dsimp only at hx ⊢
 obtain⟨h1,h2⟩:=hx
 (repeat' first|refine MK p ?_|(with_reducible first|rfl|exact⟨⟩|apply AG|apply AM)|apply AL|(apply AK<;>try dsimp only)|apply AJ|((try refine AH.2 ?_);intro _;try dsimp only))
 all_goals first
  |with_reducible rfl
  |with_reducible assumption
  |omega
  |exact a4m
  |(have hq:= ‹DQ _ _ _›.1;(try simp only[Aw]);omega)
  |(have hq:=b3g ‹inn (Ti.kid _) _ _=true›;omega)
  |(have hq:=b3g ‹inn (Ti.up _) _ _=true›;omega)
  |exact Oa ‹_› ‹_› ‹_› (c7Q ‹_›)
  |exact Oa ‹_› ‹_› ‹_› (c7R ‹_›)
  |exact Oa ‹_› ‹_› ‹_› (c7T ‹_› ‹_›)
  |exact Oa ‹_› ‹_› ‹_› (c7S ‹_› ‹_›)
  |exact(PH ‹_› (c7U ‹_› ‹_› ‹_› ‹_› ‹_› ‹_›)).symm
  |exact(Sp ‹_› ‹_›).symm
  |skip)
def Vw(x:List StW)(i:List StW×Int×Nat):LS:=⟨Unit,fun _=>0≤i.2.1∧2*i.2.1+1<i.1.length,fun _=>[(0,Jj i.1),(3,.box 0 (stA st0)),(4,.box 0 (stA (AR x 0))),(5,.int .i64 ((x.length:Int)-1)),(6,.int .i64 i.2.1),(7,.int .i64 (dnK i.1 i.2.1))],[],fun _=>0,fun _=>[],[]⟩
def ZJ(x:List StW):LS:=⟨List StW×Int×Nat,fun i=>dwI x i.1 i.2.1 i.2.2,fun i=>[(0,Jj i.1),(3,.box 0 (stA st0)),(4,.box 0 (stA (AR x 0))),(5,.int .i64 ((x.length:Int)-1)),(6,.int .i64 i.2.1)],[],fun i=>i.1.length-i.2.1.toNat,fun i=>[(200010,Vw x i)],[]⟩
def a6a(x:List StW):LS:=⟨Unit,fun _=>True,fun _=>[(2,Jj (CS x)),(3,.box 0 (stA (AR x 0)))],[],fun _=>0,fun _=>[],[]⟩
attribute [local irreducible] upI dwI Di abv FG CS dnK
def ZK:Sig:=⟨List StW×Unit,fun x=>[Jj x.1],fun x=>0<x.1.length∧x.1.length<2^40∧(∀s∈x.1,s.vals.length<2^62),Unit,fun x y=>True,fun x y=> .tup [Jj (CS x.1),.agg (stA (AR x.1 0))],fun x y=>[.top],true,[],[]⟩
def a6b(x:List StW×Unit)(i:List StW×Int×Nat):Prop:=true=true∧((true=true∧(eA (a6a x.1) [AV.sl true 0 2 StW stA i.1,.box 0 [Al (AR x.1 (0:Int)).vals,.q (AR x.1 (0:Int)).sum]]))∧(∀(i:Unit),True→∃(y:Unit),True∧AV.sl true 0 2 StW stA (CS x.1)=AV.sl true 0 2 StW stA (CS x.1)∧Al (AR x.1 (0:Int)).vals=Al (AR x.1 (0:Int)).vals∧(AR x.1 (0:Int)).sum=(AR x.1 (0:Int)).sum∧True))
theorem d2L:CtG G 122 ZK:=
 vFq [(148,0,Qe)] [(159,⟨StW,stA⟩)] (fun x=>[(6,ZJ x.1),(100015,a6a x.1)]) Tryz.func122 ⟨b5j,trivial⟩ (fun x=>True∧((0:Int)≤(0:Int)∧0<(nL x.1))∧(0:Nat)<x.1.length∧∀(x_1:StW),x.1[(0:Nat)]? =some x_1→inR .i64 ((nL x.1)-(1:Int))∧(0≤(nL x.1)-(1:Int)∧(nL x.1)-1<(nL x.1))∧Int.toNat ((nL x.1)-(1:Int))<x.1.length∧∀(x_2:StW),x.1[Int.toNat ((nL x.1)-(1:Int))]? =some x_2→((0:Int)≤(0:Int)∧0<(nL x.1))∧(0:Nat)<x.1.length∧∀(x_3:StW),x.1[(0:Nat)]? =some x_3→∃(x':StW),((@List.nil AV)=[]∧(@List.nil AV)=[])∧Al x_2.vals=Al x'.vals∧x_2.sum=x'.sum∧((0:Int)≤(0:Int)∧0≤(nL x.1)-(1:Int)∧(nL x.1)-1≤(↑((List.set x.1 (0:Nat) x').length):Int))∧eA (ZJ x.1) [AV.sl true 0 2 StW stA (List.take (Int.toNat ((nL x.1)-(1:Int))) (List.set x.1 (0:Nat) x')),.box 0 [.nil,.q 0],.box 0 [Al x_1.vals,.q x_1.sum],.q ((nL x.1)-(1:Int)),.q 0]∧∀(i:List StW×Int×Nat),dwI x.1 i.1 i.2.1 i.2.2→inR .i64 ((2:Int)*i.2.1)∧inR .i64 ((2:Int)*i.2.1+(1:Int))∧Ae (decide ((2:Int)*i.2.1+1<(nL x.1)-(1:Int))) (inR .i64 ((2:Int)*i.2.1)∧inR .i64 ((2:Int)*i.2.1+(1:Int))∧(true=true∧true=true∧inR .i64 ((2:Int)*i.2.1+(1:Int)+(1:Int))∧Ae (decide ((2:Int)*i.2.1+(1:Int)+1<(nL x.1)-(1:Int))) (inR .i64 ((2:Int)*i.2.1+(1:Int)+(1:Int))∧((0:Int)≤(2:Int)*i.2.1+(1:Int)+(1:Int)∧(2:Int)*i.2.1+(1:Int)+1<(nL i.1))∧Int.toNat ((2:Int)*i.2.1+(1:Int)+(1:Int))<i.1.length∧∀(x_4:StW),i.1[Int.toNat ((2:Int)*i.2.1+(1:Int)+(1:Int))]? =some x_4→((0:Int)≤(2:Int)*i.2.1+(1:Int)∧(2:Int)*i.2.1+1<(nL i.1))∧Int.toNat ((2:Int)*i.2.1+(1:Int))<i.1.length∧∀(x_5:StW),i.1[Int.toNat ((2:Int)*i.2.1+(1:Int))]? =some x_5→∃(x_6:Ad×Int×Ad×Int),(x_6.1.length<(4611686018427387904:Nat)∧x_6.2.2.1.length<(4611686018427387904:Nat))∧Al x_4.vals=Al x_6.1∧x_4.sum=x_6.2.1∧Al x_5.vals=Al x_6.2.2.1∧x_5.sum=x_6.2.2.2∧∃(y0:Unit),(∀(y:Unit),True→AV.bool (Di {vals:=x_6.1,sum:=x_6.2.1} {vals:=x_6.2.2.1,sum:=x_6.2.2.2})=AV.bool (Di {vals:=x_6.1,sum:=x_6.2.1} {vals:=x_6.2.2.1,sum:=x_6.2.2.2}))∧true=true∧Ae (Di {vals:=x_6.1,sum:=x_6.2.1} {vals:=x_6.2.2.1,sum:=x_6.2.2.2}) (inR .i64 ((2:Int)*i.2.1+(1:Int)+(1:Int))∧eA (Vw x.1 i) [AV.sl true 0 2 StW stA i.1,.box 0 [Al st0.vals,.q st0.sum],.box 0 [Al (AR x.1 (0:Int)).vals,.q (AR x.1 (0:Int)).sum],.q ((nL x.1)-(1:Int)),.q i.2.1,.q ((2:Int)*i.2.1+(1:Int)+(1:Int))]) (eA (Vw x.1 i) [AV.sl true 0 2 StW stA i.1,.box 0 [Al st0.vals,.q st0.sum],.box 0 [Al (AR x.1 (0:Int)).vals,.q (AR x.1 (0:Int)).sum],.q ((nL x.1)-(1:Int)),.q i.2.1,.q ((2:Int)*i.2.1+(1:Int))])) (eA (Vw x.1 i) [AV.sl true 0 2 StW stA i.1,.box 0 [Al st0.vals,.q st0.sum],.box 0 [Al (AR x.1 (0:Int)).vals,.q (AR x.1 (0:Int)).sum],.q ((nL x.1)-(1:Int)),.q i.2.1,.q ((2:Int)*i.2.1+(1:Int))]))∧∀(i_1:Unit),0≤i.2.1∧(2:Int)*i.2.1+1<(nL i.1)→true=true∧true=true∧(0≤dnK i.1 i.2.1∧dnK i.1 i.2.1<(nL i.1))∧Int.toNat (dnK i.1 i.2.1)<i.1.length∧∀(x_4:StW),i.1[Int.toNat (dnK i.1 i.2.1)]? =some x_4→(0≤i.2.1∧i.2.1<(nL i.1))∧Int.toNat i.2.1<i.1.length∧∀(x_5:StW),i.1[Int.toNat i.2.1]? =some x_5→∃(x_6:Ad×Int×Ad×Int),(x_6.1.length<(4611686018427387904:Nat)∧x_6.2.2.1.length<(4611686018427387904:Nat))∧Al x_4.vals=Al x_6.1∧x_4.sum=x_6.2.1∧Al x_5.vals=Al x_6.2.2.1∧x_5.sum=x_6.2.2.2∧∃(y0:Unit),(∀(y:Unit),True→AV.bool (Di {vals:=x_6.1,sum:=x_6.2.1} {vals:=x_6.2.2.1,sum:=x_6.2.2.2})=AV.bool (Di {vals:=x_6.1,sum:=x_6.2.1} {vals:=x_6.2.2.1,sum:=x_6.2.2.2}))∧true=true∧Ae (!Di {vals:=x_6.1,sum:=x_6.2.1} {vals:=x_6.2.2.1,sum:=x_6.2.2.2}) (a6b x i) ((0≤i.2.1∧i.2.1<(nL i.1))∧Int.toNat i.2.1<i.1.length∧∀(x_7:StW),i.1[Int.toNat i.2.1]? =some x_7→(0≤dnK i.1 i.2.1∧dnK i.1 i.2.1<(nL i.1))∧Int.toNat (dnK i.1 i.2.1)<i.1.length∧∀(x_8:StW),i.1[Int.toNat (dnK i.1 i.2.1)]? =some x_8→(0≤i.2.1∧i.2.1<(nL i.1))∧Int.toNat i.2.1<i.1.length∧∀(x_9:StW),i.1[Int.toNat i.2.1]? =some x_9→∃(x':StW),((@List.nil AV)=[]∧(@List.nil AV)=[])∧Al x_8.vals=Al x'.vals∧x_8.sum=x'.sum∧(0≤dnK i.1 i.2.1∧dnK i.1 i.2.1<(↑((List.set i.1 (Int.toNat i.2.1) x').length):Int))∧Int.toNat (dnK i.1 i.2.1)<(List.set i.1 (Int.toNat i.2.1) x').length∧∀(x_10:StW),(List.set i.1 (Int.toNat i.2.1) x')[Int.toNat (dnK i.1 i.2.1)]? =some x_10→∃(x'_1:StW),((@List.nil AV)=[]∧(@List.nil AV)=[])∧Al x_7.vals=Al x'_1.vals∧x_7.sum=x'_1.sum∧eN (ZJ x.1) i [AV.sl true 0 2 StW stA (List.set (List.set i.1 (Int.toNat i.2.1) x') (Int.toNat (dnK i.1 i.2.1)) x'_1),.box 0 [Al st0.vals,.q st0.sum],.box 0 [Al (AR x.1 (0:Int)).vals,.q (AR x.1 (0:Int)).sum],.q ((nL x.1)-(1:Int)),.q (dnK i.1 i.2.1)])) (a6b x i)) (by kernel_rfl) fun(x:List StW×Unit) (hx:0<x.1.length∧x.1.length<2^40∧(∀s∈x.1,s.vals.length<2^62))=>(by
 dsimp only[nL,a6b,eA,eN,Al,a6a,Vw,ZJ,Jj,Yq,AB,AF,Bn,AV.q]
 obtain⟨x,_⟩:=x;dsimp only at hx ⊢
 obtain⟨h1,h2,h3⟩:=hx
 have h64:(x.length:Int)<2^40:=by omega
 (repeat' first|(apply b3d<;>try dsimp only)|(with_reducible first|rfl|exact⟨⟩|apply AG|apply AM)|apply AL|(apply AK<;>try dsimp only)|apply AJ|((try refine AH.2 ?_);intro _;try dsimp only))
 all_goals(try(repeat(rename(_:List StW)[_]? =some _=>hq;revert hq;rename(_:List StW)[_]? =some _=>hr;intro hq;rw[hr] at hq;cases hq)))
 all_goals first
  |with_reducible rfl
  |with_reducible assumption
  |omega
  |(simp only[Aw,Lf] at*;omega)
  |exact()
  |exact c7I h1 (by with_reducible assumption)
  |exact(show st0.vals=[] from rfl)
  |exact(show(0:Int)=st0.sum from rfl)
  |exact congrArg StW.vals (b3f (by with_reducible assumption)).symm
  |exact congrArg StW.sum (b3f (by with_reducible assumption)).symm
  |(have hb:=Vb (show dwI _ _ _ _ by with_reducible assumption);exact c7L (by omega) (show Di _ _=true by with_reducible assumption) (by with_reducible assumption) (by with_reducible assumption))
  |exact c7M (show Di _ _=false by with_reducible assumption) (by with_reducible assumption) (by with_reducible assumption)
  |(have hb:=Vb (show dwI _ _ _ _ by with_reducible assumption);exact c7N (by omega))
  |(rename 0≤_∧2*_+1<_=>hq;have ha:=Yt hq.1 hq.2;(try simp only[Lf]);omega)
  |(rename 0≤_∧2*_+1<_=>hq;have ha:=Yt hq.1 hq.2;have hb:=Vb (show dwI _ _ _ _ by with_reducible assumption);omega)
  |exact c7O (by with_reducible assumption) (by with_reducible assumption) (show Di _ _=true by with_reducible assumption) (by with_reducible assumption) (by with_reducible assumption) (by with_reducible assumption) (by with_reducible assumption)
  |exact c7P (by with_reducible assumption) (show Di _ _=false by with_reducible assumption) (by with_reducible assumption) (by with_reducible assumption)
  |(have hb:=Vb (show dwI _ _ _ _ by with_reducible assumption);exact b3e (by with_reducible assumption) (.inl (by omega)))
  |(have hb:=Vb (show dwI _ _ _ _ by with_reducible assumption);(try simp only[Aw]);omega)
  |exact c7J (by with_reducible assumption) h3 (by with_reducible assumption)
  |skip)
theorem d2M(hp:pcOk p)(hi:ruI p w bud h n)(hl:(h.heap.length:Int)>0)(he:((AR h.heap 0).vals.length:Int)≠p.rules.length):
 opP p ⟨h.best,h.cost,CS h.heap,h.pops+1⟩ (AR h.heap 0):=c8p hp hi hl he
theorem b5k(hi:ruI p w bud h n)(hp:pcOk p)(hl:(h.heap.length:Int)>0)(hb:¬h.pops≥bud)(he:((AR h.heap 0).vals.length:Int)=p.rules.length)(hq:Jd (DP p (AR h.heap 0).vals w) h.cost (AR h.heap 0).vals h.best=true):
 ruI p w bud ⟨(AR h.heap 0).vals,DP p (AR h.heap 0).vals w,CS h.heap,h.pops+1⟩ (n-1):=by
 have:=b3t hp hi hl hb he
 rwa [c8a (h:=⟨h.best,h.cost,CS h.heap,h.pops+1⟩) hq] at this
theorem b5l(hi:ruI p w bud h n)(hp:pcOk p)(hl:(h.heap.length:Int)>0)(hb:¬h.pops≥bud)(he:((AR h.heap 0).vals.length:Int)=p.rules.length)(hq:Jd (DP p (AR h.heap 0).vals w) h.cost (AR h.heap 0).vals h.best=false):
 ruI p w bud ⟨h.best,h.cost,CS h.heap,h.pops+1⟩ (n-1):=by
 have:=b3t hp hi hl hb he
 rwa [c8b (h:=⟨h.best,h.cost,CS h.heap,h.pops+1⟩) hq] at this
theorem d2N(hi:ruI p w bud h n)(hI:opI p h.cost (AR h.heap 0) (CS h.heap) l k)(hp:pcOk p)(hl:(h.heap.length:Int)>0)(hb:¬h.pops≥bud)(he:((AR h.heap 0).vals.length:Int)≠p.rules.length)(hr:p.rules[((AR h.heap 0).vals.length:Int).toNat]? =some e)(hk:¬k<e.vals):
 ruI p w bud ⟨h.best,h.cost,l,h.pops+1⟩ (n-1):=by
 have:=c8o hp hi hl hb he
 rw[c8e hI (by rw[show opC p (AR h.heap 0)=e.vals from(b3j (n:=(AR h.heap 0).sum) hr).symm];exact hk)]
 exact this
theorem a6c(hr:p.rules[(x.vals.length:Int).toNat]? =some e):opC p x=e.vals:=(b3j (n:=x.sum) hr).symm
theorem d2O(hI:opI p h.cost x h.heap l k)(hx:opP p h x)(hr:p.rules[(x.vals.length:Int).toNat]? =some e)(hk:k<e.vals):bndP p (x.vals++[k]):=c8h (n:=x.sum) hx hI (by rw[a6c hr];exact hk)
theorem ZL(hI:opI p h.cost x h.heap l k)(hx:opP p h x)(hr:p.rules[(x.vals.length:Int).toNat]? =some e)(hk:k<e.vals):
 (KL p h.cost (x.vals++[k])=true→opI p h.cost x h.heap l (k+1))∧(KL p h.cost (x.vals++[k])=false→opI p h.cost x h.heap (FG l ⟨x.vals++[k],El p (x.vals++[k])⟩) (k+1)):=c8d hx hI (by rw[a6c hr];exact hk)
theorem d2P(hr:p.rules[(x.vals.length:Int).toNat]? =some e)(hk:k<e.vals):(opC p x-(k+1)).toNat<(opC p x-k).toNat:=by rw[a6c hr];omega
theorem d2Q(hi:ruI p w bud h n)(hz:pcS p)(hok:CY p=true)(hl:(h.heap.length:Int)>0)(he:((AR h.heap 0).vals.length:Int)=p.rules.length):qcP p (AR h.heap 0).vals:=⟨b3r (JX hok) hz (b3s hi hl).1 (by omega),hok⟩
theorem d2R(hz:pcS p)(hok:CY p=true):qcP p (Ip p):=⟨b3r (JX hok) hz (a4k (JX hok)).1 (a4k (JX hok)).2,hok⟩
theorem a6d(hi:ruI p w bud h n)(hp:pcOk p):h.best.length≤8∧∀s∈h.heap,s.vals.length≤8:=⟨by have:=hi.1.1.bl;have:=hp.rl;omega,fun s hs=>by have:=(hi.1.1.hk s hs).1.1;have:=hp.rl;omega⟩
theorem d2S(hi:ruI p w bud h n)(hp:pcOk p)(hl:(h.heap.length:Int)>0):(AR h.heap 0).vals.length≤8:=(a6d hi hp).2 _ (a4F (by omega))
theorem d2T{a:Ad}{b:Int}{o:Bool}{i:Nat}{q:StW→Prop}(h:q ⟨a,b⟩):∃x:StW,AV.sl o i 1 Int (fun x=>fzL (BE x)) a=AV.sl o i 1 Int BE x.vals∧b=x.sum∧q x:=⟨⟨a,b⟩,rfl,rfl,h⟩
def seS(x:Pc×Int×Int)(i:Hu×Nat):LS:=⟨List StW×Int,fun j=>opI x.1 i.1.cost (AR i.1.heap 0) (CS i.1.heap) j.1 j.2,fun j=>[(1,.int .i64 x.2.1),(2,.int .i64 x.2.2),(3,.box 0 (pcA false x.1)),(8,Al i.1.best),(9,.box 0 [.int .i64 i.1.cost.over,.int .i64 i.1.cost.sum]),(10,Jj j.1),(11,.int .i64 (i.1.pops+1)),(13,.box 0 (stA (AR i.1.heap 0))),(14,.int .i64 (AR i.1.heap 0).vals.length),(16,.int .i64 j.2)],[],fun j=>(opC x.1 (AR i.1.heap 0)-j.2).toNat,fun _=>[],[]⟩
def seL(x:Pc×Int×Int):LS:=⟨Hu×Nat,fun i=>(ruI x.1 x.2.1 x.2.2 i.1 i.2∧CY x.1=true),fun i=>[(1,.int .i64 x.2.1),(2,.int .i64 x.2.2),(3,.box 0 (pcA false x.1)),(8,Al i.1.best),(9,.box 0 [.int .i64 i.1.cost.over,.int .i64 i.1.cost.sum]),(10,Jj i.1.heap),(11,.int .i64 i.1.pops)],[],fun i=>i.2,fun i=>[(20,seS x i)],[]⟩
attribute [local irreducible] ruI opI KK srF opN
def MU:Sig:=⟨Pc×Int×Int,fun x=>[.agg (pcA false x.1),.q x.2.1,.q x.2.2],fun x=>pcS x.1,Unit,fun x y=>True,fun x y=> .tup [Al (if CY x.1 then(srF x.1 x.2.1 x.2.2).1.best else []),.q (if CY x.1 then(srF x.1 x.2.1 x.2.2).2 else 0)],fun x y=>[.top,.top,.top],true,[],[]⟩
def a6e(x:Pc×Int×Int)(i:Hu×Nat)(i_1:List StW×Int)(x_7:Qc.X)(zs:Ad)(zs_1:Ad):Prop:=cA Qf [AV.sl true 0 2 StW stA i_1.1,.agg [An ([]++zs++zs_1),.q (El x_7.1 x_7.2)]] fun x_9 y=>inR .i64 (i_1.2+(1:Int))∧(eN (seS x i) i_1 [.q x.2.1,.q x.2.2,.box 0 (pcA false x.1),Al i.1.best,.box 0 [.q i.1.cost.over,.q i.1.cost.sum],AV.sl true 0 2 StW stA (FG x_9.1 {vals:=x_9.2.1,sum:=x_9.2.2}),.q (i.1.pops+1),.box 0 [Al (AR i.1.heap (0:Int)).vals,.q (AR i.1.heap (0:Int)).sum],.q (↑((AR i.1.heap (0:Int)).vals.length):Int),.q (i_1.2+(1:Int))])
def a6f(x:Pc×Int×Int)(i:Hu×Nat)(i_1:List StW×Int):Prop:=eN (seS x i) i_1 [.q x.2.1,.q x.2.2,.box 0 (pcA false x.1),Al i.1.best,.box 0 [.q i.1.cost.over,.q i.1.cost.sum],AV.sl true 0 2 StW stA i_1.1,.q (i.1.pops+1),.box 0 [Al (AR i.1.heap (0:Int)).vals,.q (AR i.1.heap (0:Int)).sum],.q (↑((AR i.1.heap (0:Int)).vals.length):Int),.q (i_1.2+(1:Int))]
theorem d2U:CtG G 100 MU:=
 vFq [(119,0,Eu),(120,0,SO),(121,0,Vv),(122,0,ZK),(123,0,Ou),(124,0,Ho),(125,0,Qc),(126,0,Qg),(127,0,Qf)] [(159,⟨StW,stA⟩),(27,⟨Int,BE⟩)] (fun x=>[(7,seL x)]) Tryz.func100 ⟨b4P,d2e,d2D,d2L,d2E,b5i,d2A,d2K,d2J,trivial⟩ (fun x=>True∧cA Eu [.agg (pcA false x.1)] fun x_1 y=>Ae (!CY x_1) (rA MU x [.tup [An [],.q 0],.top,.top,.top]) (cA SO [.agg (pcA false x.1)] fun x_2 y=>cA Vv [.agg (pcA false x.1),An (Ip x_2),.q x.2.1] fun x_3 y=>∃(x_4:StW),AV.sl false 0 1 Int (fun(x:Int)=>fzL (BE x)) []=Al x_4.vals∧0=x_4.sum∧eA (seL x) [.q x.2.1,.q x.2.2,.box 0 (pcA false x.1),An (Ip x_2),.box 0 [.q (DP x_3.1 x_3.2.1 x_3.2.2).over,.q (DP x_3.1 x_3.2.1 x_3.2.2).sum],AV.sl true 0 2 StW stA [x_4],.q 0]∧∀(i:Hu×Nat),ruI x.1 x.2.1 x.2.2 i.1 i.2∧CY x.1=true→Ae (decide ((nL i.1.heap)>(0:Int))) (Ae (decide (i.1.pops≥x.2.2)) (rA MU x [.tup [Al i.1.best,.q 2],.top,.top,.top]) (inR .i64 (i.1.pops+1)∧cA ZK [AV.sl true 0 2 StW stA i.1.heap] fun x_5 y=>Ae ((↑((AR x_5.1 (0:Int)).vals.length):Int)==(nL x.1.rules)) (cA Vv [.agg (pcA false x.1),Al (AR x_5.1 (0:Int)).vals,.q x.2.1] fun x_6 y=>cA Ou [.agg [.q (DP x_6.1 x_6.2.1 x_6.2.2).over,.q (DP x_6.1 x_6.2.1 x_6.2.2).sum],.agg [.q i.1.cost.over,.q i.1.cost.sum]] fun x_7 y=>Ae (PE {over:=x_7.1,sum:=x_7.2.1} {over:=x_7.2.2.1,sum:=x_7.2.2.2}) (eN (seL x) i [.q x.2.1,.q x.2.2,.box 0 (pcA false x.1),Al (AR x_5.1 (0:Int)).vals,.box 0 [.q (DP x_6.1 x_6.2.1 x_6.2.2).over,.q (DP x_6.1 x_6.2.1 x_6.2.2).sum],AV.sl true 0 2 StW stA (CS x_5.1),.q (i.1.pops+1)]) (Ae (true&&(DP x_6.1 x_6.2.1 x_6.2.2).over==i.1.cost.over&&(DP x_6.1 x_6.2.1 x_6.2.2).sum==i.1.cost.sum) (cA Ho [Al (AR x_5.1 (0:Int)).vals,Al i.1.best] fun x_8 y=>Ae (decide (Fa x_8.1 x_8.2<(0:Int))) (eN (seL x) i [.q x.2.1,.q x.2.2,.box 0 (pcA false x.1),Al (AR x_5.1 (0:Int)).vals,.box 0 [.q (DP x_6.1 x_6.2.1 x_6.2.2).over,.q (DP x_6.1 x_6.2.1 x_6.2.2).sum],AV.sl true 0 2 StW stA (CS x_5.1),.q (i.1.pops+1)]) (eN (seL x) i [.q x.2.1,.q x.2.2,.box 0 (pcA false x.1),Al i.1.best,.box 0 [.q i.1.cost.over,.q i.1.cost.sum],AV.sl true 0 2 StW stA (CS x_5.1),.q (i.1.pops+1)])) (eN (seL x) i [.q x.2.1,.q x.2.2,.box 0 (pcA false x.1),Al i.1.best,.box 0 [.q i.1.cost.over,.q i.1.cost.sum],AV.sl true 0 2 StW stA (CS x_5.1),.q (i.1.pops+1)]))) (eA (seS x i) [.q x.2.1,.q x.2.2,.box 0 (pcA false x.1),Al i.1.best,.box 0 [.q i.1.cost.over,.q i.1.cost.sum],AV.sl true 0 2 StW stA (CS x_5.1),.q (i.1.pops+1),.box 0 [Al (AR x_5.1 (0:Int)).vals,.q (AR x_5.1 (0:Int)).sum],.q (↑((AR x_5.1 (0:Int)).vals.length):Int),.q 0]∧∀(i_1:List StW×Int),opI x.1 i.1.cost (AR i.1.heap (0:Int)) (CS i.1.heap) i_1.1 i_1.2→(0≤(↑((AR i.1.heap (0:Int)).vals.length):Int)∧(↑((AR i.1.heap (0:Int)).vals.length):Int)<(nL x.1.rules))∧∀(e:Ru),x.1.rules[Int.toNat (↑((AR i.1.heap (0:Int)).vals.length):Int)]? =some e→Ae (decide (i_1.2<e.vals)) (∃(zs:Ad),Al (AR i.1.heap (0:Int)).vals=Al zs∧Ca BE∧Bb ((0:Nat)+zs.length) (8:Nat)∧∃(x_6:Int),i_1.2=x_6∧∃(zs_1:Ad),An [x_6]=An zs_1∧Ca BE∧Bb (([]++zs).length+zs_1.length) (8:Nat)∧cA Qc [.agg (pcA false x.1),An ([]++zs++zs_1)] fun x_7 y=>cA Qg [.agg (pcA false x.1),An ([]++zs++zs_1)] fun x_8 y=>Ae (!UU x_8.1 x_8.2) (inR .i64 (i_1.2+(1:Int))∧(a6f x i i_1)) (Ae (i.1.cost.over==0) (Ae (decide (El x_7.1 x_7.2>i.1.cost.sum)) (inR .i64 (i_1.2+(1:Int))∧(a6f x i i_1)) (a6e x i i_1 x_7 zs zs_1)) (a6e x i i_1 x_7 zs zs_1))) (eN (seL x) i [.q x.2.1,.q x.2.2,.box 0 (pcA false x.1),Al i.1.best,.box 0 [.q i.1.cost.over,.q i.1.cost.sum],AV.sl true 0 2 StW stA i_1.1,.q (i.1.pops+1)])))) (∃(zs:Ad),Al i.1.best=Al zs∧Ca BE∧Bb ((0:Nat)+zs.length) (8:Nat)∧rA MU x [.tup [An ([]++zs),.q 1],.top,.top,.top]))) (by kernel_rfl) fun(x:Pc×Int×Int) (hx:pcS x.1)=>(by
 dsimp only[nL,a6f,a6e,cA,EP,eA,eN,Al,An,Jj,pcA,rA,EO,SO,Qc,Ho,Vv,Ou,Eu,ZK,Qf,MU,Qg,seL,seS,EQ,Yq,ER,AB,AF,mvL,lnL,mvE,lnE,mvG,mvH,lnG,lnH,Bn,AV.q]
 obtain⟨p,w,bud⟩:=x;dsimp only at hx ⊢
 have hx:pcS p:=hx
 (repeat' first|refine a4l p ?_|refine MK p ?_|(apply c8m<;>try dsimp only)|refine c8n ?_|refine d2T ?_|(with_reducible first|rfl|exact⟨⟩|apply AG|apply AM)|apply AL|(apply AK<;>try dsimp only)|apply AJ|((try refine AH.2 ?_);intro _;try dsimp only))
 all_goals(try exact b3u ‹ruI _ _ _ _ _∧_›.1)
 all_goals(try exact a4G (JX ‹CY p=true›))
 all_goals(try(have hp:=JX ‹CY p=true›;have hrl:=hp.rl;have htl:=hp.til))
 all_goals(try(have hi:= ‹ruI _ _ _ _ _∧_›.1;have hb:=a4H hi;have hbl:=(a6d hi hp).1))
 all_goals(try(have htp:=d2S hi hp ‹_›))
 all_goals(try(have hP:=d2M hp hi ‹_› ‹_›;(try(have hO:=c8g hP ‹opI _ _ _ _ _ _›))))
 all_goals first
  |with_reducible rfl
  |exact()
  |omega
  |((try simp only[Aw]);omega)
  |exact hx
  |(rw[if_neg (by simp [*])];done)
  |exact d2R hx ‹_›
  |exact(show(0:Int)=st0.sum from rfl)
  |exact a4G hp
  |exact b3u hi
  |(rw[if_pos ‹_›,c8k hi (by omega) (by omega)];done)
  |(rw[if_pos ‹_›,b3p hi (by omega)];done)
  |(rw[if_pos ‹_›,b3p hi (by omega)];rfl)
  |(have hq:=(a6d hi hp).2 _ ‹_›;omega)
  |exact d2Q hi hx ‹_› ‹_› ‹_›
  |exact b5k hi hp ‹_› ‹_› ‹_› (c7W ‹_›)
  |exact b5k hi hp ‹_› ‹_› ‹_› (c7X ‹_› ‹_›)
  |exact b5l hi hp ‹_› ‹_› ‹_› (c7Y ‹_› ‹_›)
  |exact b5l hi hp ‹_› ‹_› ‹_› (c7Z ‹_› ‹_›)
  |exact c8c hP
  |exact d2O ‹_› hP ‹_› ‹_›
  |exact d2P ‹_› ‹_›
  |exact(ZL ‹_› hP ‹_› ‹_›).1 (b3h (.inl ‹_›))
  |exact(ZL ‹_› hP ‹_› ‹_›).1 (b3h (.inr ⟨by assumption,by assumption⟩))
  |exact(ZL ‹_› hP ‹_› ‹_›).2 (b3i ‹_› (.inl ‹_›))
  |exact(ZL ‹_› hP ‹_› ‹_›).2 (b3i ‹_› (.inr ‹_›))
  |exact d2N hi ‹_› hp ‹_› ‹_› ‹_› ‹_› ‹_›
  |exact c8i hp hO.2.2 _ ‹_›
  |(have hq:=hP.vl;omega)
  |(simp only[Bb,Ba,AE,AX];omega)
  |rfl
  |with_reducible assumption
  |skip)
end Go.My
end
section
namespace Go.My
open Go.Eng Go.Proofs
variable {G:GInv}
variable {a fr i k m nest r:Int}{c:BC}{en op:Aa}{ks:Ad}{n:Nat}{s t u v w:Bs}{sp:Bool}
def suA(c:BC)(s:Bs):AV:= .box 0 [nds c.ns,.int .i64 c.ind,.sl true 0 2 Ru ruA s.rules,.sl true 0 5 Ch chA s.chunks,.sl true 0 3 Sn snA s.spans,.sl true 0 2 Ti tiA s.ties,.str s.text,.bool !c.rd]
theorem SS{n:Int}(h:min n 40=min m 40):AZ r fr sp n s=AZ r fr sp m s:=by unfold AZ;rw[h]
def Cx:Sig:=⟨BC×BX Aa,fun x=>[suA x.1 (xC x),.str x.2.2.2.2.2.2],fun x=>(xC x).text.length+x.2.2.2.2.2.2.length≤2^62,BT,fun x y=>isB (As x.2.2.2.2.2.2 (xC x)) (yBW y),fun x y=> .tup [],fun x y=>[suA x.1 (yBW y),.top],true,[],[]⟩
theorem SU:CtG G 118 Cx:=
 vFq [] [] (fun x=>[]) Tryz.func118 trivial (fun x=>True∧(↑((xC x).text.length+(Z6 x).length):Int)≤Aq∧rA Cx x [.tup [],.box 0 [nds x.1.ns,.q x.1.ind,oRu (xC x).rules,oCh (xC x).chunks,oSn (xC x).spans,oTi (xC x).ties,.str ((xC x).text++(Z6 x)),.bool !x.1.rd],.top]) (by kernel_rfl) fun(x:BC×BX Aa) (hx:(xC x).text.length+x.2.2.2.2.2.2.length≤2^62)=>(by
 dsimp only[Z6,EP,Ce,nds,oCh,oRu,oSn,oTi,rA,EO,Cx,EQ,suA,ER,AB,AF,Aq,AV.q]
 obtain⟨b,r,c,s,t,u,l⟩:=x;dsimp only[xC] at hx ⊢
 (repeat' first|(with_reducible first|rfl|exact⟨⟩|apply AG|apply AM)|apply AL|(apply AK<;>try dsimp only)|apply AJ|((try refine AH.2 ?_);intro _;try dsimp only))
 all_goals first
  |rfl
  |exact(show isB _ _ from rfl)
  |((try simp only[Aw]);omega)
  |skip)
def FH:Sig:=⟨BC×BX (Int×Int),fun x=>[suA x.1 (xC x),.q x.2.2.2.2.2.2.1,.q x.2.2.2.2.2.2.2],fun x=>bB (xC x),BT,fun x y=>yBW y=Bx x.1.rd x.2.2.2.2.2.2.1 x.2.2.2.2.2.2.2 (xC x),fun x y=> .q (AP x.1.rd (xC x)),fun x y=>[suA x.1 (yBW y),.top,.top],true,[],[]⟩
theorem Vx:CtG G 116 FH:=
 vFq [] [(120,⟨Ru,ruA⟩)] (fun x=>[]) Tryz.func116 trivial (fun x=>True∧Ae (!x.1.rd) (rA FH x [.q (-1:Int),(suA x.1 (xC x)),.top,.top]) (Ae (decide ((↑((xC x).rules.length):Int)≥(8:Int))) (rA FH x [.q (-1:Int),(suA x.1 (xC x)),.top,.top]) (∃(x_1:Ru),(G6 x)=x_1.vals∧(Z7 x)=x_1.cost∧∃(zs:List Ru),oRu [x_1]=oRu zs∧Ca ruA∧Bb ((xC x).rules.length+zs.length) (16:Nat)∧inR .i64 ((↑(((xC x).rules++zs).length):Int)-(1:Int))∧∃(y:BT),yBW y=Bx x.1.rd (G6 x) (Z7 x) (xC x)∧(↑(((xC x).rules++zs).length):Int)-1=AP x.1.rd (xC x)∧nds x.1.ns=nds x.1.ns∧x.1.ind=x.1.ind∧oRu ((xC x).rules++zs)=oRu (yBW y).rules∧oCh (xC x).chunks=oCh (yBW y).chunks∧oSn (xC x).spans=oSn (yBW y).spans∧oTi (xC x).ties=oTi (yBW y).ties∧(xC x).text=(yBW y).text∧(!x.1.rd)= !x.1.rd∧True))) (by kernel_rfl) fun(x:BC×BX (Int×Int)) (hx:bB (xC x))=>(by
 dsimp only[G6,Z7,EP,Ce,nds,oCh,oRu,oSn,oTi,rA,EO,FH,EQ,suA,ER,AB,AF,AV.q]
 obtain⟨b,r,c,s,t,u,e,f⟩:=x;dsimp only[xC] at hx ⊢
 have hx:bB ⟨r,c,s,t,u⟩:=hx
 have h1:=hx.ok.ru;dsimp only at h1
 (repeat' first|refine c6r ?_|(with_reducible first|rfl|exact⟨⟩|apply AG|apply AM)|apply AL|(apply AK<;>try dsimp only)|apply AJ|((try refine AH.2 ?_);intro _;try dsimp only))
 all_goals try(first|(have hF:= @b2h b.rd e f ⟨r,c,s,t,u⟩ (.inl ‹_›))|(have hF:= @b2h b.rd e f ⟨r,c,s,t,u⟩ (.inr ‹_›))|(have hF:= @c6u b.rd e f ⟨r,c,s,t,u⟩ ‹_› ‹_›))
 all_goals first
  |rfl
  |(simp only[hF];done)
  |(simp only[hF,Ba,AE,AX];omega)
  |((try simp only[Aw,Bb,Ba,AE,AX]);omega)
  |skip)
def Vy(t:Aa)(r f:Int)(sp:Bool)(n:Int):Ch:=⟨t,r,f,sp,n⟩
theorem d2V(h:¬r<0)(h2:¬(s.chunks.length:Int)≥79)(hm:min nest 40=m):AZ r fr sp nest s=⟨s.rules,s.chunks++[Vy s.text r fr sp m],s.spans,s.ties,[]⟩:=by rw[AZ,if_pos ⟨by omega,by omega⟩,hm];rfl
theorem b5m(ht:isB (As [32] s) t)(h:r<0∨(s.chunks.length:Int)≥79)(h2:sp=true):AZ r fr sp nest s=t:=by rw[AZ,if_neg (by omega),if_pos h2];exact ht.symm
theorem b5n(h:r<0∨(s.chunks.length:Int)≥79)(h2:sp=false):AZ r fr sp nest s=s:=by rw[AZ,if_neg (by omega),if_neg (by simp [h2])]
theorem d2W(h:(¬r<0∧¬(s.chunks.length:Int)≥79)∧min nest 40=m):isB (AZ r fr sp nest s) ⟨s.rules,s.chunks++[Vy s.text r fr sp m],s.spans,s.ties,[]⟩:=(d2V h.1.1 h.1.2 h.2).symm
def EF:Sig:=⟨BC×BX (Int×Int×Bool×Int),fun x=>[suA x.1 (xC x),.q x.2.2.2.2.2.2.1,.q x.2.2.2.2.2.2.2.1,.bool x.2.2.2.2.2.2.2.2.1,.q x.2.2.2.2.2.2.2.2.2],fun x=>bB (xC x),BT,fun x y=>isB (AZ x.2.2.2.2.2.2.1 x.2.2.2.2.2.2.2.1 x.2.2.2.2.2.2.2.2.1 x.2.2.2.2.2.2.2.2.2 (xC x)) (yBW y),fun x y=> .tup [],fun x y=>[suA x.1 (yBW y),.top,.top,.top,.top],true,[],[]⟩
def d2X(x:BC×BX (Int×Int×Bool×Int)):LS:=⟨Int×Unit,fun m=>(¬x.2.2.2.2.2.2.1<0∧¬((xC x).chunks.length:Int)≥79)∧min x.2.2.2.2.2.2.2.2.2 40=m.1,fun m=>[(0,suA x.1 ⟨(xC x).rules,(xC x).chunks++[Vy (xC x).text x.2.2.2.2.2.2.1 x.2.2.2.2.2.2.2.1 x.2.2.2.2.2.2.2.2.1 m.1],(xC x).spans,(xC x).ties,(xC x).text⟩)],[],fun _=>0,fun _=>[],[]⟩
def ZM(x:BC×BX (Int×Int×Bool×Int)):LS:=⟨Int×Unit,fun m=>(¬x.2.2.2.2.2.2.1<0∧¬((xC x).chunks.length:Int)≥79)∧min x.2.2.2.2.2.2.2.2.2 40=m.1,fun m=>[(0,suA x.1 (xC x)),(1,.q x.2.2.2.2.2.2.1),(2,.q x.2.2.2.2.2.2.2.1),(3,.bool x.2.2.2.2.2.2.2.2.1),(4,.q m.1)],[],fun _=>0,fun _=>[],[]⟩
def KX(x:BC×BX (Int×Int×Bool×Int))(i:Int×Unit):Prop:=∃(x_1:Ch),(xC x).text=x_1.text∧((G6 x)=x_1.rule∧((G7 x)=x_1.fr∧((G8 x)=x_1.space∧i.1=x_1.nest∧(∃(zs:List Ch),oCh [x_1]=oCh zs∧(Ca chA∧(Bb ((xC x).chunks.length+zs.length) (48:Nat)∧(true=true∧(∃(i:Int×Unit),((¬(G6 x)<(0:Int)∧¬(↑((xC x).chunks.length):Int)≥(79:Int))∧min (Z9 x) 40=i.1)∧((nds x.1.ns=nds x.1.ns∧x.1.ind=x.1.ind∧oRu (xC x).rules=oRu (xC x).rules∧oCh ((xC x).chunks++zs)=oCh ((xC x).chunks++[Vy (xC x).text (G6 x) (G7 x) (G8 x) i.1])∧oSn (xC x).spans=oSn (xC x).spans∧oTi (xC x).ties=oTi (xC x).ties∧(xC x).text=(xC x).text∧(!x.1.rd)= !x.1.rd∧True)∧True)))))))))
theorem Vz:CtG G 115 EF:=
 vFq [(118,0,Cx)] [(121,⟨Ch,chA⟩)] (fun x=>[(100005,d2X x),(200005,ZM x)]) Tryz.func115 ⟨SU,trivial⟩ (fun x=>True∧Ae (decide ((G6 x)<(0:Int))) (Ae (G8 x) (cA Cx [(suA x.1 (xC x)),.str #[(32:UInt8)].toList] fun x_1 y=>rA EF x [.tup [],(suA x_1.1 (yBW y)),.top,.top,.top,.top]) (rA EF x [.tup [],(suA x.1 (xC x)),.top,.top,.top,.top])) (Ae (decide ((↑((xC x).chunks.length):Int)≥(79:Int))) (Ae (G8 x) (cA Cx [(suA x.1 (xC x)),.str #[(32:UInt8)].toList] fun x_1 y=>rA EF x [.tup [],(suA x_1.1 (yBW y)),.top,.top,.top,.top]) (rA EF x [.tup [],(suA x.1 (xC x)),.top,.top,.top,.top])) (Ae (decide ((Z9 x)>(40:Int))) (eA (ZM x) [(suA x.1 (xC x)),.q (G6 x),.q (G7 x),.bool (G8 x),.q 40]) (eA (ZM x) [(suA x.1 (xC x)),.q (G6 x),.q (G7 x),.bool (G8 x),.q (Z9 x)])∧∀(i:Int×Unit),(¬(G6 x)<(0:Int)∧¬(↑((xC x).chunks.length):Int)≥(79:Int))∧min (Z9 x) 40=i.1→true=true∧(((KX x i)∧(KX x i))∧((KX x i)∧((KX x i)∧((KX x i)∧(KX x i))))∧((KX x i)∧((KX x i)∧((KX x i)∧(KX x i)))))∧∀(i:Int×Unit),(¬(G6 x)<(0:Int)∧¬(↑((xC x).chunks.length):Int)≥(79:Int))∧min (Z9 x) 40=i.1→rA EF x [.tup [],.box 0 [nds x.1.ns,.q x.1.ind,oRu (xC x).rules,oCh ((xC x).chunks++[Vy (xC x).text (G6 x) (G7 x) (G8 x) i.1]),oSn (xC x).spans,oTi (xC x).ties,.str #[].toList,.bool !x.1.rd],.top,.top,.top,.top]))) (by kernel_rfl) fun(x:BC×BX (Int×Int×Bool×Int)) (hx:bB (xC x))=>(by
 dsimp only[G6,G7,G8,Z9,KX,cA,EP,eA,ZM,Ce,nds,oCh,oRu,oSn,oTi,rA,EO,Cx,EF,EQ,suA,ER,AB,AF,mvL,lnL,mvE,lnE,Bn,AV.q]
 obtain⟨b,r,c,s,t,u,e,f,g,h⟩:=x;dsimp only[xC] at hx ⊢
 have hx:bB ⟨r,c,s,t,u⟩:=hx
 have h1:=hx.ok.ch;have h2:=Sr hx;dsimp only at h1 h2
 (repeat' first|refine b2g ?_|(with_reducible first|rfl|exact⟨⟩|apply AG|apply AM)|apply AL|(apply AK<;>try dsimp only)|apply AJ|((try refine AH.2 ?_);intro _;try dsimp only))
 all_goals(try dsimp only[yBW,xC] at*)
 all_goals first
  |with_reducible rfl
  |omega
  |exact(b5m ‹_› (.inl ‹_›) ‹_›).symm
  |exact(b5m ‹_› (.inr ‹_›) ‹_›).symm
  |exact(b5n (.inl ‹_›) ‹_›).symm
  |exact(b5n (.inr ‹_›) ‹_›).symm
  |(rename(¬_∧¬_)∧_=>hq;exact d2W (s:=⟨r,c,s,t,u⟩) hq)
  |(rename(¬_∧¬_)∧_=>hq;rw[hq.2];rfl)
  |(rename(¬_∧¬_)∧_=>hq;first|exact hq.1.1|exact hq.1.2|exact hq.2|exact hq.1.1 ‹_› |exact hq.1.2 ‹_›)
  |((try simp only[Aw,Bb,Ba,AE,AX]);omega)
  |exact()
  |rfl
  |skip)
theorem d2Y{u:Int}(h:u≥0)(h1:(s.rules.length:Int)>n)(h2:(s.ties.length:Int)<20):isB (DY (Es n s) u s) ⟨s.rules,s.chunks,s.spans,s.ties++[⟨n,u⟩],s.text⟩:=by
 rw[isB,Es,if_pos (by omega),DY,if_pos (by omega)]
theorem a6g{u:Int}(h:(¬u≥0∨¬(s.rules.length:Int)>n)∨¬(s.ties.length:Int)<20):isB (DY (Es n s) u s) s:=by
 rw[isB,Es]
 split
 ·rw[DY,if_neg (by omega)]
 ·rw[DY,if_neg (by omega)]
def KY:Sig:=⟨BC×BX (Nat×Int),fun x=>[suA x.1 (xC x),.q x.2.2.2.2.2.2.1,.q x.2.2.2.2.2.2.2],fun x=>bB (xC x),BT,fun x y=>isB (DY (Es x.2.2.2.2.2.2.1 (xC x)) x.2.2.2.2.2.2.2 (xC x)) (yBW y),fun x y=> .tup [],fun x y=>[suA x.1 (yBW y),.top,.top],true,[],[]⟩
theorem b5o:CtG G 156 KY:=
 vFq [] [(123,⟨Ti,tiA⟩)] (fun x=>[]) Tryz.func156 trivial (fun x=>True∧Ae (decide ((Z7 x)≥(0:Int))) (Ae (decide ((↑((xC x).rules.length):Int)>(↑(G6 x):Int))) (Ae (decide ((↑((xC x).ties.length):Int)<(20:Int))) (∃(x_1:Ti),(↑(G6 x):Int)=x_1.kid∧(Z7 x)=x_1.up∧∃(zs:List Ti),oTi [x_1]=oTi zs∧Ca tiA∧Bb ((xC x).ties.length+zs.length) (16:Nat)∧∃(y:BT),isB (DY (Es (G6 x) (xC x)) (Z7 x) (xC x)) (yBW y)∧nds x.1.ns=nds x.1.ns∧x.1.ind=x.1.ind∧oRu (xC x).rules=oRu (yBW y).rules∧oCh (xC x).chunks=oCh (yBW y).chunks∧oSn (xC x).spans=oSn (yBW y).spans∧oTi ((xC x).ties++zs)=oTi (yBW y).ties∧(xC x).text=(yBW y).text∧(!x.1.rd)= !x.1.rd∧True) (rA KY x [.tup [],(suA x.1 (xC x)),.top,.top])) (rA KY x [.tup [],(suA x.1 (xC x)),.top,.top])) (rA KY x [.tup [],(suA x.1 (xC x)),.top,.top])) (by kernel_rfl) fun(x:BC×BX (Nat×Int)) (hx:bB (xC x))=>(by
 dsimp only[G6,Z7,EP,Ce,nds,oCh,oRu,oSn,oTi,rA,EO,KY,EQ,suA,ER,AB,AF,AV.q]
 obtain⟨b,r,c,s,t,u,e,f⟩:=x;dsimp only[xC] at hx ⊢
 have hx:bB ⟨r,c,s,t,u⟩:=hx
 have h1:=hx.ok.ti;dsimp only at h1
 (repeat' first|refine c6s ?_|(with_reducible first|rfl|exact⟨⟩|apply AG|apply AM)|apply AL|(apply AK<;>try dsimp only)|apply AJ|((try refine AH.2 ?_);intro _;try dsimp only))
 all_goals(try dsimp only[yBW,xC] at*)
 all_goals first
  |with_reducible rfl
  |exact d2Y (s:=⟨r,c,s,t,u⟩) ‹_› ‹_› ‹_›
  |exact a6g (s:=⟨r,c,s,t,u⟩) (.inl (.inl ‹_›))
  |exact a6g (s:=⟨r,c,s,t,u⟩) (.inl (.inr ‹_›))
  |exact a6g (s:=⟨r,c,s,t,u⟩) (.inr ‹_›)
  |((try simp only[Aw,Bb,Ba,AE,AX]);omega)
  |rfl
  |skip)
structure vsP (ns:List Nd) (n:Nat) (s:Bs) (k a:Int):Prop where
 up:BB ns k
 lt:k<n
 vl:Bg (Ai ns k)=true
 rm:bR (tW ns n k) s
 ar:0≤a∧a+4*k≤2^40
def vsQ(c:BC)(n:Nat)(s:Bs)(k a:Int)(t:Bs):Prop:=t=bV c.ns c.rd n k (min a 40) s
def CN(n:Nat):Sig:=⟨BC×List Ru×List Ch×List Sn×List Ti×Aa×Int×Int,fun x=>[suA x.1 (xC x),.int .i64 x.2.2.2.2.2.2.1,.int .i64 x.2.2.2.2.2.2.2],fun x=>vsP x.1.ns n (xC x) x.2.2.2.2.2.2.1 x.2.2.2.2.2.2.2,BT,fun x y=>vsQ x.1 n (xC x) x.2.2.2.2.2.2.1 x.2.2.2.2.2.2.2 (yBW y),fun x y=> .tup [],fun x y=>[suA x.1 (yBW y),.top,.top],true,[],[]⟩
def inA(a:Int)(ks:Ad):Prop:=(0≤a∧a≤2^40)∧∀d∈ks,a+4+4*d≤2^40
theorem m40(h:0≤a):min (min a 40+4) 40=min (a+4) 40:=by omega
theorem a6h{ns:List Nd}(h:vlP ns n s k (min (min a 40+4) 40))(ha:0≤a)(hk:a+4+4*k≤2^40):vsP ns n s k (a+4):=⟨h.up,h.lt,h.vl,h.rm,by omega,hk⟩
theorem a6i(h:vsQ c n s k (a+4) t)(ha:0≤a):Dd c n s k (min (min a 40+4) 40) (JU c.rd (Ab c.ns k) s) t:=⟨by rw[m40 ha];exact h,rfl⟩
theorem a6j(h:isB (AZ r fr sp (a+4) s) t)(ha:0≤a):t=AZ r fr sp (min (min a 40+4) 40) s:=by
 rw[h];exact SS (by omega)
theorem b5p(h:isB (AZ r fr sp a s) t):t=AZ r fr sp (min a 40) s:=by
 rw[h];exact SS (by omega)
structure lsP (c:BC) (n:Nat) (s:Bs) (op:Aa) (ks:Ad) (en:Aa) (a:Int):Prop where
 li:liP c n s op ks en (min a 40)
 ar:inA a ks
theorem a6k(h:lsP c n s op ks en a)(hc:ks[i.toNat]? =some k):a+4+4*k≤2^40:=h.ar.2 k (Bq hc)
theorem d2Z{w:Bs}(hu:isB (AZ (AP c.rd (As op s)) 1 false (a+4) t) u)(ht:t=Bx c.rd (min (ks.length:Int) 2+1) 1 (As op s))(h:lsP c n s op ks en a):liI c n s op ks (min a 40) 0 u:=c8K h.li (a6j hu h.ar.1.1) ht
theorem d3a(h:liI c n s op ks (min a 40) i t)(hx:lsP c n s op ks en a)(hc:ks[i.toNat]? =some k):vsP c.ns n t k (a+4):=a6h (c8M h hx.li hc) hx.ar.1.1 (a6k hx hc)
theorem d3b(hu:isB (AZ (AP c.rd (As op s)) (min (ks.length:Int) 2) true (a+4) w) u)(hw:isB (As [44] t) w)(h:liI c n s op ks (min a 40) i t)(hx:lsP c n s op ks en a)(hc:ks[i.toNat]? =some k):vsP c.ns n u k (a+4):=by
 rw[hw] at hu
 exact a6h (c8N h (a6j hu hx.ar.1.1) hx.li hc) hx.ar.1.1 (a6k hx hc)
theorem d3c(h:liI c n s op ks (min a 40) i t)(hc:ks[i.toNat]? =some k)(hu:vsQ c n t k (a+4) u)(hx:lsP c n s op ks en a)(hi:¬i>0):liI c n s op ks (min a 40) (i+1) u:=c8O (a6i hu hx.ar.1.1) h hx.li hc hi
theorem d3d(h:liI c n s op ks (min a 40) i t)(hc:ks[i.toNat]? =some k)(hv:vsQ c n u k (a+4) v)(hu:isB (AZ (AP c.rd (As op s)) (min (ks.length:Int) 2) true (a+4) w) u)(hw:isB (As [44] t) w)(hx:lsP c n s op ks en a)(hi:i>0):liI c n s op ks (min a 40) (i+1) v:=by
 rw[hw] at hu
 exact c8P h (a6i hv hx.ar.1.1) (a6j hu hx.ar.1.1) hx.li hc hi
theorem d3e(hw:isB (As [44] t) w)(h:liI c n s op ks a i t)(hc:ks[i.toNat]? =some k):bB w:=by rw[hw];exact c8L h hc
theorem b5q(h:liI c n s op ks a i t)(hi:i<ks.length):∃k,ks[i.toNat]? =some k:=by
 have:=b3G h
 exact⟨_,DS (by omega)⟩
theorem d3f(h:liI c n s op ks a i t)(hi:i<ks.length):t.text.length≤2^61:=by
 obtain⟨k,hk⟩:=b5q h hi
 exact b3H h hk
theorem d3g(hw:isB (As [44] t) w)(h:liI c n s op ks a i t)(hi:i<ks.length):bB w:=by
 obtain⟨k,hk⟩:=b5q h hi
 exact d3e hw h hk
theorem d3h(h:isB (As op s) t):((t.rules=(As op s).rules∧t.chunks=(As op s).chunks)∧t.spans=(As op s).spans∧t.ties=(As op s).ties)∧t.text=(As op s).text:=by rw[h];exact⟨⟨⟨rfl,rfl⟩,rfl,rfl⟩,rfl⟩
theorem b5r(h:isB (As op s) t):t.text.length=s.text.length+op.length:=by rw[h];simp [As]
theorem d3i(hu:isB (AZ (AP c.rd (As op s)) 1 false a t) u)(h:liI c n s op ks (min a 40) i t)(hx:lsP c n s op ks en a)(hi:¬i<ks.length):u.text.length≤2^61:=c8R (b5p hu) h hx.li hi
theorem d3j(hv:isB (As en u) v)(hu:isB (AZ (AP c.rd (As op s)) 1 false a t) u)(h:liI c n s op ks (min a 40) i t)(hx:lsP c n s op ks en a)(hi:¬i<ks.length)(hk:¬(ks.length:Int)=0):isB (FF c.rd (bV c.ns c.rd n) op ks en (min a 40) s) v:=by
 have:=c8S (b5p hu) h hx.li hi (by omega)
 rw[hv];exact this
theorem d3k(hv:isB (As en u) v)(hu:isB (As op s) u)(hk:(ks.length:Int)=0):isB (FF c.rd (bV c.ns c.rd n) op ks en a s) v:=by
 have:=c8T (c:=c) (n:=n) (s:=s) (op:=op) (ks:=ks) (en:=en) (a:=a) (by omega)
 rw[hv,hu];exact this
attribute [local irreducible] liI
def lsJ(n:Nat)(x:BC×List Ru×List Ch×List Sn×List Ti×Aa×Aa×Ad×Aa×Int):LS:=⟨Unit,fun _=>¬(x.2.2.2.2.2.2.2.1.length:Int)=0,fun _=>[(0,suA x.1 (As x.2.2.2.2.2.2.1 (xC x))),(2,Al x.2.2.2.2.2.2.2.1),(3,.str x.2.2.2.2.2.2.2.2.1),(4,.int .i64 x.2.2.2.2.2.2.2.2.2),(10,.int .i64 (min (x.2.2.2.2.2.2.2.1.length:Int) 2))],[],fun _=>0,fun _=>[],[]⟩
def lsL(n:Nat)(x:BC×List Ru×List Ch×List Sn×List Ti×Aa×Aa×Ad×Aa×Int):LS:=⟨List Ru×List Ch×List Sn×List Ti×Aa×Int,fun i=>liI x.1 n (xC x) x.2.2.2.2.2.2.1 x.2.2.2.2.2.2.2.1 (min x.2.2.2.2.2.2.2.2.2 40) (zI i) (zBW i),fun i=>[(0,suA x.1 (zBW i)),(2,Al x.2.2.2.2.2.2.2.1),(3,.str x.2.2.2.2.2.2.2.2.1),(4,.int .i64 x.2.2.2.2.2.2.2.2.2),(10,.int .i64 (min (x.2.2.2.2.2.2.2.1.length:Int) 2)),(11,.int .i64 (AP x.1.rd (As x.2.2.2.2.2.2.1 (xC x)))),(12,.int .i64 (zI i))],[],fun i=>x.2.2.2.2.2.2.2.1.length-(zI i).toNat,fun _=>[],[]⟩
def Ov(n:Nat):Sig:=⟨BC×BX (Aa×Ad×Aa×Int),fun x=>[suA x.1 (xC x),.str x.2.2.2.2.2.2.1,Al x.2.2.2.2.2.2.2.1,.str x.2.2.2.2.2.2.2.2.1,.q x.2.2.2.2.2.2.2.2.2],fun x=>lsP x.1 n (xC x) x.2.2.2.2.2.2.1 x.2.2.2.2.2.2.2.1 x.2.2.2.2.2.2.2.2.1 x.2.2.2.2.2.2.2.2.2,BT,fun x y=>isB (FF x.1.rd (bV x.1.ns x.1.rd n) x.2.2.2.2.2.2.1 x.2.2.2.2.2.2.2.1 x.2.2.2.2.2.2.2.2.1 (min x.2.2.2.2.2.2.2.2.2 40) (xC x)) (yBW y),fun x y=> .tup [],fun x y=>[suA x.1 (yBW y),.top,.top,.top,.top],true,[],[]⟩
theorem d3l(n:Nat)(hc:CtG G 117 (CN n)):CtG G 141 (Ov n):=
 vFq [(118,0,Cx),(116,0,FH),(115,0,EF),(117,0,(CN n))] [] (fun x=>[(9,lsL n x),(200006,lsJ n x)]) Tryz.func141 ⟨SU,Vx,Vz,hc,trivial⟩ (fun x=>True∧cA Cx [(suA x.1 (xC x)),.str (G6 x)] fun x_1 y=>Ae ((nL (G7 x))==(0:Int)) (cA Cx [(suA x_1.1 (yBW y)),.str (G8 x)] fun x_2 y=>rA (Ov n) x [.tup [],(suA x_2.1 (yBW y)),.top,.top,.top,.top]) (Ae ((nL (G7 x))==(1:Int)) (eA (lsJ n x) [(suA x_1.1 (yBW y)),Al (G7 x),.str (G8 x),.q (Z9 x),.q 1]) (eA (lsJ n x) [(suA x_1.1 (yBW y)),Al (G7 x),.str (G8 x),.q (Z9 x),.q 2])∧∀(i:Unit),¬(nL (G7 x))=(0:Int)→inR .i64 (min (nL (G7 x)) (2:Int)+(1:Int))∧cA FH [(suA x.1 (As (G6 x) (xC x))),.q (min (nL (G7 x)) (2:Int)+(1:Int)),.q 1] fun x_2 y=>inR .i64 ((Z9 x)+(4:Int))∧cA EF [(suA x_2.1 (yBW y)),.q (AP x_2.1.rd (xC x_2)),.q 1,.bool false,.q ((Z9 x)+(4:Int))] fun x_3 y=>eA (lsL n x) [(suA x_3.1 (yBW y)),Al (G7 x),.str (G8 x),.q (Z9 x),.q (min (nL (G7 x)) (2:Int)),.q (AP x_2.1.rd (xC x_2)),.q 0]∧∀(i:BX Int),liI x.1 n (xC x) (G6 x) (G7 x) (min (Z9 x) (40:Int)) (zI i) (zBW i)→Ae (decide (zI i<(nL (G7 x)))) (Ae (decide (zI i>0)) (cA Cx [(suA x.1 (zBW i)),.str #[(44:UInt8)].toList] fun x_4 y=>inR .i64 ((Z9 x)+(4:Int))∧cA EF [(suA x_4.1 (yBW y)),.q (AP x.1.rd (As (G6 x) (xC x))),.q (min (nL (G7 x)) (2:Int)),.bool true,.q ((Z9 x)+(4:Int))] fun x_5 y=>(0≤zI i∧zI i<(nL (G7 x)))∧∀(e:Int),(G7 x)[Int.toNat (zI i)]? =some e→inR .i64 ((Z9 x)+(4:Int))∧cA (CN n) [(suA x_5.1 (yBW y)),.q e,.q ((Z9 x)+(4:Int))] fun x_6 y=>inR .i64 (zI i+1)∧eN (lsL n x) i [(suA x_6.1 (yBW y)),Al (G7 x),.str (G8 x),.q (Z9 x),.q (min (nL (G7 x)) (2:Int)),.q (AP x.1.rd (As (G6 x) (xC x))),.q (zI i+1)]) ((0≤zI i∧zI i<(nL (G7 x)))∧∀(e:Int),(G7 x)[Int.toNat (zI i)]? =some e→inR .i64 ((Z9 x)+(4:Int))∧cA (CN n) [(suA x.1 (zBW i)),.q e,.q ((Z9 x)+(4:Int))] fun x_4 y=>inR .i64 (zI i+1)∧eN (lsL n x) i [(suA x_4.1 (yBW y)),Al (G7 x),.str (G8 x),.q (Z9 x),.q (min (nL (G7 x)) (2:Int)),.q (AP x.1.rd (As (G6 x) (xC x))),.q (zI i+1)])) (cA EF [(suA x.1 (zBW i)),.q (AP x.1.rd (As (G6 x) (xC x))),.q 1,.bool false,.q (Z9 x)] fun x_4 y=>cA Cx [(suA x_4.1 (yBW y)),.str (G8 x)] fun x_5 y=>rA (Ov n) x [.tup [],(suA x_5.1 (yBW y)),.top,.top,.top,.top]))) (by kernel_rfl) fun(x:BC×BX (Aa×Ad×Aa×Int)) (hx:lsP x.1 n (xC x) x.2.2.2.2.2.2.1 x.2.2.2.2.2.2.2.1 x.2.2.2.2.2.2.2.2.1 x.2.2.2.2.2.2.2.2.2)=>(by
 dsimp only[nL,G6,G7,G8,Z9,cA,EP,eA,eN,Al,lsJ,lsL,Ce,nds,rA,EO,Ov,Cx,FH,EF,CN,EQ,suA,ER,AB,AF,mvL,lnL,mvE,lnE,Bn,AV.q]
 obtain⟨b,r,c,s,t,u,op,ks,en,a⟩:=x;dsimp only[xC] at hx ⊢
 have hx:lsP b n ⟨r,c,s,t,u⟩ op ks en a:=hx
 have h1:=hx.ar.1;have h2:=hx.li.kl;have h3:=hx.li.ol;have h4:=hx.li.el;have hb0:=Sr (Ge hx.li.rm);dsimp only at hb0
 (repeat' first|(with_reducible first|rfl|exact⟨⟩|apply AG|apply AM)|apply AL|(apply AK<;>try dsimp only)|apply AJ|((try refine AH.2 ?_);intro _;try dsimp only))
 all_goals(try dsimp only[yBW,xC,zBW,zI] at*)
 all_goals first
  |with_reducible rfl
  |with_reducible assumption
  |omega
  |exact b3F hx.li
  |exact c8J hx.li ‹_›
  |exact d2Z (w:=⟨r,c,s,t,u⟩) ‹_› ‹_› hx
  |exact d3b ‹_› ‹_› ‹_› hx ‹_›
  |exact d3a ‹_› hx ‹_›
  |exact d3d ‹_› ‹_› ‹_› ‹_› ‹_› hx ‹_›
  |exact d3c ‹_› ‹_› ‹_› hx ‹_›
  |exact d3g ‹_› ‹_› ‹_›
  |(have hq:=d3h ‹isB (As op _) _›;first|exact hq.1.1.1|exact hq.1.1.2|exact hq.1.2.1|exact hq.1.2.2|exact hq.2)
  |(have hq:=b5r ‹isB (As op _) _›;dsimp only at hq;omega)
  |(have hq:=d3f ‹liI _ _ _ _ _ _ _ _› ‹_›;dsimp only at hq;(try simp only[Aw,AE,AX]);omega)
  |exact c8Q ‹_› hx.li ‹_›
  |exact d3j ‹_› ‹_› ‹_› hx ‹_› ‹_›
  |exact d3k ‹_› ‹_› ‹_›
  |(have hq:=b3G ‹liI _ _ _ _ _ _ _ _›;(try have hk:=a6k hx ‹_›);(try simp only[Aw]);omega)
  |(have hq:=b3H ‹liI _ _ _ _ _ _ _ _› ‹_›;dsimp only at hq;(try simp only[Aw,AE,AX]);omega)
  |(have hq:=Sr (b3F hx.li);(try simp only[Aw,Ba,As] at*);omega)
  |(have hq:=d3i ‹_› ‹_› hx ‹_›;dsimp only at hq;(try simp only[Aw] at*);omega)
  |rfl
  |skip)
theorem a6l{ns:List Nd}(h:vlP ns n s k (min (a+4) 40))(ha:0≤a)(hk:a+4+4*k≤2^40):vsP ns n s k (a+4):=⟨h.up,h.lt,h.vl,h.rm,by omega,hk⟩
theorem Qi(h:vsQ c n s k (a+4) t):Dd c n s k (min (a+4) 40) (JU c.rd (Ab c.ns k) s) t:=⟨h,rfl⟩
end Go.My
end
section
namespace Go.My
open Go.Eng Go.Proofs
variable {G:GInv}
variable {a i k:Int}{c:BC}{n:Nat}{s t u z:Bs}{x:Nd}
structure pxP (c:BC) (n:Nat) (s:Bs) (x:Nd) (a:Int):Prop where
 pn:pnP c n s x (min (a+4) 40)
 ar:inA a x.kids
theorem b5s(h:pxP c n s x a)(hc:x.kids[i.toNat]? =some k):a+4+4*k≤2^40:=h.ar.2 k (Bq hc)
theorem ZN(h:pnI c n s x a i t)(hi:i<x.kids.length):∃k,x.kids[i.toNat]? =some k:=by
 have:=a4U h
 exact⟨_,DS (by omega)⟩
theorem d3m(h:pnI c n s x a i t)(hi:i<x.kids.length):bB t:=by
 obtain⟨k,hk⟩:=ZN h hi;exact c9d h hk
theorem b5t{r:Int}(h:isB (AZ r 1 true (a+4) s) t):t=AZ r 1 true (min (a+4) 40) s:=by rw[h];exact SS (by omega)
theorem d3n(hu:isB (AZ (AP c.rd s) 1 true (a+4) t) u)(h:pnI c n s x (min (a+4) 40) i t)(hi:i<x.kids.length):u.text.length+4≤2^61:=by
 obtain⟨k,hk⟩:=ZN h hi;exact c9e h (b5t hu) hk
def pxJ(c:BC)(n:Nat)(s:Bs)(x:Nd)(a:Int)(z:Bs)(i:Int)(t:Bs):Prop:=∃k,pnJ c n s x a z i k t
theorem d3o(h:pnI c n s x a i t)(hl:i<x.kids.length)(hi:¬i>0):pxJ c n s x a t i t:=by
 obtain⟨k,hk⟩:=ZN h hl;exact⟨k,c9f h hk hi⟩
theorem d3p{w:Bs}{l:Aa}(h:pnI c n s x (min (a+4) 40) i t)(hw:isB (As l u) w)(hu:isB (AZ (AP c.rd s) 1 true (a+4) t) u)(hp:([[],[63,32],[58,32]]:List Aa)[i.toNat]? =some l)(hl:i<x.kids.length)(hi:i>0):pxJ c n s x (min (a+4) 40) t i w:=by
 obtain⟨k,hk⟩:=ZN h hl
 rw[hw];exact⟨k,c9m h hk hi (b5t hu) hp⟩
theorem VA(h:pxJ c n s x a z i t)(hk:x.kids[i.toNat]? =some k):pnJ c n s x a z i k t:=by
 obtain⟨k',h'⟩:=h
 have:=h'.1.2
 rw[hk] at this;cases this;exact h'
theorem d3q(h:pxJ c n s x a z i t):t.rules.length≤8:=by
 obtain⟨k,h⟩:=h;exact(a4W h).1.ru
theorem d3r(h:pxJ c n s x (min (a+4) 40) z i t)(hx:pxP c n s x a)(hk:x.kids[i.toNat]? =some k):vsP c.ns n t k (a+4):=a6l (b3N (VA h hk) hx.pn) hx.ar.1.1 (b5s hx hk)
theorem d3s(h:pxJ c n s x (min (a+4) 40) z i t)(hu:vsQ c n t k (a+4) u)(hx:pxP c n s x a)(hk:x.kids[i.toNat]? =some k):bB u:=c9h (VA h hk) (Qi hu) hx.pn
theorem d3t(h:pxJ c n s x a z i t)(hx:pnP c n s x a)(hk:x.kids[i.toNat]? =some k):0≤k∧k<c.ns.length:=c9i (VA h hk) hx
theorem d3u{e:Nd}(h:pxJ c n s x (min (a+4) 40) z i t)(hu:vsQ c n t k (a+4) u)(hx:pxP c n s x a)(he:c.ns[k.toNat]? =some e)(hk:x.kids[i.toNat]? =some k)(h8:¬e.kind=8):pnI c n s x (min (a+4) 40) (i+1) u:=c9j (VA h hk) (Qi hu) hx.pn he h8
theorem d3v{v:Bs}{e:Nd}(h:pxJ c n s x (min (a+4) 40) z i t)(hv:isB (DY (Es t.rules.length u) (AP c.rd s) u) v)(hu:vsQ c n t k (a+4) u)(hx:pxP c n s x a)(he:c.ns[k.toNat]? =some e)(hk:x.kids[i.toNat]? =some k)(h8:e.kind=8):pnI c n s x (min (a+4) 40) (i+1) v:=by
 have hkp:=hx.pn.kd k (Bq hk)
 refine c9k (VA h hk) (Qi hu) ?_ hx.pn he h8
 rw[←YA (a:=min (a+4) 40) hkp.1 hkp.2.1 (.inr (by rw[Iq he];exact h8)),←hu];exact hv
theorem d3w(h:pnI c n s x a i t)(hx:pnP c n s x a)(hi:¬i<x.kids.length):isB (PB c.ns c.rd (bV c.ns c.rd n) x a s) t:=(c9l h hx hi).1
attribute [local irreducible] pnI pnJ pxJ
def ZO(n:Nat)(x:BC×List Ru×List Ch×List Sn×List Ti×Aa×Nd×Int)(i:List Ru×List Ch×List Sn×List Ti×Aa×Int):LS:=⟨List Ru×List Ch×List Sn×List Ti×Aa×Unit,fun j=>pxJ x.1 n (xC x) x.2.2.2.2.2.2.1 (min (x.2.2.2.2.2.2.2+4) 40) (zBW i) (zI i) ⟨j.1,j.2.1,j.2.2.1,j.2.2.2.1,j.2.2.2.2.1⟩,fun j=>[(0,suA x.1 ⟨j.1,j.2.1,j.2.2.1,j.2.2.2.1,j.2.2.2.2.1⟩),(2,.int .i64 x.2.2.2.2.2.2.2),(4,.box 0 (ndA false x.2.2.2.2.2.2.1)),(6,.int .i64 (AP x.1.rd (xC x))),(7,.int .i64 (zI i))],[],fun _=>0,fun _=>[],[]⟩
def VB(n:Nat)(x:BC×List Ru×List Ch×List Sn×List Ti×Aa×Nd×Int):LS:=⟨List Ru×List Ch×List Sn×List Ti×Aa×Int,fun i=>pnI x.1 n (xC x) x.2.2.2.2.2.2.1 (min (x.2.2.2.2.2.2.2+4) 40) (zI i) (zBW i),fun i=>[(0,suA x.1 (zBW i)),(2,.int .i64 x.2.2.2.2.2.2.2),(4,.box 0 (ndA false x.2.2.2.2.2.2.1)),(6,.int .i64 (AP x.1.rd (xC x))),(7,.int .i64 (zI i))],[],fun i=>x.2.2.2.2.2.2.1.kids.length-(zI i).toNat,fun i=>[(200008,ZO n x i)],[]⟩
def SV(n:Nat):Sig:=⟨BC×BX (Nd×Int),fun x=>[suA x.1 (xC x),.agg (ndA false x.2.2.2.2.2.2.1),.q x.2.2.2.2.2.2.2],fun x=>pxP x.1 n (xC x) x.2.2.2.2.2.2.1 x.2.2.2.2.2.2.2,BT,fun x y=>isB (PB x.1.ns x.1.rd (bV x.1.ns x.1.rd n) x.2.2.2.2.2.2.1 (min (x.2.2.2.2.2.2.2+4) 40) (xC x)) (yBW y),fun x y=> .tup [],fun x y=>[suA x.1 (yBW y),.top,.top],true,[],[]⟩
theorem d3x(n:Nat)(hc:CtG G 117 (CN n)):CtG G 143 (SV n):=
 vFq [(118,0,Cx),(116,0,FH),(115,0,EF),(117,0,(CN n)),(156,0,KY)] [(44,⟨Aa,Bo⟩)] (fun x=>[(3,VB n x)]) Tryz.func143 ⟨SU,Vx,Vz,hc,b5o,trivial⟩ (fun x=>True∧cA FH [(suA x.1 (xC x)),.q 2,.q 1] fun x_1 y=>eA (VB n x) [(suA x_1.1 (yBW y)),.q (Z7 x),.box 0 (ndA false (G6 x)),.q (AP x_1.1.rd (xC x_1)),.q 0]∧∀(i:BX Int),pnI x.1 n (xC x) (G6 x) (min ((Z7 x)+(4:Int)) (40:Int)) (zI i) (zBW i)→Ae (decide (zI i<(nL (G6 x).kids))) (Ae (decide (zI i>0)) (inR .i64 ((Z7 x)+(4:Int))∧cA EF [(suA x.1 (zBW i)),.q (AP x.1.rd (xC x)),.q 1,.bool true,.q ((Z7 x)+(4:Int))] fun x_2 y=>∃(x_3:Aa),#[].toList=x_3∧∃(x_4:Aa),#[(63:UInt8),32].toList=x_4∧∃(x_5:Aa),#[(58:UInt8),32].toList=x_5∧(0≤zI i∧zI i<(↑(List.length [x_3,x_4,x_5]):Int))∧Int.toNat (zI i)<List.length [x_3,x_4,x_5]∧∀(x_6:Aa),[x_3,x_4,x_5][Int.toNat (zI i)]? =some x_6→cA Cx [(suA x_2.1 (yBW y)),.str x_6] fun x_7 y=>eA (ZO n x i) [(suA x_7.1 (yBW y)),.q (Z7 x),.box 0 (ndA false (G6 x)),.q (AP x.1.rd (xC x)),.q (zI i)]) (eA (ZO n x i) [(suA x.1 (zBW i)),.q (Z7 x),.box 0 (ndA false (G6 x)),.q (AP x.1.rd (xC x)),.q (zI i)])∧∀(i_1:BX Unit),pxJ x.1 n (xC x) (G6 x) (min ((Z7 x)+(4:Int)) (40:Int)) (zBW i) (zI i) {rules:=i_1.1,chunks:=i_1.2.1,spans:=i_1.2.2.1,ties:=i_1.2.2.2.1,text:=(G4 i_1)}→(0≤zI i∧zI i<(nL (G6 x).kids))∧∀(e:Int),(G6 x).kids[Int.toNat (zI i)]? =some e→inR .i64 ((Z7 x)+(4:Int))∧cA (CN n) [.box 0 [nds x.1.ns,.q x.1.ind,oRu i_1.1,oCh i_1.2.1,oSn i_1.2.2.1,oTi i_1.2.2.2.1,.str (G4 i_1),.bool !x.1.rd],.q e,.q ((Z7 x)+(4:Int))] fun x_2 y=>true=true∧true=true∧(0≤zI i∧zI i<(nL (G6 x).kids))∧∀(e:Int),(G6 x).kids[Int.toNat (zI i)]? =some e→(0≤e∧e<(nL x_2.1.ns))∧∀(e_1:Nd),x_2.1.ns[Int.toNat e]? =some e_1→Ae (e_1.kind==8) (cA KY [(suA x_2.1 (yBW y)),.q (nL i_1.1),.q (AP x.1.rd (xC x))] fun x_3 y=>inR .i64 (zI i+1)∧eN (VB n x) i [(suA x_3.1 (yBW y)),.q (Z7 x),.box 0 (ndA false (G6 x)),.q (AP x.1.rd (xC x)),.q (zI i+1)]) (inR .i64 (zI i+1)∧eN (VB n x) i [(suA x_2.1 (yBW y)),.q (Z7 x),.box 0 (ndA false (G6 x)),.q (AP x.1.rd (xC x)),.q (zI i+1)])) (rA (SV n) x [.tup [],(suA x.1 (zBW i)),.top,.top])) (by kernel_rfl) fun(x:BC×BX (Nd×Int)) (hx:pxP x.1 n (xC x) x.2.2.2.2.2.2.1 x.2.2.2.2.2.2.2)=>(by
 dsimp only[nL,G4,G6,Z7,cA,EP,eA,eN,Ce,nds,oCh,oRu,oSn,oTi,VB,ZO,rA,EO,SV,Cx,FH,EF,KY,CN,EQ,suA,ER,AB,AF,mvL,lnL,mvE,lnE,mvG,mvH,lnG,lnH,Bn,AV.q]
 obtain⟨b,r,c,s,t,u,x,a⟩:=x;dsimp only[xC] at hx ⊢
 have hx:pxP b n ⟨r,c,s,t,u⟩ x a:=hx
 have h1:=hx.ar.1;have h2:=hx.pn.kl
 (repeat' first|(with_reducible first|rfl|exact⟨⟩|apply AG|apply AM)|apply AL|(apply AK<;>try dsimp only)|apply AJ|((try refine AH.2 ?_);intro _;try dsimp only))
 all_goals(try(repeat(rename x.kids[_]? =some _=>hq;revert hq;rename x.kids[_]? =some _=>hr;intro hq;rw[hr] at hq;cases hq)))
 all_goals(try dsimp only[yBW,xC,zBW,zI,wB] at*)
 all_goals first
  |with_reducible rfl
  |with_reducible assumption
  |omega
  |exact Ge hx.pn.rm
  |exact c9c hx.pn ‹_›
  |exact d3m ‹_› ‹_›
  |exact d3o ‹_› ‹_› ‹_›
  |exact d3p ‹_› ‹_› ‹_› ‹_› ‹_› ‹_›
  |exact d3r ‹_› hx ‹_›
  |exact d3s ‹_› ‹_› hx ‹_›
  |exact d3u ‹_› ‹_› hx ‹_› ‹_› ‹_›
  |exact d3v ‹_› ‹_› ‹_› hx ‹_› ‹_› ‹_›
  |exact d3w ‹_› hx.pn ‹_›
  |(have hq:=a4U ‹pnI _ _ _ _ _ _ _›;(try have hk:=b5s hx ‹_›);(try simp only[Aw,AE,AX]);omega)
  |(have hq:=d3n ‹_› ‹_› ‹_›;have hq2:=(b3P ‹_› ‹_›).2;dsimp only at hq;(try simp only[Aw,Ba,AE,AX]);omega)
  |(have hq:=d3t ‹pxJ _ _ _ _ _ _ _ _› hx.pn ‹_›;(try simp only[Aw]);omega)
  |(have hq:=d3q ‹pxJ _ _ _ _ _ _ _ _›;dsimp only at hq;(try simp only[Aw]);omega)
  |exact()
  |rfl
  |skip)
end Go.My
end
section
namespace Go.My
open Go.Eng Go.Proofs
variable {G:GInv}
variable {a d i k:Int}{c:BC}{e x:Nd}{n:Nat}{ns:List Nd}{q s t u v w:Bs}
structure cxP (c:BC) (n:Nat) (s:Bs) (x:Nd) (a:Int):Prop where
 cn:cnP c n s x (min (a+4) 40)
 ar:inA a x.kids
def VC(n:Nat):Sig:=⟨BC×List Ru×List Ch×List Sn×List Ti×Aa×Nd×Int,fun x=>[suA x.1 (xC x),.agg (ndA false x.2.2.2.2.2.2.1),.int .i64 x.2.2.2.2.2.2.2],fun x=>cxP x.1 n (xC x) x.2.2.2.2.2.2.1 x.2.2.2.2.2.2.2,BT,fun x y=>isB (NX x.1.ns x.1.rd (bV x.1.ns x.1.rd n) x.2.2.2.2.2.2.1 (min (x.2.2.2.2.2.2.2+4) 40) (xC x)) (yBW y),fun x y=> .tup [],fun x y=>[suA x.1 (yBW y),.top,.top],true,[],[]⟩
theorem Hp(h:vsP ns n s k a):vlP ns n s k (min a 40):=⟨h.up,h.lt,h.vl,h.rm,by have:=h.ar;have:=BF.1 h.up.1;omega⟩
theorem VD(h:vsP ns n s k a){ks:Ad}(hk:∀d∈ks,d∈(Ab ns k).kids):inA a ks:=by
 have h1:=h.ar;have h2:=BF.1 h.up.1
 refine⟨by omega,fun d hd=> ?_⟩
 have:=CQ h.up (hk d hd);omega
theorem a6m(h:vsP ns (n+1) s k a)(hd:(Ab ns k).kids[(0:Nat)]? =some d)(hv:vlP ns n t d (min a 40)):vsP ns n t d a:=by
 have h1:=h.ar;have h2:=BF.1 h.up.1
 have:=CQ h.up (Bq hd)
 exact⟨hv.up,hv.lt,hv.vl,hv.rm,by omega,by omega⟩
theorem Qj(h:vsQ c n s k a t):Dd c n s k (min a 40) (JU c.rd (Ab c.ns k) s) t:=⟨h,rfl⟩
theorem MV{o:Int}(h:Dd c (n+1) s k (min a 40) o t):vsQ c (n+1) s k a t:=h.1
theorem SW(h:0≤a):min (min a 40+4) 40=min (a+4) 40:=by omega
theorem d3y(h:isB (As (Ab c.ns k).text s) t)(hk:(Ab c.ns k).kind=1∨(Ab c.ns k).kind=2∨(Ab c.ns k).kind=3):vsQ c (n+1) s k a t:=by
 have:=MV (c9s (c:=c) (n:=n) (s:=s) (a:=min a 40) hk)
 rw[←h] at this;exact this
theorem d3z(h:vsP c.ns (n+1) s k a)(ht:isB (As [40] s) t)(hd:(Ab c.ns k).kids[(0:Nat)]? =some d):vsP c.ns n t d a:=by
 rw[ht];exact a6m h hd (c9u (Hp h) hd)
theorem d3A(hu:vsQ c n t d a u)(ht:isB (As [40] s) t)(h:vsP c.ns (n+1) s k a)(hd:(Ab c.ns k).kids[(0:Nat)]? =some d):u.text.length+79≤2^61:=by
 rw[ht] at hu;exact c9v (Hp h) (Qj hu) hd
theorem d3B(hv:isB (As [41] u) v)(hu:vsQ c n t d a u)(ht:isB (As [40] s) t)(hd:(Ab c.ns k).kids[(0:Nat)]? =some d)(hk:(Ab c.ns k).kind=11):vsQ c (n+1) s k a v:=by
 rw[ht] at hu
 have:=MV (c9w (r1:=u.rules) (r2:=u.chunks) (r3:=u.spans) (r4:=u.ties) (r5:=u.text) (Qj hu) hd hk)
 rw[hv];exact this
theorem d3C(h:vsP c.ns (n+1) s k a)(hd:(Ab c.ns k).kids[(0:Nat)]? =some d):vsP c.ns n s d a:=a6m h hd (c9x (Hp h) hd)
theorem d3D(hu:vsQ c n s d a u)(h:vsP c.ns (n+1) s k a)(hd:(Ab c.ns k).kids[(0:Nat)]? =some d):u.text.length+(Ab c.ns k).text.length+79≤2^61:=c9y (Hp h) (Qj hu) hd
theorem d3E(hv:isB (As (46::(Ab c.ns k).text) u) v)(hu:vsQ c n s d a u)(hd:(Ab c.ns k).kids[(0:Nat)]? =some d)(hk:(Ab c.ns k).kind=6):vsQ c (n+1) s k a v:=by
 rw[hv];exact MV (c9z (Qj hu) hd hk)
theorem d3F(h:vsP c.ns (n+1) s k a):lsP c n s [91] (Ab c.ns k).kids [93] a:=⟨c9A (Hp h),VD h fun _ hd=>hd⟩
theorem d3G(hu:isB (FF c.rd (bV c.ns c.rd n) [91] (Ab c.ns k).kids [93] (min a 40) s) u)(hk:(Ab c.ns k).kind=4):vsQ c (n+1) s k a u:=MV (c9B hu hk)
theorem d3H(hu:vsQ c n s d a u)(h:vsP c.ns (n+1) s k a)(hd:(Ab c.ns k).kids[(0:Nat)]? =some d):lsP c n u [40] ((Ab c.ns k).kids.drop 1) [41] a:=⟨c9C (Hp h) (Qj hu) hd,VD h fun _ hd=>Iw hd⟩
theorem d3I(hv:isB (FF c.rd (bV c.ns c.rd n) [40] ((Ab c.ns k).kids.drop 1) [41] (min a 40) u) v)(hu:vsQ c n s d a u)(hd:(Ab c.ns k).kids[(0:Nat)]? =some d)(hk:(Ab c.ns k).kind=5):vsQ c (n+1) s k a v:=MV (c9D hv (Qj hu) hd hk)
theorem d3J(h:vsP c.ns (n+1) s k a)(hk:(Ab c.ns k).kind=7):cxP c n s (Ab c.ns k) a:=⟨by have:=c9E (Hp h) hk;rwa [SW h.ar.1] at this,VD h fun _ hd=>hd⟩
theorem d3K(hu:isB (NX c.ns c.rd (bV c.ns c.rd n) (Ab c.ns k) (min (a+4) 40) s) u)(h:vsP c.ns (n+1) s k a)(hk:(Ab c.ns k).kind=7):vsQ c (n+1) s k a u:=
 MV (c9F (o:=AP c.rd s) ⟨by rw[SW h.ar.1];exact hu,rfl⟩ hk)
theorem d3L(h:vsP c.ns (n+1) s k a)(hk:(Ab c.ns k).kind=8):pxP c n s (Ab c.ns k) a:=⟨by have:=c9G (Hp h) hk;rwa [SW h.ar.1] at this,VD h fun _ hd=>hd⟩
theorem d3M(hu:isB (PB c.ns c.rd (bV c.ns c.rd n) (Ab c.ns k) (min (a+4) 40) s) u)(h:vsP c.ns (n+1) s k a)(hk:(Ab c.ns k).kind=8):vsQ c (n+1) s k a u:=
 MV (c9H (o:=AP c.rd s) ⟨by rw[SW h.ar.1];exact hu,rfl⟩ hk)
def fxI(c:BC)(s:Bs)(x:Nd)(i:Int)(t:Bs):Prop:=(0≤i∧i≤(fnT x).length)∧t=As (40::Fg c.ns ((fnT x).take i.toNat) true) s
theorem a6n{ns:List Nd}:∀ {l:Ad} {b:Bool} {k:Int},Fg ns (l++[k]) b=Fg ns l b++((if l=[]∧b=true then [] else [44,32])++(Ab ns k).text)
 |[],b,k=>by cases b<;>simp [Fg]
 |c::l,b,k=>by
  rw[EW,Fg,Fg,a6n (l:=l) (b:=false)]
  simp
theorem d3N(h:isB (As [40] s) t):fxI c s x 0 t:=⟨by omega,by rw[h];rfl⟩
theorem b5u(hI:fxI c s x i t)(hk:(fnT x)[i.toNat]? =some k)(he:c.ns[k.toNat]? =some e)(hu:u=As e.text (if i>0 then As [44,32] t else t)):fxI c s x (i+1) u:=by
 have hl:=(Ec hk).1
 refine⟨by have:=hI.1;omega,?_⟩
 rw[hu,hI.2,CW hI.1.1,FS hk,a6n,BR he]
 by_cases e0:i>0
 ·have:(fnT x).take i.toNat≠[]:=by
   intro h;have h3:((fnT x).take i.toNat).length=0:=by rw[h];rfl
   rw[DU] at h3;omega
  rw[if_pos e0,if_neg (by simp [this])];simp [As]
 ·have:(fnT x).take i.toNat=[]:=by rw[show i.toNat=0 by have:=hI.1;omega];rfl
  rw[if_neg e0,if_pos ⟨this,rfl⟩];simp [As]
theorem d3O(hI:fxI c s x i t)(hu:isB (As e.text w) u)(hw:isB (As [44,32] t) w)(hk:(fnT x)[i.toNat]? =some k)(he:c.ns[k.toNat]? =some e)(hi:i>0):fxI c s x (i+1) u:=b5u hI hk he (by rw[if_pos hi,←hw];exact hu)
theorem d3P(hI:fxI c s x i t)(hu:isB (As e.text t) u)(hk:(fnT x)[i.toNat]? =some k)(he:c.ns[k.toNat]? =some e)(hi:¬i>0):fxI c s x (i+1) u:=b5u hI hk he (by rw[if_neg hi];exact hu)
theorem d3Q(hu:isB (As [41,32,61,62] t) u)(hI:fxI c s x i t)(hi:¬i<(fnT x).length):u=As (ET c.ns x++[32,61,62]) s:=by
 have h2:=hI.2
 rw[EH (by omega)] at h2
 rw[hu,h2,ET,fnT];simp [As]
theorem ZP(hI:fxI c s x i t)(hx:fnP c n s x a):t.text.length≤s.text.length+420:=by
 have h1:=Sj (ns:=c.ns) (w:=fun _=>30) (l:=(fnT x).take i.toNat) (first:=true) fun k hk=>by
  have:=GX hk
  exact hx.nm k (GX this) this
 have h2:=Sm (w:=fun _=>30) (b:=30) (l:=(fnT x).take i.toNat) fun _ _=>by omega
 have h3:= @Ok x;have h4:=hx.kl
 have h5:((fnT x).take i.toNat).length≤(fnT x).length:=by rw[DU];omega
 rw[hI.2];simp only[As,Ba,AE];omega
theorem MW(h:vsP c.ns (n+1) s k a)(hk:(Ab c.ns k).kind=9):fnP c n s (Ab c.ns k) (min (a+4) 40):=by
 have:=c9J (Hp h) hk;rwa [SW h.ar.1] at this
theorem b5v{r:Int}(h:isB (AZ r 1 true (a+4) s) t):t=AZ r 1 true (min (a+4) 40) s:=by rw[h];exact SS (by omega)
theorem VE{i:Nat}(h:vsP c.ns (n+1) s k a)(hd:(Ab c.ns k).kids[i]? =some d):a+4+4*d≤2^40:=(VD h fun _ hd=>hd).2 d (Bq hd)
theorem d3R(hu:isB (AZ (AP c.rd q) 1 true (a+4) t) u)(ht:t=Bx c.rd 2 2 q)(hq:q=As (ET c.ns (Ab c.ns k)++[32,61,62]) s)(h:vsP c.ns (n+1) s k a)(hd:(Ab c.ns k).kids[(((Ab c.ns k).kids.length:Int)-1).toNat]? =some d)(hk:(Ab c.ns k).kind=9):vsP c.ns n u d (a+4):=by
 subst hq
 exact a6l (c9p (b5v hu) ht (MW h hk) hd) h.ar.1 (VE h hd)
theorem d3S(hv:vsQ c n u d (a+4) v)(hu:isB (AZ (AP c.rd q) 1 true (a+4) t) u)(ht:t=Bx c.rd 2 2 q)(hq:q=As (ET c.ns (Ab c.ns k)++[32,61,62]) s)(h:vsP c.ns (n+1) s k a)(hd:(Ab c.ns k).kids[(((Ab c.ns k).kids.length:Int)-1).toNat]? =some d)(hk:(Ab c.ns k).kind=9):vsQ c (n+1) s k a v:=by
 subst hq
 have h1:=c9q (Qi hv) (b5v hu) ht (MW h hk) hd
 refine MV (c9K ?_ hk)
 rw[SW h.ar.1];exact h1
theorem d3T(ht:t=Bx c.rd 2 1 s)(h:vsP c.ns (n+1) s k a)(hd:(Ab c.ns k).kids[(0:Nat)]? =some d):vsP c.ns n t d a:=a6m h hd (c9L ht (Hp h) hd)
theorem d3U(hu:vsQ c n t d a u)(ht:t=Bx c.rd 2 1 s)(h:vsP c.ns (n+1) s k a)(hd:(Ab c.ns k).kids[(0:Nat)]? =some d):vaI c n s k (min a 40) 0 u:=c9M (Qj hu) ht (Hp h) hd
def cbI(c:BC)(n:Nat)(s:Bs)(k a:Int)(i:Int)(t:Bs):Prop:=1≤i∧vaI c n s k (min a 40) (i-1) t
theorem d3V(hu:vsQ c n t d a u)(ht:t=Bx c.rd 2 1 s)(h:vsP c.ns (n+1) s k a)(hd:(Ab c.ns k).kids[(0:Nat)]? =some d):cbI c n s k a 1 u:=⟨by omega,d3U hu ht h hd⟩
theorem ZQ(hi:1≤i)(hd:(Ab c.ns k).kids[i.toNat]? =some d):((Ab c.ns k).kids.drop 1)[(i-1).toNat]? =some d:=by
 rw[It,show 1+(i-1).toNat=i.toNat by omega];exact hd
theorem d3W(h:cbI c n s k a i t)(hx:vsP c.ns (n+1) s k a):1≤i∧i≤14:=by
 have:=c9N h.2;have:=c9O (Hp hx);have:=h.1;omega
theorem a6o(h:cbI c n s k a i t)(hi:i<(Ab c.ns k).kids.length):∃d,(Ab c.ns k).kids[i.toNat]? =some d:=by
 have:=h.1
 exact⟨_,DS (by omega)⟩
theorem d3X(h:cbI c n s k a i t)(hi:i<(Ab c.ns k).kids.length):bB t:=by
 obtain⟨d,hd⟩:=a6o h hi;exact c9P h.2 (ZQ h.1 hd)
theorem a6p{r:Int}(ha:0≤a)(h:isB (AZ r 1 false (a+4) s) t):t=AZ r 1 false (min (min a 40+4) 40) s:=by rw[h];exact SS (by omega)
theorem d3Y(hu:isB (AZ (AP c.rd s) 1 false (a+4) t) u)(h:cbI c n s k a i t)(hx:vsP c.ns (n+1) s k a)(hi:i<(Ab c.ns k).kids.length):u.text.length+4≤2^61:=by
 obtain⟨d,hd⟩:=a6o h hi;exact c9Q h.2 (a6p hx.ar.1 hu) (ZQ h.1 hd)
theorem d3Z(hw:isB (As [46,46] u) w)(hu:isB (AZ (AP c.rd s) 1 false (a+4) t) u)(h:cbI c n s k a i t)(hx:vsP c.ns (n+1) s k a)(hd:(Ab c.ns k).kids[i.toNat]? =some d):vsP c.ns n w d (a+4):=by
 have:=c9R h.2 (a6p hx.ar.1 hu) (Hp hx) (ZQ h.1 hd)
 rw[hw];exact a6h this hx.ar.1 (VE hx hd)
theorem d4a(hv:vsQ c n w d (a+4) v)(hw:isB (As [46,46] u) w)(hu:isB (AZ (AP c.rd s) 1 false (a+4) t) u)(h:cbI c n s k a i t)(hx:vsP c.ns (n+1) s k a)(hd:(Ab c.ns k).kids[i.toNat]? =some d):cbI c n s k a (i+1) v:=by
 rw[hw] at hv
 have:=c9S h.2 (ZQ h.1 hd) (a6p hx.ar.1 hu) (a6i hv hx.ar.1) (Hp hx)
 exact⟨by have:=h.1;omega,by rw[show i+1-1=i-1+1 by omega];exact this⟩
theorem d4b(h:cbI c n s k a i t)(hx:vsP c.ns (n+1) s k a)(hi:¬i<(Ab c.ns k).kids.length)(hk:(Ab c.ns k).kind=10):vsQ c (n+1) s k a t:=by
 have h1:=h.1
 exact MV (c9T h.2 (Hp hx) (by rw[GW];omega) hk)
theorem k10(h:vsP c.ns n s k a)(hk:(((((((((¬(Ab c.ns k).kind=1∧¬(Ab c.ns k).kind=2)∧¬(Ab c.ns k).kind=3)∧¬(Ab c.ns k).kind=11)∧¬(Ab c.ns k).kind=6)∧¬(Ab c.ns k).kind=4)∧¬(Ab c.ns k).kind=5)∧¬(Ab c.ns k).kind=7)∧¬(Ab c.ns k).kind=8)∧¬(Ab c.ns k).kind=9)):(Ab c.ns k).kind=10:=by
 have hv:=Cm.1 h.vl
 unfold Ai at hv
 omega
theorem Qk(h0:0≤i)(hi:i<(x.kids.length:Int)-1)(hk:x.kids[i.toNat]? =some k):(fnT x)[i.toNat]? =some k:=by
 rw[fnT,List.getElem?_take,if_pos (by omega)];exact hk
theorem b5w{i:Nat}(hx:fnP c n s x a)(hk:(fnT x)[i]? =some k)(he:c.ns[k.toNat]? =some e):e.text.length≤30:=by
 have:=hx.nm k (b3Q hk) (Bq hk)
 rwa [BR he] at this
theorem d4c(hI:fxI c s x i t)(hu:isB (As e.text w) u)(hw:isB (As [44,32] t) w)(hk:x.kids[i.toNat]? =some k)(he:c.ns[k.toNat]? =some e)(hl:i<(x.kids.length:Int)-1)(hi:i>0):fxI c s x (i+1) u:=d3O hI hu hw (Qk hI.1.1 hl hk) he hi
theorem d4d(hI:fxI c s x i t)(hu:isB (As e.text t) u)(hk:x.kids[i.toNat]? =some k)(he:c.ns[k.toNat]? =some e)(hl:i<(x.kids.length:Int)-1)(hi:¬i>0):fxI c s x (i+1) u:=d3P hI hu (Qk hI.1.1 hl hk) he hi
theorem ZR(hu:isB (As [41,32,61,62] t) u)(hI:fxI c s x i t)(hi:¬i<(x.kids.length:Int)-1):u=As (ET c.ns x++[32,61,62]) s:=d3Q hu hI (by have:=hI.1;rw[Ok] at this ⊢;omega)
theorem d4e(hu:isB (As [41,32,61,62] t) u)(hI:fxI c s (Ab c.ns k) i t)(hi:¬i<((Ab c.ns k).kids.length:Int)-1)(h:vsP c.ns (n+1) s k a)(hk:(Ab c.ns k).kind=9):bB u:=by
 rw[ZR hu hI hi];exact Ge (a4X (MW h hk))
theorem d4f(ht:u=Bx c.rd 2 2 q)(hu:isB (As [41,32,61,62] t) q)(hI:fxI c s (Ab c.ns k) i t)(hi:¬i<((Ab c.ns k).kids.length:Int)-1)(h:vsP c.ns (n+1) s k a)(hk:(Ab c.ns k).kind=9):bB u:=by
 rw[ZR hu hI hi] at ht;exact c9o ht (MW h hk)
theorem d4g(hu:isB (AZ (AP c.rd q) 1 true (a+4) t) u)(ht:t=Bx c.rd 2 2 q)(hw:isB (As [41,32,61,62] w) q)(hI:fxI c s (Ab c.ns k) i w)(hi:¬i<((Ab c.ns k).kids.length:Int)-1)(h:vsP c.ns (n+1) s k a)(hd:(Ab c.ns k).kids[(((Ab c.ns k).kids.length:Int)-1).toNat]? =some d)(hk:(Ab c.ns k).kind=9):vsP c.ns n u d (a+4):=d3R hu ht (ZR hw hI hi) h hd hk
theorem d4h(hv:vsQ c n u d (a+4) v)(hu:isB (AZ (AP c.rd q) 1 true (a+4) t) u)(ht:t=Bx c.rd 2 2 q)(hw:isB (As [41,32,61,62] w) q)(hI:fxI c s (Ab c.ns k) i w)(hi:¬i<((Ab c.ns k).kids.length:Int)-1)(h:vsP c.ns (n+1) s k a)(hd:(Ab c.ns k).kids[(((Ab c.ns k).kids.length:Int)-1).toNat]? =some d)(hk:(Ab c.ns k).kind=9):vsQ c (n+1) s k a v:=d3S hv hu ht (ZR hw hI hi) h hd hk
theorem a6q(h:fxI c s x i t):0≤i∧i≤x.kids.length:=by have:=h.1;have:= @Ok x;omega
theorem d4i(h:fxI c s x i t)(hi:i<(x.kids.length:Int)-1):x.kids.length-(i+1).toNat<x.kids.length-i.toNat:=by have:=h.1;omega
theorem d4j(hw:isB (As [44,32] t) w)(hI:fxI c s x i t)(hx:fnP c n s x a):w.text.length≤s.text.length+422:=by
 have:=ZP hI hx
 have h2:=b5r hw
 simp only[AE,AX] at h2;omega
theorem b5x(hx:fnP c n s x a)(hI:fxI c s x i t)(hi:i<(x.kids.length:Int)-1)(hk:x.kids[i.toNat]? =some k)(he:c.ns[k.toNat]? =some e):e.text.length≤30:=b5w hx (Qk hI.1.1 hi hk) he
attribute [local irreducible] fxI cbI
def vaC(n:Nat)(x:BC×List Ru×List Ch×List Sn×List Ti×Aa×Int×Int)(i:List Ru×List Ch×List Sn×List Ti×Aa×Int):LS:=⟨List Ru×List Ch×List Sn×List Ti×Aa×Unit,fun j=>fxI x.1 (xC x) (Ab x.1.ns x.2.2.2.2.2.2.1) (zI i+1) ⟨j.1,j.2.1,j.2.2.1,j.2.2.2.1,j.2.2.2.2.1⟩,fun j=>[(0,suA x.1 ⟨j.1,j.2.1,j.2.2.1,j.2.2.2.1,j.2.2.2.2.1⟩),(2,.int .i64 x.2.2.2.2.2.2.2),(6,.box 0 (ndA false (Ab x.1.ns x.2.2.2.2.2.2.1))),(7,.int .i64 (((Ab x.1.ns x.2.2.2.2.2.2.1).kids.length:Int)-1)),(8,.int .i64 (zI i))],[],fun _=>0,fun _=>[],[]⟩
def vaN(n:Nat)(x:BC×List Ru×List Ch×List Sn×List Ti×Aa×Int×Int):LS:=⟨List Ru×List Ch×List Sn×List Ti×Aa×Int,fun i=>fxI x.1 (xC x) (Ab x.1.ns x.2.2.2.2.2.2.1) (zI i) (zBW i),fun i=>[(0,suA x.1 (zBW i)),(2,.int .i64 x.2.2.2.2.2.2.2),(6,.box 0 (ndA false (Ab x.1.ns x.2.2.2.2.2.2.1))),(7,.int .i64 (((Ab x.1.ns x.2.2.2.2.2.2.1).kids.length:Int)-1)),(8,.int .i64 (zI i))],[],fun i=>(Ab x.1.ns x.2.2.2.2.2.2.1).kids.length-(zI i).toNat,fun i=>[(100038,vaC n x i)],[]⟩
def vaL(n:Nat)(x:BC×List Ru×List Ch×List Sn×List Ti×Aa×Int×Int):LS:=⟨List Ru×List Ch×List Sn×List Ti×Aa×Int,fun i=>cbI x.1 n (xC x) x.2.2.2.2.2.2.1 x.2.2.2.2.2.2.2 (zI i) (zBW i),fun i=>[(0,suA x.1 (zBW i)),(2,.int .i64 x.2.2.2.2.2.2.2),(6,.box 0 (ndA false (Ab x.1.ns x.2.2.2.2.2.2.1))),(9,.int .i64 (AP x.1.rd (xC x))),(10,.int .i64 (zI i))],[],fun i=>(Ab x.1.ns x.2.2.2.2.2.2.1).kids.length-(zI i).toNat,fun _=>[],[]⟩
def Jo(n:Nat):Sig:=⟨BC×BX (Int×Int),fun x=>[suA x.1 (xC x),.q x.2.2.2.2.2.2.1,.q x.2.2.2.2.2.2.2],fun x=>vsP x.1.ns (n+1) (xC x) x.2.2.2.2.2.2.1 x.2.2.2.2.2.2.2,BT,fun x y=>vsQ x.1 (n+1) (xC x) x.2.2.2.2.2.2.1 x.2.2.2.2.2.2.2 (yBW y),fun x y=> .tup [],fun x y=>[suA x.1 (yBW y),.top,.top],true,[],[]⟩
def a6r(n:Nat)(x:BC×BX (Int×Int))(i:BX Int):Prop:=∀(i_1:BX Unit),fxI x.1 (xC x) (Ab x.1.ns (G6 x)) (zI i+1) {rules:=i_1.1,chunks:=i_1.2.1,spans:=i_1.2.2.1,ties:=i_1.2.2.2.1,text:=(G4 i_1)}→inR .i64 (zI i+1)∧(eN (vaN n x) i [.box 0 [nds x.1.ns,.q x.1.ind,oRu i_1.1,oCh i_1.2.1,oSn i_1.2.2.1,oTi i_1.2.2.2.1,.str (G4 i_1),.bool !x.1.rd],.q (Z7 x),.box 0 (ndA false (Ab x.1.ns (G6 x))),.q ((↑((Ab x.1.ns (G6 x)).kids.length):Int)-(1:Int)),.q (zI i+1)])
def a6s(n:Nat)(x:BC×BX (Int×Int))(i:BX Int)(x_2:Cx.X)(y:Cx.Y):Prop:=(0≤zI i∧zI i<(↑((Ab x.1.ns (G6 x)).kids.length):Int))∧(∀(e:Int),(Ab x.1.ns (G6 x)).kids[Int.toNat (zI i)]? =some e→(0≤e∧e<(nL x_2.1.ns))∧(∀(e_1:Nd),x_2.1.ns[Int.toNat e]? =some e_1→cA Cx [(suA x_2.1 (yBW y)),.str e_1.text] fun x_3 y=>true=true∧(eA (vaC n x i) [(suA x_3.1 (yBW y)),.q (Z7 x),.box 0 (ndA false (Ab x.1.ns (G6 x))),.q ((↑((Ab x.1.ns (G6 x)).kids.length):Int)-(1:Int)),.q (zI i)])))
def a6t(n:Nat)(x:BC×BX (Int×Int))(i:BX Int):Prop:=(0≤zI i∧zI i<(↑((Ab x.1.ns (G6 x)).kids.length):Int))∧(∀(e:Int),(Ab x.1.ns (G6 x)).kids[Int.toNat (zI i)]? =some e→(0≤e∧e<(nL x.1.ns))∧(∀(e_1:Nd),x.1.ns[Int.toNat e]? =some e_1→cA Cx [(suA x.1 (zBW i)),.str e_1.text] fun x_2 y=>true=true∧(eA (vaC n x i) [(suA x_2.1 (yBW y)),.q (Z7 x),.box 0 (ndA false (Ab x.1.ns (G6 x))),.q ((↑((Ab x.1.ns (G6 x)).kids.length):Int)-(1:Int)),.q (zI i)])))
set_option maxHeartbeats 8000000 in
theorem d4k(n:Nat)(hc:CtG G 117 (CN n))(hch:CtG G 142 (VC n)):CtG G 117 (Jo n):=
 vFq [(118,0,Cx),(117,0,(CN n)),(116,0,FH),(115,0,EF),(141,0,(Ov n)),(142,0,(VC n)),(143,0,(SV n))] [] (fun x=>[(5,vaL n x),(34,vaN n x)]) Tryz.func117 ⟨SU,hc,Vx,Vz,(d3l n hc),hch,(d3x n hc),trivial⟩ (fun x=>True∧(0≤(G6 x)∧(G6 x)<(nL x.1.ns))∧∀(e:Nd),x.1.ns[Int.toNat (G6 x)]? =some e→Ae (e.kind==1) (cA Cx [(suA x.1 (xC x)),.str e.text] fun x_1 y=>rA (Jo n) x [.tup [],(suA x_1.1 (yBW y)),.top,.top]) (Ae (e.kind==2) (cA Cx [(suA x.1 (xC x)),.str e.text] fun x_1 y=>rA (Jo n) x [.tup [],(suA x_1.1 (yBW y)),.top,.top]) (Ae (e.kind==3) (cA Cx [(suA x.1 (xC x)),.str e.text] fun x_1 y=>rA (Jo n) x [.tup [],(suA x_1.1 (yBW y)),.top,.top]) (Ae (e.kind==11) (cA Cx [(suA x.1 (xC x)),.str #[(40:UInt8)].toList] fun x_1 y=>((0:Int)≤(0:Int)∧0<(nL e.kids))∧∀(e_1:Int),e.kids[(0:Nat)]? =some e_1→cA (CN n) [(suA x_1.1 (yBW y)),.q e_1,.q (Z7 x)] fun x_2 y=>cA Cx [(suA x_2.1 (yBW y)),.str #[(41:UInt8)].toList] fun x_3 y=>rA (Jo n) x [.tup [],(suA x_3.1 (yBW y)),.top,.top]) (Ae (e.kind==6) (((0:Int)≤(0:Int)∧0<(nL e.kids))∧∀(e_1:Int),e.kids[(0:Nat)]? =some e_1→cA (CN n) [(suA x.1 (xC x)),.q e_1,.q (Z7 x)] fun x_1 y=>(↑((1:Nat)+e.text.length):Int)≤Aq∧cA Cx [(suA x_1.1 (yBW y)),.str (#[(46:UInt8)].toList++e.text)] fun x_2 y=>rA (Jo n) x [.tup [],(suA x_2.1 (yBW y)),.top,.top]) (Ae (e.kind==4) (cA (Ov n) [(suA x.1 (xC x)),.str #[(91:UInt8)].toList,Al e.kids,.str #[(93:UInt8)].toList,.q (Z7 x)] fun x_1 y=>rA (Jo n) x [.tup [],(suA x_1.1 (yBW y)),.top,.top]) (Ae (e.kind==5) (((0:Int)≤(0:Int)∧0<(nL e.kids))∧∀(e_1:Int),e.kids[(0:Nat)]? =some e_1→cA (CN n) [(suA x.1 (xC x)),.q e_1,.q (Z7 x)] fun x_1 y=>((0:Int)≤(1:Int)∧1≤(nL e.kids)∧(nL e.kids)≤(nL e.kids))∧cA (Ov n) [(suA x_1.1 (yBW y)),.str #[(40:UInt8)].toList,Al (List.drop (1:Nat) e.kids),.str #[(41:UInt8)].toList,.q (Z7 x)] fun x_2 y=>rA (Jo n) x [.tup [],(suA x_2.1 (yBW y)),.top,.top]) (Ae (e.kind==7) (cA (VC n) [(suA x.1 (xC x)),.agg (ndA false e),.q (Z7 x)] fun x_1 y=>rA (Jo n) x [.tup [],(suA x_1.1 (yBW y)),.top,.top]) (Ae (e.kind==8) (cA (SV n) [(suA x.1 (xC x)),.agg (ndA false e),.q (Z7 x)] fun x_1 y=>rA (Jo n) x [.tup [],(suA x_1.1 (yBW y)),.top,.top]) (Ae (e.kind==9) (cA Cx [(suA x.1 (xC x)),.str #[(40:UInt8)].toList] fun x_1 y=>inR .i64 ((nL e.kids)-(1:Int))∧eA (vaN n x) [(suA x_1.1 (yBW y)),.q (Z7 x),.box 0 (ndA false e),.q ((nL e.kids)-(1:Int)),.q 0]∧∀(i:BX Int),fxI x.1 (xC x) (Ab x.1.ns (G6 x)) (zI i) (zBW i)→Ae (decide (zI i<(↑((Ab x.1.ns (G6 x)).kids.length):Int)-(1:Int))) (Ae (decide (zI i>0)) (cA Cx [(suA x.1 (zBW i)),.str #[(44:UInt8),32].toList] fun x_2 y=>true=true∧((a6s n x i x_2 y)∧(a6s n x i x_2 y))∧(a6r n x i)) (true=true∧((a6t n x i)∧(a6t n x i))∧(a6r n x i))) (cA Cx [(suA x.1 (zBW i)),.str #[(41:UInt8),32,61,62].toList] fun x_2 y=>cA FH [(suA x_2.1 (yBW y)),.q 2,.q 2] fun x_3 y=>inR .i64 ((Z7 x)+(4:Int))∧cA EF [(suA x_3.1 (yBW y)),.q (AP x_3.1.rd (xC x_3)),.q 1,.bool true,.q ((Z7 x)+(4:Int))] fun x_4 y=>(0≤(↑((Ab x.1.ns (G6 x)).kids.length):Int)-(1:Int)∧(↑((Ab x.1.ns (G6 x)).kids.length):Int)-1<(↑((Ab x.1.ns (G6 x)).kids.length):Int))∧∀(e:Int),(Ab x.1.ns (G6 x)).kids[Int.toNat ((↑((Ab x.1.ns (G6 x)).kids.length):Int)-(1:Int))]? =some e→inR .i64 ((Z7 x)+(4:Int))∧cA (CN n) [(suA x_4.1 (yBW y)),.q e,.q ((Z7 x)+(4:Int))] fun x_5 y=>rA (Jo n) x [.tup [],(suA x_5.1 (yBW y)),.top,.top])) (cA FH [(suA x.1 (xC x)),.q 2,.q 1] fun x_1 y=>((0:Int)≤(0:Int)∧0<(nL e.kids))∧∀(e_1:Int),e.kids[(0:Nat)]? =some e_1→cA (CN n) [(suA x_1.1 (yBW y)),.q e_1,.q (Z7 x)] fun x_2 y=>eA (vaL n x) [(suA x_2.1 (yBW y)),.q (Z7 x),.box 0 (ndA false e),.q (AP x_1.1.rd (xC x_1)),.q 1]∧∀(i:BX Int),cbI x.1 n (xC x) (G6 x) (Z7 x) (zI i) (zBW i)→Ae (decide (zI i<(↑((Ab x.1.ns (G6 x)).kids.length):Int))) (inR .i64 ((Z7 x)+(4:Int))∧cA EF [(suA x.1 (zBW i)),.q (AP x.1.rd (xC x)),.q 1,.bool false,.q ((Z7 x)+(4:Int))] fun x_3 y=>cA Cx [(suA x_3.1 (yBW y)),.str #[(46:UInt8),46].toList] fun x_4 y=>(0≤zI i∧zI i<(↑((Ab x.1.ns (G6 x)).kids.length):Int))∧∀(e:Int),(Ab x.1.ns (G6 x)).kids[Int.toNat (zI i)]? =some e→inR .i64 ((Z7 x)+(4:Int))∧cA (CN n) [(suA x_4.1 (yBW y)),.q e,.q ((Z7 x)+(4:Int))] fun x_5 y=>inR .i64 (zI i+1)∧eN (vaL n x) i [(suA x_5.1 (yBW y)),.q (Z7 x),.box 0 (ndA false (Ab x.1.ns (G6 x))),.q (AP x.1.rd (xC x)),.q (zI i+1)]) (rA (Jo n) x [.tup [],(suA x.1 (zBW i)),.top,.top])))))))))))) (by kernel_rfl) fun(x:BC×BX (Int×Int)) (hx:vsP x.1.ns (n+1) (xC x) x.2.2.2.2.2.2.1 x.2.2.2.2.2.2.2)=>(by
 dsimp only[nL,G4,G6,Z7,a6t,a6s,a6r,cA,EP,eA,eN,Al,Ce,nds,oCh,oRu,oSn,oTi,rA,EO,VC,Ov,SV,Cx,FH,EF,CN,Jo,EQ,suA,ER,vaC,vaL,vaN,AB,AF,mvL,lnL,mvE,lnE,mvG,mvH,lnG,lnH,Bn,Aq,AV.q]
 obtain⟨b,r,c,s,t,u,k,a⟩:=x;dsimp only[xC] at hx ⊢
 have hx:vsP b.ns (n+1) ⟨r,c,s,t,u⟩ k a:=hx
 have h1:=hx.ar;have hr:=BF.1 hx.up.1;have hv:=Hp hx
 have hz:=c9r hv;have h1t:=c9t hv;have hkl:=PP hv;dsimp only at h1t
 simp only[hz,AS,forall_eq']
 (repeat' first|(with_reducible first|rfl|exact⟨⟩|apply AG|apply AM)|apply AL|(apply AK<;>try dsimp only)|apply AJ|((try refine AH.2 ?_);intro _;try dsimp only))
 all_goals(try dsimp only[yBW,xC,zBW,zI,wB] at*)
 all_goals first
  |with_reducible rfl
  |with_reducible assumption
  |omega
  |exact d3y ‹_› (by omega)
  |exact d3z hx ‹_› ‹_›
  |exact d3B ‹_› ‹_› ‹_› ‹_› ‹_›
  |exact d3C hx ‹_›
  |exact d3E ‹_› ‹_› ‹_› ‹_›
  |exact d3F hx
  |exact d3G ‹_› ‹_›
  |exact d3H ‹_› hx ‹_›
  |exact d3I ‹_› ‹_› ‹_› ‹_›
  |exact d3J hx ‹_›
  |exact d3K ‹_› hx ‹_›
  |exact d3L hx ‹_›
  |exact d3M ‹_› hx ‹_›
  |exact Ge (Om hv)
  |exact d3N ‹_›
  |exact d4c ‹_› ‹_› ‹_› ‹_› ‹_› ‹_› ‹_›
  |exact d4d ‹_› ‹_› ‹_› ‹_› ‹_› ‹_›
  |exact d4e ‹_› ‹_› ‹_› hx ‹_›
  |exact d4f ‹_› ‹_› ‹_› ‹_› hx ‹_›
  |exact d4g ‹_› ‹_› ‹_› ‹_› ‹_› hx ‹_› ‹_›
  |exact d4h ‹_› ‹_› ‹_› ‹_› ‹_› ‹_› hx ‹_› ‹_›
  |exact d3T ‹_› hx ‹_›
  |exact d3V ‹_› ‹_› hx ‹_›
  |exact d3X ‹_› ‹_›
  |exact d3Z ‹_› ‹_› ‹_› hx ‹_›
  |exact d4a ‹_› ‹_› ‹_› ‹_› hx ‹_›
  |exact d4b ‹_› hx ‹_› (k10 hx (by omega))
  |((try simp only[Aw,Ba,AE,AX]);omega)
  |(have hq:=b3R hv ‹_› ‹_› ‹_› (by first|assumption|omega);(try simp only[Aw]);omega)
  |(have hq:=d3A ‹_› ‹_› hx ‹_›;dsimp only at hq;(try simp only[Aw,Ba,AE,AX]);omega)
  |(have hq:=d3D ‹_› hx ‹_›;dsimp only at hq;(try simp only[Aw,Ba,AE,AX]);omega)
  |(have hq:=a6q ‹fxI _ _ _ _ _›;(try simp only[Aw]);omega)
  |(have hq:=a6q ‹fxI _ _ _ _ _›;have hf:=MW hx ‹_›;have hk:=Qk hq.1 ‹_› ‹_›;have hd:=c9n hf hk;(try simp only[Aw]);omega)
  |(have hq:=a6q ‹fxI _ _ _ _ _›;have hf:=MW hx ‹_›;have hl:=ZP ‹fxI _ _ _ _ _› hf;have hk:=Qk hq.1 ‹_› ‹_›;have he:=b5w hf hk ‹_›;dsimp only at hl;(try simp only[Aw,Ba,AE,AX]);omega)
  |(have hf:=MW hx ‹_›;have hl:=ZP ‹fxI _ _ _ _ _› hf;dsimp only at hl;(try simp only[Aw,Ba,AE,AX]);omega)
  |(have hq:=d3W ‹cbI _ _ _ _ _ _ _› hx;(try have hk:=VE hx ‹_›);(try simp only[Aw]);omega)
  |(have hq:=a6o ‹cbI _ _ _ _ _ _ _› ‹_›;obtain⟨d,hd⟩:=hq;have hk:=VE hx hd;have hm:=CQ hx.up (Bq hd);(try simp only[Aw]);omega)
  |(have hq:=d3Y ‹_› ‹_› hx ‹_›;dsimp only at hq;(try simp only[Aw,Ba,AE,AX]);omega)
  |(have hk:=VE hx ‹_›;have hm:=CQ hx.up (Bq ‹(Ab b.ns k).kids[_]? =some _›);(try simp only[Aw]);omega)
  |exact d4i ‹_› ‹_›
  |(have hf:=MW hx ‹_›;have hw:=d4j ‹_› ‹_› hf;have he:=b5x hf ‹_› ‹_› ‹_› ‹_›;dsimp only at hw;omega)
  |(have hf:=MW hx ‹_›;have hw:=ZP ‹_› hf;have he:=b5x hf ‹_› ‹_› ‹_› ‹_›;dsimp only at hw;omega)
  |exact()
  |rfl
  |skip)
end Go.My
end
section
namespace Go.My
open Go.Eng Go.Proofs
variable {G:GInv}
variable {b:UInt8}{ind k:Int}{n:Nat}{ns:List Nd}{post pre s:Aa}{t v:Bs}
theorem Ql{ns:List Nd}{n:Nat}{k ind:Int}{pre post:Aa}(h:(DD ns k=0∨(DW ns k=true∧Bg (Ai ns k)=false))∨(inn ind 0 60=false∨((pre.length:Int)>40∨(post.length:Int)>40))∨(BI pre=false∨BI post=false)):pfR ns n k pre post ind=pc0∧Fc ns k pre post ind=false:=by
 refine d0a ?_
 rcases h with(h|h)|(h|h|h)|(h|h)
 ·exact .inl (.inl (.inl (by simp [DZ,h])))
 ·exact .inl (.inl (.inl (by simp [DZ,h.2])))
 ·exact .inl (.inl (.inr h))
 ·exact .inl (.inr (by rw[Fu,Gj (by omega)];rfl))
 ·exact .inr (by rw[Fu,Gj (by omega)];rfl)
 ·exact .inl (.inr (by simp [Fu,h]))
 ·exact .inr (by simp [Fu,h])
theorem d4l{ns:List Nd}{n:Nat}{k ind:Int}{pre post:Aa}{e:Nd}(hd:¬DD ns k=0)(he:ns[k.toNat]? =some e)(hv:Bg e.kind=true)(hi:inn ind 0 60=true)(h1:¬(pre.length:Int)>40)(h2:¬(post.length:Int)>40)(h3:BI pre=true)(h4:BI post=true):(DZ ns k=true∧Fu pre=true)∧Fu post=true:=by
 have h0:= @a1S ns k
 refine⟨⟨?_,by simp [Fu,h3];omega⟩,by simp [Fu,h4];omega⟩
 simp only[DZ,AY,Bf]
 exact⟨(Mn hd).1,by rw[Iq he];exact hv,by omega⟩
def isP(p q:Pc):Prop:=q=p
theorem b5y(h:s≠[])(hb:s[((s.length:Int)-1).toNat]? =some b):((b.toNat:Int)==61)=Dc s:=by
 have hl:0<s.length:=Tg.2 h
 rw[show((s.length:Int)-1).toNat=s.length-1 by omega] at hb
 rw[Dc,VO,hb,DR]
 simp only[DB,AS]
 constructor
 ·intro e
  have h4:(61:UInt8).toNat=61:=rfl
  exact UInt8.toNat_inj.1 (by omega)
 ·intro e;rw[e];rfl
theorem d4m{u:Bs}(ht:isB (AZ (AP true (b00 pre)) 1 true 4 u) t)(hu:u=Bx true 2 2 (b00 pre))(he:Dc pre=true)(h:bdQ ns n k pre post ind)(hk:k≤2^30):vsP ns n t k 0:=by
 have:=c9V ht hu he h
 exact⟨this.up,this.lt,this.vl,this.rm,by omega⟩
theorem d4n(he:Dc pre=false)(h:bdQ ns n k pre post ind)(hk:k≤2^30):vsP ns n (b00 pre) k 0:=by
 have:=c9W he h
 exact⟨this.up,this.lt,this.vl,this.rm,by omega⟩
theorem d4o{u:Bs}(hv:vsQ ⟨ind,ns,true⟩ n t k 0 v)(ht:isB (AZ (AP true (b00 pre)) 1 true 4 u) t)(hu:u=Bx true 2 2 (b00 pre))(he:Dc pre=true):v=Dt ns n k pre:=c9X (ind:=ind) (o:=JU true (Ab ns k) t) ⟨hv,rfl⟩ ht hu he
theorem d4p(hv:vsQ ⟨ind,ns,true⟩ n (b00 pre) k 0 v)(he:Dc pre=false):v=Dt ns n k pre:=c9Y (ind:=ind) (o:=JU true (Ab ns k) (b00 pre)) ⟨hv,rfl⟩ he
theorem d4q{w:Bs}(hw:isB (As post v) w)(hv:v=Dt ns n k pre):isP (bdP ns n k pre post ind) ⟨ind,w.rules,w.chunks++[⟨w.text,0,0,false,0⟩],w.spans,w.ties⟩:=by
 rw[isP,bdP,ML,←hv,hw];rfl
theorem b5z(hv:v=Dt ns n k pre)(hx:bdQ ns n k pre post ind):v.chunks.length≤79∧v.text.length≤2^61:=by
 rw[hv];have:=a4u hx;exact⟨this.1.ch,Sr (Ge this)⟩
theorem d4r{w:Bs}(hw:isB (As post v) w)(hv:v=Dt ns n k pre)(hx:bdQ ns n k pre post ind):w.chunks.length≤79:=by
 have:=(b5z hv hx).1
 rw[hw];exact this
theorem d4s{ns:List Nd}{n:Nat}{k ind:Int}{pre post:Aa}{e:Nd}(hd:¬DD ns k=0)(he:ns[k.toNat]? =some e)(hv:Bg e.kind=false):pfR ns n k pre post ind=pc0∧Fc ns k pre post ind=false:=Ql (.inl (.inr ⟨(Mn hd).1,by rw[Iq he];exact hv⟩))
theorem d4t(h:¬(pre.length:Int)>40):bB (b00 pre):=b3W (by omega)
theorem d4u(ht:t=Bx true 2 2 (b00 pre))(h:¬(pre.length:Int)>40):bB t:=c9U ht (by omega)
theorem d4v(h:pfP ns n k pre post)(hd:¬DD ns k=0):(0≤k∧k<ns.length)∧k≤2^30:=by
 have:=BF.1 (Mn hd).1
 have:=h.l30
 omega
theorem d4w(h:s=[]):Dc s=false:=by rw[h];rfl
theorem d4x{ns:List Nd}{n:Nat}{k:Int}{e:Nd}(hd:¬DD ns k=0)(he:ns[k.toNat]? =some e)(hv:Bg e.kind=true):DZ ns k=true:=by
 have h0:= @a1S ns k
 simp only[DZ,AY,Bf]
 exact⟨(Mn hd).1,by rw[Iq he];exact hv,by omega⟩
theorem d4y{ns:List Nd}{k:Int}(hd:DD ns k=0):DZ ns k=false:=by simp [DZ,hd]
theorem d4z{ns:List Nd}{k:Int}{e:Nd}(he:ns[k.toNat]? =some e)(hv:Bg e.kind=false):DZ ns k=false:=by simp [DZ,Iq he,hv]
theorem d4A(h3:ns.length≤n)(h4:DZ ns k=true→tW ns n k≤2^60)(h:DZ ns k=true)(h2:ns.length≤2^30):vsP ns n (b00 []) k 0:=by
 have hv:=b3X h
 have hr:=BF.1 hv.1.1
 have:=d0b (ns:=ns) (n:=n) (k:=k) ⟨hv.1,by omega,hv.2,h4 h⟩
 exact⟨this.up,this.lt,this.vl,this.rm,by omega⟩
theorem d4B{e:Nd}(hx:pfP ns n k pre post)(hd:DD ns k≠0)(he:ns[k.toNat]? =some e)(hv:Bg e.kind=true)(hi:inn ind 0 60=true)(h1:¬(pre.length:Int)>40)(h2:¬(post.length:Int)>40)(h3:BI pre=true)(h4:BI post=true):bdQ ns n k pre post ind∧Fc ns k pre post ind=true∧pfR ns n k pre post ind=bdP ns n k pre post ind:=by
 have hT:= @d4l ns n k ind pre post e hd he hv hi h1 h2 h3 h4
 have:=b3Y (n:=n) hT.1.1 hi hT.1.2 hT.2
 exact⟨c9Z hx hT.1.1 hi hT.1.2 hT.2,this.2,this.1⟩
theorem d4C(h:(s==[])=false)(hb:s[((s.length:Int)-1).toNat]? =some b)(h61:(b.toNat:Int)=61):Dc s=true:=by
 rw[←b5y (by intro e;rw[e] at h;cases h) hb];simp [h61]
theorem d4D(h:(s==[])=true):Dc s=false:=d4w (by simpa using h)
theorem d4E(h:(s==[])=false)(hb:s[((s.length:Int)-1).toNat]? =some b)(h61:(b.toNat:Int)≠61):Dc s=false:=by
 rw[←b5y (by intro e;rw[e] at h;cases h) hb];simp only[QC,ne_eq];exact h61
theorem d4F(h:(s==[])=false):0<s.length:=Tg.2 (by intro e;rw[e] at h;cases h)
theorem b5A{p:Pc}(h:isP (bdP ns n k pre post ind) p):p=bdP ns n k pre post ind:=h
def SX(n:Nat):Sig:=⟨List Nd×Int×Aa×Aa×Int,fun x=>[nds x.1,.q x.2.1,.str x.2.2.1,.str x.2.2.2.1,.q x.2.2.2.2],fun x=>pfP x.1 n x.2.1 x.2.2.1 x.2.2.2.1,Unit,fun x y=>True,fun x y=> .tup [.agg (pcA true (pfR x.1 n x.2.1 x.2.2.1 x.2.2.2.1 x.2.2.2.2)),.bool (Fc x.1 x.2.1 x.2.2.1 x.2.2.2.1 x.2.2.2.2)],fun x y=>[.top,.top,.top,.top,.top],false,[],[]⟩
def d4G(n:Nat)(x:List Nd×Int×Aa×Aa×Int):LS:=⟨BT,fun j=>isP (bdP x.1 n x.2.1 x.2.2.1 x.2.2.2.1 x.2.2.2.2) ⟨x.2.2.2.2,j.1,j.2.1,j.2.2.1,j.2.2.2.1⟩∧bdQ x.1 n x.2.1 x.2.2.1 x.2.2.2.1 x.2.2.2.2∧Fc x.1 x.2.1 x.2.2.1 x.2.2.2.1 x.2.2.2.2=true,fun j=>[(10,.box 0 (pcA true pc0)),(12,suA ⟨x.2.2.2.2,x.1,true⟩ (yBW j))],[],fun _=>0,fun _=>[],[]⟩
def VF(n:Nat)(x:List Nd×Int×Aa×Aa×Int)(x_7:Cx.X)(y:Cx.Y):Prop:=∃(x_8:Ch),(yBW y).text=x_8.text∧0=x_8.rule∧0=x_8.fr∧false=x_8.space∧0=x_8.nest∧(∃(zs:List Ch),oCh [x_8]=oCh zs∧(Ca chA∧(Bb ((yBW y).chunks.length+zs.length) (48:Nat)∧(true=true∧(∃(i:BT),(isP (bdP x.1 n x.2.1 x.2.2.1 x.2.2.2.1 (Z4 x)) {ind:=(Z4 x),rules:=i.1,chunks:=i.2.1,spans:=i.2.2.1,ties:=i.2.2.2.1}∧bdQ x.1 n x.2.1 x.2.2.1 x.2.2.2.1 (Z4 x)∧Fc x.1 x.2.1 x.2.2.1 x.2.2.2.1 (Z4 x)=true)∧((0=pc0.ind∧pc0.rules=[]∧pc0.chunks=[]∧pc0.spans=[]∧pc0.ties=[]∧nds x_7.1.ns=nds x.1∧x_7.1.ind=(Z4 x)∧oRu (yBW y).rules=oRu (yBW i).rules∧oCh ((yBW y).chunks++zs)=oCh (yBW i).chunks∧oSn (yBW y).spans=oSn (yBW i).spans∧oTi (yBW y).ties=oTi (yBW i).ties∧(yBW y).text=(yBW i).text∧(!x_7.1.rd)=false∧True)∧True))))))
def LH(n:Nat)(x:List Nd×Int×Aa×Aa×Int):Prop:=∃(y:Unit),True∧0=(pfR x.1 n x.2.1 x.2.2.1 x.2.2.2.1 (Z4 x)).ind∧((pfR x.1 n x.2.1 x.2.2.1 x.2.2.2.1 (Z4 x)).rules=[]∧((pfR x.1 n x.2.1 x.2.2.1 x.2.2.2.1 (Z4 x)).chunks=[]∧((pfR x.1 n x.2.1 x.2.2.1 x.2.2.2.1 (Z4 x)).spans=[]∧((pfR x.1 n x.2.1 x.2.2.1 x.2.2.2.1 (Z4 x)).ties=[]∧false=Fc x.1 x.2.1 x.2.2.1 x.2.2.2.1 (Z4 x)∧True))))
def VG(n:Nat)(x:List Nd×Int×Aa×Aa×Int)(x_9:Cx.X)(y:Cx.Y):Prop:=∃(x_10:Ch),(yBW y).text=x_10.text∧0=x_10.rule∧0=x_10.fr∧false=x_10.space∧0=x_10.nest∧(∃(zs:List Ch),oCh [x_10]=oCh zs∧(Ca chA∧(Bb ((yBW y).chunks.length+zs.length) (48:Nat)∧(true=true∧(∃(i:BT),(isP (bdP x.1 n x.2.1 x.2.2.1 x.2.2.2.1 (Z4 x)) {ind:=(Z4 x),rules:=i.1,chunks:=i.2.1,spans:=i.2.2.1,ties:=i.2.2.2.1}∧bdQ x.1 n x.2.1 x.2.2.1 x.2.2.2.1 (Z4 x)∧Fc x.1 x.2.1 x.2.2.1 x.2.2.2.1 (Z4 x)=true)∧((0=pc0.ind∧pc0.rules=[]∧pc0.chunks=[]∧pc0.spans=[]∧pc0.ties=[]∧nds x_9.1.ns=nds x.1∧x_9.1.ind=(Z4 x)∧oRu (yBW y).rules=oRu (yBW i).rules∧oCh ((yBW y).chunks++zs)=oCh (yBW i).chunks∧oSn (yBW y).spans=oSn (yBW i).spans∧oTi (yBW y).ties=oTi (yBW i).ties∧(yBW y).text=(yBW i).text∧(!x_9.1.rd)=false∧True)∧True))))))
def a6u(n:Nat)(x:List Nd×Int×Aa×Aa×Int):Prop:=cA (CN n) [.box 0 [nds x.1,.q (Z4 x),.nil,.nil,.nil,.nil,.str x.2.2.1,.bool false],.q x.2.1,.q 0] fun x_6 y=>cA Cx [(suA x_6.1 (yBW y)),.str x.2.2.2.1] fun x_7 y=>true=true∧(((VF n x x_7 y)∧((VF n x x_7 y)∧((VF n x x_7 y)∧(VF n x x_7 y))))∧(∀(i:BT),isP (bdP x.1 n x.2.1 x.2.2.1 x.2.2.2.1 (Z4 x)) {ind:=(Z4 x),rules:=i.1,chunks:=i.2.1,spans:=i.2.2.1,ties:=i.2.2.2.1}∧bdQ x.1 n x.2.1 x.2.2.1 x.2.2.2.1 (Z4 x)∧Fc x.1 x.2.1 x.2.2.1 x.2.2.2.1 (Z4 x)=true→cA Eu [.agg [.q (Z4 x),oRu (yBW i).rules,oCh (yBW i).chunks,oSn (yBW i).spans,oTi (yBW i).ties]] fun x_8 y=>Ae (!CY x_8) (LH n x) (∃(y:Unit),True∧((Z4 x)=(pfR x.1 n x.2.1 x.2.2.1 x.2.2.2.1 (Z4 x)).ind∧oRu (yBW i).rules=oRu (pfR x.1 n x.2.1 x.2.2.1 x.2.2.2.1 (Z4 x)).rules∧oCh (yBW i).chunks=oCh (pfR x.1 n x.2.1 x.2.2.1 x.2.2.2.1 (Z4 x)).chunks∧oSn (yBW i).spans=oSn (pfR x.1 n x.2.1 x.2.2.1 x.2.2.2.1 (Z4 x)).spans∧oTi (yBW i).ties=oTi (pfR x.1 n x.2.1 x.2.2.1 x.2.2.2.1 (Z4 x)).ties∧true=Fc x.1 x.2.1 x.2.2.1 x.2.2.2.1 (Z4 x)∧True))))
set_option maxHeartbeats 8000000 in
theorem d4H(n:Nat)(hv:CtG G 117 (CN n)):CtG G 98 (SX n):=
 vFq [(55,0,IL),(113,0,Hf),(20,0,BZ),(114,0,MT),(116,0,FH),(115,0,EF),(117,0,(CN n)),(118,0,Cx),(119,0,Eu)] [(121,⟨Ch,chA⟩)] (fun x=>[(100008,d4G n x)]) Tryz.func98 ⟨a2k,a2h,JK,b4O,Vx,Vz,hv,SU,b4P,trivial⟩ (fun x=>(∀(y:Unit),True→((True∧(∀(x:Ru),True∧True∧True)∧(∀(x:Ch),True∧True∧True∧True∧True∧True)∧(∀(x:Sn),True∧True∧True∧True)∧(∀(x:Ti),True∧True∧True)∧True)∧True∧True)∧True∧True∧True∧True∧True∧True)∧cA IL [nds x.1,.q x.2.1] fun x_1 y=>Ae (DD x_1.1 x_1.2==(0:Int)) (LH n x) ((0≤x.2.1∧x.2.1<(nL x.1))∧∀(e:Nd),x.1[Int.toNat x.2.1]? =some e→cA Hf [.q e.kind] fun x_2 y=>Ae (!Bg x_2) (LH n x) (cA BZ [.q (Z4 x),.q 0,.q 60] fun x_3 y=>Ae (!inn x_3.1 x_3.2.1 x_3.2.2) (LH n x) (Ae (decide ((nL x.2.2.1)>(40:Int))) (LH n x) (Ae (decide ((nL x.2.2.2.1)>(40:Int))) (LH n x) (cA MT [.str x.2.2.1] fun x_4 y=>Ae (!BI x_4.1) (LH n x) (cA MT [.str x.2.2.2.1] fun x_5 y=>Ae (!BI x_5.1) (LH n x) (Ae (!x.2.2.1== #[].toList) (inR .i64 ((nL x.2.2.1)-(1:Int))∧(0≤(nL x.2.2.1)-(1:Int)∧(nL x.2.2.1)-1<(nL x.2.2.1))∧∀(c:UInt8),x.2.2.1[Int.toNat ((nL x.2.2.1)-(1:Int))]? =some c→Ae ((↑(UInt8.toNat c):Int)==(61:Int)) (cA FH [.box 0 [nds x.1,.q (Z4 x),.nil,.nil,.nil,.nil,.str x.2.2.1,.bool false],.q 2,.q 2] fun x_6 y=>cA EF [(suA x_6.1 (yBW y)),.q (AP x_6.1.rd (xC x_6)),.q 1,.bool true,.q 4] fun x_7 y=>cA (CN n) [(suA x_7.1 (yBW y)),.q x.2.1,.q 0] fun x_8 y=>cA Cx [(suA x_8.1 (yBW y)),.str x.2.2.2.1] fun x_9 y=>true=true∧((VG n x x_9 y)∧(VG n x x_9 y)∧(VG n x x_9 y)∧(VG n x x_9 y))∧∀(i:BT),isP (bdP x.1 n x.2.1 x.2.2.1 x.2.2.2.1 (Z4 x)) {ind:=(Z4 x),rules:=i.1,chunks:=i.2.1,spans:=i.2.2.1,ties:=i.2.2.2.1}∧bdQ x.1 n x.2.1 x.2.2.1 x.2.2.2.1 (Z4 x)∧Fc x.1 x.2.1 x.2.2.1 x.2.2.2.1 (Z4 x)=true→cA Eu [.agg [.q (Z4 x),oRu (yBW i).rules,oCh (yBW i).chunks,oSn (yBW i).spans,oTi (yBW i).ties]] fun x_10 y=>Ae (!CY x_10) (LH n x) (∃(y:Unit),True∧((Z4 x)=(pfR x.1 n x.2.1 x.2.2.1 x.2.2.2.1 (Z4 x)).ind∧oRu (yBW i).rules=oRu (pfR x.1 n x.2.1 x.2.2.1 x.2.2.2.1 (Z4 x)).rules∧oCh (yBW i).chunks=oCh (pfR x.1 n x.2.1 x.2.2.1 x.2.2.2.1 (Z4 x)).chunks∧oSn (yBW i).spans=oSn (pfR x.1 n x.2.1 x.2.2.1 x.2.2.2.1 (Z4 x)).spans∧oTi (yBW i).ties=oTi (pfR x.1 n x.2.1 x.2.2.1 x.2.2.2.1 (Z4 x)).ties∧true=Fc x.1 x.2.1 x.2.2.1 x.2.2.2.1 (Z4 x)∧True))) (a6u n x)) (a6u n x))))))))) (by kernel_rfl) fun(x:List Nd×Int×Aa×Aa×Int) (hx:pfP x.1 n x.2.1 x.2.2.1 x.2.2.2.1)=>(by
 dsimp only[nL,Z4,a6u,VG,LH,VF,cA,EP,Ce,nds,oCh,oRu,oSn,oTi,pcA,EO,BZ,Hf,Eu,MT,IL,Cx,FH,EF,CN,EQ,suA,ER,AB,AF,mvL,lnL,mvE,lnE,mvG,mvH,lnG,lnH,AV.q]
 obtain⟨ns,k,pre,post,ind⟩:=x;dsimp only at hx ⊢
 have hx:pfP ns n k pre post:=hx
 (repeat' first|refine b2g ?_|refine b3V ⟨ind,ns,true⟩ ?_|refine a4l (bdP ns n k pre post ind) ?_|(with_reducible first|rfl|exact⟨⟩|apply AG|apply AM)|apply AL|(apply AK<;>try dsimp only)|apply AJ|((try refine AH.2 ?_);intro _;try dsimp only))
 all_goals(try dsimp only[yBW,xC,zBW,zI,wB] at*)
 all_goals(try(have hkk:=d4v hx ‹_›))
 all_goals(try(have hQQ:=d4B (ind:=ind) hx ‹DD ns k≠0› ‹ns[k.toNat]? =some _› ‹_› ‹_› ‹¬(pre.length:Int)>40› ‹¬(post.length:Int)>40› ‹_› ‹_›;have hQ:=hQQ.1))
 all_goals(try(first
  |(have hF:= @Ql ns n k ind pre post (.inl (.inl ‹_›)))
  |(have hF:= @d4s ns n k ind pre post _ ‹_› ‹_› ‹_›)
  |(have hF:= @Ql ns n k ind pre post (.inr (.inl (.inl ‹_›))))
  |(have hF:= @Ql ns n k ind pre post (.inr (.inl (.inr (.inl ‹_›)))))
  |(have hF:= @Ql ns n k ind pre post (.inr (.inl (.inr (.inr ‹_›)))))
  |(have hF:= @Ql ns n k ind pre post (.inr (.inr (.inl ‹_›))))
  |(have hF:= @Ql ns n k ind pre post (.inr (.inr (.inr ‹_›))))))
 all_goals(try(first|(have hE:Dc pre=true:=d4C ‹_› ‹_› ‹_›)|(have hE:Dc pre=false:=d4D ‹_›)|(have hE:Dc pre=false:=d4E ‹_› ‹_› ‹_›)))
 all_goals(try(have hZ:=d4F ‹(pre==[])=false›))
 all_goals(try(first|(have hA:=d4o (ind:=ind) ‹_› ‹_› ‹_› hE)|(have hA:=d4p (ind:=ind) ‹_› hE)))
 all_goals(try(have hL:=b5z hA hQ;dsimp only at hL))
 all_goals(try(have hW:=d4r ‹isB (As post _) _› hA hQ;dsimp only at hW))
 all_goals first
  |with_reducible rfl
  |with_reducible assumption
  |omega
  |exact hx.ok
  |exact hx.ok.1
  |exact hx.l30
  |(rw[hF.1];done)
  |(rw[hF.1];rfl)
  |exact hF.2.symm
  |exact d4t ‹_›
  |exact d4u ‹_› ‹_›
  |exact d4m ‹_› ‹_› hE hQ hkk.2
  |exact d4n hE hQ hkk.2
  |exact d4q ‹_› hA
  |exact hQ
  |exact hQQ.2.1
  |(have hq:= ‹isP _ _∧_›.1;have e:=b5A hq;first|exact congrArg Pc.ind e|exact congrArg Pc.rules e|exact congrArg Pc.chunks e|exact congrArg Pc.spans e|exact congrArg Pc.ties e)
  |exact a4v ‹isP _ _∧bdQ _ _ _ _ _ _∧_›.2.1
  |(exfalso;rename CY _=false=>hf;rw[Sx ‹isP _ _∧bdQ _ _ _ _ _ _∧_›.2.1] at hf;cases hf)
  |(have hq:= ‹isP _ _∧bdQ _ _ _ _ _ _∧_›;have e:=b5A hq.1;have eR:=hQQ.2.2;rw[eR];first|exact congrArg Pc.ind e|exact(congrArg Pc.ind e).symm|exact congrArg Pc.rules e|exact(congrArg Pc.rules e).symm|exact congrArg Pc.chunks e|exact(congrArg Pc.chunks e).symm|exact congrArg Pc.spans e|exact(congrArg Pc.spans e).symm|exact congrArg Pc.ties e|exact(congrArg Pc.ties e).symm)
  |exact ‹isP _ _∧bdQ _ _ _ _ _ _∧Fc ns k pre post ind=true›.2.2.symm
  |((try simp only[Aw,Bb,AE,AX]);omega)
  |rfl
  |exact()
  |skip)
def Ow(n:Nat):Sig:=⟨List Nd×Int,fun x=>[nds x.1,.q x.2],fun x=>(Ew x.1∧x.1.length≤2^30)∧(x.1.length≤n∧(DZ x.1 x.2=true→tW x.1 n x.2≤2^60)),Unit,fun x y=>True,fun x y=> .str (if DZ x.1 x.2 then YS x.1 n x.2 else []),fun x y=>[.top,.top],false,[],[]⟩
theorem d4I(n:Nat)(hv:CtG G 117 (CN n)):CtG G 99 (Ow n):=
 vFq [(55,0,IL),(113,0,Hf),(117,0,(CN n))] [] (fun x=>[]) Tryz.func99 ⟨a2k,a2h,hv,trivial⟩ (fun x=>U4∧cA IL [nds x.1,.q x.2] fun x_1 y=>Ae (DD x_1.1 x_1.2==(0:Int)) (rA (Ow n) x [.str #[].toList,.top,.top]) ((0≤x.2∧x.2<(nL x.1))∧∀(e:Nd),x.1[Int.toNat x.2]? =some e→cA Hf [.q e.kind] fun x_2 y=>Ae (!Bg x_2) (rA (Ow n) x [.str #[].toList,.top,.top]) (cA (CN n) [.box 0 [nds x.1,.q 0,.nil,.nil,.nil,.nil,.str #[].toList,.bool true],.q x.2,.q 0] fun x_3 y=>rA (Ow n) x [.str (yBW y).text,.top,.top]))) (by kernel_rfl) fun(x:List Nd×Int) (hx:(Ew x.1∧x.1.length≤2^30)∧(x.1.length≤n∧(DZ x.1 x.2=true→tW x.1 n x.2≤2^60)))=>(by
 dsimp only[nL,U4,cA,EP,Ce,nds,rA,EO,Hf,IL,CN,Ow,EQ,suA,ER,AB,AF,mvL,lnL,mvE,lnE,AV.q]
 obtain⟨ns,k⟩:=x;dsimp only at hx ⊢
 obtain⟨⟨h1,h2⟩,h3,h4⟩:=hx
 (repeat' first|refine b3V ⟨0,ns,false⟩ ?_|(with_reducible first|rfl|exact⟨⟩|apply AG|apply AM)|apply AL|(apply AK<;>try dsimp only)|apply AJ|((try refine AH.2 ?_);intro _;try dsimp only))
 all_goals(try dsimp only[yBW,xC,zBW,zI,wB] at*)
 all_goals(try(have hkk:=BF.1 (Mn ‹DD ns k≠0›).1))
 all_goals(try(have hT:= @d4x ns n k _ ‹_› ‹_› ‹_›))
 all_goals(try(first|(have hF:= @d4y ns k ‹_›)|(have hF:= @d4z ns k _ ‹_› ‹_›)))
 all_goals first
  |with_reducible rfl
  |with_reducible assumption
  |omega
  |exact h1
  |exact h1.1
  |(rw[if_neg (by rw[hF];simp)];done)
  |exact d4A h3 h4 hT h2
  |(rw[if_pos hT];rename vsQ _ _ _ _ _ _=>hq;exact congrArg Bs.text hq)
  |rfl
  |skip)
end Go.My
end
