/- joined -/
import Derived.Test.YtblmpjljedglaaaGreatDoorQH
set_option linter.unusedSimpArgs false
set_option linter.unusedVariables false
section
namespace Go.My
open Go.Eng Go.Proofs
variable {G:GInv}
def Ik:Sig:= {X:=List UInt8×Unit,args:=fun x=>[.str x.1],pre:=fun x=>x.1.length≤2^62,Y:=Unit,post:=fun x y=>True,res:=fun x y=> .bool (Be x.1),outs:=fun x y=>[.top],keep:=false}
def Re(x:List UInt8×Unit):LS:= {ι:=Int,inv:=fun i=>Bx Bw x.1 i,regs:=fun i=>[(0,.str x.1),(3,.int .i64 i)],als:=[],meas:=fun i=>x.1.length-i.toNat}
theorem a2T:Ah G Tryz.prog 46 Ik:=
 vcFun_okP [(85,0,FI)] [] false (fun x=>[(2,Re x)]) Tryz.func46 rfl (by decide) ⟨UX,trivial⟩ (fun(x:List UInt8×Unit)=>(∀(y:Unit),True→True∧True∧True)∧eA (Re x) [.str x.1,.int .i64 (0:Int)]∧∀(i:Int),Bx Bw x.1 i→Ab (decide (i<(↑(List.length x.1):Int))) (((0:Int)≤i∧i<(↑(List.length x.1):Int))∧∀(c:UInt8),x.1[Int.toNat i]? =some c→cA FI [AV.int IntKind.u8 (↑(UInt8.toNat c):Int)] fun x_1 y=>Ab (!Bw x_1) (rA Ik x [.bool false,.top]) (inR IntKind.i64 (i+(1:Int))∧eN (Re x) i [.str x.1,.int .i64 (i+(1:Int))])) (rA Ik x [.bool true,.top])) (fun x=>by kernel_rfl) fun(x:List UInt8×Unit) (hx:x.1.length≤2^62)=>(by
 dsimp only[cA,eA,eN,Re,rA,FI,Ik,Aq,Aw,mvL,lnL,mvE,lnE,mvG,mvH,lnG,lnH,Ba]
 obtain⟨x,_⟩:=x;dsimp only at hx ⊢
 have hx:x.length≤2^62:=hx
 (repeat' first|(with_reducible first|rfl|exact True.intro|apply AG|apply And.intro|((first|apply Au|apply AE|apply Av|apply AF)<;>intro _))|(apply As<;>intro _)|apply AD|refine Af () ?_ ?_|((first|apply AK|apply AJ|apply AI|apply AH|apply AC|apply AB|apply AA|apply Az|apply Ax)<;>try dsimp only)|apply Af|(refine Prod.forall.2 ?_;intro _;try dsimp only)|(intro _;try dsimp only))
 all_goals first
  |with_reducible rfl
  |exact Mo
  |exact Fh ‹_› ‹_› ‹_› ‹_›
  |exact(Fv ‹_› ‹_›).symm
  |exact(GW ‹_› ‹_›).symm
  |(have hq:=(show Bx _ _ _ by assumption).1;(try simp only[Aj]);omega)
  |skip)
def Mt:Sig:= {X:=Pc×Int×Int×Bool×Int,args:=fun x=>[.agg (pcA false x.1),.agg [.int .i64 x.2.1,.int .i64 x.2.2.1,.bool x.2.2.2.1,.int .i64 x.2.2.2.2]],pre:=fun x=>pcS x.1,Y:=Unit,post:=fun x y=>True,res:=fun x y=> .bool (Ee x.1 ⟨[],x.2.1,x.2.2.1,x.2.2.2.1,x.2.2.2.2⟩),outs:=fun x y=>[.top,.top],keep:=false}
theorem b2R:Ah G Tryz.prog 51 Mt:=
 vcFun_okP [(45,0,Bz)] [] false (fun x=>[]) Tryz.func51 rfl (by decide) ⟨GN,trivial⟩ (fun(x:Pc×Int×Int×Bool×Int)=>(∀(y:Unit),True→True∧True∧True∧True)∧true=true∧true=true∧inR IntKind.i64 ((↑(List.length x.1.rules):Int)-(1:Int))∧∃(x_1:Int×Int×Int),True∧x.2.1=x_1.1∧(0:Int)=x_1.2.1∧(↑(List.length x.1.rules):Int)-(1:Int)=x_1.2.2∧∃(y0:Unit),(∀(y:Unit),True→AV.bool (inn x_1.1 x_1.2.1 x_1.2.2)=AV.bool (inn x_1.1 x_1.2.1 x_1.2.2))∧true=true∧Ab (inn x_1.1 x_1.2.1 x_1.2.2) (((0:Int)≤x.2.1∧x.2.1<(↑(List.length x.1.rules):Int))∧∀(e:Ru),x.1.rules[Int.toNat x.2.1]? =some e→inR IntKind.i64 (e.vals-(1:Int))∧∃(x_2:Int×Int×Int),True∧x.2.2.1=x_2.1∧(1:Int)=x_2.2.1∧e.vals-(1:Int)=x_2.2.2∧∃(y0:Unit),(∀(y:Unit),True→AV.bool (inn x_2.1 x_2.2.1 x_2.2.2)=AV.bool (inn x_2.1 x_2.2.1 x_2.2.2))∧true=true∧Ab (inn x_2.1 x_2.2.1 x_2.2.2) (∃(x_3:Int×Int×Int),True∧x.2.2.2.2=x_3.1∧(0:Int)=x_3.2.1∧(40:Int)=x_3.2.2∧∃(y0:Unit),(∀(y:Unit),True→AV.bool (inn x_3.1 x_3.2.1 x_3.2.2)=AV.bool (inn x_3.1 x_3.2.1 x_3.2.2))∧true=true∧rA Mt x [.bool (inn x_3.1 x_3.2.1 x_3.2.2),.top,.top]) (rA Mt x [.bool false,.top,.top])) (rA Mt x [.bool false,.top,.top])) (fun x=>by kernel_rfl) fun(x:Pc×Int×Int×Bool×Int) (hx:pcS x.1)=>(by
 dsimp only[Bl,pcA,rA,Bj,Mt,Bm,Bn,Aq,Aw]
 obtain⟨p,r,f,s,n⟩:=x;dsimp only at hx ⊢
 have hx:pcS p:=hx
 have hz:=hx.1;have hv:=hx.2.2
 (repeat' first|(with_reducible first|rfl|exact True.intro|apply AG|apply And.intro|((first|apply Au|apply AE|apply Av|apply AF)<;>intro _))|(apply As<;>intro _)|apply AD|refine Af () ?_ ?_|((first|apply AK|apply AJ|apply AI|apply AH|apply AC|apply AB|apply AA|apply Az|apply Ax)<;>try dsimp only)|apply Af|(refine Prod.forall.2 ?_;intro _;try dsimp only)|(intro _;try dsimp only))
 all_goals first
  |with_reducible rfl
  |((try simp only[BA] at*);omega)
  |(simp [Ee, *];done)
  |(have hm:=hv _ (AZ ‹_›);omega)
  |(rename p.rules[_]? =some _=>hq;have hr:=Oe hq;simp [Ee,hr, *];done)
  |skip)
def qoA(p:Pc):Prop:=(inn p.ind 0 60=true∧p.rules.length≤8)∧inn p.chunks.length 1 80=true∧p.spans.length≤40∧p.ties.length≤20
theorem Oo{p:Pc}(h:(((inn p.ind 0 60=false∨(p.rules.length:Int)>8)∨inn p.chunks.length 1 80=false)∨(p.spans.length:Int)>40)∨(p.ties.length:Int)>20):false=Bo p:=by
 symm
 rw[Bool.eq_false_iff]
 simp only[Bo,Ft,EF,ne_eq,Bool.and_eq_true,decide_eq_true_eq,not_and]
 intro h1 h2 h3 h4
 rw[h1,h3.1] at h
 simp at h;omega
theorem b2S{p:Pc}(h:qoA p)(hr:p.rules.all Ep=true):Ft p=true:=by simp [Ft,hr,h.1.2]
theorem b2T{p:Pc}(h:p.rules.all Ep=false):false=Bo p:=by
 have:Ft p=false:=by simp [Ft,h]
 exact KF (.inl (.inl (.inr this)))
theorem Wq{p:Pc}(h:EF p=false):false=Bo p:=KF (.inl (.inr h))
theorem b2U{p:Pc}(h:qoA p)(hr:p.rules.all Ep=true)(hc:EF p=true):poA p:=⟨⟨⟨h.1.1,b2S h hr⟩,hc⟩,h.2.2⟩
theorem b2V{p:Pc}{s:Sn}(h1:inn s.tuu 0 ((p.chunks.length:Int)-2)=true)(h2:inn s.fr 0 s.tuu=true)(h3:inn s.cost 0 9=true):DS p s=true:=by
 have a:=BA.1 h1;have b:=BA.1 h2
 exact a1t (by omega) (by omega) (by omega) h3
theorem Wr{p:Pc}{s:Sn}(h:(inn s.tuu 0 ((p.chunks.length:Int)-2)=false∨inn s.fr 0 s.tuu=false)∨inn s.cost 0 9=false):DS p s=false:=by
 rw[Bool.eq_false_iff]
 intro hs
 simp only[DS,Bool.and_eq_true,decide_eq_true_eq] at hs
 rcases h with(h|h)|h
 ·exact a1q h (by omega)
 ·exact a1q h (by omega)
 ·rw[h] at hs;cases hs.2.2
def CT:Sig:= {X:=Pc,args:=fun x=>[.agg (pcA false x)],pre:=fun x=>pcS x,Y:=Unit,post:=fun x y=>True,res:=fun x y=> .bool (Bo x),outs:=fun x y=>[.top],keep:=false}
def Rf(x:Pc):LS:= {ι:=Int,inv:=fun i=>qoA x∧Bx Ep x.rules i,regs:=fun i=>[(1,.box 0 (pcA false x)),(3,.int .i64 x.chunks.length),(4,.int .i64 i)],als:=[],meas:=fun i=>x.rules.length-i.toNat}
def Oq(x:Pc):LS:= {ι:=Int,inv:=fun i=>(qoA x∧x.rules.all Ep=true)∧chI x i,regs:=fun i=>[(1,.box 0 (pcA false x)),(3,.int .i64 x.chunks.length),(5,.int .i64 i)],als:=[],meas:=fun i=>x.chunks.length-i.toNat}
def Rg(x:Pc):LS:= {ι:=Int,inv:=fun i=>poA x∧Bx (DS x) x.spans i,regs:=fun i=>[(1,.box 0 (pcA false x)),(3,.int .i64 x.chunks.length),(6,.int .i64 i)],als:=[],meas:=fun i=>x.spans.length-i.toNat}
def Rh(x:Pc):LS:= {ι:=Int,inv:=fun i=>(poA x∧x.spans.all (DS x)=true)∧Bx (FO x) x.ties i,regs:=fun i=>[(1,.box 0 (pcA false x)),(8,.int .i64 i)],als:=[],meas:=fun i=>x.ties.length-i.toNat}
theorem a2U:Ah G Tryz.prog 13 CT:=
 vcFun_okP [(45,0,Bz),(46,0,Ik),(51,0,Mt)] [] false (fun x=>[(5,Rf x),(10,Oq x),(17,Rg x),(23,Rh x)]) Tryz.func13 rfl (by decide) ⟨GN,a2T,b2R,trivial⟩ (fun(x:Pc)=>(∀(y:Unit),True→True∧True∧True)∧cA Bz [.int .i64 x.ind,.int .i64 (0:Int),.int .i64 (60:Int)] fun x_1 y=>Ab (!inn x_1.1 x_1.2.1 x_1.2.2) (rA CT x [.bool false,.top]) (Ab (decide ((↑(List.length x.rules):Int)>(8:Int))) (rA CT x [.bool false,.top]) (cA Bz [.int .i64 (↑(List.length x.chunks):Int),.int .i64 (1:Int),.int .i64 (80:Int)] fun x_2 y=>Ab (!inn x_2.1 x_2.2.1 x_2.2.2) (rA CT x [.bool false,.top]) (Ab (decide ((↑(List.length x.spans):Int)>(40:Int))) (rA CT x [.bool false,.top]) (Ab (decide ((↑(List.length x.ties):Int)>(20:Int))) (rA CT x [.bool false,.top]) (eA (Rf x) [.box 0 [.int .i64 x.ind,AV.sl false 0 2 Ru ruA x.rules,AV.sl false 0 5 Ch chA x.chunks,AV.sl false 0 3 Sn snA x.spans,AV.sl false 0 2 Ti tiA x.ties],.int .i64 (↑(List.length x.chunks):Int),.int .i64 (0:Int)]∧∀(i:Int),qoA x∧Bx Ep x.rules i→Ab (decide (i<(↑(List.length x.rules):Int))) (((0:Int)≤i∧i<(↑(List.length x.rules):Int))∧∀(e:Ru),x.rules[Int.toNat i]? =some e→cA Bz [.int .i64 e.vals,.int .i64 (2:Int),.int .i64 (3:Int)] fun x_3 y=>Ab (!inn x_3.1 x_3.2.1 x_3.2.2) (rA CT x [.bool false,.top]) (((0:Int)≤i∧i<(↑(List.length x.rules):Int))∧∀(e:Ru),x.rules[Int.toNat i]? =some e→cA Bz [.int .i64 e.cost,.int .i64 (0:Int),.int .i64 (9:Int)] fun x_4 y=>Ab (!inn x_4.1 x_4.2.1 x_4.2.2) (rA CT x [.bool false,.top]) (inR IntKind.i64 (i+(1:Int))∧eN (Rf x) i [.box 0 [.int .i64 x.ind,AV.sl false 0 2 Ru ruA x.rules,AV.sl false 0 5 Ch chA x.chunks,AV.sl false 0 3 Sn snA x.spans,AV.sl false 0 2 Ti tiA x.ties],.int .i64 (↑(List.length x.chunks):Int),.int .i64 (i+(1:Int))]))) (eA (Oq x) [.box 0 [.int .i64 x.ind,AV.sl false 0 2 Ru ruA x.rules,AV.sl false 0 5 Ch chA x.chunks,AV.sl false 0 3 Sn snA x.spans,AV.sl false 0 2 Ti tiA x.ties],.int .i64 (↑(List.length x.chunks):Int),.int .i64 (0:Int)]∧∀(i:Int),(qoA x∧List.all x.rules Ep=true)∧chI x i→Ab (decide (i<(↑(List.length x.chunks):Int))) (true=true∧true=true∧((0:Int)≤i∧i<(↑(List.length x.chunks):Int))∧∀(e:Ch),x.chunks[Int.toNat i]? =some e→∃(x_3:List UInt8×Unit),List.length x_3.1≤(4611686018427387904:Nat)∧e.text=x_3.1∧∃(y0:Unit),(∀(y:Unit),True→AV.bool (Be x_3.1)=AV.bool (Be x_3.1))∧true=true∧Ab (!Be x_3.1) (rA CT x [.bool false,.top]) (inR IntKind.i64 (i+(1:Int))∧Ab (decide (i+(1:Int)<(↑(List.length x.chunks):Int))) (((0:Int)≤i∧i<(↑(List.length x.chunks):Int))∧∀(e:Ch),x.chunks[Int.toNat i]? =some e→∃(x_4:Pc×Int×Int×Bool×Int),pcS x_4.1∧x.ind=x_4.1.ind∧AV.sl false 0 2 Ru ruA x.rules=AV.sl false 0 2 Ru ruA x_4.1.rules∧AV.sl false 0 5 Ch chA x.chunks=AV.sl false 0 5 Ch chA x_4.1.chunks∧AV.sl false 0 3 Sn snA x.spans=AV.sl false 0 3 Sn snA x_4.1.spans∧AV.sl false 0 2 Ti tiA x.ties=AV.sl false 0 2 Ti tiA x_4.1.ties∧e.rule=x_4.2.1∧e.fr=x_4.2.2.1∧e.space=x_4.2.2.2.1∧e.nest=x_4.2.2.2.2∧∃(y0:Unit),(∀(y:Unit),True→AV.bool (Ee x_4.1 {text:=[],rule:=x_4.2.1,fr:=x_4.2.2.1,space:=x_4.2.2.2.1,nest:=x_4.2.2.2.2})=AV.bool (Ee x_4.1 {text:=[],rule:=x_4.2.1,fr:=x_4.2.2.1,space:=x_4.2.2.2.1,nest:=x_4.2.2.2.2}))∧true=true∧Ab (!Ee x_4.1 {text:=[],rule:=x_4.2.1,fr:=x_4.2.2.1,space:=x_4.2.2.2.1,nest:=x_4.2.2.2.2}) (rA CT x [.bool false,.top]) (inR IntKind.i64 (i+(1:Int))∧(eN (Oq x) i [.box 0 [.int .i64 x.ind,AV.sl false 0 2 Ru ruA x.rules,AV.sl false 0 5 Ch chA x.chunks,AV.sl false 0 3 Sn snA x.spans,AV.sl false 0 2 Ti tiA x.ties],.int .i64 (↑(List.length x.chunks):Int),.int .i64 (i+(1:Int))]))) (inR IntKind.i64 (i+(1:Int))∧(eN (Oq x) i [.box 0 [.int .i64 x.ind,AV.sl false 0 2 Ru ruA x.rules,AV.sl false 0 5 Ch chA x.chunks,AV.sl false 0 3 Sn snA x.spans,AV.sl false 0 2 Ti tiA x.ties],.int .i64 (↑(List.length x.chunks):Int),.int .i64 (i+(1:Int))])))) (inR IntKind.i64 ((↑(List.length x.chunks):Int)-(1:Int))∧((0:Int)≤(↑(List.length x.chunks):Int)-(1:Int)∧(↑(List.length x.chunks):Int)-(1:Int)<(↑(List.length x.chunks):Int))∧∀(e:Ch),x.chunks[Int.toNat ((↑(List.length x.chunks):Int)-(1:Int))]? =some e→Ab (!(true&&e.rule==(0:Int)&&e.fr==(0:Int)&&e.space==false&&e.nest==(0:Int))) (rA CT x [.bool false,.top]) (eA (Rg x) [.box 0 [.int .i64 x.ind,AV.sl false 0 2 Ru ruA x.rules,AV.sl false 0 5 Ch chA x.chunks,AV.sl false 0 3 Sn snA x.spans,AV.sl false 0 2 Ti tiA x.ties],.int .i64 (↑(List.length x.chunks):Int),.int .i64 (0:Int)]∧∀(i:Int),poA x∧Bx (DS x) x.spans i→Ab (decide (i<(↑(List.length x.spans):Int))) (((0:Int)≤i∧i<(↑(List.length x.spans):Int))∧∀(e:Sn),x.spans[Int.toNat i]? =some e→inR IntKind.i64 ((↑(List.length x.chunks):Int)-(2:Int))∧cA Bz [.int .i64 e.tuu,.int .i64 (0:Int),.int .i64 ((↑(List.length x.chunks):Int)-(2:Int))] fun x_3 y=>Ab (!inn x_3.1 x_3.2.1 x_3.2.2) (rA CT x [.bool false,.top]) (cA Bz [.int .i64 e.fr,.int .i64 (0:Int),.int .i64 e.tuu] fun x_4 y=>Ab (!inn x_4.1 x_4.2.1 x_4.2.2) (rA CT x [.bool false,.top]) (cA Bz [.int .i64 e.cost,.int .i64 (0:Int),.int .i64 (9:Int)] fun x_5 y=>Ab (!inn x_5.1 x_5.2.1 x_5.2.2) (rA CT x [.bool false,.top]) (inR IntKind.i64 (i+(1:Int))∧eN (Rg x) i [.box 0 [.int .i64 x.ind,AV.sl false 0 2 Ru ruA x.rules,AV.sl false 0 5 Ch chA x.chunks,AV.sl false 0 3 Sn snA x.spans,AV.sl false 0 2 Ti tiA x.ties],.int .i64 (↑(List.length x.chunks):Int),.int .i64 (i+(1:Int))])))) (eA (Rh x) [.box 0 [.int .i64 x.ind,AV.sl false 0 2 Ru ruA x.rules,AV.sl false 0 5 Ch chA x.chunks,AV.sl false 0 3 Sn snA x.spans,AV.sl false 0 2 Ti tiA x.ties],.int .i64 (0:Int)]∧∀(i:Int),(poA x∧List.all x.spans (DS x)=true)∧Bx (FO x) x.ties i→Ab (decide (i<(↑(List.length x.ties):Int))) (((0:Int)≤i∧i<(↑(List.length x.ties):Int))∧∀(e:Ti),x.ties[Int.toNat i]? =some e→inR IntKind.i64 ((↑(List.length x.rules):Int)-(1:Int))∧cA Bz [.int .i64 e.kid,.int .i64 (0:Int),.int .i64 ((↑(List.length x.rules):Int)-(1:Int))] fun x_3 y=>Ab (!inn x_3.1 x_3.2.1 x_3.2.2) (rA CT x [.bool false,.top]) (inR IntKind.i64 ((↑(List.length x.rules):Int)-(1:Int))∧cA Bz [.int .i64 e.up,.int .i64 (0:Int),.int .i64 ((↑(List.length x.rules):Int)-(1:Int))] fun x_4 y=>Ab (!inn x_4.1 x_4.2.1 x_4.2.2) (rA CT x [.bool false,.top]) (Ab (e.kid==e.up) (rA CT x [.bool false,.top]) (inR IntKind.i64 (i+(1:Int))∧eN (Rh x) i [.box 0 [.int .i64 x.ind,AV.sl false 0 2 Ru ruA x.rules,AV.sl false 0 5 Ch chA x.chunks,AV.sl false 0 3 Sn snA x.spans,AV.sl false 0 2 Ti tiA x.ties],.int .i64 (i+(1:Int))])))) (rA CT x [.bool true,.top]))))))))))) (fun x=>by kernel_rfl) fun(x:Pc) (hx:pcS x)=>(by
 dsimp only[cA,Bl,eA,eN,Oq,Rg,Rh,Rf,pcA,rA,Bj,Bz,CT,Bm,Bn,Aq,Aw,mvL,lnL,mvE,lnE,mvG,mvH,lnG,lnH,Ba]
 have hz:=hx.1;have hz2:=hx.2.1.1;have ht:=hx.2.1.2
 (repeat' first|refine Ib x ?_|refine Dp x ?_|(with_reducible first|rfl|exact True.intro|apply AG|apply And.intro|((first|apply Au|apply AE|apply Av|apply AF)<;>intro _))|(apply As<;>intro _)|apply AD|refine Af () ?_ ?_|((first|apply AK|apply AJ|apply AI|apply AH|apply AC|apply AB|apply AA|apply Az|apply Ax)<;>try dsimp only)|apply Af|(refine Prod.forall.2 ?_;intro _;try dsimp only)|(intro _;try dsimp only))
 all_goals(try(repeat(rename x.rules[_]? =some _=>hq;revert hq;rename x.rules[_]? =some _=>hr;intro hq;rw[hr] at hq;cases hq)))
 all_goals(try(repeat(rename x.chunks[_]? =some _=>hq;revert hq;rename x.chunks[_]? =some _=>hr;intro hq;rw[hr] at hq;cases hq)))
 all_goals first
  |with_reducible rfl
  |with_reducible assumption
  |exact hx
  |exact Mo
  |exact a1r
  |exact Oo (.inl (.inl (.inl (.inl ‹_›))))
  |exact Oo (.inl (.inl (.inl (.inr ‹_›))))
  |exact Oo (.inl (.inl (.inr ‹_›)))
  |exact Oo (.inl (.inr ‹_›))
  |exact Oo (.inr ‹_›)
  |exact⟨⟨by assumption,by omega⟩,by assumption,by omega,by omega⟩
  |exact(show qoA _∧_ by assumption).1
  |exact(show(qoA _∧_)∧_ by assumption).1.1
  |exact(show(qoA _∧_)∧_ by assumption).1.2
  |exact GW (show qoA _∧Bx _ _ _ by assumption).2 ‹_›
  |exact b2T (Fv ‹_› (by simp [Ep, *]))
  |exact Fh (show qoA _∧Bx _ _ _ by assumption).2 ‹_› ‹_› (by simp [Ep, *])
  |(have hq:=(show qoA _∧Bx _ _ _ by assumption).2.1;(try simp only[Aj]);omega)
  |(have hq:=(show(qoA _∧_)∧chI _ _ by assumption).2.1;(try simp only[Aj]);omega)
  |(have hq:=(show(qoA _∧_)∧chI _ _ by assumption).2.1;have hq2:=BA.1 (show(qoA _∧_)∧chI _ _ by assumption).1.1.2.1;(try simp only[Aj]);omega)
  |(have hq:=Od (AZ (show x.chunks[_]? =some _ by assumption));omega)
  |exact Wq (QF (show(qoA _∧_)∧chI _ _ by assumption).2 ‹_› (.inl ‹_›))
  |exact Wq (QF (show(qoA _∧_)∧chI _ _ by assumption).2 ‹_› (.inr ⟨by omega,by assumption⟩))
  |exact QE (show(qoA _∧_)∧chI _ _ by assumption).2 ‹_› ‹_› ‹_› (fun _=>by assumption)
  |exact QE (show(qoA _∧_)∧chI _ _ by assumption).2 ‹_› ‹_› ‹_› (fun _=>by omega)
  |exact Wq (by rw[VJ (show(qoA _∧_)∧chI _ _ by assumption).2 ‹_› ‹_› (show(qoA _∧_)∧chI _ _ by assumption).1.1.2.1];first|assumption|(rw[←VK];assumption))
  |exact b2U (show(qoA _∧_)∧chI _ _ by assumption).1.1 (show(qoA _∧_)∧chI _ _ by assumption).1.2 (by rw[VJ (show(qoA _∧_)∧chI _ _ by assumption).2 ‹_› ‹_› (show(qoA _∧_)∧chI _ _ by assumption).1.1.2.1];first|assumption|(rw[←VK];assumption))
  |exact(show poA _∧_ by assumption).1
  |(have hq:=(show poA _∧Bx _ _ _ by assumption).2.1;(try simp only[Aj]);omega)
  |(have hq:=(show(poA _∧_)∧Bx _ _ _ by assumption).2.1;(try simp only[Aj]);omega)
  |exact Ie (.inl (Fv ‹_› (Wr (.inl (.inl ‹_›)))))
  |exact Ie (.inl (Fv ‹_› (Wr (.inl (.inr ‹_›)))))
  |exact Ie (.inl (Fv ‹_› (Wr (.inr ‹_›))))
  |exact Fh (show poA _∧Bx _ _ _ by assumption).2 ‹_› ‹_› (b2V ‹_› ‹_› ‹_›)
  |exact GW (show poA _∧Bx _ _ _ by assumption).2 ‹_›
  |exact⟨(show poA _∧Bx _ _ _ by assumption).1,GW (show poA _∧Bx _ _ _ by assumption).2 ‹_›⟩
  |exact Ie (.inr (Fv ‹_› (by simp [FO, *])))
  |exact Fh (show(poA _∧_)∧Bx _ _ _ by assumption).2 ‹_› ‹_› (by simp [FO, *])
  |exact a1u (show(poA _∧_)∧Bx _ _ _ by assumption).1.1 (show(poA _∧_)∧Bx _ _ _ by assumption).1.2 (GW (show(poA _∧_)∧Bx _ _ _ by assumption).2 ‹_›)
  |((try simp only[Aj]);omega)
  |skip)
def Mu:Sig:= {X:=Pc,args:=fun x=>[.agg (pcA false x)],pre:=fun x=>pcS x∧x.rules.length≤100,Y:=Unit,post:=fun x y=>True,res:=fun x y=>AW (Dc x),outs:=fun x y=>[.top],keep:=false}
def Ri(x:Pc):LS:= {ι:=Int,inv:=fun i=>0≤i∧i≤x.rules.length,regs:=fun i=>[(1,.box 0 (pcA false x)),(3,AW ((x.rules.take i.toNat).map fun r=>r.vals-1)),(4,.int .i64 i)],als:=[],meas:=fun i=>x.rules.length-i.toNat}
theorem b2W:Ah G Tryz.prog 18 Mu:=
 vcFun_okP [] [(38,⟨Int,Cw⟩)] false (fun x=>[(3,Ri x)]) Tryz.func18 rfl (by decide) trivial (fun(x:Pc)=>(∀(y:Unit),True→(∀(x:Int),True∧True)∧True∧True)∧eA (Ri x) [.box 0 [.int .i64 x.ind,AV.sl false 0 2 Ru ruA x.rules,AV.sl false 0 5 Ch chA x.chunks,AV.sl false 0 3 Sn snA x.spans,AV.sl false 0 2 Ti tiA x.ties],AW [],.int .i64 (0:Int)]∧∀(i:Int),(0:Int)≤i∧i≤(↑(List.length x.rules):Int)→Ab (decide (i<(↑(List.length x.rules):Int))) (((0:Int)≤i∧i<(↑(List.length x.rules):Int))∧∀(e:Ru),x.rules[Int.toNat i]? =some e→inR IntKind.i64 (e.vals-(1:Int))∧∃(x_1:Int),e.vals-(1:Int)=x_1∧∃(zs:List Int),AW [x_1]=AW zs∧Bg Cw∧AY (List.length (List.map (fun(r:Ru)=>r.vals-(1:Int)) (List.take (Int.toNat i) x.rules))+List.length zs) (8:Nat)∧inR IntKind.i64 (i+(1:Int))∧eN (Ri x) i [.box 0 [.int .i64 x.ind,AV.sl false 0 2 Ru ruA x.rules,AV.sl false 0 5 Ch chA x.chunks,AV.sl false 0 3 Sn snA x.spans,AV.sl false 0 2 Ti tiA x.ties],AW (List.map (fun(r:Ru)=>r.vals-(1:Int)) (List.take (Int.toNat i) x.rules)++zs),.int .i64 (i+(1:Int))]) (rA Mu x [AW (List.map (fun(r:Ru)=>r.vals-(1:Int)) (List.take (Int.toNat i) x.rules)),.top])) (fun x=>by kernel_rfl) fun(x:Pc) (hx:pcS x∧x.rules.length≤100)=>(by
 dsimp only[Bl,eA,eN,Ri,AW,pcA,rA,Bj,Mu,Bm,Bn,Aq,Aw,Ba]
 obtain⟨h1,h2⟩:=hx
 have hv:=h1.2.2
 (repeat' first|(with_reducible first|rfl|exact True.intro|apply AG|apply And.intro|((first|apply Au|apply AE|apply Av|apply AF)<;>intro _))|(apply As<;>intro _)|apply AD|refine Af () ?_ ?_|((first|apply AK|apply AJ|apply AI|apply AH|apply AC|apply AB|apply AA|apply Az|apply Ax)<;>try dsimp only)|apply Af|(refine Prod.forall.2 ?_;intro _;try dsimp only)|(intro _;try dsimp only))
 all_goals first
  |rfl
  |omega
  |exact()
  |(have hm:=hv _ (AZ ‹_›);omega)
  |(rw[BG (by omega),Df ‹_›,List.map_append];rfl)
  |(rw[Dc,List.take_of_length_le (by omega)];done)
  |(simp [AY];omega)
  |((try simp only[AY,Aj,List.length_append,List.length_map,List.length_take,List.length_cons,List.length_nil]);omega)
  |skip)
def GE:Sig:= {X:=Pc×List Int×Int,args:=fun x=>[.agg (pcA false x.1),Ad x.2.1,.int .i64 x.2.2],pre:=fun x=>(0≤x.2.2∧x.2.2<x.1.chunks.length)∧(0≤(Cz x.1 x.2.2).rule∧(Cz x.1 x.2.2).rule<x.2.1.length),Y:=Unit,post:=fun x y=>True,res:=fun x y=> .bool (Ce x.2.1 (Cz x.1 x.2.2)),outs:=fun x y=>[.top,.top,.top],keep:=false}
theorem Wt:Ah G Tryz.prog 90 GE:=
 vcFun_okP [] [] false (fun x=>[]) Tryz.func90 rfl (by decide) trivial (fun(x:Pc×List Int×Int)=>(∀(y:Unit),True→True∧True∧True∧True∧True)∧((0:Int)≤x.2.2∧x.2.2<(↑(List.length x.1.chunks):Int))∧∀(e:Ch),x.1.chunks[Int.toNat x.2.2]? =some e→true=true∧true=true∧((0:Int)≤e.rule∧e.rule<(↑(List.length x.2.1):Int))∧∀(e_1:Int),x.2.1[Int.toNat e.rule]? =some e_1→rA GE x [.bool (decide (e_1≥e.fr)),.top,.top,.top]) (fun x=>by kernel_rfl) fun(x:Pc×List Int×Int) (hx:(0≤x.2.2∧x.2.2<x.1.chunks.length)∧(0≤(Cz x.1 x.2.2).rule∧(Cz x.1 x.2.2).rule<x.2.1.length))=>(by
 dsimp only[Bl,Ad,pcA,rA,Bj,GE,Bm,Bn,Aq,Aw]
 obtain⟨p,v,i⟩:=x;dsimp only at hx ⊢
 obtain⟨⟨h1,h2⟩,h3,h4⟩:=hx
 (repeat' first|(with_reducible first|rfl|exact True.intro|apply AG|apply And.intro|((first|apply Au|apply AE|apply Av|apply AF)<;>intro _))|(apply As<;>intro _)|apply AD|refine Af () ?_ ?_|((first|apply AK|apply AJ|apply AI|apply AH|apply AC|apply AB|apply AA|apply Az|apply Ax)<;>try dsimp only)|apply Af|(refine Prod.forall.2 ?_;intro _;try dsimp only)|(intro _;try dsimp only))
 all_goals first
  |rfl
  |omega
  |(rename p.chunks[_]? =some _=>hq;have e:=Hx hq;rw[e] at h3 h4;first|omega|(rename v[_]? =some _=>hr;have e2:=Og hr;rw[e,Ce,e2];done)|(rename v[_]? =some _=>hr;have e2:=Og hr;rw[e,Ce,e2];exact decide_eq_decide.2 (by omega)))
  |skip)
theorem a2V{i:Int}(h:0≤i):blk i++[32]=blk (i+1):=by
 rw[blk,blk,BG h,List.replicate_succ']
theorem Rj{i:Int}(h:0≤i):((blk i).length:Int)=i:=by simp [blk];omega
def GY:Sig:= {X:=Int×Unit,args:=fun x=>[.int .i64 x.1],pre:=fun x=>0≤x.1∧x.1≤100000,Y:=Unit,post:=fun x y=>True,res:=fun x y=> .str (blk x.1),outs:=fun x y=>[.top],keep:=false}
def Rk(x:Int×Unit):LS:= {ι:=Int,inv:=fun i=>0≤i∧i≤x.1,regs:=fun i=>[(0,.int .i64 x.1),(3,.str (blk i)),(4,.int .i64 i)],als:=[],meas:=fun i=>(x.1-i).toNat}
theorem a2W:Ah G Tryz.prog 89 GY:=
 vcFun_okP [] [] false (fun x=>[(3,Rk x)]) Tryz.func89 rfl (by decide) trivial (fun(x:Int×Unit)=>(∀(y:Unit),True→True∧True∧True)∧eA (Rk x) [.int .i64 x.1,.str #[].toList,.int .i64 (0:Int)]∧∀(i:Int),(0:Int)≤i∧i≤x.1→Ab (decide (i<x.1)) ((↑(List.length (blk i)+(1:Nat)):Int)≤IntKind.max IntKind.i64∧inR IntKind.i64 (i+(1:Int))∧eN (Rk x) i [.int .i64 x.1,.str (blk i++ #[(32:UInt8)].toList),.int .i64 (i+(1:Int))]) (rA GY x [.str (blk i),.top])) (fun x=>by kernel_rfl) fun(x:Int×Unit) (hx:0≤x.1∧x.1≤100000)=>(by
 dsimp only[eA,eN,Rk,rA,GY,Aq,Aw,Ba]
 obtain⟨x,_⟩:=x;dsimp only at hx ⊢
 obtain⟨h1,h2⟩:=hx
 (repeat' first|(with_reducible first|rfl|exact True.intro|apply AG|apply And.intro|((first|apply Au|apply AE|apply Av|apply AF)<;>intro _))|(apply As<;>intro _)|apply AD|refine Af () ?_ ?_|((first|apply AK|apply AJ|apply AI|apply AH|apply AC|apply AB|apply AA|apply Az|apply Ax)<;>try dsimp only)|apply Af|(refine Prod.forall.2 ?_;intro _;try dsimp only)|(intro _;try dsimp only))
 all_goals first
  |with_reducible rfl
  |omega
  |exact a2V (by omega)
  |exact(a2V (by omega))
  |(rename¬_<x=>hq;congr 1;omega)
  |((try simp only[Aj]);omega)
  |(have hb:=Rj (show(0:Int)≤_ by omega);(try simp only[Aj]);omega)
  |(rename 0≤_∧_≤x=>hq;have hb:=Rj hq.1;(try simp only[Aj]);omega)
  |rfl
  |skip)
theorem Wu{p:Pc}{v:List Int}{i:Int}{ls:List (List UInt8)}{s:List UInt8}(h:rnI p v i ls s):0≤i∧i<p.chunks.length:=h.1
attribute [local irreducible] rnI BF rnL Ce blk
def KS:Sig:= {X:=Pc×List Int,args:=fun x=>[.agg (pcA false x.1),Ad x.2],pre:=fun x=>renP x.1 x.2,Y:=Unit,post:=fun x y=>True,res:=fun x y=>Cu (BF x.1 x.2),outs:=fun x y=>[.top,.top],keep:=false}
def Mv(x:Pc×List Int):LS:= {ι:=Int×List (List UInt8)×List UInt8,inv:=fun i=>rnI x.1 x.2 i.1 i.2.1 i.2.2,regs:=fun i=>[(1,Ad x.2),(2,.box 0 (pcA false x.1)),(5,Cu i.2.1),(6,.str i.2.2),(7,.int .i64 i.1)],als:=[],meas:=fun i=>x.1.chunks.length-i.1.toNat}
theorem b2X:Ah G Tryz.prog 53 KS:=
 vcFun_okP [(89,0,GY),(90,0,GE)] [(42,⟨List UInt8,Ag⟩)] false (fun x=>[(4,Mv x)]) Tryz.func53 rfl (by decide) ⟨a2W,Wt,trivial⟩ (fun(x:Pc×List Int)=>(∀(y:Unit),True→(∀(x:List UInt8),True∧True)∧True∧True∧True)∧cA GY [.int .i64 x.1.ind] fun x_1 y=>eA (Mv x) [Ad x.2,.box 0 [.int .i64 x.1.ind,AV.sl false 0 2 Ru ruA x.1.rules,AV.sl false 0 5 Ch chA x.1.chunks,AV.sl false 0 3 Sn snA x.1.spans,AV.sl false 0 2 Ti tiA x.1.ties],AV.sl true 0 1 (List UInt8) Ag [],.str (blk x_1.1),.int .i64 (0:Int)]∧∀(i:Int×List (List UInt8)×List UInt8),rnI x.1 x.2 i.1 i.2.1 i.2.2→Ab (decide (i.1<(↑(List.length x.1.chunks):Int))) (((0:Int)≤i.1∧i.1<(↑(List.length x.1.chunks):Int))∧∀(e:Ch),x.1.chunks[Int.toNat i.1]? =some e→(↑(List.length i.2.2+List.length e.text):Int)≤IntKind.max IntKind.i64∧inR IntKind.i64 (i.1+(1:Int))∧Ab (i.1+(1:Int)==(↑(List.length x.1.chunks):Int)) (∃(x_2:List UInt8),i.2.2++e.text=x_2∧(∃(zs:List (List UInt8)),AV.sl true 0 1 (List UInt8) Ag [x_2]=AV.sl true 0 1 (List UInt8) Ag zs∧(Bg Ag∧(AY (List.length i.2.1+List.length zs) (16:Nat)∧rA KS x [AV.sl true 0 1 (List UInt8) Ag (i.2.1++zs),.top,.top])))) (cA GE [.agg [.int .i64 x.1.ind,AV.sl false 0 2 Ru ruA x.1.rules,AV.sl false 0 5 Ch chA x.1.chunks,AV.sl false 0 3 Sn snA x.1.spans,AV.sl false 0 2 Ti tiA x.1.ties],Ad x.2,.int .i64 i.1] fun x_2 y=>Ab (Ce x_2.2.1 (Cz x_2.1 x_2.2.2)) (∃(x_3:List UInt8),i.2.2++e.text=x_3∧∃(zs:List (List UInt8)),AV.sl true 0 1 (List UInt8) Ag [x_3]=AV.sl true 0 1 (List UInt8) Ag zs∧Bg Ag∧AY (List.length i.2.1+List.length zs) (16:Nat)∧true=true∧true=true∧((0:Int)≤i.1∧i.1<(↑(List.length x.1.chunks):Int))∧∀(e:Ch),x.1.chunks[Int.toNat i.1]? =some e→inR IntKind.i64 (x.1.ind+e.nest)∧∃(x_4:Int×Unit),((0:Int)≤x_4.1∧x_4.1≤(100000:Int))∧x.1.ind+e.nest=x_4.1∧∃(y0:Unit),(∀(y:Unit),True→AV.str (blk x_4.1)=AV.str (blk x_4.1))∧true=true∧inR IntKind.i64 (i.1+(1:Int))∧eN (Mv x) i [Ad x.2,.box 0 [.int .i64 x.1.ind,AV.sl false 0 2 Ru ruA x.1.rules,AV.sl false 0 5 Ch chA x.1.chunks,AV.sl false 0 3 Sn snA x.1.spans,AV.sl false 0 2 Ti tiA x.1.ties],AV.sl true 0 1 (List UInt8) Ag (i.2.1++zs),.str (blk x_4.1),.int .i64 (i.1+(1:Int))]) (((0:Int)≤i.1∧i.1<(↑(List.length x.1.chunks):Int))∧∀(e_1:Ch),x.1.chunks[Int.toNat i.1]? =some e_1→Ab e_1.space ((↑(List.length (i.2.2++e.text)+(1:Nat)):Int)≤IntKind.max IntKind.i64∧inR IntKind.i64 (i.1+(1:Int))∧eN (Mv x) i [Ad x.2,.box 0 [.int .i64 x.1.ind,AV.sl false 0 2 Ru ruA x.1.rules,AV.sl false 0 5 Ch chA x.1.chunks,AV.sl false 0 3 Sn snA x.1.spans,AV.sl false 0 2 Ti tiA x.1.ties],AV.sl true 0 1 (List UInt8) Ag i.2.1,.str (i.2.2++e.text++ #[(32:UInt8)].toList),.int .i64 (i.1+(1:Int))]) (inR IntKind.i64 (i.1+(1:Int))∧eN (Mv x) i [Ad x.2,.box 0 [.int .i64 x.1.ind,AV.sl false 0 2 Ru ruA x.1.rules,AV.sl false 0 5 Ch chA x.1.chunks,AV.sl false 0 3 Sn snA x.1.spans,AV.sl false 0 2 Ti tiA x.1.ties],AV.sl true 0 1 (List UInt8) Ag i.2.1,.str (i.2.2++e.text),.int .i64 (i.1+(1:Int))])))) (∃(x_2:List UInt8),i.2.2=x_2∧(∃(zs:List (List UInt8)),AV.sl true 0 1 (List UInt8) Ag [x_2]=AV.sl true 0 1 (List UInt8) Ag zs∧(Bg Ag∧(AY (List.length i.2.1+List.length zs) (16:Nat)∧rA KS x [AV.sl true 0 1 (List UInt8) Ag (i.2.1++zs),.top,.top]))))) (fun x=>by kernel_rfl) fun(x:Pc×List Int) (hx:renP x.1 x.2)=>(by
 dsimp only[cA,Bl,eA,eN,Mv,Ad,Cu,pcA,rA,Bj,GE,GY,KS,Bm,Bn,Aq,Aw,mvL,lnL,mvE,lnE,mvG,mvH,lnG,lnH,Ba]
 obtain⟨p,v⟩:=x;dsimp only at hx ⊢
 have hx:renP p v:=hx
 have h1:=hx.ok.ind;have h2:=hx.ok.cl;have h3:=hx.ct
 (repeat' first|refine Dp p ?_|(with_reducible first|rfl|exact True.intro|apply AG|apply And.intro|((first|apply Au|apply AE|apply Av|apply AF)<;>intro _))|(apply As<;>intro _)|apply AD|refine Af () ?_ ?_|((first|apply AK|apply AJ|apply AI|apply AH|apply AC|apply AB|apply AA|apply Az|apply Ax)<;>try dsimp only)|apply Af|(refine Prod.forall.2 ?_;intro _;try dsimp only)|(intro _;try dsimp only))
 all_goals(try(repeat(rename p.chunks[_]? =some _=>hq;revert hq;rename p.chunks[_]? =some _=>hr;intro hq;rw[hr] at hq;cases hq)))
 all_goals first
  |rfl
  |(simp only[Aj];omega)
  |omega
  |exact a1y hx.ok
  |(exfalso;have hq:=Wu (show rnI _ _ _ _ _ by assumption);omega)
  |exact a1B ‹_› ‹_› (by omega) (Hy ‹_› ‹_›)
  |exact a1C ‹_› ‹_› (by omega) (Hy ‹_› ‹_›) ‹_›
  |exact a1D ‹_› ‹_› (by omega) (Hy ‹_› ‹_›) ‹_›
  |(have hq:=Wu (show rnI _ _ _ _ _ by assumption);(try simp only[Aj]);omega)
  |(have hi:=(show rnI _ _ _ _ _ by assumption);have hq:=Wu hi;have hc:=a1E hx hq ‹_› (by omega);(try rw[Hx ‹_›]);(try simp only[Aj]);omega)
  |(have hi:=(show rnI _ _ _ _ _ by assumption);have hq:=a1z hx.ok hi;have hm:=Od (AZ (show p.chunks[_]? =some _ by assumption));(try simp only[Aj,AY,List.length_append,List.length_cons,List.length_nil]);omega)
  |exact a1A ‹_› ‹_› (by omega)
  |exact()
  |skip)
end Go.My
end
section
namespace Go.My
open Go.Eng Go.Proofs
variable {G:GInv}
def GZ:Sig:= {X:=Int×Unit,args:=fun x=>[.int .i64 x.1],pre:=fun x=>True,Y:=Unit,post:=fun x y=>True,res:=fun x y=> .int .i64 (wdF x.1),outs:=fun x y=>[.top],keep:=false}
theorem b2Y:Ah G Tryz.prog 186 GZ:=
 vcFun_okP [] [] false (fun x=>[]) Tryz.func186 rfl (by decide) trivial (fun(x:Int×Unit)=>(∀(y:Unit),True→True∧True∧True)∧Ab (decide (x.1<(0:Int))) (rA GZ x [.int .i64 (0:Int),.top]) (Ab (decide (x.1>(100000:Int))) (rA GZ x [.int .i64 (100000:Int),.top]) (rA GZ x [.int .i64 x.1,.top]))) (fun x=>by kernel_rfl) fun(x:Int×Unit) (hx:True)=>(by
 dsimp only[rA,GZ,Aq,Aw]
 obtain⟨x,_⟩:=x;dsimp only at hx ⊢
 (repeat' first|(with_reducible first|rfl|exact True.intro|apply AG|apply And.intro|((first|apply Au|apply AE|apply Av|apply AF)<;>intro _))|(apply As<;>intro _)|apply AD|refine Af () ?_ ?_|((first|apply AK|apply AJ|apply AI|apply AH|apply AC|apply AB|apply AA|apply Az|apply Ax)<;>try dsimp only)|apply Af|(refine Prod.forall.2 ?_;intro _;try dsimp only)|(intro _;try dsimp only))
 all_goals first
  |rfl
  |(unfold wdF;omega)
  |skip)
def ovN(ind w:Int)(v:List Int):List Ch→Int→Int
 |[],n=>max (n-w) 0
 |[c],n=>max (n+c.text.length-w) 0
 |c::d::l,n=>if Ce v c then max (n+c.text.length-w) 0+ovN ind w v (d::l) (ind+c.nest) else ovN ind w v (d::l) (n+c.text.length+(if c.space then 1 else 0))
theorem Wv{ind w:Int}{v:List Int}(h0:0≤ind):∀ {l:List Ch} {s:List UInt8},(∀(i:Nat) c,l[i]? =some c→i+1<l.length→0≤c.nest)→ovN ind w v l s.length=ovL w (rnL ind v l s)
 |[],s,_=>by simp [ovN,rnL,ovL]
 |[c],s,_=>by simp [ovN,rnL,ovL]
 |c::d::l,s,h=>by
  have hn:=h 0 c rfl (by simp)
  have h':∀(i:Nat) e,(d::l)[i]? =some e→i+1<(d::l).length→0≤e.nest:=fun i e hi hl=>h (i+1) e (by simpa using hi) (by simpa using hl)
  rw[ovN,rnL]
  split
  ·have h1:=Wv (w:=w) (v:=v) h0 (s:=blk (ind+c.nest)) h'
   rw[Rj (by omega)] at h1
   rw[h1];simp [ovL]
  ·have h1:=Wv (w:=w) (v:=v) h0 (s:=s++c.text++(if c.space then [32] else [])) h'
   rw[←h1]
   congr 1
   simp only[List.length_append]
   cases c.space<;>simp
theorem Ww{ind w:Int}{v:List Int}:∀ {l:List Ch} {n:Int},0≤ovN ind w v l n
 |[],n=>by rw[ovN];omega
 |[c],n=>by rw[ovN];omega
 |c::d::l,n=>by
  rw[ovN]
  have h1:= @Ww ind w v (d::l) (ind+c.nest)
  have h2:= @Ww ind w v (d::l) (n+c.text.length+(if c.space then 1 else 0))
  split<;>omega
structure ovP (p:Pc) (v:List Int) (w:Int):Prop where
 re:renP p v
 ok:Bo p=true
 w0:0≤w∧w≤100000
def ovJ(p:Pc)(v:List Int)(w:Int)(i o n:Int):Prop:=
 (0≤i∧i≤p.chunks.length)∧(0≤o∧(0≤n∧n+Ci (p.chunks.drop i.toNat)≤Ci p.chunks+101*(i+1)))∧
   (i<p.chunks.length→o+ovN p.ind w v (p.chunks.drop i.toNat) n=ovL w (BF p v))∧(i=p.chunks.length→o=ovL w (BF p v))
theorem b2Z{p:Pc}{v:List Int}{w:Int}(h:ovP p v w):0≤ovL w (BF p v)∧ovL w (BF p v)≤2^61+8200:=by
 have h1:=VD (w:=w) h.w0.1 (l:=BF p v)
 have h2:=(Oa (v:=v) h.re.ok).1
 have h3:=h.re.ct
 omega
theorem b3a{p:Pc}{v:List Int}{w:Int}(h:ovP p v w):ovJ p v w 0 0 p.ind:=by
 have hi:=h.re.ok.ind;have hc:=h.re.ok.cl
 refine⟨by omega,⟨by omega,by omega,by simp;omega⟩,fun _=> ?_,by omega⟩
 have:=Wv (w:=w) (v:=v) hi.1 (l:=p.chunks) (s:=blk p.ind) fun i c hi hl=>(h.re.ok.sp i c hi hl).2.2.1
 rw[Rj hi.1] at this
 rw[BF,←this];simp
theorem b3b{p:Pc}{v:List Int}{w i o n:Int}(h:ovP p v w)(hj:ovJ p v w i o n):(0≤i∧i≤p.chunks.length)∧(0≤o∧o≤2^61+8200)∧(0≤n∧n≤2^61+8200)∧p.chunks.length≤80:=by
 have h1:=b2Z h;have h2:=hj.1;have h3:=hj.2.1;have h4:=h.re.ct;have h5:=h.re.ok.cl
 refine⟨h2,⟨h3.1,?_⟩,⟨h3.2.1,by omega⟩,by omega⟩
 by_cases e:i<p.chunks.length
 ·have:=hj.2.2.1 e
  have h6:= @Ww p.ind w v (p.chunks.drop i.toNat) n
  omega
 ·have:=hj.2.2.2 (by omega);omega
theorem b3c{p:Pc}{v:List Int}{w i o n:Int}{c:Ch}(h:ovP p v w)(hj:ovJ p v w i o n)(hc:p.chunks[i.toNat]? =some c):n+c.text.length≤2^61+8200:=by
 have h3:=hj.2.1.2.2;have h4:=h.re.ct;have h5:=h.re.ok.cl;have h1:=hj.1
 rw[Dm hc,show Ci (c::p.chunks.drop (i.toNat+1))=c.text.length+Ci (p.chunks.drop (i.toNat+1)) by simp [Ci]] at h3
 omega
theorem a2X{p:Pc}{i:Int}{c:Ch}(h:Bo p=true)(h0:0≤i)(hc:p.chunks[i.toNat]? =some c)(hi:i+1=p.chunks.length):c.nest=0:=by
 simp only[Bo,EF,Bool.and_eq_true] at h
 have h1:=h.2.2.1.2.2
 have h2:p.chunks.getLast? =some c:=by
  rw[List.getLast?_eq_getElem?,show p.chunks.length-1=i.toNat by omega];exact hc
 rw[h2] at h1
 simp only[Option.getD_some,NZ,Bool.and_eq_true,decide_eq_true_eq] at h1
 exact h1.2.2.2
theorem a2Y{p:Pc}{v:List Int}{w i o n:Int}{c:Ch}(h:ovP p v w)(hj:ovJ p v w i o n)(hc:p.chunks[i.toNat]? =some c)(hi:i+1=p.chunks.length):ovJ p v w (i+1) (o+max (n+c.text.length-w) 0) (p.ind+c.nest):=by
 have h2:=hj.2.2.1 (by omega)
 rw[Dm hc,List.drop_of_length_le (by have:=hj.1;omega),ovN] at h2
 have h3:=h.re.ok.ind;have h4:=a2X h.ok hj.1.1 hc hi
 refine⟨by have:=hj.1;omega,⟨by have:=hj.2.1;omega,by omega,?_⟩,by omega,fun _=>h2⟩
 rw[List.drop_of_length_le (by have:=hj.1;omega),h4]
 have:=hj.1
 simp [Ci];omega
theorem a2Z{p:Pc}{v:List Int}{w i o n:Int}{c:Ch}(hj:ovJ p v w i o n)(hc:p.chunks[i.toNat]? =some c)(hi:i+1≠p.chunks.length):
 ovN p.ind w v (p.chunks.drop i.toNat) n=(if Ce v c then max (n+c.text.length-w) 0+ovN p.ind w v (p.chunks.drop (i+1).toNat) (p.ind+c.nest) else ovN p.ind w v (p.chunks.drop (i+1).toNat) (n+c.text.length+(if c.space then 1 else 0)))∧i+1<p.chunks.length:=by
 have h1:=(Cx hc).1
 have h2:=hj.1
 refine⟨?_,by omega⟩
 rw[Dm hc,BG h2.1,List.drop_eq_getElem_cons (show i.toNat+1<p.chunks.length by omega),ovN]
theorem a3a{l:List Ch}{i:Nat}{c:Ch}(h:l[i]? =some c):Ci (l.drop i)=c.text.length+Ci (l.drop (i+1)):=by rw[Dm h];simp [Ci]
theorem a3b{p:Pc}{v:List Int}{w i o n:Int}{c:Ch}(h:ovP p v w)(hj:ovJ p v w i o n)(hc:p.chunks[i.toNat]? =some c)(hi:i+1≠p.chunks.length)(hs:Ce v c=true):ovJ p v w (i+1) (o+max (n+c.text.length-w) 0) (p.ind+c.nest):=by
 have h1:=a2Z hj hc hi
 have h2:=hj.2.2.1 (by omega)
 rw[h1.1,if_pos hs] at h2
 have h3:=h.re.ok.ind;have h4:=(h.re.ok.sp i.toNat c hc (by have:=hj.1;omega)).2.2
 have h5:=hj.2.1;have h6:=hj.1
 have h7:=a3a hc
 rw[h7] at h5
 refine⟨by omega,⟨by omega,by omega,?_⟩,fun _=>by omega,by omega⟩
 rw[BG h6.1];omega
theorem a3c{p:Pc}{v:List Int}{w i o n m:Int}{c:Ch}(h:ovP p v w)(hj:ovJ p v w i o n)(hc:p.chunks[i.toNat]? =some c)(hi:i+1≠p.chunks.length)(hs:Ce v c=false)(hm:m=n+c.text.length+(if c.space then 1 else 0)):ovJ p v w (i+1) o m:=by
 have h1:=a2Z hj hc hi
 have h2:=hj.2.2.1 (by omega)
 rw[h1.1,if_neg (by rw[hs];simp),←hm] at h2
 have h5:=hj.2.1;have h6:=hj.1
 have h7:=a3a hc
 rw[h7] at h5
 refine⟨by omega,⟨by omega,by split at hm<;>omega,?_⟩,fun _=>h2,by omega⟩
 rw[BG h6.1];split at hm<;>omega
theorem b3d{p:Pc}{v:List Int}{w i o n:Int}{c:Ch}(hj:ovJ p v w i o n)(h:ovP p v w)(hc:p.chunks[i.toNat]? =some c)(hi:i+1=p.chunks.length)(hg:n+(c.text.length:Int)>w):ovJ p v w (i+1) (o+(n+(c.text.length:Int))-w) (p.ind+c.nest):=by
 have:=a2Y h hj hc hi
 rwa [show o+max (n+c.text.length-w) 0=o+(n+(c.text.length:Int))-w by omega] at this
theorem b3e{p:Pc}{v:List Int}{w i o n:Int}{c:Ch}(hj:ovJ p v w i o n)(h:ovP p v w)(hc:p.chunks[i.toNat]? =some c)(hi:i+1=p.chunks.length)(hg:¬n+(c.text.length:Int)>w):ovJ p v w (i+1) o (p.ind+c.nest):=by
 have:=a2Y h hj hc hi
 rwa [show o+max (n+c.text.length-w) 0=o by omega] at this
theorem b3f{p:Pc}{v:List Int}{w i o n:Int}{c:Ch}(hj:ovJ p v w i o n)(h:ovP p v w)(hc:p.chunks[i.toNat]? =some c)(hi:i+1≠p.chunks.length)(hs:Ce v (Cz p i)=true)(hg:n+(c.text.length:Int)>w):ovJ p v w (i+1) (o+(n+(c.text.length:Int))-w) (p.ind+c.nest):=by
 have:=a3b h hj hc hi (Hy hc hs)
 rwa [show o+max (n+c.text.length-w) 0=o+(n+(c.text.length:Int))-w by omega] at this
theorem b3g{p:Pc}{v:List Int}{w i o n:Int}{c:Ch}(hj:ovJ p v w i o n)(h:ovP p v w)(hc:p.chunks[i.toNat]? =some c)(hi:i+1≠p.chunks.length)(hs:Ce v (Cz p i)=true)(hg:¬n+(c.text.length:Int)>w):ovJ p v w (i+1) o (p.ind+c.nest):=by
 have:=a3b h hj hc hi (Hy hc hs)
 rwa [show o+max (n+c.text.length-w) 0=o by omega] at this
theorem b3h{p:Pc}{v:List Int}{w i o n:Int}{c:Ch}(hj:ovJ p v w i o n)(h:ovP p v w)(hc:p.chunks[i.toNat]? =some c)(hi:i+1≠p.chunks.length)(hs:Ce v (Cz p i)=false)(hb:c.space=true):ovJ p v w (i+1) o (n+(c.text.length:Int)+1):=
 a3c h hj hc hi (Hy hc hs) (by rw[hb];rfl)
theorem b3i{p:Pc}{v:List Int}{w i o n:Int}{c:Ch}(hj:ovJ p v w i o n)(h:ovP p v w)(hc:p.chunks[i.toNat]? =some c)(hi:i+1≠p.chunks.length)(hs:Ce v (Cz p i)=false)(hb:c.space=false):ovJ p v w (i+1) o (n+(c.text.length:Int)):=
 a3c h hj hc hi (Hy hc hs) (by rw[hb];simp)
theorem b3j{p:Pc}{v:List Int}{w i o n:Int}{c:Ch}(h:ovP p v w)(hj:ovJ p v w i o n)(hc:p.chunks[i.toNat]? =some c):(0≤c.nest∧c.nest≤40)∧(0≤p.ind∧p.ind≤60):=by
 have hl:=(Cx hc).1
 refine⟨?_,h.re.ok.ind⟩
 by_cases e:i+1=p.chunks.length
 ·have:=a2X h.ok hj.1.1 hc e;omega
 ·exact(h.re.ok.sp i.toNat c hc (by have:=hj.1;omega)).2.2
theorem b3k{p:Pc}{v:List Int}{w i o n:Int}{c:Ch}(h:ovP p v w)(hj:ovJ p v w i o n)(hc:p.chunks[i.toNat]? =some c)(hi:i+1≠p.chunks.length):(0≤i∧i<p.chunks.length)∧(0≤(Cz p i).rule∧(Cz p i).rule<v.length):=by
 have hl:=(Cx hc).1
 have h1:=h.re.ok.sp i.toNat c hc (by have:=hj.1;omega)
 rw[Hx hc,h.re.vl]
 exact⟨by have:=hj.1;omega,h1.1⟩
attribute [local irreducible] ovJ Ce
def KT:Sig:= {X:=Pc×List Int×Int,args:=fun x=>[.agg (pcA false x.1),Ad x.2.1,.int .i64 x.2.2],pre:=fun x=>ovP x.1 x.2.1 x.2.2,Y:=Unit,post:=fun x y=>True,res:=fun x y=> .int .i64 (ovL x.2.2 (BF x.1 x.2.1)),outs:=fun x y=>[.top,.top,.top],keep:=false}
def KU(x:Pc×List Int×Int):LS:= {ι:=Int×Int×Int,inv:=fun i=>ovJ x.1 x.2.1 x.2.2 i.1 i.2.1 i.2.2,regs:=fun i=>[(1,Ad x.2.1),(2,.int .i64 x.2.2),(3,.box 0 (pcA false x.1)),(7,.int .i64 i.2.1),(8,.int .i64 i.2.2),(9,.int .i64 i.1)],als:=[],meas:=fun i=>x.1.chunks.length-i.1.toNat}
def Wx(x:Pc×List Int×Int)(e:Ch)(i:Int×Int×Int):Prop:=Ab (decide (i.2.2+(↑(List.length e.text):Int)>x.2.2)) (inR IntKind.i64 (i.2.1+(i.2.2+(↑(List.length e.text):Int)))∧inR IntKind.i64 (i.2.1+(i.2.2+(↑(List.length e.text):Int))-x.2.2)∧(true=true∧(true=true∧(((0:Int)≤i.1∧i.1<(↑(List.length x.1.chunks):Int))∧(∀(e_1:Ch),x.1.chunks[Int.toNat i.1]? =some e_1→inR IntKind.i64 (x.1.ind+e_1.nest)∧inR IntKind.i64 (i.1+(1:Int))∧(eN (KU x) i [Ad x.2.1,.int .i64 x.2.2,.box 0 [.int .i64 x.1.ind,AV.sl false 0 2 Ru ruA x.1.rules,AV.sl false 0 5 Ch chA x.1.chunks,AV.sl false 0 3 Sn snA x.1.spans,AV.sl false 0 2 Ti tiA x.1.ties],.int .i64 (i.2.1+(i.2.2+(↑(List.length e.text):Int))-x.2.2),.int .i64 (x.1.ind+e_1.nest),.int .i64 (i.1+(1:Int))])))))) (true=true∧(true=true∧(((0:Int)≤i.1∧i.1<(↑(List.length x.1.chunks):Int))∧(∀(e:Ch),x.1.chunks[Int.toNat i.1]? =some e→inR IntKind.i64 (x.1.ind+e.nest)∧inR IntKind.i64 (i.1+(1:Int))∧(eN (KU x) i [Ad x.2.1,.int .i64 x.2.2,.box 0 [.int .i64 x.1.ind,AV.sl false 0 2 Ru ruA x.1.rules,AV.sl false 0 5 Ch chA x.1.chunks,AV.sl false 0 3 Sn snA x.1.spans,AV.sl false 0 2 Ti tiA x.1.ties],.int .i64 i.2.1,.int .i64 (x.1.ind+e.nest),.int .i64 (i.1+(1:Int))])))))
theorem b3l:Ah G Tryz.prog 185 KT:=
 vcFun_okP [(90,0,GE)] [] false (fun x=>[(4,KU x)]) Tryz.func185 rfl (by decide) ⟨Wt,trivial⟩ (fun(x:Pc×List Int×Int)=>(∀(y:Unit),True→True∧True∧True∧True∧True)∧eA (KU x) [Ad x.2.1,.int .i64 x.2.2,.box 0 [.int .i64 x.1.ind,AV.sl false 0 2 Ru ruA x.1.rules,AV.sl false 0 5 Ch chA x.1.chunks,AV.sl false 0 3 Sn snA x.1.spans,AV.sl false 0 2 Ti tiA x.1.ties],.int .i64 (0:Int),.int .i64 x.1.ind,.int .i64 (0:Int)]∧∀(i:Int×Int×Int),ovJ x.1 x.2.1 x.2.2 i.1 i.2.1 i.2.2→Ab (decide (i.1<(↑(List.length x.1.chunks):Int))) (((0:Int)≤i.1∧i.1<(↑(List.length x.1.chunks):Int))∧∀(e:Ch),x.1.chunks[Int.toNat i.1]? =some e→inR IntKind.i64 (i.2.2+(↑(List.length e.text):Int))∧inR IntKind.i64 (i.1+(1:Int))∧Ab (i.1+(1:Int)==(↑(List.length x.1.chunks):Int)) (Wx x e i) (cA GE [.agg [.int .i64 x.1.ind,AV.sl false 0 2 Ru ruA x.1.rules,AV.sl false 0 5 Ch chA x.1.chunks,AV.sl false 0 3 Sn snA x.1.spans,AV.sl false 0 2 Ti tiA x.1.ties],Ad x.2.1,.int .i64 i.1] fun x_1 y=>Ab (Ce x_1.2.1 (Cz x_1.1 x_1.2.2)) (Wx x e i) (((0:Int)≤i.1∧i.1<(↑(List.length x.1.chunks):Int))∧∀(e_1:Ch),x.1.chunks[Int.toNat i.1]? =some e_1→Ab e_1.space (inR IntKind.i64 (i.2.2+(↑(List.length e.text):Int)+(1:Int))∧inR IntKind.i64 (i.1+(1:Int))∧eN (KU x) i [Ad x.2.1,.int .i64 x.2.2,.box 0 [.int .i64 x.1.ind,AV.sl false 0 2 Ru ruA x.1.rules,AV.sl false 0 5 Ch chA x.1.chunks,AV.sl false 0 3 Sn snA x.1.spans,AV.sl false 0 2 Ti tiA x.1.ties],.int .i64 i.2.1,.int .i64 (i.2.2+(↑(List.length e.text):Int)+(1:Int)),.int .i64 (i.1+(1:Int))]) (inR IntKind.i64 (i.1+(1:Int))∧eN (KU x) i [Ad x.2.1,.int .i64 x.2.2,.box 0 [.int .i64 x.1.ind,AV.sl false 0 2 Ru ruA x.1.rules,AV.sl false 0 5 Ch chA x.1.chunks,AV.sl false 0 3 Sn snA x.1.spans,AV.sl false 0 2 Ti tiA x.1.ties],.int .i64 i.2.1,.int .i64 (i.2.2+(↑(List.length e.text):Int)),.int .i64 (i.1+(1:Int))])))) (rA KT x [.int .i64 i.2.1,.top,.top,.top])) (fun x=>by kernel_rfl) fun(x:Pc×List Int×Int) (hx:ovP x.1 x.2.1 x.2.2)=>(by
 dsimp only[Wx,cA,Bl,eA,eN,KU,Ad,pcA,rA,Bj,GE,KT,Bm,Bn,Aq,Aw,mvL,lnL,mvE,lnE,mvG,mvH,lnG,lnH,Ba]
 obtain⟨p,v,w⟩:=x;dsimp only at hx ⊢
 have hx:ovP p v w:=hx
 have h1:=hx.re.ok.ind;have h2:=hx.re.ok.cl;have h3:=hx.w0
 have hJ:∀ {i o n:Int},ovJ p v w i o n→¬i<p.chunks.length→o=ovL w (BF p v):=fun h hi=>by unfold ovJ at h;exact h.2.2.2 (by omega)
 (repeat' first|refine Dp p ?_|(with_reducible first|rfl|exact True.intro|apply AG|apply And.intro|((first|apply Au|apply AE|apply Av|apply AF)<;>intro _))|(apply As<;>intro _)|apply AD|refine Af () ?_ ?_|((first|apply AK|apply AJ|apply AI|apply AH|apply AC|apply AB|apply AA|apply Az|apply Ax)<;>try dsimp only)|apply Af|(refine Prod.forall.2 ?_;intro _;try dsimp only)|(intro _;try dsimp only))
 all_goals(try(repeat(rename p.chunks[_]? =some _=>hq;revert hq;rename p.chunks[_]? =some _=>hr;intro hq;rw[hr] at hq;cases hq)))
 all_goals first
  |with_reducible rfl
  |with_reducible assumption
  |exact b3a hx
  |exact b3d ‹_› hx ‹_› ‹_› ‹_›
  |exact b3e ‹_› hx ‹_› ‹_› ‹_›
  |exact b3f ‹_› hx ‹_› ‹_› ‹_› ‹_›
  |exact b3g ‹_› hx ‹_› ‹_› ‹_› ‹_›
  |exact b3h ‹_› hx ‹_› ‹_› ‹_› ‹_›
  |exact b3i ‹_› hx ‹_› ‹_› ‹_› ‹_›
  |exact hJ ‹_› ‹_›
  |exact(hJ ‹_› ‹_›).symm
  |(have hq:=b3b hx (show ovJ _ _ _ _ _ _ by assumption);(try have hl:=b3c hx (show ovJ _ _ _ _ _ _ by assumption) ‹_›);(try have hn:=b3j hx (show ovJ _ _ _ _ _ _ by assumption) ‹_›);(try simp only[Aj]);omega)
  |(have hq:=b3k hx (show ovJ _ _ _ _ _ _ by assumption) ‹_› ‹_›;omega)
  |skip)
end Go.My
end
section
namespace Go.My
open Go.Eng Go.Proofs
variable {G:GInv}
def sn0:Sn:=⟨0,0,0⟩
def Jn(p:Pc)(i:Int):Sn:=p.spans.getD i.toNat sn0
theorem Ot{p:Pc}{i:Int}{s:Sn}(h:p.spans[i.toNat]? =some s):Jn p i=s:=by simp [Jn,List.getD,h]
def snV(p:Pc)(v:List Int)(i k:Int)(b:Bool):Prop:=((Jn p i).fr≤k∧k≤(Jn p i).tuu+1)∧b=((p.chunks.take k.toNat).drop (Jn p i).fr.toNat).any (Fu p v)
theorem a3d{p:Pc}{v:List Int}{i:Int}{s:Sn}(hp:pcOk p)(hs:p.spans[i.toNat]? =some s):snV p v i s.fr false:=by
 have h:=(hp.sn s (AZ hs)).1
 unfold snV
 rw[Ot hs]
 exact⟨by omega,by rw[List.drop_of_length_le (by rw[List.length_take];omega)];rfl⟩
theorem Rl{p:Pc}{v:List Int}{i k:Int}{b d:Bool}{s:Sn}{c:Ch}(h:snV p v i k b)(hp:pcOk p)(hs:p.spans[i.toNat]? =some s)(hk:k≤s.tuu)(hc:p.chunks[k.toNat]? =some c)(hd:d=(b||Fu p v c)):snV p v i (k+1) d:=by
 have h1:=(hp.sn s (AZ hs)).1
 have hl:=(Cx hc).1
 unfold snV at h ⊢
 rw[Ot hs] at h ⊢
 refine⟨by omega,?_⟩
 rw[BG (by omega),Df hc,List.drop_append_of_le_length (by rw[List.length_take];omega),List.any_append,←h.2,hd]
 simp
theorem a3e{p:Pc}{v:List Int}{i k:Int}{b:Bool}{s:Sn}(h:snV p v i k b)(hs:p.spans[i.toNat]? =some s)(hk:¬k≤s.tuu):snS p v s=b:=by
 unfold snV at h
 rw[Ot hs] at h
 rw[snS,show s.tuu+1=k by omega];exact h.2.symm
theorem Rm{p:Pc}{v:List Int}{i k:Int}{b:Bool}{s:Sn}(h:snV p v i k b)(hp:pcOk p)(hs:p.spans[i.toNat]? =some s):((0≤s.fr∧s.fr≤k)∧k≤s.tuu+1)∧s.tuu<(p.chunks.length:Int)-1∧(0≤s.cost∧s.cost≤9):=by
 have h1:=hp.sn s (AZ hs)
 unfold snV at h
 rw[Ot hs] at h
 omega
theorem a3f{p:Pc}{v:List Int}{i k:Int}{b:Bool}{s:Sn}{c:Ch}(h:snV p v i k b)(hp:pcOk p)(hs:p.spans[i.toNat]? =some s)(hk:k≤s.tuu)(hc:p.chunks[k.toNat]? =some c):0≤c.rule∧c.rule<p.rules.length:=by
 have h1:=Rm h hp hs
 exact(hp.sp k.toNat c hc (by omega)).1
theorem a3g{p:Pc}{v:List Int}{i k:Int}{b:Bool}{s:Sn}(h:snV p v i k b)(hs:p.spans[i.toNat]? =some s)(hk:k≤s.tuu):((Jn p i).tuu+1-(k+1)).toNat<((Jn p i).tuu+1-k).toNat:=by rw[Ot hs];omega
theorem a3h{p:Pc}{v:List Int}{i n a:Int}{r:Ru}(hi:bdI p v i n)(hlt:i<v.length)(ha:v[i.toNat]? =some a)(hr:p.rules[i.toNat]? =some r):bdI p v (i+1) (n+r.cost*a):=by
 rw[Int.mul_comm];exact a1V hi hlt ha hr
theorem a3i{p:Pc}{v:List Int}{i n a:Int}{r:Ru}(h:bndP p v)(hi:bdI p v i n)(ha:v[i.toNat]? =some a)(hr:p.rules[i.toNat]? =some r):0≤r.cost*a∧r.cost*a≤27:=by
 rw[Int.mul_comm];exact a1W h hi ha hr
theorem a3j{p:Pc}{v:List Int}{i k n:Int}{b:Bool}{s:Sn}(hi:bdJ p v i n)(hlt:i<p.spans.length)(hs:p.spans[i.toNat]? =some s)(hv:snV p v i k b)(hk:¬k≤s.tuu)(hb:b=true):bdJ p v (i+1) (n+s.cost):=a1X hi hlt hs (by rw[a3e hv hs hk];exact hb)
theorem a3k{p:Pc}{v:List Int}{i k n:Int}{b:Bool}{s:Sn}(hi:bdJ p v i n)(hlt:i<p.spans.length)(hs:p.spans[i.toNat]? =some s)(hv:snV p v i k b)(hk:¬k≤s.tuu)(hb:b=false):bdJ p v (i+1) n:=a1Y hi hlt hs (by rw[a3e hv hs hk];exact hb)
theorem b3m{p:Pc}{v:List Int}{c:Ch}{a:Int}(h:c.rule<v.length)(ha:v[c.rule.toNat]? =some a):decide (a≥c.fr)=(false||Fu p v c):=by
 rw[VM h,Ce,Og ha];rfl
theorem b3n{p:Pc}{v:List Int}{c:Ch}(h:¬c.rule<v.length):false=(false||Fu p v c):=by rw[a1G h];rfl
theorem b3o{p:Pc}{v:List Int}{k:Int}{c:Ch}(hp:renP p v)(h:0≤c.rule∧c.rule<p.rules.length)(hc:p.chunks[k.toNat]? =some c):Ce v (Cz p k)=(false||Fu p v c):=by
 rw[Hx hc,VM (by rw[hp.vl];exact h.2)];rfl
theorem Mw{p:Pc}{v:List Int}{i k:Int}{b:Bool}{s:Sn}(h:snV p v i k b)(hp:pcOk p)(hs:p.spans[i.toNat]? =some s)(hk:k≤s.tuu):p.chunks[k.toNat]? =some (Cz p k)∧(0≤(Cz p k).rule∧(Cz p k).rule<p.rules.length):=by
 have h1:=Rm h hp hs
 have h2:=b2a (p:=p) (i:=k) (by omega) (by omega)
 exact⟨h2,a3f h hp hs hk h2⟩
theorem a3l{p:Pc}{v:List Int}{i k:Int}{b:Bool}{s:Sn}(h:snV p v i k b)(hp:pcOk p)(hs:p.spans[i.toNat]? =some s)(hk:k≤s.tuu)(hb:b=true):snV p v i (k+1) true:=Rl h hp hs hk (Mw h hp hs hk).1 (by rw[hb];rfl)
theorem b3p{p:Pc}{v:List Int}{i k a:Int}{b:Bool}{s:Sn}{c:Ch}(h:snV p v i k b)(hp:pcOk p)(hs:p.spans[i.toNat]? =some s)(hk:k≤s.tuu)(hb:b=false)(hc:p.chunks[k.toNat]? =some c)(hl:c.rule<v.length)(ha:v[c.rule.toNat]? =some a):snV p v i (k+1) (decide (a≥c.fr)):=Rl h hp hs hk hc (by rw[hb];exact b3m hl ha)
theorem b3q{p:Pc}{v:List Int}{i k:Int}{b:Bool}{s:Sn}{c:Ch}(h:snV p v i k b)(hp:pcOk p)(hs:p.spans[i.toNat]? =some s)(hk:k≤s.tuu)(hb:b=false)(hc:p.chunks[k.toNat]? =some c)(hl:¬c.rule<v.length):snV p v i (k+1) false:=Rl h hp hs hk hc (by rw[hb];exact b3n hl)
theorem b3r{p:Pc}{v:List Int}{i k:Int}{b:Bool}{s:Sn}(h:snV p v i k b)(hp:renP p v)(hs:p.spans[i.toNat]? =some s)(hk:k≤s.tuu)(hb:b=false):snV p v i (k+1) (Ce v (Cz p k)):=
 Rl h hp.ok hs hk (Mw h hp.ok hs hk).1 (by rw[hb];exact b3o hp (Mw h hp.ok hs hk).2 (Mw h hp.ok hs hk).1)
attribute [local irreducible] bdI bdJ Cj snS snV Ce
def HB(x:Pc×List Int)(i:Int×Int):LS:= {ι:=Bool×Int,inv:=fun j=>snV x.1 x.2 i.1 j.2 j.1,regs:=fun j=>[(1,Ad x.2),(2,.box 0 (pcA false x.1)),(5,.int .i64 i.2),(7,.int .i64 i.1),(8,.bool j.1),(9,.int .i64 j.2)],als:=[],meas:=fun j=>((Jn x.1 i.1).tuu+1-j.2).toNat}
def HC(x:Pc×List Int):LS:= {ι:=Int×Int,inv:=fun i=>bdJ x.1 x.2 i.1 i.2,regs:=fun i=>[(1,Ad x.2),(2,.box 0 (pcA false x.1)),(5,.int .i64 i.2),(7,.int .i64 i.1)],als:=[],meas:=fun i=>x.1.spans.length-i.1.toNat,sub:=fun i=>[(11,HB x i)]}
def Jo(x:Pc×List Int):LS:= {ι:=Int×Int,inv:=fun i=>bdI x.1 x.2 i.1 i.2,regs:=fun i=>[(1,Ad x.2),(2,.box 0 (pcA false x.1)),(5,.int .i64 i.2),(6,.int .i64 i.1)],als:=[],meas:=fun i=>x.2.length-i.1.toNat}
def KV:Sig:= {X:=Pc×List Int,args:=fun x=>[.agg (pcA false x.1),Ad x.2],pre:=fun x=>bndP x.1 x.2,Y:=Unit,post:=fun x y=>True,res:=fun x y=> .int .i64 (Cj x.1 x.2),outs:=fun x y=>[.top,.top],keep:=false}
theorem b3s:Ah G Tryz.prog 151 KV:=
 vcFun_okP [] [] false (fun x=>[(3,Jo x),(7,HC x)]) Tryz.func151 rfl (by decide) trivial (fun(x:Pc×List Int)=>(∀(y:Unit),True→True∧True∧True∧True)∧eA (Jo x) [Ad x.2,.box 0 [.int .i64 x.1.ind,AV.sl false 0 2 Ru ruA x.1.rules,AV.sl false 0 5 Ch chA x.1.chunks,AV.sl false 0 3 Sn snA x.1.spans,AV.sl false 0 2 Ti tiA x.1.ties],.int .i64 (0:Int),.int .i64 (0:Int)]∧∀(i:Int×Int),bdI x.1 x.2 i.1 i.2→Ab (decide (i.1<(↑(List.length x.2):Int))) (true=true∧true=true∧((0:Int)≤i.1∧i.1<(↑(List.length x.1.rules):Int))∧∀(e:Ru),x.1.rules[Int.toNat i.1]? =some e→((0:Int)≤i.1∧i.1<(↑(List.length x.2):Int))∧∀(e_1:Int),x.2[Int.toNat i.1]? =some e_1→inR IntKind.i64 (e.cost*e_1)∧inR IntKind.i64 (i.2+e.cost*e_1)∧inR IntKind.i64 (i.1+(1:Int))∧eN (Jo x) i [Ad x.2,.box 0 [.int .i64 x.1.ind,AV.sl false 0 2 Ru ruA x.1.rules,AV.sl false 0 5 Ch chA x.1.chunks,AV.sl false 0 3 Sn snA x.1.spans,AV.sl false 0 2 Ti tiA x.1.ties],.int .i64 (i.2+e.cost*e_1),.int .i64 (i.1+(1:Int))]) (eA (HC x) [Ad x.2,.box 0 [.int .i64 x.1.ind,AV.sl false 0 2 Ru ruA x.1.rules,AV.sl false 0 5 Ch chA x.1.chunks,AV.sl false 0 3 Sn snA x.1.spans,AV.sl false 0 2 Ti tiA x.1.ties],.int .i64 i.2,.int .i64 (0:Int)]∧∀(i:Int×Int),bdJ x.1 x.2 i.1 i.2→Ab (decide (i.1<(↑(List.length x.1.spans):Int))) (((0:Int)≤i.1∧i.1<(↑(List.length x.1.spans):Int))∧∀(e:Sn),x.1.spans[Int.toNat i.1]? =some e→eA (HB x i) [Ad x.2,.box 0 [.int .i64 x.1.ind,AV.sl false 0 2 Ru ruA x.1.rules,AV.sl false 0 5 Ch chA x.1.chunks,AV.sl false 0 3 Sn snA x.1.spans,AV.sl false 0 2 Ti tiA x.1.ties],.int .i64 i.2,.int .i64 i.1,.bool false,.int .i64 e.fr]∧∀(i_1:Bool×Int),snV x.1 x.2 i.1 i_1.2 i_1.1→((0:Int)≤i.1∧i.1<(↑(List.length x.1.spans):Int))∧∀(e:Sn),x.1.spans[Int.toNat i.1]? =some e→Ab (decide (i_1.2≤e.tuu)) (((0:Int)≤i_1.2∧i_1.2<(↑(List.length x.1.chunks):Int))∧∀(e:Ch),x.1.chunks[Int.toNat i_1.2]? =some e→true=true∧true=true∧Ab i_1.1 (inR IntKind.i64 (i_1.2+(1:Int))∧eN (HB x i) i_1 [Ad x.2,.box 0 [.int .i64 x.1.ind,AV.sl false 0 2 Ru ruA x.1.rules,AV.sl false 0 5 Ch chA x.1.chunks,AV.sl false 0 3 Sn snA x.1.spans,AV.sl false 0 2 Ti tiA x.1.ties],.int .i64 i.2,.int .i64 i.1,.bool true,.int .i64 (i_1.2+(1:Int))]) (Ab (decide (e.rule<(↑(List.length x.2):Int))) (((0:Int)≤e.rule∧e.rule<(↑(List.length x.2):Int))∧∀(e_1:Int),x.2[Int.toNat e.rule]? =some e_1→inR IntKind.i64 (i_1.2+(1:Int))∧eN (HB x i) i_1 [Ad x.2,.box 0 [.int .i64 x.1.ind,AV.sl false 0 2 Ru ruA x.1.rules,AV.sl false 0 5 Ch chA x.1.chunks,AV.sl false 0 3 Sn snA x.1.spans,AV.sl false 0 2 Ti tiA x.1.ties],.int .i64 i.2,.int .i64 i.1,.bool (decide (e_1≥e.fr)),.int .i64 (i_1.2+(1:Int))]) (inR IntKind.i64 (i_1.2+(1:Int))∧eN (HB x i) i_1 [Ad x.2,.box 0 [.int .i64 x.1.ind,AV.sl false 0 2 Ru ruA x.1.rules,AV.sl false 0 5 Ch chA x.1.chunks,AV.sl false 0 3 Sn snA x.1.spans,AV.sl false 0 2 Ti tiA x.1.ties],.int .i64 i.2,.int .i64 i.1,.bool false,.int .i64 (i_1.2+(1:Int))]))) (Ab i_1.1 (((0:Int)≤i.1∧i.1<(↑(List.length x.1.spans):Int))∧∀(e:Sn),x.1.spans[Int.toNat i.1]? =some e→inR IntKind.i64 (i.2+e.cost)∧inR IntKind.i64 (i.1+(1:Int))∧eN (HC x) i [Ad x.2,.box 0 [.int .i64 x.1.ind,AV.sl false 0 2 Ru ruA x.1.rules,AV.sl false 0 5 Ch chA x.1.chunks,AV.sl false 0 3 Sn snA x.1.spans,AV.sl false 0 2 Ti tiA x.1.ties],.int .i64 (i.2+e.cost),.int .i64 (i.1+(1:Int))]) (inR IntKind.i64 (i.1+(1:Int))∧eN (HC x) i [Ad x.2,.box 0 [.int .i64 x.1.ind,AV.sl false 0 2 Ru ruA x.1.rules,AV.sl false 0 5 Ch chA x.1.chunks,AV.sl false 0 3 Sn snA x.1.spans,AV.sl false 0 2 Ti tiA x.1.ties],.int .i64 i.2,.int .i64 (i.1+(1:Int))]))) (rA KV x [.int .i64 i.2,.top,.top]))) (fun x=>by kernel_rfl) fun(x:Pc×List Int) (hx:bndP x.1 x.2)=>(by
 dsimp only[Bl,eA,eN,Ad,pcA,rA,Bj,KV,Bm,Jo,HC,HB,Bn,Aq,Aw,Ba]
 obtain⟨p,v⟩:=x;dsimp only at hx ⊢
 have hx:bndP p v:=hx
 have h1:=hx.ok.rl;have h2:=hx.vo.1;have h3:=hx.ok.snl;have h4:=hx.ok.cl
 (repeat' first|refine Dp p ?_|(with_reducible first|rfl|exact True.intro|apply AG|apply And.intro|((first|apply Au|apply AE|apply Av|apply AF)<;>intro _))|(apply As<;>intro _)|apply AD|refine Af () ?_ ?_|((first|apply AK|apply AJ|apply AI|apply AH|apply AC|apply AB|apply AA|apply Az|apply Ax)<;>try dsimp only)|apply Af|(refine Prod.forall.2 ?_;intro _;try dsimp only)|(intro _;try dsimp only))
 all_goals(try(repeat(rename p.spans[_]? =some _=>hq;revert hq;rename p.spans[_]? =some _=>hr;intro hq;rw[hr] at hq;cases hq)))
 all_goals first
  |with_reducible rfl
  |with_reducible assumption
  |omega
  |exact VS
  |exact a3h ‹_› ‹_› ‹_› ‹_›
  |exact VR ‹_› ‹_›
  |exact a3d hx.ok ‹_›
  |exact a3g ‹_› ‹_› ‹_›
  |exact a3j ‹_› ‹_› ‹_› ‹_› ‹_› ‹_›
  |exact a3k ‹_› ‹_› ‹_› ‹_› ‹_› ‹_›
  |exact QM ‹_› ‹_›
  |exact(QM ‹_› ‹_›)
  |(have hq:=QK hx (show bdI _ _ _ _ by assumption);(try have hm:=a3i hx (show bdI _ _ _ _ by assumption) ‹_› ‹_›);(try simp only[Aj]);omega)
  |(have hq:=QL hx (show bdJ _ _ _ _ by assumption);(try have hr:=Rm (show snV _ _ _ _ _ by assumption) hx.ok ‹_›);(try have hc:=a3f (show snV _ _ _ _ _ by assumption) hx.ok ‹_› ‹_› ‹_›);(try simp only[Aj]);omega)
  |exact a3l ‹_› hx.ok ‹_› ‹_› ‹_›
  |exact b3p ‹_› hx.ok ‹_› ‹_› ‹_› ‹_› ‹_› ‹_›
  |exact b3q ‹_› hx.ok ‹_› ‹_› ‹_› ‹_› ‹_›
  |skip)
def KW:Sig:= {X:=Pc×List Int,args:=fun x=>[.agg (pcA false x.1),Ad x.2],pre:=fun x=>coP x.1 x.2,Y:=Unit,post:=fun x y=>True,res:=fun x y=> .int .i64 (Cj x.1 x.2),outs:=fun x y=>[.top,.top],keep:=false}
theorem b3t:Ah G Tryz.prog 187 KW:=
 vcFun_okP [(90,0,GE)] [] false (fun x=>[(3,Jo x),(7,HC x)]) Tryz.func187 rfl (by decide) ⟨Wt,trivial⟩ (fun(x:Pc×List Int)=>(∀(y:Unit),True→True∧True∧True∧True)∧eA (Jo x) [Ad x.2,.box 0 [.int .i64 x.1.ind,AV.sl false 0 2 Ru ruA x.1.rules,AV.sl false 0 5 Ch chA x.1.chunks,AV.sl false 0 3 Sn snA x.1.spans,AV.sl false 0 2 Ti tiA x.1.ties],.int .i64 (0:Int),.int .i64 (0:Int)]∧∀(i:Int×Int),bdI x.1 x.2 i.1 i.2→Ab (decide (i.1<(↑(List.length x.2):Int))) (true=true∧true=true∧((0:Int)≤i.1∧i.1<(↑(List.length x.1.rules):Int))∧∀(e:Ru),x.1.rules[Int.toNat i.1]? =some e→((0:Int)≤i.1∧i.1<(↑(List.length x.2):Int))∧∀(e_1:Int),x.2[Int.toNat i.1]? =some e_1→inR IntKind.i64 (e.cost*e_1)∧inR IntKind.i64 (i.2+e.cost*e_1)∧inR IntKind.i64 (i.1+(1:Int))∧eN (Jo x) i [Ad x.2,.box 0 [.int .i64 x.1.ind,AV.sl false 0 2 Ru ruA x.1.rules,AV.sl false 0 5 Ch chA x.1.chunks,AV.sl false 0 3 Sn snA x.1.spans,AV.sl false 0 2 Ti tiA x.1.ties],.int .i64 (i.2+e.cost*e_1),.int .i64 (i.1+(1:Int))]) (eA (HC x) [Ad x.2,.box 0 [.int .i64 x.1.ind,AV.sl false 0 2 Ru ruA x.1.rules,AV.sl false 0 5 Ch chA x.1.chunks,AV.sl false 0 3 Sn snA x.1.spans,AV.sl false 0 2 Ti tiA x.1.ties],.int .i64 i.2,.int .i64 (0:Int)]∧∀(i:Int×Int),bdJ x.1 x.2 i.1 i.2→Ab (decide (i.1<(↑(List.length x.1.spans):Int))) (((0:Int)≤i.1∧i.1<(↑(List.length x.1.spans):Int))∧∀(e:Sn),x.1.spans[Int.toNat i.1]? =some e→eA (HB x i) [Ad x.2,.box 0 [.int .i64 x.1.ind,AV.sl false 0 2 Ru ruA x.1.rules,AV.sl false 0 5 Ch chA x.1.chunks,AV.sl false 0 3 Sn snA x.1.spans,AV.sl false 0 2 Ti tiA x.1.ties],.int .i64 i.2,.int .i64 i.1,.bool false,.int .i64 e.fr]∧∀(i_1:Bool×Int),snV x.1 x.2 i.1 i_1.2 i_1.1→((0:Int)≤i.1∧i.1<(↑(List.length x.1.spans):Int))∧∀(e:Sn),x.1.spans[Int.toNat i.1]? =some e→Ab (decide (i_1.2≤e.tuu)) (Ab i_1.1 (inR IntKind.i64 (i_1.2+(1:Int))∧eN (HB x i) i_1 [Ad x.2,.box 0 [.int .i64 x.1.ind,AV.sl false 0 2 Ru ruA x.1.rules,AV.sl false 0 5 Ch chA x.1.chunks,AV.sl false 0 3 Sn snA x.1.spans,AV.sl false 0 2 Ti tiA x.1.ties],.int .i64 i.2,.int .i64 i.1,.bool true,.int .i64 (i_1.2+(1:Int))]) (cA GE [.agg [.int .i64 x.1.ind,AV.sl false 0 2 Ru ruA x.1.rules,AV.sl false 0 5 Ch chA x.1.chunks,AV.sl false 0 3 Sn snA x.1.spans,AV.sl false 0 2 Ti tiA x.1.ties],Ad x.2,.int .i64 i_1.2] fun x_1 y=>inR IntKind.i64 (i_1.2+(1:Int))∧eN (HB x i) i_1 [Ad x.2,.box 0 [.int .i64 x.1.ind,AV.sl false 0 2 Ru ruA x.1.rules,AV.sl false 0 5 Ch chA x.1.chunks,AV.sl false 0 3 Sn snA x.1.spans,AV.sl false 0 2 Ti tiA x.1.ties],.int .i64 i.2,.int .i64 i.1,.bool (Ce x_1.2.1 (Cz x_1.1 x_1.2.2)),.int .i64 (i_1.2+(1:Int))])) (Ab i_1.1 (((0:Int)≤i.1∧i.1<(↑(List.length x.1.spans):Int))∧∀(e:Sn),x.1.spans[Int.toNat i.1]? =some e→inR IntKind.i64 (i.2+e.cost)∧inR IntKind.i64 (i.1+(1:Int))∧eN (HC x) i [Ad x.2,.box 0 [.int .i64 x.1.ind,AV.sl false 0 2 Ru ruA x.1.rules,AV.sl false 0 5 Ch chA x.1.chunks,AV.sl false 0 3 Sn snA x.1.spans,AV.sl false 0 2 Ti tiA x.1.ties],.int .i64 (i.2+e.cost),.int .i64 (i.1+(1:Int))]) (inR IntKind.i64 (i.1+(1:Int))∧eN (HC x) i [Ad x.2,.box 0 [.int .i64 x.1.ind,AV.sl false 0 2 Ru ruA x.1.rules,AV.sl false 0 5 Ch chA x.1.chunks,AV.sl false 0 3 Sn snA x.1.spans,AV.sl false 0 2 Ti tiA x.1.ties],.int .i64 i.2,.int .i64 (i.1+(1:Int))]))) (rA KW x [.int .i64 i.2,.top,.top]))) (fun x=>by kernel_rfl) fun(x:Pc×List Int) (hx:coP x.1 x.2)=>(by
 dsimp only[cA,Bl,eA,eN,Ad,pcA,rA,Bj,GE,KW,Bm,Jo,HC,HB,Bn,Aq,Aw,mvL,lnL,mvE,lnE,mvG,mvH,lnG,lnH,Ba]
 obtain⟨p,v⟩:=x;dsimp only at hx ⊢
 have hy:coP p v:=hx
 have hx:bndP p v:=a2v hy
 have h1:=hx.ok.rl;have h2:=hx.vo.1;have h3:=hx.ok.snl;have h4:=hx.ok.cl
 (repeat' first|refine Dp p ?_|(with_reducible first|rfl|exact True.intro|apply AG|apply And.intro|((first|apply Au|apply AE|apply Av|apply AF)<;>intro _))|(apply As<;>intro _)|apply AD|refine Af () ?_ ?_|((first|apply AK|apply AJ|apply AI|apply AH|apply AC|apply AB|apply AA|apply Az|apply Ax)<;>try dsimp only)|apply Af|(refine Prod.forall.2 ?_;intro _;try dsimp only)|(intro _;try dsimp only))
 all_goals(try(repeat(rename p.spans[_]? =some _=>hq;revert hq;rename p.spans[_]? =some _=>hr;intro hq;rw[hr] at hq;cases hq)))
 all_goals first
  |with_reducible rfl
  |with_reducible assumption
  |omega
  |exact VS
  |exact a3h ‹_› ‹_› ‹_› ‹_›
  |exact VR ‹_› ‹_›
  |exact a3d hx.ok ‹_›
  |exact a3g ‹_› ‹_› ‹_›
  |exact a3j ‹_› ‹_› ‹_› ‹_› ‹_› ‹_›
  |exact a3k ‹_› ‹_› ‹_› ‹_› ‹_› ‹_›
  |exact QM ‹_› ‹_›
  |(have hq:=QK hx (show bdI _ _ _ _ by assumption);(try have hm:=a3i hx (show bdI _ _ _ _ by assumption) ‹_› ‹_›);(try simp only[Aj]);omega)
  |(have hq:=QL hx (show bdJ _ _ _ _ by assumption);(try have hr:=Rm (show snV _ _ _ _ _ by assumption) hx.ok ‹_›);(try simp only[Aj]);omega)
  |exact a3l ‹_› hx.ok ‹_› ‹_› ‹_›
  |exact b3r ‹_› hy.re ‹_› ‹_› ‹_›
  |(have hq:=Mw (show snV _ _ _ _ _ by assumption) hx.ok ‹_› ‹_›;rw[hy.re.vl];omega)
  |(have hq:=Mw (show snV _ _ _ _ _ by assumption) hx.ok ‹_› ‹_›;omega)
  |skip)
structure qcP (p:Pc) (v:List Int):Prop where
 co:coP p v
 ok:Bo p=true
theorem b3u{w:Int}:0≤wdF w∧wdF w≤100000:=by unfold wdF;omega
def Mx:Sig:= {X:=Pc×List Int×Int,args:=fun x=>[.agg (pcA false x.1),Ad x.2.1,.int .i64 x.2.2],pre:=fun x=>qcP x.1 x.2.1,Y:=Unit,post:=fun x y=>True,res:=fun x y=> .agg [.int .i64 (Bh x.1 x.2.1 x.2.2).over,.int .i64 (Bh x.1 x.2.1 x.2.2).sum],outs:=fun x y=>[.top,.top,.top],keep:=false}
def Rn(x:Pc×List Int×Int):LS:= {ι:=Unit,inv:=fun _=>True,regs:=fun _=>[(6,.box 0 [.int .i64 (Bh x.1 x.2.1 x.2.2).over,.int .i64 (Bh x.1 x.2.1 x.2.2).sum])],als:=[],meas:=fun _=>0}
def Mz(x:Pc×List Int×Int)(x_1:GZ.X):Prop:=cA KT [.agg [.int .i64 x.1.ind,AV.sl false 0 2 Ru ruA x.1.rules,AV.sl false 0 5 Ch chA x.1.chunks,AV.sl false 0 3 Sn snA x.1.spans,AV.sl false 0 2 Ti tiA x.1.ties],Ad x.2.1,.int .i64 (wdF x_1.1)] fun x_2 y=>cA KW [.agg [.int .i64 x.1.ind,AV.sl false 0 2 Ru ruA x.1.rules,AV.sl false 0 5 Ch chA x.1.chunks,AV.sl false 0 3 Sn snA x.1.spans,AV.sl false 0 2 Ti tiA x.1.ties],Ad x.2.1] fun x_3 y=>true=true∧(eA (Rn x) [.box 0 [.int .i64 (ovL x_2.2.2 (BF x_2.1 x_2.2.1)),.int .i64 (Cj x_3.1 x_3.2)]])
def Ro(x:Pc×List Int×Int):Prop:=cA GZ [.int .i64 x.2.2] fun x_1 y=>cA KT [.agg [.int .i64 x.1.ind,AV.sl false 0 2 Ru ruA x.1.rules,AV.sl false 0 5 Ch chA x.1.chunks,AV.sl false 0 3 Sn snA x.1.spans,AV.sl false 0 2 Ti tiA x.1.ties],Ad x.2.1,.int .i64 (wdF x_1.1)] fun x_2 y=>cA KW [.agg [.int .i64 x.1.ind,AV.sl false 0 2 Ru ruA x.1.rules,AV.sl false 0 5 Ch chA x.1.chunks,AV.sl false 0 3 Sn snA x.1.spans,AV.sl false 0 2 Ti tiA x.1.ties],Ad x.2.1] fun x_3 y=>true=true∧(eA (Rn x) [.box 0 [.int .i64 (ovL x_2.2.2 (BF x_2.1 x_2.2.1)),.int .i64 (Cj x_3.1 x_3.2)]])
theorem b3v:Ah G Tryz.prog 147 Mx:=
 vcFun_okP [(186,0,GZ),(185,0,KT),(187,0,KW)] [] false (fun x=>[(100001,Rn x)]) Tryz.func147 rfl (by decide) ⟨b2Y,b3l,b3t,trivial⟩ (fun(x:Pc×List Int×Int)=>(∀(y:Unit),True→(True∧True∧True)∧True∧True∧True∧True)∧true=true∧(((cA GZ [.int .i64 x.2.2] fun x_1 y=>(Mz x x_1)∧(Mz x x_1))∧(Ro x))∧(cA GZ [.int .i64 x.2.2] fun x_1 y=>((Mz x x_1)∧(Mz x x_1))∧(Mz x x_1))∧(Ro x)∧(Ro x))∧∀(i:Unit),True→∃(y:Unit),True∧(Bh x.1 x.2.1 x.2.2).over=(Bh x.1 x.2.1 x.2.2).over∧(Bh x.1 x.2.1 x.2.2).sum=(Bh x.1 x.2.1 x.2.2).sum∧True) (fun x=>by kernel_rfl) fun(x:Pc×List Int×Int) (hx:qcP x.1 x.2.1)=>(by
 dsimp only[Ro,Mz,cA,Bl,eA,Rn,Ad,pcA,Bj,KT,KW,GZ,Bm,Bn,Aq,Aw,mvL,lnL,mvE,lnE,mvG,mvH,lnG,lnH,Ba]
 obtain⟨p,v,w⟩:=x;dsimp only at hx ⊢
 have hx:qcP p v:=hx
 (repeat' first|refine Dp p ?_|(with_reducible first|rfl|exact True.intro|apply AG|apply And.intro|((first|apply Au|apply AE|apply Av|apply AF)<;>intro _))|(apply As<;>intro _)|apply AD|refine Af () ?_ ?_|((first|apply AK|apply AJ|apply AI|apply AH|apply AC|apply AB|apply AA|apply Az|apply Ax)<;>try dsimp only)|apply Af|(refine Prod.forall.2 ?_;intro _;try dsimp only)|(intro _;try dsimp only))
 all_goals first
  |with_reducible rfl
  |exact⟨hx.co.re,hx.ok,b3u⟩
  |exact hx.co
  |rfl
  |exact()
  |skip)
end Go.My
end
section
namespace Go.My
open Go.Eng Go.Proofs
variable {G:GInv}
def Jp:Sig:= {X:=Int×Int×Int×Int,args:=fun x=>[.agg [.int .i64 x.1,.int .i64 x.2.1],.agg [.int .i64 x.2.2.1,.int .i64 x.2.2.2]],pre:=fun x=>True,Y:=Unit,post:=fun x y=>True,res:=fun x y=> .bool (GB ⟨x.1,x.2.1⟩ ⟨x.2.2.1,x.2.2.2⟩),outs:=fun x y=>[.top,.top],keep:=false}
theorem b3w:Ah G Tryz.prog 149 Jp:=
 vcFun_okP [] [] false (fun x=>[]) Tryz.func149 rfl (by decide) trivial (fun(x:Int×Int×Int×Int)=>(∀(y:Unit),True→True∧True∧True∧True)∧Ab (decide (x.1<x.2.2.1)) (rA Jp x [.bool true,.top,.top]) (Ab (x.1==x.2.2.1) (rA Jp x [.bool (decide (x.2.1<x.2.2.2)),.top,.top]) (rA Jp x [.bool false,.top,.top]))) (fun x=>by kernel_rfl) fun(x:Int×Int×Int×Int) (hx:True)=>(by
 dsimp only[rA,Jp,Aq,Aw]
 obtain⟨a,b,c,d⟩:=x;dsimp only at hx ⊢
 (repeat' first|(with_reducible first|rfl|exact True.intro|apply AG|apply And.intro|((first|apply Au|apply AE|apply Av|apply AF)<;>intro _))|(apply As<;>intro _)|apply AD|refine Af () ?_ ?_|((first|apply AK|apply AJ|apply AI|apply AH|apply AC|apply AB|apply AA|apply Az|apply Ax)<;>try dsimp only)|apply Af|(refine Prod.forall.2 ?_;intro _;try dsimp only)|(intro _;try dsimp only))
 all_goals(simp [GB, *]<;>omega))
theorem b3x{a b:List Int}{i x y:Int}(h:cmI a b i)(hx:a[i.toNat]? =some x)(hy:b[i.toNat]? =some y)(hl:x<y): -1=Cy a b:=by rw[QO h hx hy,if_pos hl]
theorem b3y{a b:List Int}{i x y:Int}(h:cmI a b i)(hx:a[i.toNat]? =some x)(hy:b[i.toNat]? =some y)(hl:¬x<y)(hg:x>y):1=Cy a b:=by rw[QO h hx hy,if_neg hl,if_pos hg]
theorem b3z{a b:List Int}{i x y:Int}(h:cmI a b i)(hi:i<a.length)(hib:i<b.length)(hx:a[i.toNat]? =some x)(hy:b[i.toNat]? =some y)(hl:¬x<y)(hg:¬x>y):cmI a b (i+1):=
 a2d h hi (by omega) hx hy (by unfold Fw;rw[if_neg hl,if_neg (by omega)])
theorem a3m{a b:List Int}{i:Int}(h:cmI a b i)(hi:¬i<a.length∨¬i<b.length):Cy a b=if(a.length:Int)<b.length then-1 else if(a.length:Int)>b.length then 1 else 0:=by
 by_cases e:i<a.length
 ·rw[←a2c h e (by omega),if_neg (by have:=h.1;omega),if_pos (by have:=h.1;omega)]
 ·rw[VT h e]
  split
  ·rfl
  ·rw[if_neg (by have:=h.1;omega)]
attribute [local irreducible] cmI Fw Cy
def ER:Sig:= {X:=List Int×List Int,args:=fun x=>[Ad x.1,Ad x.2],pre:=fun x=>x.1.length<2^62∧x.2.length<2^62,Y:=Unit,post:=fun x y=>True,res:=fun x y=> .int .i64 (Cy x.1 x.2),outs:=fun x y=>[.top,.top],keep:=false}
def Rp(x:List Int×List Int):LS:= {ι:=Int,inv:=fun i=>cmI x.1 x.2 i,regs:=fun i=>[(0,Ad x.1),(1,Ad x.2),(5,.int .i64 i)],als:=[],meas:=fun i=>x.1.length-i.toNat}
theorem a3n:Ah G Tryz.prog 150 ER:=
 vcFun_okP [] [] false (fun x=>[(2,Rp x)]) Tryz.func150 rfl (by decide) trivial (fun(x:List Int×List Int)=>(∀(y:Unit),True→True∧True∧True∧True)∧eA (Rp x) [Ad x.1,Ad x.2,.int .i64 (0:Int)]∧∀(i:Int),cmI x.1 x.2 i→Ab (decide (i<(↑(List.length x.1):Int))) (Ab (decide (i<(↑(List.length x.2):Int))) (true=true∧true=true∧((0:Int)≤i∧i<(↑(List.length x.1):Int))∧∀(e:Int),x.1[Int.toNat i]? =some e→((0:Int)≤i∧i<(↑(List.length x.2):Int))∧∀(e_1:Int),x.2[Int.toNat i]? =some e_1→Ab (decide (e<e_1)) (rA ER x [.int .i64 (-1:Int),.top,.top]) (true=true∧true=true∧((0:Int)≤i∧i<(↑(List.length x.1):Int))∧∀(e:Int),x.1[Int.toNat i]? =some e→((0:Int)≤i∧i<(↑(List.length x.2):Int))∧∀(e_2:Int),x.2[Int.toNat i]? =some e_2→Ab (decide (e>e_2)) (rA ER x [.int .i64 (1:Int),.top,.top]) (inR IntKind.i64 (i+(1:Int))∧eN (Rp x) i [Ad x.1,Ad x.2,.int .i64 (i+(1:Int))]))) (Ab (decide ((↑(List.length x.1):Int)<(↑(List.length x.2):Int))) (rA ER x [.int .i64 (-1:Int),.top,.top]) (Ab (decide ((↑(List.length x.1):Int)>(↑(List.length x.2):Int))) (rA ER x [.int .i64 (1:Int),.top,.top]) (rA ER x [.int .i64 (0:Int),.top,.top])))) (Ab (decide ((↑(List.length x.1):Int)<(↑(List.length x.2):Int))) (rA ER x [.int .i64 (-1:Int),.top,.top]) (Ab (decide ((↑(List.length x.1):Int)>(↑(List.length x.2):Int))) (rA ER x [.int .i64 (1:Int),.top,.top]) (rA ER x [.int .i64 (0:Int),.top,.top])))) (fun x=>by kernel_rfl) fun(x:List Int×List Int) (hx:x.1.length<2^62∧x.2.length<2^62)=>(by
 dsimp only[eA,eN,Rp,Ad,rA,ER,Aq,Aw,Ba]
 obtain⟨a,b⟩:=x;dsimp only at hx ⊢
 obtain⟨h1,h2⟩:=hx
 have hrg:∀i,cmI a b i→0≤i∧i≤a.length∧i≤b.length:=fun i h=>by unfold cmI at h;exact h.1
 (repeat' first|(with_reducible first|rfl|exact True.intro|apply AG|apply And.intro|((first|apply Au|apply AE|apply Av|apply AF)<;>intro _))|(apply As<;>intro _)|apply AD|refine Af () ?_ ?_|((first|apply AK|apply AJ|apply AI|apply AH|apply AC|apply AB|apply AA|apply Az|apply Ax)<;>try dsimp only)|apply Af|(refine Prod.forall.2 ?_;intro _;try dsimp only)|(intro _;try dsimp only))
 all_goals(try(repeat(rename a[_]? =some _=>hq;revert hq;rename a[_]? =some _=>hr;intro hq;rw[hr] at hq;cases hq)))
 all_goals(try(repeat(rename b[_]? =some _=>hq;revert hq;rename b[_]? =some _=>hr;intro hq;rw[hr] at hq;cases hq)))
 all_goals first
  |with_reducible rfl
  |exact a2b
  |exact b3x ‹_› ‹_› ‹_› ‹_›
  |exact b3y ‹_› ‹_› ‹_› ‹_› ‹_›
  |exact b3z ‹_› ‹_› ‹_› ‹_› ‹_› ‹_› ‹_›
  |(have hq:=hrg _ ‹_›;(try simp only[Aj]);omega)
  |(rw[a3m ‹_› (.inl ‹_›)];split<;>(try split)<;>omega)
  |(rw[a3m ‹_› (.inr ‹_›)];split<;>(try split)<;>omega)
  |skip)
def KX:Sig:= {X:=List Int×Int×List Int×Int,args:=fun x=>[.agg [Ad x.1,.int .i64 x.2.1],.agg [Ad x.2.2.1,.int .i64 x.2.2.2]],pre:=fun x=>x.1.length<2^62∧x.2.2.1.length<2^62,Y:=Unit,post:=fun x y=>True,res:=fun x y=> .bool (Bt ⟨x.1,x.2.1⟩ ⟨x.2.2.1,x.2.2.2⟩),outs:=fun x y=>[.top,.top],keep:=false}
theorem a3o:Ah G Tryz.prog 188 KX:=
 vcFun_okP [(150,0,ER)] [] false (fun x=>[]) Tryz.func188 rfl (by decide) ⟨a3n,trivial⟩ (fun(x:List Int×Int×List Int×Int)=>(∀(y:Unit),True→True∧True∧True∧True)∧Ab (decide (x.2.1<x.2.2.2)) (rA KX x [.bool true,.top,.top]) (Ab (x.2.1==x.2.2.2) (cA ER [Ad x.1,Ad x.2.2.1] fun x_1 y=>rA KX x [.bool (decide (Cy x_1.1 x_1.2<(0:Int))),.top,.top]) (rA KX x [.bool false,.top,.top]))) (fun x=>by kernel_rfl) fun(x:List Int×Int×List Int×Int) (hx:x.1.length<2^62∧x.2.2.1.length<2^62)=>(by
 dsimp only[cA,Ad,rA,ER,KX,Aq,Aw,mvL,lnL,mvE,lnE,mvG,mvH,lnG,lnH]
 obtain⟨a,b,c,d⟩:=x;dsimp only at hx ⊢
 obtain⟨h1,h2⟩:=hx
 (repeat' first|(with_reducible first|rfl|exact True.intro|apply AG|apply And.intro|((first|apply Au|apply AE|apply Av|apply AF)<;>intro _))|(apply As<;>intro _)|apply AD|refine Af () ?_ ?_|((first|apply AK|apply AJ|apply AI|apply AH|apply AC|apply AB|apply AA|apply Az|apply Ax)<;>try dsimp only)|apply Af|(refine Prod.forall.2 ?_;intro _;try dsimp only)|(intro _;try dsimp only))
 all_goals first
  |rfl
  |assumption
  |(simp [Bt, *];done)
  |(simp [Bt, *];omega)
  |skip)
def Rq(x:List StW×List Int×Int):LS:= {ι:=List StW×Int×Nat,inv:=fun i=>upI x.1 ⟨x.2.1,x.2.2⟩ i.1 i.2.1 i.2.2,regs:=fun i=>[(0,CA i.1),(5,.int .i64 i.2.1)],als:=[],meas:=fun i=>i.2.1.toNat}
theorem b3A{l0:List StW}{x:StW}{l:List StW}{i:Int}{n:Nat}(h:upI l0 x l i n)(hi:¬i>0):l=DA l0 x:=VU h (.inl hi)
attribute [local irreducible] upI dwI Bt DA BI dnK
def KY:Sig:= {X:=List StW×List Int×Int,args:=fun x=>[CA x.1,.agg [Ad x.2.1,.int .i64 x.2.2]],pre:=fun x=>x.1.length<2^40∧(∀s∈x.1,s.vals.length<2^62)∧x.2.1.length<2^62,Y:=Unit,post:=fun x y=>True,res:=fun x y=>CA (DA x.1 ⟨x.2.1,x.2.2⟩),outs:=fun x y=>[.top,.top],keep:=true}
theorem b3B:Ah G Tryz.prog 153 KY:=
 vcFun_okP [(188,0,KX)] [(174,⟨StW,stA⟩)] false (fun x=>[(3,Rq x)]) Tryz.func153 rfl (by decide) ⟨a3o,trivial⟩ (fun(x:List StW×List Int×Int)=>True∧∃(x_1:StW),Ad x.2.1=Ad x_1.vals∧x.2.2=x_1.sum∧∃(zs:List StW),AV.sl true 0 2 StW stA [x_1]=AV.sl true 0 2 StW stA zs∧Bg stA∧AY (List.length x.1+List.length zs) (32:Nat)∧inR IntKind.i64 ((↑(List.length (x.1++zs)):Int)-(1:Int))∧eA (Rq x) [AV.sl true 0 2 StW stA (x.1++zs),.int .i64 ((↑(List.length (x.1++zs)):Int)-(1:Int))]∧∀(i:List StW×Int×Nat),upI x.1 {vals:=x.2.1,sum:=x.2.2} i.1 i.2.1 i.2.2→true=true∧true=true∧Ab (decide (i.2.1>(0:Int))) (((0:Int)≤i.2.1∧i.2.1<(↑(List.length i.1):Int))∧Int.toNat i.2.1<List.length i.1∧∀(x_2:StW),i.1[Int.toNat i.2.1]? =some x_2→inR IntKind.i64 (i.2.1+(1:Int))∧(2:Int)≠(0:Int)∧inR IntKind.i64 (Int.tdiv (i.2.1+(1:Int)) (2:Int))∧inR IntKind.i64 (Int.tdiv (i.2.1+(1:Int)) (2:Int)-(1:Int))∧((0:Int)≤Int.tdiv (i.2.1+(1:Int)) (2:Int)-(1:Int)∧Int.tdiv (i.2.1+(1:Int)) (2:Int)-(1:Int)<(↑(List.length i.1):Int))∧Int.toNat (Int.tdiv (i.2.1+(1:Int)) (2:Int)-(1:Int))<List.length i.1∧∀(x_3:StW),i.1[Int.toNat (Int.tdiv (i.2.1+(1:Int)) (2:Int)-(1:Int))]? =some x_3→∃(x_4:List Int×Int×List Int×Int),(List.length x_4.1<(4611686018427387904:Nat)∧List.length x_4.2.2.1<(4611686018427387904:Nat))∧Ad x_2.vals=Ad x_4.1∧x_2.sum=x_4.2.1∧Ad x_3.vals=Ad x_4.2.2.1∧x_3.sum=x_4.2.2.2∧∃(y0:Unit),(∀(y:Unit),True→AV.bool (Bt {vals:=x_4.1,sum:=x_4.2.1} {vals:=x_4.2.2.1,sum:=x_4.2.2.2})=AV.bool (Bt {vals:=x_4.1,sum:=x_4.2.1} {vals:=x_4.2.2.1,sum:=x_4.2.2.2}))∧true=true∧Ab (Bt {vals:=x_4.1,sum:=x_4.2.1} {vals:=x_4.2.2.1,sum:=x_4.2.2.2}) (inR IntKind.i64 (i.2.1+(1:Int))∧(2:Int)≠(0:Int)∧inR IntKind.i64 (Int.tdiv (i.2.1+(1:Int)) (2:Int))∧inR IntKind.i64 (Int.tdiv (i.2.1+(1:Int)) (2:Int)-(1:Int))∧((0:Int)≤i.2.1∧i.2.1<(↑(List.length i.1):Int))∧Int.toNat i.2.1<List.length i.1∧∀(x_5:StW),i.1[Int.toNat i.2.1]? =some x_5→((0:Int)≤Int.tdiv (i.2.1+(1:Int)) (2:Int)-(1:Int)∧Int.tdiv (i.2.1+(1:Int)) (2:Int)-(1:Int)<(↑(List.length i.1):Int))∧Int.toNat (Int.tdiv (i.2.1+(1:Int)) (2:Int)-(1:Int))<List.length i.1∧∀(x_6:StW),i.1[Int.toNat (Int.tdiv (i.2.1+(1:Int)) (2:Int)-(1:Int))]? =some x_6→((0:Int)≤i.2.1∧i.2.1<(↑(List.length i.1):Int))∧Int.toNat i.2.1<List.length i.1∧∀(x_7:StW),i.1[Int.toNat i.2.1]? =some x_7→∃(x':StW),((@List.nil AV)=[]∧(@List.nil AV)=[])∧Ad x_6.vals=Ad x'.vals∧x_6.sum=x'.sum∧((0:Int)≤Int.tdiv (i.2.1+(1:Int)) (2:Int)-(1:Int)∧Int.tdiv (i.2.1+(1:Int)) (2:Int)-(1:Int)<(↑(List.length (List.set i.1 (Int.toNat i.2.1) x')):Int))∧Int.toNat (Int.tdiv (i.2.1+(1:Int)) (2:Int)-(1:Int))<List.length (List.set i.1 (Int.toNat i.2.1) x')∧∀(x_8:StW),(List.set i.1 (Int.toNat i.2.1) x')[Int.toNat (Int.tdiv (i.2.1+(1:Int)) (2:Int)-(1:Int))]? =some x_8→∃(x'_1:StW),((@List.nil AV)=[]∧(@List.nil AV)=[])∧Ad x_5.vals=Ad x'_1.vals∧x_5.sum=x'_1.sum∧eN (Rq x) i [AV.sl true 0 2 StW stA (List.set (List.set i.1 (Int.toNat i.2.1) x') (Int.toNat (Int.tdiv (i.2.1+(1:Int)) (2:Int)-(1:Int))) x'_1),.int .i64 (Int.tdiv (i.2.1+(1:Int)) (2:Int)-(1:Int))]) (rA KY x [AV.sl true 0 2 StW stA i.1,.top,.top])) (rA KY x [AV.sl true 0 2 StW stA i.1,.top,.top])) (fun x=>by kernel_rfl) fun(x:List StW×List Int×Int) (hx:x.1.length<2^40∧(∀s∈x.1,s.vals.length<2^62)∧x.2.1.length<2^62)=>(by
 dsimp only[eA,eN,Ad,Rq,CA,rA,KY,Ht,Aq,Aw,Ba]
 obtain⟨l0,v,n⟩:=x;dsimp only at hx ⊢
 obtain⟨h1,h2,h3⟩:=hx
 (repeat' first|(apply QQ<;>try dsimp only)|(with_reducible first|rfl|exact True.intro|apply AG|apply And.intro|((first|apply Au|apply AE|apply Av|apply AF)<;>intro _))|(apply As<;>intro _)|apply AD|refine Af () ?_ ?_|((first|apply AK|apply AJ|apply AI|apply AH|apply AC|apply AB|apply AA|apply Az|apply Ax)<;>try dsimp only)|apply Af|(refine Prod.forall.2 ?_;intro _;try dsimp only)|(intro _;try dsimp only))
 all_goals(try(repeat(rename(_:List StW)[_]? =some _=>hq;revert hq;rename(_:List StW)[_]? =some _=>hr;intro hq;rw[hr] at hq;cases hq)))
 all_goals first
  |rfl
  |assumption
  |omega
  |(unfold AY;simp only[List.length_append,List.length_singleton];omega)
  |exact a2i
  |(simp only[List.length_append,List.length_singleton];omega)
  |(have hb:=Ok (show upI _ _ _ _ _ by assumption);have ha:=QC ‹_›;unfold abv at ha;(try rw[List.length_set]);omega)
  |(have hb:=Ok (show upI _ _ _ _ _ by assumption);omega)
  |exact a2g ‹_› h2 h3 ‹_›
  |exact a2h ‹_› ‹_› (show Bt _ _=true by assumption) ‹_› ‹_› ‹_› ‹_›
  |exact VV ‹_› ‹_› ‹_› ‹_›
  |exact b3A ‹_› ‹_›
  |exact()
  |skip)
end Go.My
end
section
namespace Go.My
open Go.Eng Go.Proofs
variable {G:GInv}
def KZ:Sig:= {X:=Pc×List Int,args:=fun x=>[.agg (pcA false x.1),Ad x.2],pre:=fun x=>x.1.ties.length≤2^40∧x.2.length≤2^40,Y:=Unit,post:=fun x y=>True,res:=fun x y=> .bool (KB x.1 x.2),outs:=fun x y=>[.top,.top],keep:=false}
def Rr(x:Pc×List Int):LS:= {ι:=Int,inv:=fun i=>Bx (Ff x.2) x.1.ties i,regs:=fun i=>[(1,Ad x.2),(2,.box 0 (pcA false x.1)),(5,.int .i64 x.2.length),(6,.int .i64 i)],als:=[],meas:=fun i=>x.1.ties.length-i.toNat}
def Ou(x:Pc×List Int)(i:Int):Prop:=eN (Rr x) i [Ad x.2,.box 0 [.int .i64 x.1.ind,AV.sl false 0 2 Ru ruA x.1.rules,AV.sl false 0 5 Ch chA x.1.chunks,AV.sl false 0 3 Sn snA x.1.spans,AV.sl false 0 2 Ti tiA x.1.ties],.int .i64 (↑(List.length x.2):Int),.int .i64 (i+(1:Int))]
theorem b3C:Ah G Tryz.prog 152 KZ:=
 vcFun_okP [(45,0,Bz)] [] false (fun x=>[(3,Rr x)]) Tryz.func152 rfl (by decide) ⟨GN,trivial⟩ (fun(x:Pc×List Int)=>(∀(y:Unit),True→True∧True∧True∧True)∧eA (Rr x) [Ad x.2,.box 0 [.int .i64 x.1.ind,AV.sl false 0 2 Ru ruA x.1.rules,AV.sl false 0 5 Ch chA x.1.chunks,AV.sl false 0 3 Sn snA x.1.spans,AV.sl false 0 2 Ti tiA x.1.ties],.int .i64 (↑(List.length x.2):Int),.int .i64 (0:Int)]∧∀(i:Int),Bx (Ff x.2) x.1.ties i→Ab (decide (i<(↑(List.length x.1.ties):Int))) (((0:Int)≤i∧i<(↑(List.length x.1.ties):Int))∧∀(e:Ti),x.1.ties[Int.toNat i]? =some e→inR IntKind.i64 ((↑(List.length x.2):Int)-(1:Int))∧cA Bz [.int .i64 e.kid,.int .i64 (0:Int),.int .i64 ((↑(List.length x.2):Int)-(1:Int))] fun x_1 y=>Ab (inn x_1.1 x_1.2.1 x_1.2.2) (inR IntKind.i64 ((↑(List.length x.2):Int)-(1:Int))∧cA Bz [.int .i64 e.up,.int .i64 (0:Int),.int .i64 ((↑(List.length x.2):Int)-(1:Int))] fun x_2 y=>Ab (inn x_2.1 x_2.2.1 x_2.2.2) (((0:Int)≤e.kid∧e.kid<(↑(List.length x.2):Int))∧∀(e_1:Int),x.2[Int.toNat e.kid]? =some e_1→Ab (decide (e_1>(0:Int))) (((0:Int)≤e.up∧e.up<(↑(List.length x.2):Int))∧∀(e_2:Int),x.2[Int.toNat e.up]? =some e_2→Ab (e_2==(0:Int)) (rA KZ x [.bool false,.top,.top]) (inR IntKind.i64 (i+(1:Int))∧(Ou x i))) (inR IntKind.i64 (i+(1:Int))∧(Ou x i))) (inR IntKind.i64 (i+(1:Int))∧(Ou x i))) (inR IntKind.i64 (i+(1:Int))∧(Ou x i))) (rA KZ x [.bool true,.top,.top])) (fun x=>by kernel_rfl) fun(x:Pc×List Int) (hx:x.1.ties.length≤2^40∧x.2.length≤2^40)=>(by
 dsimp only[Ou,cA,Bl,eA,eN,Rr,Ad,pcA,rA,Bj,Bz,KZ,Bm,Bn,Aq,Aw,mvL,lnL,mvE,lnE,mvG,mvH,lnG,lnH,Ba]
 obtain⟨p,v⟩:=x;dsimp only at hx ⊢
 obtain⟨h1,h2⟩:=hx
 (repeat' first|refine Dp p ?_|(with_reducible first|rfl|exact True.intro|apply AG|apply And.intro|((first|apply Au|apply AE|apply Av|apply AF)<;>intro _))|(apply As<;>intro _)|apply AD|refine Af () ?_ ?_|((first|apply AK|apply AJ|apply AI|apply AH|apply AC|apply AB|apply AA|apply Az|apply Ax)<;>try dsimp only)|apply Af|(refine Prod.forall.2 ?_;intro _;try dsimp only)|(intro _;try dsimp only))
 all_goals first
  |with_reducible rfl
  |with_reducible assumption
  |omega
  |exact Mo
  |(have hq:=(show Bx _ _ _ by assumption).1;(try simp only[Aj]);omega)
  |(have hq:=QU (show inn (Ti.kid _) _ _=true by assumption);omega)
  |(have hq:=QU (show inn (Ti.up _) _ _=true by assumption);omega)
  |exact Fh ‹_› ‹_› ‹_› (a2q ‹_›)
  |exact Fh ‹_› ‹_› ‹_› (a2r ‹_›)
  |exact Fh ‹_› ‹_› ‹_› (a2t ‹_› ‹_›)
  |exact Fh ‹_› ‹_› ‹_› (a2s ‹_› ‹_›)
  |exact(Fv ‹_› (a2u ‹_› ‹_› ‹_› ‹_› ‹_› ‹_›)).symm
  |exact(GW ‹_› ‹_›).symm
  |skip)
def Ov(x:List StW)(i:List StW×Int×Nat):LS:= {ι:=Unit,inv:=fun _=>0≤i.2.1∧2*i.2.1+1<i.1.length,regs:=fun _=>[(0,CA i.1),(3,.box 0 (stA st0)),(4,.box 0 (stA (AN x 0))),(5,.int .i64 ((x.length:Int)-1)),(6,.int .i64 i.2.1),(7,.int .i64 (dnK i.1 i.2.1))],als:=[],meas:=fun _=>0}
def Rs(x:List StW):LS:= {ι:=List StW×Int×Nat,inv:=fun i=>dwI x i.1 i.2.1 i.2.2,regs:=fun i=>[(0,CA i.1),(3,.box 0 (stA st0)),(4,.box 0 (stA (AN x 0))),(5,.int .i64 ((x.length:Int)-1)),(6,.int .i64 i.2.1)],als:=[],meas:=fun i=>i.1.length-i.2.1.toNat,sub:=fun i=>[(200010,Ov x i)]}
def Wy(x:List StW):LS:= {ι:=Unit,inv:=fun _=>True,regs:=fun _=>[(2,CA (BI x)),(3,.box 0 (stA (AN x 0)))],als:=[],meas:=fun _=>0}
attribute [local irreducible] upI dwI Bt abv DA BI dnK
def MA:Sig:= {X:=List StW×Unit,args:=fun x=>[CA x.1],pre:=fun x=>0<x.1.length∧x.1.length<2^40∧(∀s∈x.1,s.vals.length<2^62),Y:=Unit,post:=fun x y=>True,res:=fun x y=> .tup [CA (BI x.1),.agg (stA (AN x.1 0))],outs:=fun x y=>[.top],keep:=true}
def Wz(x:List StW×Unit)(i:List StW×Int×Nat):Prop:=true=true∧((true=true∧(eA (Wy x.1) [AV.sl true 0 2 StW stA i.1,.box 0 [Ad (AN x.1 (0:Int)).vals,.int .i64 (AN x.1 (0:Int)).sum]]))∧(∀(i:Unit),True→∃(y:Unit),True∧AV.sl true 0 2 StW stA (BI x.1)=AV.sl true 0 2 StW stA (BI x.1)∧Ad (AN x.1 (0:Int)).vals=Ad (AN x.1 (0:Int)).vals∧(AN x.1 (0:Int)).sum=(AN x.1 (0:Int)).sum∧True))
theorem b3D:Ah G Tryz.prog 148 MA:=
 vcFun_okP [(188,0,KX)] [(174,⟨StW,stA⟩)] false (fun x=>[(6,Rs x.1),(100015,Wy x.1)]) Tryz.func148 rfl (by decide) ⟨a3o,trivial⟩ (fun(x:List StW×Unit)=>True∧((0:Int)≤(0:Int)∧(0:Int)<(↑(List.length x.1):Int))∧(0:Nat)<List.length x.1∧∀(x_1:StW),x.1[(0:Nat)]? =some x_1→inR IntKind.i64 ((↑(List.length x.1):Int)-(1:Int))∧((0:Int)≤(↑(List.length x.1):Int)-(1:Int)∧(↑(List.length x.1):Int)-(1:Int)<(↑(List.length x.1):Int))∧Int.toNat ((↑(List.length x.1):Int)-(1:Int))<List.length x.1∧∀(x_2:StW),x.1[Int.toNat ((↑(List.length x.1):Int)-(1:Int))]? =some x_2→((0:Int)≤(0:Int)∧(0:Int)<(↑(List.length x.1):Int))∧(0:Nat)<List.length x.1∧∀(x_3:StW),x.1[(0:Nat)]? =some x_3→∃(x':StW),((@List.nil AV)=[]∧(@List.nil AV)=[])∧Ad x_2.vals=Ad x'.vals∧x_2.sum=x'.sum∧((0:Int)≤(0:Int)∧(0:Int)≤(↑(List.length x.1):Int)-(1:Int)∧(↑(List.length x.1):Int)-(1:Int)≤(↑(List.length (List.set x.1 (0:Nat) x')):Int))∧eA (Rs x.1) [AV.sl true 0 2 StW stA (List.take (Int.toNat ((↑(List.length x.1):Int)-(1:Int))) (List.set x.1 (0:Nat) x')),.box 0 [.nil,.int .i64 (0:Int)],.box 0 [Ad x_1.vals,.int .i64 x_1.sum],.int .i64 ((↑(List.length x.1):Int)-(1:Int)),.int .i64 (0:Int)]∧∀(i:List StW×Int×Nat),dwI x.1 i.1 i.2.1 i.2.2→inR IntKind.i64 ((2:Int)*i.2.1)∧inR IntKind.i64 ((2:Int)*i.2.1+(1:Int))∧Ab (decide ((2:Int)*i.2.1+(1:Int)<(↑(List.length x.1):Int)-(1:Int))) (inR IntKind.i64 ((2:Int)*i.2.1)∧inR IntKind.i64 ((2:Int)*i.2.1+(1:Int))∧(true=true∧true=true∧inR IntKind.i64 ((2:Int)*i.2.1+(1:Int)+(1:Int))∧Ab (decide ((2:Int)*i.2.1+(1:Int)+(1:Int)<(↑(List.length x.1):Int)-(1:Int))) (inR IntKind.i64 ((2:Int)*i.2.1+(1:Int)+(1:Int))∧((0:Int)≤(2:Int)*i.2.1+(1:Int)+(1:Int)∧(2:Int)*i.2.1+(1:Int)+(1:Int)<(↑(List.length i.1):Int))∧Int.toNat ((2:Int)*i.2.1+(1:Int)+(1:Int))<List.length i.1∧∀(x_4:StW),i.1[Int.toNat ((2:Int)*i.2.1+(1:Int)+(1:Int))]? =some x_4→((0:Int)≤(2:Int)*i.2.1+(1:Int)∧(2:Int)*i.2.1+(1:Int)<(↑(List.length i.1):Int))∧Int.toNat ((2:Int)*i.2.1+(1:Int))<List.length i.1∧∀(x_5:StW),i.1[Int.toNat ((2:Int)*i.2.1+(1:Int))]? =some x_5→∃(x_6:List Int×Int×List Int×Int),(List.length x_6.1<(4611686018427387904:Nat)∧List.length x_6.2.2.1<(4611686018427387904:Nat))∧Ad x_4.vals=Ad x_6.1∧x_4.sum=x_6.2.1∧Ad x_5.vals=Ad x_6.2.2.1∧x_5.sum=x_6.2.2.2∧∃(y0:Unit),(∀(y:Unit),True→AV.bool (Bt {vals:=x_6.1,sum:=x_6.2.1} {vals:=x_6.2.2.1,sum:=x_6.2.2.2})=AV.bool (Bt {vals:=x_6.1,sum:=x_6.2.1} {vals:=x_6.2.2.1,sum:=x_6.2.2.2}))∧true=true∧Ab (Bt {vals:=x_6.1,sum:=x_6.2.1} {vals:=x_6.2.2.1,sum:=x_6.2.2.2}) (inR IntKind.i64 ((2:Int)*i.2.1+(1:Int)+(1:Int))∧eA (Ov x.1 i) [AV.sl true 0 2 StW stA i.1,.box 0 [Ad st0.vals,.int .i64 st0.sum],.box 0 [Ad (AN x.1 (0:Int)).vals,.int .i64 (AN x.1 (0:Int)).sum],.int .i64 ((↑(List.length x.1):Int)-(1:Int)),.int .i64 i.2.1,.int .i64 ((2:Int)*i.2.1+(1:Int)+(1:Int))]) (eA (Ov x.1 i) [AV.sl true 0 2 StW stA i.1,.box 0 [Ad st0.vals,.int .i64 st0.sum],.box 0 [Ad (AN x.1 (0:Int)).vals,.int .i64 (AN x.1 (0:Int)).sum],.int .i64 ((↑(List.length x.1):Int)-(1:Int)),.int .i64 i.2.1,.int .i64 ((2:Int)*i.2.1+(1:Int))])) (eA (Ov x.1 i) [AV.sl true 0 2 StW stA i.1,.box 0 [Ad st0.vals,.int .i64 st0.sum],.box 0 [Ad (AN x.1 (0:Int)).vals,.int .i64 (AN x.1 (0:Int)).sum],.int .i64 ((↑(List.length x.1):Int)-(1:Int)),.int .i64 i.2.1,.int .i64 ((2:Int)*i.2.1+(1:Int))]))∧∀(i_1:Unit),(0:Int)≤i.2.1∧(2:Int)*i.2.1+(1:Int)<(↑(List.length i.1):Int)→true=true∧true=true∧((0:Int)≤dnK i.1 i.2.1∧dnK i.1 i.2.1<(↑(List.length i.1):Int))∧Int.toNat (dnK i.1 i.2.1)<List.length i.1∧∀(x_4:StW),i.1[Int.toNat (dnK i.1 i.2.1)]? =some x_4→((0:Int)≤i.2.1∧i.2.1<(↑(List.length i.1):Int))∧Int.toNat i.2.1<List.length i.1∧∀(x_5:StW),i.1[Int.toNat i.2.1]? =some x_5→∃(x_6:List Int×Int×List Int×Int),(List.length x_6.1<(4611686018427387904:Nat)∧List.length x_6.2.2.1<(4611686018427387904:Nat))∧Ad x_4.vals=Ad x_6.1∧x_4.sum=x_6.2.1∧Ad x_5.vals=Ad x_6.2.2.1∧x_5.sum=x_6.2.2.2∧∃(y0:Unit),(∀(y:Unit),True→AV.bool (Bt {vals:=x_6.1,sum:=x_6.2.1} {vals:=x_6.2.2.1,sum:=x_6.2.2.2})=AV.bool (Bt {vals:=x_6.1,sum:=x_6.2.1} {vals:=x_6.2.2.1,sum:=x_6.2.2.2}))∧true=true∧Ab (!Bt {vals:=x_6.1,sum:=x_6.2.1} {vals:=x_6.2.2.1,sum:=x_6.2.2.2}) (Wz x i) (((0:Int)≤i.2.1∧i.2.1<(↑(List.length i.1):Int))∧Int.toNat i.2.1<List.length i.1∧∀(x_7:StW),i.1[Int.toNat i.2.1]? =some x_7→((0:Int)≤dnK i.1 i.2.1∧dnK i.1 i.2.1<(↑(List.length i.1):Int))∧Int.toNat (dnK i.1 i.2.1)<List.length i.1∧∀(x_8:StW),i.1[Int.toNat (dnK i.1 i.2.1)]? =some x_8→((0:Int)≤i.2.1∧i.2.1<(↑(List.length i.1):Int))∧Int.toNat i.2.1<List.length i.1∧∀(x_9:StW),i.1[Int.toNat i.2.1]? =some x_9→∃(x':StW),((@List.nil AV)=[]∧(@List.nil AV)=[])∧Ad x_8.vals=Ad x'.vals∧x_8.sum=x'.sum∧((0:Int)≤dnK i.1 i.2.1∧dnK i.1 i.2.1<(↑(List.length (List.set i.1 (Int.toNat i.2.1) x')):Int))∧Int.toNat (dnK i.1 i.2.1)<List.length (List.set i.1 (Int.toNat i.2.1) x')∧∀(x_10:StW),(List.set i.1 (Int.toNat i.2.1) x')[Int.toNat (dnK i.1 i.2.1)]? =some x_10→∃(x'_1:StW),((@List.nil AV)=[]∧(@List.nil AV)=[])∧Ad x_7.vals=Ad x'_1.vals∧x_7.sum=x'_1.sum∧eN (Rs x.1) i [AV.sl true 0 2 StW stA (List.set (List.set i.1 (Int.toNat i.2.1) x') (Int.toNat (dnK i.1 i.2.1)) x'_1),.box 0 [Ad st0.vals,.int .i64 st0.sum],.box 0 [Ad (AN x.1 (0:Int)).vals,.int .i64 (AN x.1 (0:Int)).sum],.int .i64 ((↑(List.length x.1):Int)-(1:Int)),.int .i64 (dnK i.1 i.2.1)])) (Wz x i)) (fun x=>by kernel_rfl) fun(x:List StW×Unit) (hx:0<x.1.length∧x.1.length<2^40∧(∀s∈x.1,s.vals.length<2^62))=>(by
 dsimp only[Wz,eA,eN,Ad,Wy,Ov,Rs,CA,Ht,Aq,Aw,Ba]
 obtain⟨x,_⟩:=x;dsimp only at hx ⊢
 obtain⟨h1,h2,h3⟩:=hx
 have h64:(x.length:Int)<2^40:=by omega
 (repeat' first|(apply QQ<;>try dsimp only)|(with_reducible first|rfl|exact True.intro|apply AG|apply And.intro|((first|apply Au|apply AE|apply Av|apply AF)<;>intro _))|(apply As<;>intro _)|apply AD|refine Af () ?_ ?_|((first|apply AK|apply AJ|apply AI|apply AH|apply AC|apply AB|apply AA|apply Az|apply Ax)<;>try dsimp only)|apply Af|(refine Prod.forall.2 ?_;intro _;try dsimp only)|(intro _;try dsimp only))
 all_goals(try(repeat(rename(_:List StW)[_]? =some _=>hq;revert hq;rename(_:List StW)[_]? =some _=>hr;intro hq;rw[hr] at hq;cases hq)))
 all_goals first
  |with_reducible rfl
  |with_reducible assumption
  |omega
  |(simp only[Aj,List.length_set] at*;omega)
  |exact()
  |exact a2j h1 (by with_reducible assumption)
  |exact(show st0.vals=[] from rfl)
  |exact(show(0:Int)=st0.sum from rfl)
  |exact congrArg StW.vals (QR (by with_reducible assumption)).symm
  |exact congrArg StW.sum (QR (by with_reducible assumption)).symm
  |(have hb:=Jl (show dwI _ _ _ _ by with_reducible assumption);exact a2l (by omega) (show Bt _ _=true by with_reducible assumption) (by with_reducible assumption) (by with_reducible assumption))
  |exact a2m (show Bt _ _=false by with_reducible assumption) (by with_reducible assumption) (by with_reducible assumption)
  |(have hb:=Jl (show dwI _ _ _ _ by with_reducible assumption);exact a2n (by omega))
  |(rename 0≤_∧2*_+1<_=>hq;have ha:=Mm hq.1 hq.2;(try simp only[List.length_set]);omega)
  |(rename 0≤_∧2*_+1<_=>hq;have ha:=Mm hq.1 hq.2;have hb:=Jl (show dwI _ _ _ _ by with_reducible assumption);omega)
  |exact a2o (by with_reducible assumption) (by with_reducible assumption) (show Bt _ _=true by with_reducible assumption) (by with_reducible assumption) (by with_reducible assumption) (by with_reducible assumption) (by with_reducible assumption)
  |exact a2p (by with_reducible assumption) (show Bt _ _=false by with_reducible assumption) (by with_reducible assumption) (by with_reducible assumption)
  |(have hb:=Jl (show dwI _ _ _ _ by with_reducible assumption);exact VW (by with_reducible assumption) (.inl (by omega)))
  |(have hb:=Jl (show dwI _ _ _ _ by with_reducible assumption);(try simp only[Aj]);omega)
  |exact a2k (by with_reducible assumption) h3 (by with_reducible assumption)
  |skip)
theorem b3E{p:Pc}{w bud:Int}{h:Hu}{n:Nat}(hp:pcOk p)(hi:ruI p w bud h n)(hl:(h.heap.length:Int)>0)(he:((AN h.heap 0).vals.length:Int)≠p.rules.length):
 opP p ⟨h.best,h.cost,BI h.heap,h.pops+1⟩ (AN h.heap 0):=a2S hp hi hl he
theorem a3p{p:Pc}{w bud:Int}{h:Hu}{n:Nat}(hi:ruI p w bud h n)(hp:pcOk p)(hl:(h.heap.length:Int)>0)(hb:¬h.pops≥bud)(he:((AN h.heap 0).vals.length:Int)=p.rules.length)(hq:Fg (Bh p (AN h.heap 0).vals w) h.cost (AN h.heap 0).vals h.best=true):
 ruI p w bud ⟨(AN h.heap 0).vals,Bh p (AN h.heap 0).vals w,BI h.heap,h.pops+1⟩ (n-1):=by
 have:=Wo hp hi hl hb he
 rwa [VZ (h:=⟨h.best,h.cost,BI h.heap,h.pops+1⟩) hq] at this
theorem a3q{p:Pc}{w bud:Int}{h:Hu}{n:Nat}(hi:ruI p w bud h n)(hp:pcOk p)(hl:(h.heap.length:Int)>0)(hb:¬h.pops≥bud)(he:((AN h.heap 0).vals.length:Int)=p.rules.length)(hq:Fg (Bh p (AN h.heap 0).vals w) h.cost (AN h.heap 0).vals h.best=false):
 ruI p w bud ⟨h.best,h.cost,BI h.heap,h.pops+1⟩ (n-1):=by
 have:=Wo hp hi hl hb he
 rwa [Wa (h:=⟨h.best,h.cost,BI h.heap,h.pops+1⟩) hq] at this
theorem b3F{p:Pc}{w bud:Int}{h:Hu}{n:Nat}{l:List StW}{k:Int}{e:Ru}(hi:ruI p w bud h n)(hI:opI p h.cost (AN h.heap 0) (BI h.heap) l k)(hp:pcOk p)(hl:(h.heap.length:Int)>0)(hb:¬h.pops≥bud)(he:((AN h.heap 0).vals.length:Int)≠p.rules.length)(hr:p.rules[((AN h.heap 0).vals.length:Int).toNat]? =some e)(hk:¬k<e.vals):
 ruI p w bud ⟨h.best,h.cost,l,h.pops+1⟩ (n-1):=by
 have:=a2R hp hi hl hb he
 rw[a2E hI (by rw[show opC p (AN h.heap 0)=e.vals from(Wg (n:=(AN h.heap 0).sum) hr).symm];exact hk)]
 exact this
theorem WA{p:Pc}{x:StW}{e:Ru}(hr:p.rules[(x.vals.length:Int).toNat]? =some e):opC p x=e.vals:=(Wg (n:=x.sum) hr).symm
theorem b3G{p:Pc}{h:Hu}{x:StW}{l:List StW}{k:Int}{e:Ru}(hI:opI p h.cost x h.heap l k)(hx:opP p h x)(hr:p.rules[(x.vals.length:Int).toNat]? =some e)(hk:k<e.vals):bndP p (x.vals++[k]):=a2H (n:=x.sum) hx hI (by rw[WA hr];exact hk)
theorem Rt{p:Pc}{h:Hu}{x:StW}{l:List StW}{k:Int}{e:Ru}(hI:opI p h.cost x h.heap l k)(hx:opP p h x)(hr:p.rules[(x.vals.length:Int).toNat]? =some e)(hk:k<e.vals):
 (GU p h.cost (x.vals++[k])=true→opI p h.cost x h.heap l (k+1))∧(GU p h.cost (x.vals++[k])=false→opI p h.cost x h.heap (DA l ⟨x.vals++[k],Cj p (x.vals++[k])⟩) (k+1)):=On hx hI (by rw[WA hr];exact hk)
theorem b3H{p:Pc}{x:StW}{k:Int}{e:Ru}(hr:p.rules[(x.vals.length:Int).toNat]? =some e)(hk:k<e.vals):(opC p x-(k+1)).toNat<(opC p x-k).toNat:=by rw[WA hr];omega
theorem b3I{p:Pc}{w bud:Int}{h:Hu}{n:Nat}(hi:ruI p w bud h n)(hz:pcS p)(hok:Bo p=true)(hl:(h.heap.length:Int)>0)(he:((AN h.heap 0).vals.length:Int)=p.rules.length):qcP p (AN h.heap 0).vals:=⟨Rc (EQ hok) hz (Wn hi hl).1 (by omega),hok⟩
theorem b3J{p:Pc}(hz:pcS p)(hok:Bo p=true):qcP p (Dc p):=⟨Rc (EQ hok) hz (Oc (EQ hok)).1 (Oc (EQ hok)).2,hok⟩
theorem WB{p:Pc}{w bud:Int}{h:Hu}{n:Nat}(hi:ruI p w bud h n)(hp:pcOk p):h.best.length≤8∧∀s∈h.heap,s.vals.length≤8:=⟨by have:=hi.1.1.bl;have:=hp.rl;omega,fun s hs=>by have:=(hi.1.1.hk s hs).1.1;have:=hp.rl;omega⟩
theorem b3K{p:Pc}{w bud:Int}{h:Hu}{n:Nat}(hi:ruI p w bud h n)(hp:pcOk p)(hl:(h.heap.length:Int)>0):(AN h.heap 0).vals.length≤8:=(WB hi hp).2 _ (Wk (by omega))
theorem b3L{a:List Int}{b:Int}{o:Bool}{i:Nat}{q:StW→Prop}(h:q ⟨a,b⟩):∃x:StW,AV.sl o i 1 Int (fun x=>fzL (Cw x)) a=AV.sl o i 1 Int Cw x.vals∧b=x.sum∧q x:=⟨⟨a,b⟩,rfl,rfl,h⟩
def seS(x:Pc×Int×Int)(i:Hu×Nat):LS:= {ι:=List StW×Int,inv:=fun j=>opI x.1 i.1.cost (AN i.1.heap 0) (BI i.1.heap) j.1 j.2,regs:=fun j=>[(1,.int .i64 x.2.1),(2,.int .i64 x.2.2),(3,.box 0 (pcA false x.1)),(8,Ad i.1.best),(9,.box 0 [.int .i64 i.1.cost.over,.int .i64 i.1.cost.sum]),(10,CA j.1),(11,.int .i64 (i.1.pops+1)),(13,.box 0 (stA (AN i.1.heap 0))),(14,.int .i64 (AN i.1.heap 0).vals.length),(16,.int .i64 j.2)],als:=[],meas:=fun j=>(opC x.1 (AN i.1.heap 0)-j.2).toNat}
def seL(x:Pc×Int×Int):LS:= {ι:=Hu×Nat,inv:=fun i=>(ruI x.1 x.2.1 x.2.2 i.1 i.2∧Bo x.1=true),regs:=fun i=>[(1,.int .i64 x.2.1),(2,.int .i64 x.2.2),(3,.box 0 (pcA false x.1)),(8,Ad i.1.best),(9,.box 0 [.int .i64 i.1.cost.over,.int .i64 i.1.cost.sum]),(10,CA i.1.heap),(11,.int .i64 i.1.pops)],als:=[],meas:=fun i=>i.2,sub:=fun i=>[(20,seS x i)]}
attribute [local irreducible] ruI opI EG srF opN
def Il:Sig:= {X:=Pc×Int×Int,args:=fun x=>[.agg (pcA false x.1),.int .i64 x.2.1,.int .i64 x.2.2],pre:=fun x=>pcS x.1,Y:=Unit,post:=fun x y=>True,res:=fun x y=> .tup [Ad (if Bo x.1 then(srF x.1 x.2.1 x.2.2).1.best else []),.int .i64 (if Bo x.1 then(srF x.1 x.2.1 x.2.2).2 else 0)],outs:=fun x y=>[.top,.top,.top],keep:=true}
def WD(x:Pc×Int×Int)(i:Hu×Nat)(i_1:List StW×Int)(x_7:KV.X)(zs:List Int)(zs_1:List Int):Prop:=cA KY [AV.sl true 0 2 StW stA i_1.1,.agg [AW ([]++zs++zs_1),.int .i64 (Cj x_7.1 x_7.2)]] fun x_9 y=>inR IntKind.i64 (i_1.2+(1:Int))∧(eN (seS x i) i_1 [.int .i64 x.2.1,.int .i64 x.2.2,.box 0 [.int .i64 x.1.ind,AV.sl false 0 2 Ru ruA x.1.rules,AV.sl false 0 5 Ch chA x.1.chunks,AV.sl false 0 3 Sn snA x.1.spans,AV.sl false 0 2 Ti tiA x.1.ties],Ad i.1.best,.box 0 [.int .i64 i.1.cost.over,.int .i64 i.1.cost.sum],AV.sl true 0 2 StW stA (DA x_9.1 {vals:=x_9.2.1,sum:=x_9.2.2}),.int .i64 (i.1.pops+(1:Int)),.box 0 [Ad (AN i.1.heap (0:Int)).vals,.int .i64 (AN i.1.heap (0:Int)).sum],.int .i64 (↑(List.length (AN i.1.heap (0:Int)).vals):Int),.int .i64 (i_1.2+(1:Int))])
def WE(x:Pc×Int×Int)(i:Hu×Nat)(i_1:List StW×Int):Prop:=eN (seS x i) i_1 [.int .i64 x.2.1,.int .i64 x.2.2,.box 0 [.int .i64 x.1.ind,AV.sl false 0 2 Ru ruA x.1.rules,AV.sl false 0 5 Ch chA x.1.chunks,AV.sl false 0 3 Sn snA x.1.spans,AV.sl false 0 2 Ti tiA x.1.ties],Ad i.1.best,.box 0 [.int .i64 i.1.cost.over,.int .i64 i.1.cost.sum],AV.sl true 0 2 StW stA i_1.1,.int .i64 (i.1.pops+(1:Int)),.box 0 [Ad (AN i.1.heap (0:Int)).vals,.int .i64 (AN i.1.heap (0:Int)).sum],.int .i64 (↑(List.length (AN i.1.heap (0:Int)).vals):Int),.int .i64 (i_1.2+(1:Int))]
def WF(x:Pc×Int×Int)(i:Hu×Nat)(x_5:MA.X)(x_6:Mx.X):Prop:=eN (seL x) i [.int .i64 x.2.1,.int .i64 x.2.2,.box 0 [.int .i64 x.1.ind,AV.sl false 0 2 Ru ruA x.1.rules,AV.sl false 0 5 Ch chA x.1.chunks,AV.sl false 0 3 Sn snA x.1.spans,AV.sl false 0 2 Ti tiA x.1.ties],Ad (AN x_5.1 (0:Int)).vals,.box 0 [.int .i64 (Bh x_6.1 x_6.2.1 x_6.2.2).over,.int .i64 (Bh x_6.1 x_6.2.1 x_6.2.2).sum],AV.sl true 0 2 StW stA (BI x_5.1),.int .i64 (i.1.pops+(1:Int))]
def WG(x:Pc×Int×Int)(i:Hu×Nat)(x_5:MA.X):Prop:=eN (seL x) i [.int .i64 x.2.1,.int .i64 x.2.2,.box 0 [.int .i64 x.1.ind,AV.sl false 0 2 Ru ruA x.1.rules,AV.sl false 0 5 Ch chA x.1.chunks,AV.sl false 0 3 Sn snA x.1.spans,AV.sl false 0 2 Ti tiA x.1.ties],Ad i.1.best,.box 0 [.int .i64 i.1.cost.over,.int .i64 i.1.cost.sum],AV.sl true 0 2 StW stA (BI x_5.1),.int .i64 (i.1.pops+(1:Int))]
theorem b3M:Ah G Tryz.prog 121 Il:=
 vcFun_okP [(13,0,CT),(18,0,Mu),(147,0,Mx),(148,0,MA),(149,0,Jp),(150,0,ER),(151,0,KV),(152,0,KZ),(153,0,KY)] [(174,⟨StW,stA⟩),(38,⟨Int,Cw⟩)] false (fun x=>[(7,seL x)]) Tryz.func121 rfl (by decide) ⟨a2U,b2W,b3v,b3D,b3w,a3n,b3s,b3C,b3B,trivial⟩ (fun(x:Pc×Int×Int)=>True∧cA CT [.agg [.int .i64 x.1.ind,AV.sl false 0 2 Ru ruA x.1.rules,AV.sl false 0 5 Ch chA x.1.chunks,AV.sl false 0 3 Sn snA x.1.spans,AV.sl false 0 2 Ti tiA x.1.ties]] fun x_1 y=>Ab (!Bo x_1) (rA Il x [.tup [AW [],.int .i64 (0:Int)],.top,.top,.top]) (cA Mu [.agg [.int .i64 x.1.ind,AV.sl false 0 2 Ru ruA x.1.rules,AV.sl false 0 5 Ch chA x.1.chunks,AV.sl false 0 3 Sn snA x.1.spans,AV.sl false 0 2 Ti tiA x.1.ties]] fun x_2 y=>cA Mx [.agg [.int .i64 x.1.ind,AV.sl false 0 2 Ru ruA x.1.rules,AV.sl false 0 5 Ch chA x.1.chunks,AV.sl false 0 3 Sn snA x.1.spans,AV.sl false 0 2 Ti tiA x.1.ties],AW (Dc x_2),.int .i64 x.2.1] fun x_3 y=>∃(x_4:StW),AV.sl false 0 1 Int (fun(x:Int)=>fzL (Cw x)) []=Ad x_4.vals∧(0:Int)=x_4.sum∧eA (seL x) [.int .i64 x.2.1,.int .i64 x.2.2,.box 0 [.int .i64 x.1.ind,AV.sl false 0 2 Ru ruA x.1.rules,AV.sl false 0 5 Ch chA x.1.chunks,AV.sl false 0 3 Sn snA x.1.spans,AV.sl false 0 2 Ti tiA x.1.ties],AW (Dc x_2),.box 0 [.int .i64 (Bh x_3.1 x_3.2.1 x_3.2.2).over,.int .i64 (Bh x_3.1 x_3.2.1 x_3.2.2).sum],AV.sl true 0 2 StW stA [x_4],.int .i64 (0:Int)]∧∀(i:Hu×Nat),ruI x.1 x.2.1 x.2.2 i.1 i.2∧Bo x.1=true→Ab (decide ((↑(List.length i.1.heap):Int)>(0:Int))) (Ab (decide (i.1.pops≥x.2.2)) (rA Il x [.tup [Ad i.1.best,.int .i64 (2:Int)],.top,.top,.top]) (inR IntKind.i64 (i.1.pops+(1:Int))∧cA MA [AV.sl true 0 2 StW stA i.1.heap] fun x_5 y=>Ab ((↑(List.length (AN x_5.1 (0:Int)).vals):Int)==(↑(List.length x.1.rules):Int)) (cA Mx [.agg [.int .i64 x.1.ind,AV.sl false 0 2 Ru ruA x.1.rules,AV.sl false 0 5 Ch chA x.1.chunks,AV.sl false 0 3 Sn snA x.1.spans,AV.sl false 0 2 Ti tiA x.1.ties],Ad (AN x_5.1 (0:Int)).vals,.int .i64 x.2.1] fun x_6 y=>cA Jp [.agg [.int .i64 (Bh x_6.1 x_6.2.1 x_6.2.2).over,.int .i64 (Bh x_6.1 x_6.2.1 x_6.2.2).sum],.agg [.int .i64 i.1.cost.over,.int .i64 i.1.cost.sum]] fun x_7 y=>Ab (GB {over:=x_7.1,sum:=x_7.2.1} {over:=x_7.2.2.1,sum:=x_7.2.2.2}) (WF x i x_5 x_6) (Ab (true&&(Bh x_6.1 x_6.2.1 x_6.2.2).over==i.1.cost.over&&(Bh x_6.1 x_6.2.1 x_6.2.2).sum==i.1.cost.sum) (cA ER [Ad (AN x_5.1 (0:Int)).vals,Ad i.1.best] fun x_8 y=>Ab (decide (Cy x_8.1 x_8.2<(0:Int))) (WF x i x_5 x_6) (WG x i x_5)) (WG x i x_5))) (eA (seS x i) [.int .i64 x.2.1,.int .i64 x.2.2,.box 0 [.int .i64 x.1.ind,AV.sl false 0 2 Ru ruA x.1.rules,AV.sl false 0 5 Ch chA x.1.chunks,AV.sl false 0 3 Sn snA x.1.spans,AV.sl false 0 2 Ti tiA x.1.ties],Ad i.1.best,.box 0 [.int .i64 i.1.cost.over,.int .i64 i.1.cost.sum],AV.sl true 0 2 StW stA (BI x_5.1),.int .i64 (i.1.pops+(1:Int)),.box 0 [Ad (AN x_5.1 (0:Int)).vals,.int .i64 (AN x_5.1 (0:Int)).sum],.int .i64 (↑(List.length (AN x_5.1 (0:Int)).vals):Int),.int .i64 (0:Int)]∧∀(i_1:List StW×Int),opI x.1 i.1.cost (AN i.1.heap (0:Int)) (BI i.1.heap) i_1.1 i_1.2→((0:Int)≤(↑(List.length (AN i.1.heap (0:Int)).vals):Int)∧(↑(List.length (AN i.1.heap (0:Int)).vals):Int)<(↑(List.length x.1.rules):Int))∧∀(e:Ru),x.1.rules[Int.toNat (↑(List.length (AN i.1.heap (0:Int)).vals):Int)]? =some e→Ab (decide (i_1.2<e.vals)) (∃(zs:List Int),Ad (AN i.1.heap (0:Int)).vals=Ad zs∧Bg Cw∧AY ((0:Nat)+List.length zs) (8:Nat)∧∃(x_6:Int),i_1.2=x_6∧∃(zs_1:List Int),AW [x_6]=AW zs_1∧Bg Cw∧AY (List.length ([]++zs)+List.length zs_1) (8:Nat)∧cA KV [.agg [.int .i64 x.1.ind,AV.sl false 0 2 Ru ruA x.1.rules,AV.sl false 0 5 Ch chA x.1.chunks,AV.sl false 0 3 Sn snA x.1.spans,AV.sl false 0 2 Ti tiA x.1.ties],AW ([]++zs++zs_1)] fun x_7 y=>cA KZ [.agg [.int .i64 x.1.ind,AV.sl false 0 2 Ru ruA x.1.rules,AV.sl false 0 5 Ch chA x.1.chunks,AV.sl false 0 3 Sn snA x.1.spans,AV.sl false 0 2 Ti tiA x.1.ties],AW ([]++zs++zs_1)] fun x_8 y=>Ab (!KB x_8.1 x_8.2) (inR IntKind.i64 (i_1.2+(1:Int))∧(WE x i i_1)) (Ab (i.1.cost.over==(0:Int)) (Ab (decide (Cj x_7.1 x_7.2>i.1.cost.sum)) (inR IntKind.i64 (i_1.2+(1:Int))∧(WE x i i_1)) (WD x i i_1 x_7 zs zs_1)) (WD x i i_1 x_7 zs zs_1))) (eN (seL x) i [.int .i64 x.2.1,.int .i64 x.2.2,.box 0 [.int .i64 x.1.ind,AV.sl false 0 2 Ru ruA x.1.rules,AV.sl false 0 5 Ch chA x.1.chunks,AV.sl false 0 3 Sn snA x.1.spans,AV.sl false 0 2 Ti tiA x.1.ties],Ad i.1.best,.box 0 [.int .i64 i.1.cost.over,.int .i64 i.1.cost.sum],AV.sl true 0 2 StW stA i_1.1,.int .i64 (i.1.pops+(1:Int))])))) (∃(zs:List Int),Ad i.1.best=Ad zs∧Bg Cw∧AY ((0:Nat)+List.length zs) (8:Nat)∧rA Il x [.tup [AW ([]++zs),.int .i64 (1:Int)],.top,.top,.top]))) (fun x=>by kernel_rfl) fun(x:Pc×Int×Int) (hx:pcS x.1)=>(by
 dsimp only[WG,WF,WE,WD,cA,Bl,eA,eN,Ad,AW,CA,pcA,rA,Bj,Mu,KV,ER,Mx,Jp,CT,MA,KY,Il,KZ,seL,seS,Bm,Ht,Bn,Aq,Aw,mvL,lnL,mvE,lnE,mvG,mvH,lnG,lnH,Ba]
 obtain⟨p,w,bud⟩:=x;dsimp only at hx ⊢
 have hx:pcS p:=hx
 (repeat' first|refine Ib p ?_|refine Dp p ?_|(apply a2P<;>try dsimp only)|refine a2Q ?_|refine b3L ?_|(with_reducible first|rfl|exact True.intro|apply AG|apply And.intro|((first|apply Au|apply AE|apply Av|apply AF)<;>intro _))|(apply As<;>intro _)|apply AD|refine Af () ?_ ?_|((first|apply AK|apply AJ|apply AI|apply AH|apply AC|apply AB|apply AA|apply Az|apply Ax)<;>try dsimp only)|apply Af|(refine Prod.forall.2 ?_;intro _;try dsimp only)|(intro _;try dsimp only))
 all_goals(try exact Wp (show ruI _ _ _ _ _∧_ by assumption).1)
 all_goals(try exact Ra (EQ (show Bo p=true by assumption)))
 all_goals(try(have hp:=EQ (show Bo p=true by assumption);have hrl:=hp.rl;have htl:=hp.til))
 all_goals(try(have hi:=(show ruI _ _ _ _ _∧_ by assumption).1;have hb:=Rb hi;have hbl:=(WB hi hp).1))
 all_goals(try(have htp:=b3K hi hp ‹_›))
 all_goals(try(have hP:=b3E hp hi ‹_› ‹_›;(try(have hO:=a2G hP (show opI _ _ _ _ _ _ by assumption)))))
 all_goals first
  |with_reducible rfl
  |exact()
  |omega
  |((try simp only[Aj]);omega)
  |exact hx
  |(rw[if_neg (by simp [*])];done)
  |exact b3J hx ‹_›
  |exact(show(0:Int)=st0.sum from rfl)
  |exact Ra hp
  |exact Wp hi
  |(rw[if_pos ‹_›,a2N hi (by omega) (by omega)];done)
  |(rw[if_pos ‹_›,Wl hi (by omega)];done)
  |(rw[if_pos ‹_›,Wl hi (by omega)];rfl)
  |(have hq:=(WB hi hp).2 _ ‹_›;omega)
  |exact b3I hi hx ‹_› ‹_› ‹_›
  |exact a3p hi hp ‹_› ‹_› ‹_› (a2z ‹_›)
  |exact a3p hi hp ‹_› ‹_› ‹_› (a2A ‹_› ‹_›)
  |exact a3q hi hp ‹_› ‹_› ‹_› (a2B ‹_› ‹_›)
  |exact a3q hi hp ‹_› ‹_› ‹_› (a2C ‹_› ‹_›)
  |exact a2D hP
  |exact b3G ‹_› hP ‹_› ‹_›
  |exact b3H ‹_› ‹_›
  |exact(Rt ‹_› hP ‹_› ‹_›).1 (QW (.inl ‹_›))
  |exact(Rt ‹_› hP ‹_› ‹_›).1 (QW (.inr ⟨by assumption,by assumption⟩))
  |exact(Rt ‹_› hP ‹_› ‹_›).2 (QX ‹_› (.inl ‹_›))
  |exact(Rt ‹_› hP ‹_› ‹_›).2 (QX ‹_› (.inr ‹_›))
  |exact b3F hi ‹_› hp ‹_› ‹_› ‹_› ‹_› ‹_›
  |exact Wh hp hO.2.2 _ ‹_›
  |(have hq:=hP.vl;omega)
  |(simp only[AY,List.length_append,List.length_cons,List.length_nil];omega)
  |rfl
  |with_reducible assumption
  |skip)
end Go.My
end
section
namespace Go.My
open Go.Eng
theorem AH{α β γ δ ε ζ η:Type}{p q:α×β×γ×δ×ε×ζ×η→Prop}(a:α)(b:β)(c:γ)(d:δ)(e:ε)(f:ζ)(g:η)(h2:q (a,b,c,d,e,f,g))(h1:p (a,b,c,d,e,f,g)):∃x,p x∧q x:=⟨_,h1,h2⟩
theorem AI{α β γ δ ε ζ η θ:Type}{p q:α×β×γ×δ×ε×ζ×η×θ→Prop}(a:α)(b:β)(c:γ)(d:δ)(e:ε)(f:ζ)(g:η)(h:θ)(h2:q (a,b,c,d,e,f,g,h))(h1:p (a,b,c,d,e,f,g,h)):∃x,p x∧q x:=⟨_,h1,h2⟩
theorem AJ{α β γ δ ε ζ η θ ι:Type}{p q:α×β×γ×δ×ε×ζ×η×θ×ι→Prop}(a:α)(b:β)(c:γ)(d:δ)(e:ε)(f:ζ)(g:η)(h:θ)(i:ι)(h2:q (a,b,c,d,e,f,g,h,i))(h1:p (a,b,c,d,e,f,g,h,i)):∃x,p x∧q x:=⟨_,h1,h2⟩
theorem AK{α β γ δ ε ζ η θ ι κ:Type}{p q:α×β×γ×δ×ε×ζ×η×θ×ι×κ→Prop}(a:α)(b:β)(c:γ)(d:δ)(e:ε)(f:ζ)(g:η)(h:θ)(i:ι)(j:κ)(h2:q (a,b,c,d,e,f,g,h,i,j))(h1:p (a,b,c,d,e,f,g,h,i,j)):∃x,p x∧q x:=⟨_,h1,h2⟩
end Go.My
end
