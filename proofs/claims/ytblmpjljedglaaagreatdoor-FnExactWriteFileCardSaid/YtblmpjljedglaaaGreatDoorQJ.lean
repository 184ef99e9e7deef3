/- joined -/
import Derived.Test.YtblmpjljedglaaaGreatDoorQI
set_option linter.unusedSimpArgs false
set_option linter.unusedVariables false
section
namespace Go.My
open Go.Eng Go.Proofs
variable {G:GInv}
def Lj:Sig:= {X:=Pc×List Int,args:=fun x=>[.agg (pcA false x.1),Ad x.2],pre:=fun x=>x.1.ties.length≤2^40∧x.2.length≤2^40,Y:=Unit,post:=fun x y=>True,res:=fun x y=> .bool (KL x.1 x.2),outs:=fun x y=>[.top,.top],keep:=false}
def RU(x:Pc×List Int):LS:= {ι:=Int,inv:=fun i=>Bz (Fl x.2) x.1.ties i,regs:=fun i=>[(1,Ad x.2),(2,.box 0 (pcA false x.1)),(5,.int .i64 x.2.length),(6,.int .i64 i)],als:=[],meas:=fun i=>x.1.ties.length-i.toNat}
def OI(x:Pc×List Int)(i:Int):Prop:=eN (RU x) i [Ad x.2,.box 0 [.int .i64 x.1.ind,AV.sl false 0 2 Ru ruA x.1.rules,AV.sl false 0 5 Ch chA x.1.chunks,AV.sl false 0 3 Sn snA x.1.spans,AV.sl false 0 2 Ti tiA x.1.ties],.int .i64 (↑(List.length x.2):Int),.int .i64 (i+(1:Int))]
theorem b4Y:Ah G Tryz.prog 152 Lj:=
 vcFun_okP [(45,0,Bq)] [] false (fun x=>[(3,RU x)]) Tryz.func152 rfl (by decide) ⟨Gx,trivial⟩ (fun(x:Pc×List Int)=>(∀(y:Unit),True→True∧True∧True∧True)∧eA (RU x) [Ad x.2,.box 0 [.int .i64 x.1.ind,AV.sl false 0 2 Ru ruA x.1.rules,AV.sl false 0 5 Ch chA x.1.chunks,AV.sl false 0 3 Sn snA x.1.spans,AV.sl false 0 2 Ti tiA x.1.ties],.int .i64 (↑(List.length x.2):Int),.int .i64 (0:Int)]∧∀(i:Int),Bz (Fl x.2) x.1.ties i→Ab (decide (i<(↑(List.length x.1.ties):Int))) (((0:Int)≤i∧i<(↑(List.length x.1.ties):Int))∧∀(e:Ti),x.1.ties[Int.toNat i]? =some e→inR IntKind.i64 ((↑(List.length x.2):Int)-(1:Int))∧cA Bq [.int .i64 e.kid,.int .i64 (0:Int),.int .i64 ((↑(List.length x.2):Int)-(1:Int))] fun x_1 y=>Ab (inn x_1.1 x_1.2.1 x_1.2.2) (inR IntKind.i64 ((↑(List.length x.2):Int)-(1:Int))∧cA Bq [.int .i64 e.up,.int .i64 (0:Int),.int .i64 ((↑(List.length x.2):Int)-(1:Int))] fun x_2 y=>Ab (inn x_2.1 x_2.2.1 x_2.2.2) (((0:Int)≤e.kid∧e.kid<(↑(List.length x.2):Int))∧∀(e_1:Int),x.2[Int.toNat e.kid]? =some e_1→Ab (decide (e_1>(0:Int))) (((0:Int)≤e.up∧e.up<(↑(List.length x.2):Int))∧∀(e_2:Int),x.2[Int.toNat e.up]? =some e_2→Ab (e_2==(0:Int)) (rA Lj x [.bool false,.top,.top]) (inR IntKind.i64 (i+(1:Int))∧(OI x i))) (inR IntKind.i64 (i+(1:Int))∧(OI x i))) (inR IntKind.i64 (i+(1:Int))∧(OI x i))) (inR IntKind.i64 (i+(1:Int))∧(OI x i))) (rA Lj x [.bool true,.top,.top])) (fun x=>by kernel_rfl) fun(x:Pc×List Int) (hx:x.1.ties.length≤2^40∧x.2.length≤2^40)=>(by
 dsimp only[OI,cA,Bl,eA,eN,RU,Ad,pcA,rA,Bj,Bq,Lj,Bm,Bn,Aq,Aw,mvL,lnL,mvE,lnE,mvG,mvH,lnG,lnH,AZ]
 obtain⟨p,v⟩:=x;dsimp only at hx ⊢
 obtain⟨h1,h2⟩:=hx
 (repeat' first|refine Ds p ?_|(with_reducible first|rfl|exact True.intro|apply AG|apply And.intro|((first|apply Au|apply AE|apply Av|apply AF)<;>intro _))|(apply As<;>intro _)|apply AD|refine Af () ?_ ?_|((first|apply AK|apply AJ|apply AI|apply AH|apply AC|apply AB|apply AA|apply Az|apply Ax)<;>try dsimp only)|apply Af|(refine Prod.forall.2 ?_;intro _;try dsimp only)|(intro _;try dsimp only))
 all_goals first
  |with_reducible rfl
  |with_reducible assumption
  |omega
  |exact MA
  |(have hq:=(show Bz _ _ _ by assumption).1;(try simp only[Ai]);omega)
  |(have hq:=Rx (show inn (Ti.kid _) _ _=true by assumption);omega)
  |(have hq:=Rx (show inn (Ti.up _) _ _=true by assumption);omega)
  |exact Fo ‹_› ‹_› ‹_› (a3v ‹_›)
  |exact Fo ‹_› ‹_› ‹_› (a3w ‹_›)
  |exact Fo ‹_› ‹_› ‹_› (a3y ‹_› ‹_›)
  |exact Fo ‹_› ‹_› ‹_› (a3x ‹_› ‹_›)
  |exact(FE ‹_› (a3z ‹_› ‹_› ‹_› ‹_› ‹_› ‹_›)).symm
  |exact(He ‹_› ‹_›).symm
  |skip)
def OJ(x:List StW)(i:List StW×Int×Nat):LS:= {ι:=Unit,inv:=fun _=>0≤i.2.1∧2*i.2.1+1<i.1.length,regs:=fun _=>[(0,CA i.1),(3,.box 0 (stA st0)),(4,.box 0 (stA (AN x 0))),(5,.int .i64 ((x.length:Int)-1)),(6,.int .i64 i.2.1),(7,.int .i64 (dnK i.1 i.2.1))],als:=[],meas:=fun _=>0}
def RV(x:List StW):LS:= {ι:=List StW×Int×Nat,inv:=fun i=>dwI x i.1 i.2.1 i.2.2,regs:=fun i=>[(0,CA i.1),(3,.box 0 (stA st0)),(4,.box 0 (stA (AN x 0))),(5,.int .i64 ((x.length:Int)-1)),(6,.int .i64 i.2.1)],als:=[],meas:=fun i=>i.1.length-i.2.1.toNat,sub:=fun i=>[(200010,OJ x i)]}
def Xc(x:List StW):LS:= {ι:=Unit,inv:=fun _=>True,regs:=fun _=>[(2,CA (BJ x)),(3,.box 0 (stA (AN x 0)))],als:=[],meas:=fun _=>0}
attribute [local irreducible] upI dwI Bt abv DD BJ dnK
def MM:Sig:= {X:=List StW×Unit,args:=fun x=>[CA x.1],pre:=fun x=>0<x.1.length∧x.1.length<2^40∧(∀s∈x.1,s.vals.length<2^62),Y:=Unit,post:=fun x y=>True,res:=fun x y=> .tup [CA (BJ x.1),.agg (stA (AN x.1 0))],outs:=fun x y=>[.top],keep:=true}
def Xd(x:List StW×Unit)(i:List StW×Int×Nat):Prop:=true=true∧((true=true∧(eA (Xc x.1) [AV.sl true 0 2 StW stA i.1,.box 0 [Ad (AN x.1 (0:Int)).vals,.int .i64 (AN x.1 (0:Int)).sum]]))∧(∀(i:Unit),True→∃(y:Unit),True∧AV.sl true 0 2 StW stA (BJ x.1)=AV.sl true 0 2 StW stA (BJ x.1)∧Ad (AN x.1 (0:Int)).vals=Ad (AN x.1 (0:Int)).vals∧(AN x.1 (0:Int)).sum=(AN x.1 (0:Int)).sum∧True))
theorem b4Z:Ah G Tryz.prog 148 MM:=
 vcFun_okP [(188,0,Lh)] [(174,⟨StW,stA⟩)] false (fun x=>[(6,RV x.1),(100015,Xc x.1)]) Tryz.func148 rfl (by decide) ⟨a4t,trivial⟩ (fun(x:List StW×Unit)=>True∧((0:Int)≤(0:Int)∧(0:Int)<(↑(List.length x.1):Int))∧(0:Nat)<List.length x.1∧∀(x_1:StW),x.1[(0:Nat)]? =some x_1→inR IntKind.i64 ((↑(List.length x.1):Int)-(1:Int))∧((0:Int)≤(↑(List.length x.1):Int)-(1:Int)∧(↑(List.length x.1):Int)-(1:Int)<(↑(List.length x.1):Int))∧Int.toNat ((↑(List.length x.1):Int)-(1:Int))<List.length x.1∧∀(x_2:StW),x.1[Int.toNat ((↑(List.length x.1):Int)-(1:Int))]? =some x_2→((0:Int)≤(0:Int)∧(0:Int)<(↑(List.length x.1):Int))∧(0:Nat)<List.length x.1∧∀(x_3:StW),x.1[(0:Nat)]? =some x_3→∃(x':StW),((@List.nil AV)=[]∧(@List.nil AV)=[])∧Ad x_2.vals=Ad x'.vals∧x_2.sum=x'.sum∧((0:Int)≤(0:Int)∧(0:Int)≤(↑(List.length x.1):Int)-(1:Int)∧(↑(List.length x.1):Int)-(1:Int)≤(↑(List.length (List.set x.1 (0:Nat) x')):Int))∧eA (RV x.1) [AV.sl true 0 2 StW stA (List.take (Int.toNat ((↑(List.length x.1):Int)-(1:Int))) (List.set x.1 (0:Nat) x')),.box 0 [.nil,.int .i64 (0:Int)],.box 0 [Ad x_1.vals,.int .i64 x_1.sum],.int .i64 ((↑(List.length x.1):Int)-(1:Int)),.int .i64 (0:Int)]∧∀(i:List StW×Int×Nat),dwI x.1 i.1 i.2.1 i.2.2→inR IntKind.i64 ((2:Int)*i.2.1)∧inR IntKind.i64 ((2:Int)*i.2.1+(1:Int))∧Ab (decide ((2:Int)*i.2.1+(1:Int)<(↑(List.length x.1):Int)-(1:Int))) (inR IntKind.i64 ((2:Int)*i.2.1)∧inR IntKind.i64 ((2:Int)*i.2.1+(1:Int))∧(true=true∧true=true∧inR IntKind.i64 ((2:Int)*i.2.1+(1:Int)+(1:Int))∧Ab (decide ((2:Int)*i.2.1+(1:Int)+(1:Int)<(↑(List.length x.1):Int)-(1:Int))) (inR IntKind.i64 ((2:Int)*i.2.1+(1:Int)+(1:Int))∧((0:Int)≤(2:Int)*i.2.1+(1:Int)+(1:Int)∧(2:Int)*i.2.1+(1:Int)+(1:Int)<(↑(List.length i.1):Int))∧Int.toNat ((2:Int)*i.2.1+(1:Int)+(1:Int))<List.length i.1∧∀(x_4:StW),i.1[Int.toNat ((2:Int)*i.2.1+(1:Int)+(1:Int))]? =some x_4→((0:Int)≤(2:Int)*i.2.1+(1:Int)∧(2:Int)*i.2.1+(1:Int)<(↑(List.length i.1):Int))∧Int.toNat ((2:Int)*i.2.1+(1:Int))<List.length i.1∧∀(x_5:StW),i.1[Int.toNat ((2:Int)*i.2.1+(1:Int))]? =some x_5→∃(x_6:List Int×Int×List Int×Int),(List.length x_6.1<(4611686018427387904:Nat)∧List.length x_6.2.2.1<(4611686018427387904:Nat))∧Ad x_4.vals=Ad x_6.1∧x_4.sum=x_6.2.1∧Ad x_5.vals=Ad x_6.2.2.1∧x_5.sum=x_6.2.2.2∧∃(y0:Unit),(∀(y:Unit),True→AV.bool (Bt {vals:=x_6.1,sum:=x_6.2.1} {vals:=x_6.2.2.1,sum:=x_6.2.2.2})=AV.bool (Bt {vals:=x_6.1,sum:=x_6.2.1} {vals:=x_6.2.2.1,sum:=x_6.2.2.2}))∧true=true∧Ab (Bt {vals:=x_6.1,sum:=x_6.2.1} {vals:=x_6.2.2.1,sum:=x_6.2.2.2}) (inR IntKind.i64 ((2:Int)*i.2.1+(1:Int)+(1:Int))∧eA (OJ x.1 i) [AV.sl true 0 2 StW stA i.1,.box 0 [Ad st0.vals,.int .i64 st0.sum],.box 0 [Ad (AN x.1 (0:Int)).vals,.int .i64 (AN x.1 (0:Int)).sum],.int .i64 ((↑(List.length x.1):Int)-(1:Int)),.int .i64 i.2.1,.int .i64 ((2:Int)*i.2.1+(1:Int)+(1:Int))]) (eA (OJ x.1 i) [AV.sl true 0 2 StW stA i.1,.box 0 [Ad st0.vals,.int .i64 st0.sum],.box 0 [Ad (AN x.1 (0:Int)).vals,.int .i64 (AN x.1 (0:Int)).sum],.int .i64 ((↑(List.length x.1):Int)-(1:Int)),.int .i64 i.2.1,.int .i64 ((2:Int)*i.2.1+(1:Int))])) (eA (OJ x.1 i) [AV.sl true 0 2 StW stA i.1,.box 0 [Ad st0.vals,.int .i64 st0.sum],.box 0 [Ad (AN x.1 (0:Int)).vals,.int .i64 (AN x.1 (0:Int)).sum],.int .i64 ((↑(List.length x.1):Int)-(1:Int)),.int .i64 i.2.1,.int .i64 ((2:Int)*i.2.1+(1:Int))]))∧∀(i_1:Unit),(0:Int)≤i.2.1∧(2:Int)*i.2.1+(1:Int)<(↑(List.length i.1):Int)→true=true∧true=true∧((0:Int)≤dnK i.1 i.2.1∧dnK i.1 i.2.1<(↑(List.length i.1):Int))∧Int.toNat (dnK i.1 i.2.1)<List.length i.1∧∀(x_4:StW),i.1[Int.toNat (dnK i.1 i.2.1)]? =some x_4→((0:Int)≤i.2.1∧i.2.1<(↑(List.length i.1):Int))∧Int.toNat i.2.1<List.length i.1∧∀(x_5:StW),i.1[Int.toNat i.2.1]? =some x_5→∃(x_6:List Int×Int×List Int×Int),(List.length x_6.1<(4611686018427387904:Nat)∧List.length x_6.2.2.1<(4611686018427387904:Nat))∧Ad x_4.vals=Ad x_6.1∧x_4.sum=x_6.2.1∧Ad x_5.vals=Ad x_6.2.2.1∧x_5.sum=x_6.2.2.2∧∃(y0:Unit),(∀(y:Unit),True→AV.bool (Bt {vals:=x_6.1,sum:=x_6.2.1} {vals:=x_6.2.2.1,sum:=x_6.2.2.2})=AV.bool (Bt {vals:=x_6.1,sum:=x_6.2.1} {vals:=x_6.2.2.1,sum:=x_6.2.2.2}))∧true=true∧Ab (!Bt {vals:=x_6.1,sum:=x_6.2.1} {vals:=x_6.2.2.1,sum:=x_6.2.2.2}) (Xd x i) (((0:Int)≤i.2.1∧i.2.1<(↑(List.length i.1):Int))∧Int.toNat i.2.1<List.length i.1∧∀(x_7:StW),i.1[Int.toNat i.2.1]? =some x_7→((0:Int)≤dnK i.1 i.2.1∧dnK i.1 i.2.1<(↑(List.length i.1):Int))∧Int.toNat (dnK i.1 i.2.1)<List.length i.1∧∀(x_8:StW),i.1[Int.toNat (dnK i.1 i.2.1)]? =some x_8→((0:Int)≤i.2.1∧i.2.1<(↑(List.length i.1):Int))∧Int.toNat i.2.1<List.length i.1∧∀(x_9:StW),i.1[Int.toNat i.2.1]? =some x_9→∃(x':StW),((@List.nil AV)=[]∧(@List.nil AV)=[])∧Ad x_8.vals=Ad x'.vals∧x_8.sum=x'.sum∧((0:Int)≤dnK i.1 i.2.1∧dnK i.1 i.2.1<(↑(List.length (List.set i.1 (Int.toNat i.2.1) x')):Int))∧Int.toNat (dnK i.1 i.2.1)<List.length (List.set i.1 (Int.toNat i.2.1) x')∧∀(x_10:StW),(List.set i.1 (Int.toNat i.2.1) x')[Int.toNat (dnK i.1 i.2.1)]? =some x_10→∃(x'_1:StW),((@List.nil AV)=[]∧(@List.nil AV)=[])∧Ad x_7.vals=Ad x'_1.vals∧x_7.sum=x'_1.sum∧eN (RV x.1) i [AV.sl true 0 2 StW stA (List.set (List.set i.1 (Int.toNat i.2.1) x') (Int.toNat (dnK i.1 i.2.1)) x'_1),.box 0 [Ad st0.vals,.int .i64 st0.sum],.box 0 [Ad (AN x.1 (0:Int)).vals,.int .i64 (AN x.1 (0:Int)).sum],.int .i64 ((↑(List.length x.1):Int)-(1:Int)),.int .i64 (dnK i.1 i.2.1)])) (Xd x i)) (fun x=>by kernel_rfl) fun(x:List StW×Unit) (hx:0<x.1.length∧x.1.length<2^40∧(∀s∈x.1,s.vals.length<2^62))=>(by
 dsimp only[Xd,eA,eN,Ad,Xc,OJ,RV,CA,HI,Aq,Aw,AZ]
 obtain⟨x,_⟩:=x;dsimp only at hx ⊢
 obtain⟨h1,h2,h3⟩:=hx
 have h64:(x.length:Int)<2^40:=by omega
 (repeat' first|(apply Rr<;>try dsimp only)|(with_reducible first|rfl|exact True.intro|apply AG|apply And.intro|((first|apply Au|apply AE|apply Av|apply AF)<;>intro _))|(apply As<;>intro _)|apply AD|refine Af () ?_ ?_|((first|apply AK|apply AJ|apply AI|apply AH|apply AC|apply AB|apply AA|apply Az|apply Ax)<;>try dsimp only)|apply Af|(refine Prod.forall.2 ?_;intro _;try dsimp only)|(intro _;try dsimp only))
 all_goals(try(repeat(rename(_:List StW)[_]? =some _=>hq;revert hq;rename(_:List StW)[_]? =some _=>hr;intro hq;rw[hr] at hq;cases hq)))
 all_goals first
  |with_reducible rfl
  |with_reducible assumption
  |omega
  |(simp only[Ai,List.length_set] at*;omega)
  |exact()
  |exact a3o h1 (by with_reducible assumption)
  |exact(show st0.vals=[] from rfl)
  |exact(show(0:Int)=st0.sum from rfl)
  |exact congrArg StW.vals (Rs (by with_reducible assumption)).symm
  |exact congrArg StW.sum (Rs (by with_reducible assumption)).symm
  |(have hb:=Jy (show dwI _ _ _ _ by with_reducible assumption);exact a3q (by omega) (show Bt _ _=true by with_reducible assumption) (by with_reducible assumption) (by with_reducible assumption))
  |exact a3r (show Bt _ _=false by with_reducible assumption) (by with_reducible assumption) (by with_reducible assumption)
  |(have hb:=Jy (show dwI _ _ _ _ by with_reducible assumption);exact a3s (by omega))
  |(rename 0≤_∧2*_+1<_=>hq;have ha:=Mx hq.1 hq.2;(try simp only[List.length_set]);omega)
  |(rename 0≤_∧2*_+1<_=>hq;have ha:=Mx hq.1 hq.2;have hb:=Jy (show dwI _ _ _ _ by with_reducible assumption);omega)
  |exact a3t (by with_reducible assumption) (by with_reducible assumption) (show Bt _ _=true by with_reducible assumption) (by with_reducible assumption) (by with_reducible assumption) (by with_reducible assumption) (by with_reducible assumption)
  |exact a3u (by with_reducible assumption) (show Bt _ _=false by with_reducible assumption) (by with_reducible assumption) (by with_reducible assumption)
  |(have hb:=Jy (show dwI _ _ _ _ by with_reducible assumption);exact WA (by with_reducible assumption) (.inl (by omega)))
  |(have hb:=Jy (show dwI _ _ _ _ by with_reducible assumption);(try simp only[Ai]);omega)
  |exact a3p (by with_reducible assumption) h3 (by with_reducible assumption)
  |skip)
theorem b5a{p:Pc}{w bud:Int}{h:Hu}{n:Nat}(hp:pcOk p)(hi:ruI p w bud h n)(hl:(h.heap.length:Int)>0)(he:((AN h.heap 0).vals.length:Int)≠p.rules.length):
 opP p ⟨h.best,h.cost,BJ h.heap,h.pops+1⟩ (AN h.heap 0):=a3X hp hi hl he
theorem a4u{p:Pc}{w bud:Int}{h:Hu}{n:Nat}(hi:ruI p w bud h n)(hp:pcOk p)(hl:(h.heap.length:Int)>0)(hb:¬h.pops≥bud)(he:((AN h.heap 0).vals.length:Int)=p.rules.length)(hq:Fm (Bi p (AN h.heap 0).vals w) h.cost (AN h.heap 0).vals h.best=true):
 ruI p w bud ⟨(AN h.heap 0).vals,Bi p (AN h.heap 0).vals w,BJ h.heap,h.pops+1⟩ (n-1):=by
 have:=WT hp hi hl hb he
 rwa [WE (h:=⟨h.best,h.cost,BJ h.heap,h.pops+1⟩) hq] at this
theorem a4v{p:Pc}{w bud:Int}{h:Hu}{n:Nat}(hi:ruI p w bud h n)(hp:pcOk p)(hl:(h.heap.length:Int)>0)(hb:¬h.pops≥bud)(he:((AN h.heap 0).vals.length:Int)=p.rules.length)(hq:Fm (Bi p (AN h.heap 0).vals w) h.cost (AN h.heap 0).vals h.best=false):
 ruI p w bud ⟨h.best,h.cost,BJ h.heap,h.pops+1⟩ (n-1):=by
 have:=WT hp hi hl hb he
 rwa [WF (h:=⟨h.best,h.cost,BJ h.heap,h.pops+1⟩) hq] at this
theorem b5b{p:Pc}{w bud:Int}{h:Hu}{n:Nat}{l:List StW}{k:Int}{e:Ru}(hi:ruI p w bud h n)(hI:opI p h.cost (AN h.heap 0) (BJ h.heap) l k)(hp:pcOk p)(hl:(h.heap.length:Int)>0)(hb:¬h.pops≥bud)(he:((AN h.heap 0).vals.length:Int)≠p.rules.length)(hr:p.rules[((AN h.heap 0).vals.length:Int).toNat]? =some e)(hk:¬k<e.vals):
 ruI p w bud ⟨h.best,h.cost,l,h.pops+1⟩ (n-1):=by
 have:=a3W hp hi hl hb he
 rw[a3J hI (by rw[show opC p (AN h.heap 0)=e.vals from(WL (n:=(AN h.heap 0).sum) hr).symm];exact hk)]
 exact this
theorem Xe{p:Pc}{x:StW}{e:Ru}(hr:p.rules[(x.vals.length:Int).toNat]? =some e):opC p x=e.vals:=(WL (n:=x.sum) hr).symm
theorem b5c{p:Pc}{h:Hu}{x:StW}{l:List StW}{k:Int}{e:Ru}(hI:opI p h.cost x h.heap l k)(hx:opP p h x)(hr:p.rules[(x.vals.length:Int).toNat]? =some e)(hk:k<e.vals):bndP p (x.vals++[k]):=a3M (n:=x.sum) hx hI (by rw[Xe hr];exact hk)
theorem RW{p:Pc}{h:Hu}{x:StW}{l:List StW}{k:Int}{e:Ru}(hI:opI p h.cost x h.heap l k)(hx:opP p h x)(hr:p.rules[(x.vals.length:Int).toNat]? =some e)(hk:k<e.vals):
 (Hc p h.cost (x.vals++[k])=true→opI p h.cost x h.heap l (k+1))∧(Hc p h.cost (x.vals++[k])=false→opI p h.cost x h.heap (DD l ⟨x.vals++[k],Cl p (x.vals++[k])⟩) (k+1)):=OE hx hI (by rw[Xe hr];exact hk)
theorem b5d{p:Pc}{x:StW}{k:Int}{e:Ru}(hr:p.rules[(x.vals.length:Int).toNat]? =some e)(hk:k<e.vals):(opC p x-(k+1)).toNat<(opC p x-k).toNat:=by rw[Xe hr];omega
theorem b5e{p:Pc}{w bud:Int}{h:Hu}{n:Nat}(hi:ruI p w bud h n)(hz:pcS p)(hok:Bo p=true)(hl:(h.heap.length:Int)>0)(he:((AN h.heap 0).vals.length:Int)=p.rules.length):qcP p (AN h.heap 0).vals:=⟨RF (EV hok) hz (WS hi hl).1 (by omega),hok⟩
theorem b5f{p:Pc}(hz:pcS p)(hok:Bo p=true):qcP p (Df p):=⟨RF (EV hok) hz (Ot (EV hok)).1 (Ot (EV hok)).2,hok⟩
theorem Xf{p:Pc}{w bud:Int}{h:Hu}{n:Nat}(hi:ruI p w bud h n)(hp:pcOk p):h.best.length≤8∧∀s∈h.heap,s.vals.length≤8:=⟨by have:=hi.1.1.bl;have:=hp.rl;omega,fun s hs=>by have:=(hi.1.1.hk s hs).1.1;have:=hp.rl;omega⟩
theorem b5g{p:Pc}{w bud:Int}{h:Hu}{n:Nat}(hi:ruI p w bud h n)(hp:pcOk p)(hl:(h.heap.length:Int)>0):(AN h.heap 0).vals.length≤8:=(Xf hi hp).2 _ (WP (by omega))
theorem b5h{a:List Int}{b:Int}{o:Bool}{i:Nat}{q:StW→Prop}(h:q ⟨a,b⟩):∃x:StW,AV.sl o i 1 Int (fun x=>fzL (CE x)) a=AV.sl o i 1 Int CE x.vals∧b=x.sum∧q x:=⟨⟨a,b⟩,rfl,rfl,h⟩
def seS(x:Pc×Int×Int)(i:Hu×Nat):LS:= {ι:=List StW×Int,inv:=fun j=>opI x.1 i.1.cost (AN i.1.heap 0) (BJ i.1.heap) j.1 j.2,regs:=fun j=>[(1,.int .i64 x.2.1),(2,.int .i64 x.2.2),(3,.box 0 (pcA false x.1)),(8,Ad i.1.best),(9,.box 0 [.int .i64 i.1.cost.over,.int .i64 i.1.cost.sum]),(10,CA j.1),(11,.int .i64 (i.1.pops+1)),(13,.box 0 (stA (AN i.1.heap 0))),(14,.int .i64 (AN i.1.heap 0).vals.length),(16,.int .i64 j.2)],als:=[],meas:=fun j=>(opC x.1 (AN i.1.heap 0)-j.2).toNat}
def seL(x:Pc×Int×Int):LS:= {ι:=Hu×Nat,inv:=fun i=>(ruI x.1 x.2.1 x.2.2 i.1 i.2∧Bo x.1=true),regs:=fun i=>[(1,.int .i64 x.2.1),(2,.int .i64 x.2.2),(3,.box 0 (pcA false x.1)),(8,Ad i.1.best),(9,.box 0 [.int .i64 i.1.cost.over,.int .i64 i.1.cost.sum]),(10,CA i.1.heap),(11,.int .i64 i.1.pops)],als:=[],meas:=fun i=>i.2,sub:=fun i=>[(20,seS x i)]}
attribute [local irreducible] ruI opI EJ srF opN
def IC:Sig:= {X:=Pc×Int×Int,args:=fun x=>[.agg (pcA false x.1),.int .i64 x.2.1,.int .i64 x.2.2],pre:=fun x=>pcS x.1,Y:=Unit,post:=fun x y=>True,res:=fun x y=> .tup [Ad (if Bo x.1 then(srF x.1 x.2.1 x.2.2).1.best else []),.int .i64 (if Bo x.1 then(srF x.1 x.2.1 x.2.2).2 else 0)],outs:=fun x y=>[.top,.top,.top],keep:=true}
def Xg(x:Pc×Int×Int)(i:Hu×Nat)(i_1:List StW×Int)(x_7:Lf.X)(zs:List Int)(zs_1:List Int):Prop:=cA Li [AV.sl true 0 2 StW stA i_1.1,.agg [AW ([]++zs++zs_1),.int .i64 (Cl x_7.1 x_7.2)]] fun x_9 y=>inR IntKind.i64 (i_1.2+(1:Int))∧(eN (seS x i) i_1 [.int .i64 x.2.1,.int .i64 x.2.2,.box 0 [.int .i64 x.1.ind,AV.sl false 0 2 Ru ruA x.1.rules,AV.sl false 0 5 Ch chA x.1.chunks,AV.sl false 0 3 Sn snA x.1.spans,AV.sl false 0 2 Ti tiA x.1.ties],Ad i.1.best,.box 0 [.int .i64 i.1.cost.over,.int .i64 i.1.cost.sum],AV.sl true 0 2 StW stA (DD x_9.1 {vals:=x_9.2.1,sum:=x_9.2.2}),.int .i64 (i.1.pops+(1:Int)),.box 0 [Ad (AN i.1.heap (0:Int)).vals,.int .i64 (AN i.1.heap (0:Int)).sum],.int .i64 (↑(List.length (AN i.1.heap (0:Int)).vals):Int),.int .i64 (i_1.2+(1:Int))])
def Xh(x:Pc×Int×Int)(i:Hu×Nat)(i_1:List StW×Int):Prop:=eN (seS x i) i_1 [.int .i64 x.2.1,.int .i64 x.2.2,.box 0 [.int .i64 x.1.ind,AV.sl false 0 2 Ru ruA x.1.rules,AV.sl false 0 5 Ch chA x.1.chunks,AV.sl false 0 3 Sn snA x.1.spans,AV.sl false 0 2 Ti tiA x.1.ties],Ad i.1.best,.box 0 [.int .i64 i.1.cost.over,.int .i64 i.1.cost.sum],AV.sl true 0 2 StW stA i_1.1,.int .i64 (i.1.pops+(1:Int)),.box 0 [Ad (AN i.1.heap (0:Int)).vals,.int .i64 (AN i.1.heap (0:Int)).sum],.int .i64 (↑(List.length (AN i.1.heap (0:Int)).vals):Int),.int .i64 (i_1.2+(1:Int))]
def Xi(x:Pc×Int×Int)(i:Hu×Nat)(x_5:MM.X)(x_6:MK.X):Prop:=eN (seL x) i [.int .i64 x.2.1,.int .i64 x.2.2,.box 0 [.int .i64 x.1.ind,AV.sl false 0 2 Ru ruA x.1.rules,AV.sl false 0 5 Ch chA x.1.chunks,AV.sl false 0 3 Sn snA x.1.spans,AV.sl false 0 2 Ti tiA x.1.ties],Ad (AN x_5.1 (0:Int)).vals,.box 0 [.int .i64 (Bi x_6.1 x_6.2.1 x_6.2.2).over,.int .i64 (Bi x_6.1 x_6.2.1 x_6.2.2).sum],AV.sl true 0 2 StW stA (BJ x_5.1),.int .i64 (i.1.pops+(1:Int))]
def Xj(x:Pc×Int×Int)(i:Hu×Nat)(x_5:MM.X):Prop:=eN (seL x) i [.int .i64 x.2.1,.int .i64 x.2.2,.box 0 [.int .i64 x.1.ind,AV.sl false 0 2 Ru ruA x.1.rules,AV.sl false 0 5 Ch chA x.1.chunks,AV.sl false 0 3 Sn snA x.1.spans,AV.sl false 0 2 Ti tiA x.1.ties],Ad i.1.best,.box 0 [.int .i64 i.1.cost.over,.int .i64 i.1.cost.sum],AV.sl true 0 2 StW stA (BJ x_5.1),.int .i64 (i.1.pops+(1:Int))]
theorem b5i:Ah G Tryz.prog 121 IC:=
 vcFun_okP [(13,0,Dg),(18,0,MH),(147,0,MK),(148,0,MM),(149,0,JC),(150,0,EW),(151,0,Lf),(152,0,Lj),(153,0,Li)] [(174,⟨StW,stA⟩),(38,⟨Int,CE⟩)] false (fun x=>[(7,seL x)]) Tryz.func121 rfl (by decide) ⟨a3Z,b4s,b4R,b4Z,b4S,a4s,b4O,b4Y,b4X,trivial⟩ (fun(x:Pc×Int×Int)=>True∧cA Dg [.agg [.int .i64 x.1.ind,AV.sl false 0 2 Ru ruA x.1.rules,AV.sl false 0 5 Ch chA x.1.chunks,AV.sl false 0 3 Sn snA x.1.spans,AV.sl false 0 2 Ti tiA x.1.ties]] fun x_1 y=>Ab (!Bo x_1) (rA IC x [.tup [AW [],.int .i64 (0:Int)],.top,.top,.top]) (cA MH [.agg [.int .i64 x.1.ind,AV.sl false 0 2 Ru ruA x.1.rules,AV.sl false 0 5 Ch chA x.1.chunks,AV.sl false 0 3 Sn snA x.1.spans,AV.sl false 0 2 Ti tiA x.1.ties]] fun x_2 y=>cA MK [.agg [.int .i64 x.1.ind,AV.sl false 0 2 Ru ruA x.1.rules,AV.sl false 0 5 Ch chA x.1.chunks,AV.sl false 0 3 Sn snA x.1.spans,AV.sl false 0 2 Ti tiA x.1.ties],AW (Df x_2),.int .i64 x.2.1] fun x_3 y=>∃(x_4:StW),AV.sl false 0 1 Int (fun(x:Int)=>fzL (CE x)) []=Ad x_4.vals∧(0:Int)=x_4.sum∧eA (seL x) [.int .i64 x.2.1,.int .i64 x.2.2,.box 0 [.int .i64 x.1.ind,AV.sl false 0 2 Ru ruA x.1.rules,AV.sl false 0 5 Ch chA x.1.chunks,AV.sl false 0 3 Sn snA x.1.spans,AV.sl false 0 2 Ti tiA x.1.ties],AW (Df x_2),.box 0 [.int .i64 (Bi x_3.1 x_3.2.1 x_3.2.2).over,.int .i64 (Bi x_3.1 x_3.2.1 x_3.2.2).sum],AV.sl true 0 2 StW stA [x_4],.int .i64 (0:Int)]∧∀(i:Hu×Nat),ruI x.1 x.2.1 x.2.2 i.1 i.2∧Bo x.1=true→Ab (decide ((↑(List.length i.1.heap):Int)>(0:Int))) (Ab (decide (i.1.pops≥x.2.2)) (rA IC x [.tup [Ad i.1.best,.int .i64 (2:Int)],.top,.top,.top]) (inR IntKind.i64 (i.1.pops+(1:Int))∧cA MM [AV.sl true 0 2 StW stA i.1.heap] fun x_5 y=>Ab ((↑(List.length (AN x_5.1 (0:Int)).vals):Int)==(↑(List.length x.1.rules):Int)) (cA MK [.agg [.int .i64 x.1.ind,AV.sl false 0 2 Ru ruA x.1.rules,AV.sl false 0 5 Ch chA x.1.chunks,AV.sl false 0 3 Sn snA x.1.spans,AV.sl false 0 2 Ti tiA x.1.ties],Ad (AN x_5.1 (0:Int)).vals,.int .i64 x.2.1] fun x_6 y=>cA JC [.agg [.int .i64 (Bi x_6.1 x_6.2.1 x_6.2.2).over,.int .i64 (Bi x_6.1 x_6.2.1 x_6.2.2).sum],.agg [.int .i64 i.1.cost.over,.int .i64 i.1.cost.sum]] fun x_7 y=>Ab (GI {over:=x_7.1,sum:=x_7.2.1} {over:=x_7.2.2.1,sum:=x_7.2.2.2}) (Xi x i x_5 x_6) (Ab (true&&(Bi x_6.1 x_6.2.1 x_6.2.2).over==i.1.cost.over&&(Bi x_6.1 x_6.2.1 x_6.2.2).sum==i.1.cost.sum) (cA EW [Ad (AN x_5.1 (0:Int)).vals,Ad i.1.best] fun x_8 y=>Ab (decide (Cy x_8.1 x_8.2<(0:Int))) (Xi x i x_5 x_6) (Xj x i x_5)) (Xj x i x_5))) (eA (seS x i) [.int .i64 x.2.1,.int .i64 x.2.2,.box 0 [.int .i64 x.1.ind,AV.sl false 0 2 Ru ruA x.1.rules,AV.sl false 0 5 Ch chA x.1.chunks,AV.sl false 0 3 Sn snA x.1.spans,AV.sl false 0 2 Ti tiA x.1.ties],Ad i.1.best,.box 0 [.int .i64 i.1.cost.over,.int .i64 i.1.cost.sum],AV.sl true 0 2 StW stA (BJ x_5.1),.int .i64 (i.1.pops+(1:Int)),.box 0 [Ad (AN x_5.1 (0:Int)).vals,.int .i64 (AN x_5.1 (0:Int)).sum],.int .i64 (↑(List.length (AN x_5.1 (0:Int)).vals):Int),.int .i64 (0:Int)]∧∀(i_1:List StW×Int),opI x.1 i.1.cost (AN i.1.heap (0:Int)) (BJ i.1.heap) i_1.1 i_1.2→((0:Int)≤(↑(List.length (AN i.1.heap (0:Int)).vals):Int)∧(↑(List.length (AN i.1.heap (0:Int)).vals):Int)<(↑(List.length x.1.rules):Int))∧∀(e:Ru),x.1.rules[Int.toNat (↑(List.length (AN i.1.heap (0:Int)).vals):Int)]? =some e→Ab (decide (i_1.2<e.vals)) (∃(zs:List Int),Ad (AN i.1.heap (0:Int)).vals=Ad zs∧BH CE∧Bb ((0:Nat)+List.length zs) (8:Nat)∧∃(x_6:Int),i_1.2=x_6∧∃(zs_1:List Int),AW [x_6]=AW zs_1∧BH CE∧Bb (List.length ([]++zs)+List.length zs_1) (8:Nat)∧cA Lf [.agg [.int .i64 x.1.ind,AV.sl false 0 2 Ru ruA x.1.rules,AV.sl false 0 5 Ch chA x.1.chunks,AV.sl false 0 3 Sn snA x.1.spans,AV.sl false 0 2 Ti tiA x.1.ties],AW ([]++zs++zs_1)] fun x_7 y=>cA Lj [.agg [.int .i64 x.1.ind,AV.sl false 0 2 Ru ruA x.1.rules,AV.sl false 0 5 Ch chA x.1.chunks,AV.sl false 0 3 Sn snA x.1.spans,AV.sl false 0 2 Ti tiA x.1.ties],AW ([]++zs++zs_1)] fun x_8 y=>Ab (!KL x_8.1 x_8.2) (inR IntKind.i64 (i_1.2+(1:Int))∧(Xh x i i_1)) (Ab (i.1.cost.over==(0:Int)) (Ab (decide (Cl x_7.1 x_7.2>i.1.cost.sum)) (inR IntKind.i64 (i_1.2+(1:Int))∧(Xh x i i_1)) (Xg x i i_1 x_7 zs zs_1)) (Xg x i i_1 x_7 zs zs_1))) (eN (seL x) i [.int .i64 x.2.1,.int .i64 x.2.2,.box 0 [.int .i64 x.1.ind,AV.sl false 0 2 Ru ruA x.1.rules,AV.sl false 0 5 Ch chA x.1.chunks,AV.sl false 0 3 Sn snA x.1.spans,AV.sl false 0 2 Ti tiA x.1.ties],Ad i.1.best,.box 0 [.int .i64 i.1.cost.over,.int .i64 i.1.cost.sum],AV.sl true 0 2 StW stA i_1.1,.int .i64 (i.1.pops+(1:Int))])))) (∃(zs:List Int),Ad i.1.best=Ad zs∧BH CE∧Bb ((0:Nat)+List.length zs) (8:Nat)∧rA IC x [.tup [AW ([]++zs),.int .i64 (1:Int)],.top,.top,.top]))) (fun x=>by kernel_rfl) fun(x:Pc×Int×Int) (hx:pcS x.1)=>(by
 dsimp only[Xj,Xi,Xh,Xg,cA,Bl,eA,eN,Ad,AW,CA,pcA,rA,Bj,MH,Lf,EW,MK,JC,Dg,MM,Li,IC,Lj,seL,seS,Bm,HI,Bn,Aq,Aw,mvL,lnL,mvE,lnE,mvG,mvH,lnG,lnH,AZ]
 obtain⟨p,w,bud⟩:=x;dsimp only at hx ⊢
 have hx:pcS p:=hx
 (repeat' first|refine Iu p ?_|refine Ds p ?_|(apply a3U<;>try dsimp only)|refine a3V ?_|refine b5h ?_|(with_reducible first|rfl|exact True.intro|apply AG|apply And.intro|((first|apply Au|apply AE|apply Av|apply AF)<;>intro _))|(apply As<;>intro _)|apply AD|refine Af () ?_ ?_|((first|apply AK|apply AJ|apply AI|apply AH|apply AC|apply AB|apply AA|apply Az|apply Ax)<;>try dsimp only)|apply Af|(refine Prod.forall.2 ?_;intro _;try dsimp only)|(intro _;try dsimp only))
 all_goals(try exact WU (show ruI _ _ _ _ _∧_ by assumption).1)
 all_goals(try exact RD (EV (show Bo p=true by assumption)))
 all_goals(try(have hp:=EV (show Bo p=true by assumption);have hrl:=hp.rl;have htl:=hp.til))
 all_goals(try(have hi:=(show ruI _ _ _ _ _∧_ by assumption).1;have hb:=RE hi;have hbl:=(Xf hi hp).1))
 all_goals(try(have htp:=b5g hi hp ‹_›))
 all_goals(try(have hP:=b5a hp hi ‹_› ‹_›;(try(have hO:=a3L hP (show opI _ _ _ _ _ _ by assumption)))))
 all_goals first
  |with_reducible rfl
  |exact()
  |omega
  |((try simp only[Ai]);omega)
  |exact hx
  |(rw[if_neg (by simp [*])];done)
  |exact b5f hx ‹_›
  |exact(show(0:Int)=st0.sum from rfl)
  |exact RD hp
  |exact WU hi
  |(rw[if_pos ‹_›,a3S hi (by omega) (by omega)];done)
  |(rw[if_pos ‹_›,WQ hi (by omega)];done)
  |(rw[if_pos ‹_›,WQ hi (by omega)];rfl)
  |(have hq:=(Xf hi hp).2 _ ‹_›;omega)
  |exact b5e hi hx ‹_› ‹_› ‹_›
  |exact a4u hi hp ‹_› ‹_› ‹_› (a3E ‹_›)
  |exact a4u hi hp ‹_› ‹_› ‹_› (a3F ‹_› ‹_›)
  |exact a4v hi hp ‹_› ‹_› ‹_› (a3G ‹_› ‹_›)
  |exact a4v hi hp ‹_› ‹_› ‹_› (a3H ‹_› ‹_›)
  |exact a3I hP
  |exact b5c ‹_› hP ‹_› ‹_›
  |exact b5d ‹_› ‹_›
  |exact(RW ‹_› hP ‹_› ‹_›).1 (Rz (.inl ‹_›))
  |exact(RW ‹_› hP ‹_› ‹_›).1 (Rz (.inr ⟨by assumption,by assumption⟩))
  |exact(RW ‹_› hP ‹_› ‹_›).2 (RA ‹_› (.inl ‹_›))
  |exact(RW ‹_› hP ‹_› ‹_›).2 (RA ‹_› (.inr ‹_›))
  |exact b5b hi ‹_› hp ‹_› ‹_› ‹_› ‹_› ‹_›
  |exact WM hp hO.2.2 _ ‹_›
  |(have hq:=hP.vl;omega)
  |(simp only[Bb,List.length_append,List.length_cons,List.length_nil];omega)
  |rfl
  |with_reducible assumption
  |skip)
end Go.My
end
section
namespace Go.My
open Go.Eng
theorem AH{α β γ δ ε ζ η:Type}{p q:α×β×γ×δ×ε×ζ×η→Prop}(a:α)(b:β)(c:γ)(d:δ)(e:ε)(f:ζ)(g:η)(h2:q (a,b,c,d,e,f,g))(h1:p (a,b,c,d,e,f,g)):∃x,p x∧q x:=⟨_,h1,h2⟩
theorem AI{α β γ δ ε ζ η θ:Type}{p q:α×β×γ×δ×ε×ζ×η×θ→Prop}(a:α)(b:β)(c:γ)(d:δ)(e:ε)(f:ζ)(g:η)(h:θ)(h2:q (a,b,c,d,e,f,g,h))(h1:p (a,b,c,d,e,f,g,h)):∃x,p x∧q x:=⟨_,h1,h2⟩
theorem AJ{α β γ δ ε ζ η θ ι:Type}{p q:α×β×γ×δ×ε×ζ×η×θ×ι→Prop}(a:α)(b:β)(c:γ)(d:δ)(e:ε)(f:ζ)(g:η)(h:θ)(i:ι)(h2:q (a,b,c,d,e,f,g,h,i))(h1:p (a,b,c,d,e,f,g,h,i)):∃x,p x∧q x:=⟨_,h1,h2⟩
theorem AK{α β γ δ ε ζ η θ ι κ:Type}{p q:α×β×γ×δ×ε×ζ×η×θ×ι×κ→Prop}(a:α)(b:β)(c:γ)(d:δ)(e:ε)(f:ζ)(g:η)(h:θ)(i:ι)(j:κ)(h2:q (a,b,c,d,e,f,g,h,i,j))(h1:p (a,b,c,d,e,f,g,h,i,j)):∃x,p x∧q x:=⟨_,h1,h2⟩
end Go.My
end
section
namespace Go.My
open Go.Eng Go.Proofs
variable {G:GInv}
structure BC where
 ind:Int
 ns:List Nd
 rd:Bool
def buA(c:BC)(s:Bs):AV:= .box 0 [.int .i64 c.ind,.sl true 0 2 Ru ruA s.rules,.sl true 0 5 Ch chA s.chunks,.sl true 0 3 Sn snA s.spans,.sl true 0 2 Ti tiA s.ties,nds c.ns,.str s.text,.bool c.rd]
abbrev xC {α:Type} (x:BC×List Ru×List Ch×List Sn×List Ti×List UInt8×α):Bs:=⟨x.2.1,x.2.2.1,x.2.2.2.1,x.2.2.2.2.1,x.2.2.2.2.2.1⟩
abbrev yBW (y:List Ru×List Ch×List Sn×List Ti×List UInt8):Bs:=⟨y.1,y.2.1,y.2.2.1,y.2.2.2.1,y.2.2.2.2⟩
abbrev BT:Type:=List Ru×List Ch×List Sn×List Ti×List UInt8
structure bB (s:Bs):Prop where
 ok:bOk s
 tt:tot s≤2^61
theorem Hi{s:Bs}(h:bB s):s.text.length≤2^61:=by have:=h.tt;unfold tot at this;omega
theorem a4w{a b:Int}{q:Ru→Prop}(h:q ⟨a,b⟩):∃x:Ru,a=x.vals∧b=x.cost∧q x:=⟨⟨a,b⟩,rfl,rfl,h⟩
theorem a4x{a b:Int}{q:Ti→Prop}(h:q ⟨a,b⟩):∃x:Ti,a=x.kid∧b=x.up∧q x:=⟨⟨a,b⟩,rfl,rfl,h⟩
theorem a4y{a b c:Int}{q:Sn→Prop}(h:q ⟨a,b,c⟩):∃x:Sn,a=x.fr∧b=x.tuu∧c=x.cost∧q x:=⟨⟨a,b,c⟩,rfl,rfl,rfl,h⟩
theorem RX{t:List UInt8}{a b d:Int}{c:Bool}{q:Ch→Prop}(h:q ⟨t,a,b,c,d⟩):∃x:Ch,t=x.text∧a=x.rule∧b=x.fr∧c=x.space∧d=x.nest∧q x:=⟨⟨t,a,b,c,d⟩,rfl,rfl,rfl,rfl,rfl,h⟩
theorem RY{rd:Bool}{v c:Int}{s:Bs}(h:rd=false∨(s.rules.length:Int)≥8):Be rd v c s=s∧AM rd s= -1:=by
 have:FX rd s=false:=by
  rcases h with h|h
  ·simp [FX,h]
  ·simp [FX];intro _;omega
 simp [Be,AM,this]
theorem a4z{rd:Bool}{v c:Int}{s:Bs}(h:rd=true)(h2:¬(s.rules.length:Int)≥8):Be rd v c s=⟨s.rules++[⟨v,c⟩],s.chunks,s.spans,s.ties,s.text⟩∧AM rd s=s.rules.length:=by
 have:FX rd s=true:=by simp [FX,h];omega
 simp [Be,AM,this]
def RZ(t:List UInt8)(r f:Int)(sp:Bool)(n:Int):Ch:=⟨t,r,f,sp,min n 40⟩
theorem b5j{r fr nest:Int}{sp:Bool}{s:Bs}(h:r≥0)(h2:(s.chunks.length:Int)<79):AU r fr sp nest s=⟨s.rules,s.chunks++[RZ s.text r fr sp nest],s.spans,s.ties,[]⟩:=by rw[AU,if_pos ⟨by omega,by omega⟩];rfl
theorem a4A{r fr nest:Int}{sp:Bool}{s:Bs}(h:¬r≥0∨¬(s.chunks.length:Int)<79)(h2:sp=true):AU r fr sp nest s=⟨s.rules,s.chunks,s.spans,s.ties,s.text++[32]⟩:=by rw[AU,if_neg (by omega),if_pos h2];rfl
theorem a4B{r fr nest:Int}{sp:Bool}{s:Bs}(h:¬r≥0∨¬(s.chunks.length:Int)<79)(h2:sp=false):AU r fr sp nest s=s:=by rw[AU,if_neg (by omega),if_neg (by simp [h2])]
theorem b5k{k u:Int}{s:Bs}(h:k≥0)(h1:u≥0)(h2:(s.ties.length:Int)<20):CI k u s=⟨s.rules,s.chunks,s.spans,s.ties++[⟨k,u⟩],s.text⟩:=by rw[CI,if_pos (by omega)]
theorem Xk{k u:Int}{s:Bs}(h:(¬k≥0∨¬u≥0)∨¬(s.ties.length:Int)<20):CI k u s=s:=by rw[CI,if_neg (by omega)]
theorem a4C{f:Int}{s:Bs}(h:(s.chunks.length:Int)-1≥f)(h2:(s.spans.length:Int)<40):Fk f s=⟨s.rules,s.chunks,s.spans++[⟨f,(s.chunks.length:Int)-1,1⟩],s.ties,s.text⟩:=by rw[Fk,if_pos (by omega)]
theorem Xl{f:Int}{s:Bs}(h:¬(s.chunks.length:Int)-1≥f∨¬(s.spans.length:Int)<40):Fk f s=s:=by rw[Fk,if_neg (by omega)]
def DG:Sig:= {X:=BC×List Ru×List Ch×List Sn×List Ti×List UInt8×Int×Int,args:=fun x=>[buA x.1 (xC x),.int .i64 x.2.2.2.2.2.2.1,.int .i64 x.2.2.2.2.2.2.2],pre:=fun x=>bB (xC x),Y:=BT,post:=fun x y=>yBW y=Be x.1.rd x.2.2.2.2.2.2.1 x.2.2.2.2.2.2.2 (xC x),res:=fun x y=> .int .i64 (AM x.1.rd (xC x)),outs:=fun x y=>[buA x.1 (yBW y),.top,.top],keep:=true}
theorem MN:Ah G Tryz.prog 79 DG:=
 vcFun_okP [] [(27,⟨Ru,ruA⟩)] false (fun x=>[]) Tryz.func79 rfl (by decide) trivial (fun(x:BC×List Ru×List Ch×List Sn×List Ti×List UInt8×Int×Int)=>True∧Ab (!x.1.rd) (rA DG x [.int .i64 (-1:Int),.box 0 [.int .i64 x.1.ind,AV.sl true 0 2 Ru ruA (xC x).rules,AV.sl true 0 5 Ch chA (xC x).chunks,AV.sl true 0 3 Sn snA (xC x).spans,AV.sl true 0 2 Ti tiA (xC x).ties,nds x.1.ns,.str (xC x).text,.bool x.1.rd],.top,.top]) (Ab (decide ((↑(List.length (xC x).rules):Int)≥(8:Int))) (rA DG x [.int .i64 (-1:Int),.box 0 [.int .i64 x.1.ind,AV.sl true 0 2 Ru ruA (xC x).rules,AV.sl true 0 5 Ch chA (xC x).chunks,AV.sl true 0 3 Sn snA (xC x).spans,AV.sl true 0 2 Ti tiA (xC x).ties,nds x.1.ns,.str (xC x).text,.bool x.1.rd],.top,.top]) (∃(x_1:Ru),x.2.2.2.2.2.2.1=x_1.vals∧x.2.2.2.2.2.2.2=x_1.cost∧∃(zs:List Ru),AV.sl true 0 2 Ru ruA [x_1]=AV.sl true 0 2 Ru ruA zs∧BH ruA∧Bb (List.length (xC x).rules+List.length zs) (16:Nat)∧inR IntKind.i64 ((↑(List.length ((xC x).rules++zs)):Int)-(1:Int))∧∃(y:BT),yBW y=Be x.1.rd x.2.2.2.2.2.2.1 x.2.2.2.2.2.2.2 (xC x)∧(↑(List.length ((xC x).rules++zs)):Int)-(1:Int)=AM x.1.rd (xC x)∧x.1.ind=x.1.ind∧AV.sl true 0 2 Ru ruA ((xC x).rules++zs)=AV.sl true 0 2 Ru ruA (yBW y).rules∧AV.sl true 0 5 Ch chA (xC x).chunks=AV.sl true 0 5 Ch chA (yBW y).chunks∧AV.sl true 0 3 Sn snA (xC x).spans=AV.sl true 0 3 Sn snA (yBW y).spans∧AV.sl true 0 2 Ti tiA (xC x).ties=AV.sl true 0 2 Ti tiA (yBW y).ties∧nds x.1.ns=nds x.1.ns∧(xC x).text=(yBW y).text∧x.1.rd=x.1.rd∧True))) (fun x=>by kernel_rfl) fun(x:BC×List Ru×List Ch×List Sn×List Ti×List UInt8×Int×Int) (hx:bB (xC x))=>(by
 dsimp only[buA,Bl,Bg,nds,rA,Bj,DG,Bm,Bn,Aq,Aw]
 obtain⟨⟨i,ns,rd⟩,r,c,s,t,u,a,b⟩:=x;dsimp only[xC] at hx ⊢
 have hx:bB ⟨r,c,s,t,u⟩:=hx
 have h1:=hx.ok.ru;dsimp only at h1
 (repeat' first|refine a4w ?_|(with_reducible first|rfl|exact True.intro|apply AG|apply And.intro|((first|apply Au|apply AE|apply Av|apply AF)<;>intro _))|(apply As<;>intro _)|apply AD|refine Af () ?_ ?_|((first|apply AK|apply AJ|apply AI|apply AH|apply AC|apply AB|apply AA|apply Az|apply Ax)<;>try dsimp only)|apply Af|(refine Prod.forall.2 ?_;intro _;try dsimp only)|(intro _;try dsimp only))
 all_goals try(first|(have hF:= @RY rd a b ⟨r,c,s,t,u⟩ (.inl ‹_›))|(have hF:= @RY rd a b ⟨r,c,s,t,u⟩ (.inr ‹_›))|(have hF:= @a4z rd a b ⟨r,c,s,t,u⟩ ‹_› ‹_›))
 all_goals first
  |rfl
  |(simp only[hF];done)
  |(simp only[hF,List.length_append,List.length_cons,List.length_nil];omega)
  |((try simp only[Ai,Bb,List.length_append,List.length_cons,List.length_nil]);omega)
  |skip)
def CX:Sig:= {X:=BC×List Ru×List Ch×List Sn×List Ti×List UInt8×Int×Int×Bool×Int,args:=fun x=>[buA x.1 (xC x),.int .i64 x.2.2.2.2.2.2.1,.int .i64 x.2.2.2.2.2.2.2.1,.bool x.2.2.2.2.2.2.2.2.1,.int .i64 x.2.2.2.2.2.2.2.2.2],pre:=fun x=>bB (xC x),Y:=BT,post:=fun x y=>yBW y=AU x.2.2.2.2.2.2.1 x.2.2.2.2.2.2.2.1 x.2.2.2.2.2.2.2.2.1 x.2.2.2.2.2.2.2.2.2 (xC x),res:=fun x y=> .tup [],outs:=fun x y=>[buA x.1 (yBW y),.top,.top,.top,.top],keep:=true}
def b5l(x:BC×List Ru×List Ch×List Sn×List Ti×List UInt8×Int×Int×Bool×Int):LS:= {ι:=Unit,inv:=fun _=>x.2.2.2.2.2.2.1≥0∧((xC x).chunks.length:Int)<79,regs:=fun _=>[(0,buA x.1 ⟨(xC x).rules,(xC x).chunks++[RZ (xC x).text x.2.2.2.2.2.2.1 x.2.2.2.2.2.2.2.1 x.2.2.2.2.2.2.2.2.1 x.2.2.2.2.2.2.2.2.2],(xC x).spans,(xC x).ties,(xC x).text⟩)],als:=[],meas:=fun _=>0}
def Hj(x:BC×List Ru×List Ch×List Sn×List Ti×List UInt8×Int×Int×Bool×Int):Prop:=∃(x_1:Ch),(xC x).text=x_1.text∧x.2.2.2.2.2.2.1=x_1.rule∧x.2.2.2.2.2.2.2.1=x_1.fr∧x.2.2.2.2.2.2.2.2.1=x_1.space∧min x.2.2.2.2.2.2.2.2.2 (40:Int)=x_1.nest∧(∃(zs:List Ch),AV.sl true 0 5 Ch chA [x_1]=AV.sl true 0 5 Ch chA zs∧(BH chA∧(Bb (List.length (xC x).chunks+List.length zs) (48:Nat)∧(true=true∧(∃(i:Unit),(x.2.2.2.2.2.2.1≥(0:Int)∧(↑(List.length (xC x).chunks):Int)<(79:Int))∧((x.1.ind=x.1.ind∧AV.sl true 0 2 Ru ruA (xC x).rules=AV.sl true 0 2 Ru ruA (xC x).rules∧AV.sl true 0 5 Ch chA ((xC x).chunks++zs)=AV.sl true 0 5 Ch chA ((xC x).chunks++[RZ (xC x).text x.2.2.2.2.2.2.1 x.2.2.2.2.2.2.2.1 x.2.2.2.2.2.2.2.2.1 x.2.2.2.2.2.2.2.2.2])∧AV.sl true 0 3 Sn snA (xC x).spans=AV.sl true 0 3 Sn snA (xC x).spans∧AV.sl true 0 2 Ti tiA (xC x).ties=AV.sl true 0 2 Ti tiA (xC x).ties∧nds x.1.ns=nds x.1.ns∧(xC x).text=(xC x).text∧x.1.rd=x.1.rd∧True)∧True))))))
def Xm(x:BC×List Ru×List Ch×List Sn×List Ti×List UInt8×Int×Int×Bool×Int):Prop:=Ab x.2.2.2.2.2.2.2.2.1 ((↑(List.length (xC x).text+(1:Nat)):Int)≤IntKind.max IntKind.i64∧(rA CX x [.tup [],.box 0 [.int .i64 x.1.ind,AV.sl true 0 2 Ru ruA (xC x).rules,AV.sl true 0 5 Ch chA (xC x).chunks,AV.sl true 0 3 Sn snA (xC x).spans,AV.sl true 0 2 Ti tiA (xC x).ties,nds x.1.ns,.str ((xC x).text++ #[(32:UInt8)].toList),.bool x.1.rd],.top,.top,.top,.top])) (rA CX x [.tup [],.box 0 [.int .i64 x.1.ind,AV.sl true 0 2 Ru ruA (xC x).rules,AV.sl true 0 5 Ch chA (xC x).chunks,AV.sl true 0 3 Sn snA (xC x).spans,AV.sl true 0 2 Ti tiA (xC x).ties,nds x.1.ns,.str (xC x).text,.bool x.1.rd],.top,.top,.top,.top])
theorem MO:Ah G Tryz.prog 80 CX:=
 vcFun_okP [] [(28,⟨Ch,chA⟩)] false (fun x=>[(100002,b5l x)]) Tryz.func80 rfl (by decide) trivial (fun(x:BC×List Ru×List Ch×List Sn×List Ti×List UInt8×Int×Int×Bool×Int)=>True∧Ab (decide (x.2.2.2.2.2.2.1≥(0:Int))) (Ab (decide ((↑(List.length (xC x).chunks):Int)<(79:Int))) (true=true∧(((Hj x)∧(Hj x))∧((Hj x)∧((Hj x)∧((Hj x)∧(Hj x))))∧((Hj x)∧((Hj x)∧((Hj x)∧(Hj x)))))∧∀(i:Unit),x.2.2.2.2.2.2.1≥(0:Int)∧(↑(List.length (xC x).chunks):Int)<(79:Int)→rA CX x [.tup [],.box 0 [.int .i64 x.1.ind,AV.sl true 0 2 Ru ruA (xC x).rules,AV.sl true 0 5 Ch chA ((xC x).chunks++[RZ (xC x).text x.2.2.2.2.2.2.1 x.2.2.2.2.2.2.2.1 x.2.2.2.2.2.2.2.2.1 x.2.2.2.2.2.2.2.2.2]),AV.sl true 0 3 Sn snA (xC x).spans,AV.sl true 0 2 Ti tiA (xC x).ties,nds x.1.ns,.str #[].toList,.bool x.1.rd],.top,.top,.top,.top]) (Xm x)) (Xm x)) (fun x=>by kernel_rfl) fun(x:BC×List Ru×List Ch×List Sn×List Ti×List UInt8×Int×Int×Bool×Int) (hx:bB (xC x))=>(by
 dsimp only[Xm,Hj,buA,Bl,Bg,nds,rA,Bj,CX,Bm,Bn,Aq,Aw]
 obtain⟨⟨i,ns,rd⟩,r,c,s,t,u,a,b,d,e⟩:=x;dsimp only[xC] at hx ⊢
 have hx:bB ⟨r,c,s,t,u⟩:=hx
 have h1:=hx.ok.ch;have h2:=Hi hx;dsimp only at h1 h2
 (repeat' first|refine RX ?_|(with_reducible first|rfl|exact True.intro|apply AG|apply And.intro|((first|apply Au|apply AE|apply Av|apply AF)<;>intro _))|(apply As<;>intro _)|apply AD|refine Af () ?_ ?_|((first|apply AK|apply AJ|apply AI|apply AH|apply AC|apply AB|apply AA|apply Az|apply Ax)<;>try dsimp only)|apply Af|(refine Prod.forall.2 ?_;intro _;try dsimp only)|(intro _;try dsimp only))
 all_goals try(first|(have hF:= @b5j a b e d ⟨r,c,s,t,u⟩ ‹_› ‹_›)|(have hF:= @a4A a b e d ⟨r,c,s,t,u⟩ (.inl ‹_›) ‹_›)|(have hF:= @a4A a b e d ⟨r,c,s,t,u⟩ (.inr ‹_›) ‹_›)|(have hF:= @a4B a b e d ⟨r,c,s,t,u⟩ (.inl ‹_›) ‹_›)|(have hF:= @a4B a b e d ⟨r,c,s,t,u⟩ (.inr ‹_›) ‹_›))
 all_goals first
  |rfl
  |(simp only[hF];done)
  |((try simp only[Ai,Bb,List.length_append,List.length_cons,List.length_nil]);omega)
  |skip)
def IE:Sig:= {X:=BC×List Ru×List Ch×List Sn×List Ti×List UInt8×Int×Int,args:=fun x=>[buA x.1 (xC x),.int .i64 x.2.2.2.2.2.2.1,.int .i64 x.2.2.2.2.2.2.2],pre:=fun x=>bB (xC x),Y:=BT,post:=fun x y=>yBW y=CI x.2.2.2.2.2.2.1 x.2.2.2.2.2.2.2 (xC x),res:=fun x y=> .tup [],outs:=fun x y=>[buA x.1 (yBW y),.top,.top],keep:=true}
def Sa(x:BC×List Ru×List Ch×List Sn×List Ti×List UInt8×Int×Int):Prop:=rA IE x [.tup [],.box 0 [.int .i64 x.1.ind,AV.sl true 0 2 Ru ruA (xC x).rules,AV.sl true 0 5 Ch chA (xC x).chunks,AV.sl true 0 3 Sn snA (xC x).spans,AV.sl true 0 2 Ti tiA (xC x).ties,nds x.1.ns,.str (xC x).text,.bool x.1.rd],.top,.top]
theorem a4D:Ah G Tryz.prog 140 IE:=
 vcFun_okP [] [(30,⟨Ti,tiA⟩)] false (fun x=>[]) Tryz.func140 rfl (by decide) trivial (fun(x:BC×List Ru×List Ch×List Sn×List Ti×List UInt8×Int×Int)=>True∧Ab (decide (x.2.2.2.2.2.2.1≥(0:Int))) (Ab (decide (x.2.2.2.2.2.2.2≥(0:Int))) (Ab (decide ((↑(List.length (xC x).ties):Int)<(20:Int))) (∃(x_1:Ti),x.2.2.2.2.2.2.1=x_1.kid∧x.2.2.2.2.2.2.2=x_1.up∧∃(zs:List Ti),AV.sl true 0 2 Ti tiA [x_1]=AV.sl true 0 2 Ti tiA zs∧BH tiA∧Bb (List.length (xC x).ties+List.length zs) (16:Nat)∧∃(y:BT),yBW y=CI x.2.2.2.2.2.2.1 x.2.2.2.2.2.2.2 (xC x)∧x.1.ind=x.1.ind∧AV.sl true 0 2 Ru ruA (xC x).rules=AV.sl true 0 2 Ru ruA (yBW y).rules∧AV.sl true 0 5 Ch chA (xC x).chunks=AV.sl true 0 5 Ch chA (yBW y).chunks∧AV.sl true 0 3 Sn snA (xC x).spans=AV.sl true 0 3 Sn snA (yBW y).spans∧AV.sl true 0 2 Ti tiA ((xC x).ties++zs)=AV.sl true 0 2 Ti tiA (yBW y).ties∧nds x.1.ns=nds x.1.ns∧(xC x).text=(yBW y).text∧x.1.rd=x.1.rd∧True) (Sa x)) (Sa x)) (Sa x)) (fun x=>by kernel_rfl) fun(x:BC×List Ru×List Ch×List Sn×List Ti×List UInt8×Int×Int) (hx:bB (xC x))=>(by
 dsimp only[Sa,buA,Bl,Bg,nds,rA,Bj,IE,Bm,Bn,Aq,Aw]
 obtain⟨⟨i,ns,rd⟩,r,c,s,t,u,a,b⟩:=x;dsimp only[xC] at hx ⊢
 have hx:bB ⟨r,c,s,t,u⟩:=hx
 have h1:=hx.ok.ti;dsimp only at h1
 (repeat' first|refine a4x ?_|(with_reducible first|rfl|exact True.intro|apply AG|apply And.intro|((first|apply Au|apply AE|apply Av|apply AF)<;>intro _))|(apply As<;>intro _)|apply AD|refine Af () ?_ ?_|((first|apply AK|apply AJ|apply AI|apply AH|apply AC|apply AB|apply AA|apply Az|apply Ax)<;>try dsimp only)|apply Af|(refine Prod.forall.2 ?_;intro _;try dsimp only)|(intro _;try dsimp only))
 all_goals try(first|(have hF:= @b5k a b ⟨r,c,s,t,u⟩ ‹_› ‹_› ‹_›)|(have hF:= @Xk a b ⟨r,c,s,t,u⟩ (.inl (.inl ‹_›)))|(have hF:= @Xk a b ⟨r,c,s,t,u⟩ (.inl (.inr ‹_›)))|(have hF:= @Xk a b ⟨r,c,s,t,u⟩ (.inr ‹_›)))
 all_goals first
  |rfl
  |(simp only[hF];done)
  |((try simp only[Ai,Bb,List.length_append,List.length_cons,List.length_nil]);omega)
  |skip)
def Lk:Sig:= {X:=BC×List Ru×List Ch×List Sn×List Ti×List UInt8×Int,args:=fun x=>[buA x.1 (xC x),.int .i64 x.2.2.2.2.2.2],pre:=fun x=>bB (xC x),Y:=BT,post:=fun x y=>yBW y=Fk x.2.2.2.2.2.2 (xC x),res:=fun x y=> .tup [],outs:=fun x y=>[buA x.1 (yBW y),.top],keep:=true}
theorem b5m:Ah G Tryz.prog 141 Lk:=
 vcFun_okP [] [(29,⟨Sn,snA⟩)] false (fun x=>[]) Tryz.func141 rfl (by decide) trivial (fun(x:BC×List Ru×List Ch×List Sn×List Ti×List UInt8×Int)=>True∧inR IntKind.i64 ((↑(List.length (xC x).chunks):Int)-(1:Int))∧Ab (decide ((↑(List.length (xC x).chunks):Int)-(1:Int)≥x.2.2.2.2.2.2)) (Ab (decide ((↑(List.length (xC x).spans):Int)<(40:Int))) (∃(x_1:Sn),x.2.2.2.2.2.2=x_1.fr∧(↑(List.length (xC x).chunks):Int)-(1:Int)=x_1.tuu∧(1:Int)=x_1.cost∧∃(zs:List Sn),AV.sl true 0 3 Sn snA [x_1]=AV.sl true 0 3 Sn snA zs∧BH snA∧Bb (List.length (xC x).spans+List.length zs) (24:Nat)∧∃(y:BT),yBW y=Fk x.2.2.2.2.2.2 (xC x)∧x.1.ind=x.1.ind∧AV.sl true 0 2 Ru ruA (xC x).rules=AV.sl true 0 2 Ru ruA (yBW y).rules∧AV.sl true 0 5 Ch chA (xC x).chunks=AV.sl true 0 5 Ch chA (yBW y).chunks∧AV.sl true 0 3 Sn snA ((xC x).spans++zs)=AV.sl true 0 3 Sn snA (yBW y).spans∧AV.sl true 0 2 Ti tiA (xC x).ties=AV.sl true 0 2 Ti tiA (yBW y).ties∧nds x.1.ns=nds x.1.ns∧(xC x).text=(yBW y).text∧x.1.rd=x.1.rd∧True) (rA Lk x [.tup [],.box 0 [.int .i64 x.1.ind,AV.sl true 0 2 Ru ruA (xC x).rules,AV.sl true 0 5 Ch chA (xC x).chunks,AV.sl true 0 3 Sn snA (xC x).spans,AV.sl true 0 2 Ti tiA (xC x).ties,nds x.1.ns,.str (xC x).text,.bool x.1.rd],.top])) (rA Lk x [.tup [],.box 0 [.int .i64 x.1.ind,AV.sl true 0 2 Ru ruA (xC x).rules,AV.sl true 0 5 Ch chA (xC x).chunks,AV.sl true 0 3 Sn snA (xC x).spans,AV.sl true 0 2 Ti tiA (xC x).ties,nds x.1.ns,.str (xC x).text,.bool x.1.rd],.top])) (fun x=>by kernel_rfl) fun(x:BC×List Ru×List Ch×List Sn×List Ti×List UInt8×Int) (hx:bB (xC x))=>(by
 dsimp only[buA,Bl,Bg,nds,rA,Bj,Lk,Bm,Bn,Aq,Aw]
 obtain⟨⟨i,ns,rd⟩,r,c,s,t,u,a⟩:=x;dsimp only[xC] at hx ⊢
 have hx:bB ⟨r,c,s,t,u⟩:=hx
 have h1:=hx.ok.sp;have h2:=hx.ok.ch;dsimp only at h1 h2
 (repeat' first|refine a4y ?_|(with_reducible first|rfl|exact True.intro|apply AG|apply And.intro|((first|apply Au|apply AE|apply Av|apply AF)<;>intro _))|(apply As<;>intro _)|apply AD|refine Af () ?_ ?_|((first|apply AK|apply AJ|apply AI|apply AH|apply AC|apply AB|apply AA|apply Az|apply Ax)<;>try dsimp only)|apply Af|(refine Prod.forall.2 ?_;intro _;try dsimp only)|(intro _;try dsimp only))
 all_goals try(first|(have hF:= @a4C a ⟨r,c,s,t,u⟩ ‹_› ‹_›)|(have hF:= @Xl a ⟨r,c,s,t,u⟩ (.inl ‹_›))|(have hF:= @Xl a ⟨r,c,s,t,u⟩ (.inr ‹_›)))
 all_goals first
  |rfl
  |(simp only[hF];done)
  |((try simp only[Ai,Bb,List.length_append,List.length_cons,List.length_nil]);omega)
  |skip)
end Go.My
end
section
namespace Go.My
open Go.Eng
def bR(m:Nat)(s:Bs):Prop:=bOk s∧tot s+m≤2^61
theorem CY{m:Nat}{s:Bs}(h:bR m s):bB s:=⟨h.1,by have:=h.2;omega⟩
theorem MP{rd:Bool}{m k n:Nat}{s t:Bs}(h:bR m s)(hl:bLe rd k s t∧(bOk s→bOk t))(hm:n+k≤m):bR n t:=⟨hl.2 h.1,by have:=hl.1.tt;have:=h.2;omega⟩
theorem Dj{m n:Nat}{s:Bs}(h:bR m s)(hm:n≤m):bR n s:=⟨h.1,by have:=h.2;omega⟩
theorem JD{m n:Nat}{t:List UInt8}{s:Bs}(h:bR m s)(hm:n+t.length≤m):bR n (Am t s):=MP (rd:=true) h ⟨Ef,Eg⟩ hm
theorem JE{r fr nest:Int}{sp:Bool}{m n:Nat}{s:Bs}(h:bR m s)(hm:n+1≤m):bR n (AU r fr sp nest s):=MP (rd:=true) h ⟨GG,GH⟩ hm
theorem HR{rd:Bool}{v c:Int}{m:Nat}{s:Bs}(h:bR m s):bR m (Be rd v c s):=MP (rd:=rd) (k:=0) h ⟨Mt,Mu⟩ (by omega)
structure lpS (rd:Bool) (F:List Int→Int→Bs→Bs) (st:Int→Int→Bs→Bs) (w:Int→Nat) (ks:List Int):Prop where
 e0:∀i s,F [] i s=s
 e1:∀c l i s,0≤i→F (c::l) i s=F l (i+1) (st c i s)
 le:∀c∈ks,∀i s,bLe rd (w c) s (st c i s)∧(bOk s→bOk (st c i s))
def HS(F:List Int→Int→Bs→Bs)(w:Int→Nat)(ks:List Int)(m:Nat)(s0:Bs)(i:Int)(s:Bs):Prop:=
 (0≤i∧i≤ks.length)∧F (ks.drop i.toNat) i s=F ks 0 s0∧bR (wL w (ks.drop i.toNat)+m) s
theorem Sb{F:List Int→Int→Bs→Bs}{w:Int→Nat}{ks:List Int}{m:Nat}{s0:Bs}(h:bR (wL w ks+m) s0):HS F w ks m s0 0 s0:=⟨by omega,rfl,h⟩
theorem OK{rd:Bool}{F:List Int→Int→Bs→Bs}{st:Int→Int→Bs→Bs}{w:Int→Nat}{ks:List Int}{m:Nat}{s0 s:Bs}{i c:Int}(hs:lpS rd F st w ks)(h:HS F w ks m s0 i s)(hc:ks[i.toNat]? =some c):HS F w ks m s0 (i+1) (st c i s):=by
 have hl:=(Cm hc).1
 have h2:=h.2.1;have h3:=h.2.2
 rw[Dq hc] at h2 h3
 rw[hs.e1 _ _ _ _ h.1.1] at h2
 rw[De] at h3
 refine⟨by have:=h.1;omega,?_,?_⟩
 ·rw[BD h.1.1];exact h2
 ·rw[BD h.1.1];exact MP h3 (hs.le c (AY hc) i s) (by omega)
theorem MQ{rd:Bool}{F:List Int→Int→Bs→Bs}{st:Int→Int→Bs→Bs}{w:Int→Nat}{ks:List Int}{m:Nat}{s0 s:Bs}{i:Int}(hs:lpS rd F st w ks)(h:HS F w ks m s0 i s)(hi:¬i<ks.length):s=F ks 0 s0∧bR m s:=by
 have h2:=h.2.1;have h3:=h.2.2
 rw[List.drop_of_length_le (by omega)] at h2 h3
 rw[hs.e0] at h2
 exact⟨h2,Dj h3 (by omega)⟩
theorem OL{F:List Int→Int→Bs→Bs}{w:Int→Nat}{ks:List Int}{m:Nat}{s0 s:Bs}{i:Int}(h:HS F w ks m s0 i s):0≤i∧i≤ks.length:=h.1
theorem Sc{F:List Int→Int→Bs→Bs}{w:Int→Nat}{ks:List Int}{m:Nat}{s0 s:Bs}{i c:Int}(h:HS F w ks m s0 i s)(hc:ks[i.toNat]? =some c):bR (w c+m) s:=by
 have h3:=h.2.2
 rw[Dq hc,De] at h3
 exact Dj h3 (by omega)
def itF(f:Int→Int→Bs→Bs)(r g inner:Int)(l:List Int)(i:Int)(s:Bs):Bs:=itL f r g inner l (decide (i=0)) s
def itS(f:Int→Int→Bs→Bs)(r g inner:Int)(c i:Int)(s:Bs):Bs:=f c inner (if i=0 then s else AU r g true inner (Am [44] s))
theorem b5n{rd:Bool}{w:Int→Nat}{f:Int→Int→Bs→Bs}{r g inner:Int}{ks:List Int}(h:stp rd w f ks):lpS rd (itF f r g inner) (itS f r g inner) (fun c=>2+w c) ks where
 e0 i s:=rfl
 e1 c l i s hi:=by
  rw[itF,itL,itF,itS,decide_eq_false (show¬i+1=0 by omega)]
  by_cases e:i=0<;>simp [e]
 le c hc i s:=by
  have h1:bLe rd 2 s (if i=0 then s else AU r g true inner (Am [44] s))∧(bOk s→bOk (if i=0 then s else AU r g true inner (Am [44] s))):=by
   split
   ·exact⟨Cw FB (by omega),id⟩
   ·exact⟨BP (m:=1) (n:=1) (Ef (t:=[44])) GG,fun ho=>GH (Eg ho)⟩
  have h2:=h c hc inner (if i=0 then s else AU r g true inner (Am [44] s))
  exact⟨BP h1.1 h2.1,fun ho=>h2.2 (h1.2 ho)⟩
def Sd(ns:List Nd)(f:Int→Int→Bs→Bs)(r inner:Int)(t:List UInt8)(l:List Int)(i:Int)(s:Bs):Bs:=chL ns f r inner t l (decide (i=0)) s
def Se(ns:List Nd)(f:Int→Int→Bs→Bs)(r inner:Int)(t:List UInt8)(c i:Int)(s:Bs):Bs:=Ir ns f r inner c (if i=0 then s else AU r 1 true inner (Am (32::t) s))
theorem b5o{rd:Bool}{w:Int→Nat}{ns:List Nd}{f:Int→Int→Bs→Bs}{r inner:Int}{t:List UInt8}{ks:List Int}(ht:t.length≤2)(h:stp rd w f ks):lpS rd (Sd ns f r inner t) (Se ns f r inner t) (fun c=>4+w c) ks where
 e0 i s:=rfl
 e1 c l i s hi:=by
  rw[Sd,chL,Sd,Se,decide_eq_false (show¬i+1=0 by omega)]
  by_cases e:i=0<;>simp [e]
 le c hc i s:=by
  have h1:bLe rd 4 s (if i=0 then s else AU r 1 true inner (Am (32::t) s))∧(bOk s→bOk (if i=0 then s else AU r 1 true inner (Am (32::t) s))):=by
   split
   ·exact⟨Cw FB (by omega),id⟩
   ·exact⟨Cw (BP (n:=1) Ef GG) (by simp;omega),fun ho=>GH (Eg ho)⟩
  have h2:=a2d (ns:=ns) (r:=r) (inner:=inner) (s:=if i=0 then s else AU r 1 true inner (Am (32::t) s)) (h c hc)
  exact⟨BP h1.1 h2.1,fun ho=>h2.2 (h1.2 ho)⟩
def pkS(ns:List Nd)(f:Int→Int→Bs→Bs)(r inner:Int)(c i:Int)(s:Bs):Bs:=It ns f r inner c (if i=0 then s else Am (pkT i) (AU r 1 true inner s))
theorem b5p{rd:Bool}{w:Int→Nat}{ns:List Nd}{f:Int→Int→Bs→Bs}{r inner:Int}{ks:List Int}(h:stp rd w f ks):lpS rd (pkL ns f r inner) (pkS ns f r inner) (fun c=>3+w c) ks where
 e0 i s:=rfl
 e1 c l i s hi:=rfl
 le c hc i s:=by
  have h1:bLe rd 3 s (if i=0 then s else Am (pkT i) (AU r 1 true inner s))∧(bOk s→bOk (if i=0 then s else Am (pkT i) (AU r 1 true inner s))):=by
   split
   ·exact⟨Cw FB (by omega),id⟩
   ·exact⟨Cw (BP (m:=1) GG Ef) (by have:= @VY i;omega),fun ho=>Eg (GH ho)⟩
  have h2:=a2e (ns:=ns) (r:=r) (inner:=inner) (s:=if i=0 then s else Am (pkT i) (AU r 1 true inner s)) (h c hc)
  exact⟨BP h1.1 h2.1,fun ho=>h2.2 (h1.2 ho)⟩
def caF(f:Int→Int→Bs→Bs)(r inner:Int)(l:List Int)(i:Int)(s:Bs):Bs:=caL f r inner l s
def caS(f:Int→Int→Bs→Bs)(r inner:Int)(c i:Int)(s:Bs):Bs:=f c inner (Am [46,46] (AU r 1 false inner s))
theorem b5q{rd:Bool}{w:Int→Nat}{f:Int→Int→Bs→Bs}{r inner:Int}{ks:List Int}(h:stp rd w f ks):lpS rd (caF f r inner) (caS f r inner) (fun c=>3+w c) ks where
 e0 i s:=rfl
 e1 c l i s hi:=rfl
 le c hc i s:=by
  have h1:bLe rd 3 s (Am [46,46] (AU r 1 false inner s))∧(bOk s→bOk (Am [46,46] (AU r 1 false inner s))):=
   ⟨Cw (BP (m:=1) GG Ef) (by simp),fun ho=>Eg (GH ho)⟩
  have h2:=h c hc inner (Am [46,46] (AU r 1 false inner s))
  exact⟨BP h1.1 h2.1,fun ho=>h2.2 (h1.2 ho)⟩
theorem OM{w:Int→Nat}{k:Nat}:∀ {l:List Int},wL (fun c=>k+w c) l=k*l.length+wL w l
 |[]=>by simp [wL]
 |c::l=>by rw[De,De,OM,List.length_cons,Nat.mul_succ];omega
theorem Sf{ns:List Nd}{rd:Bool}{n:Nat}{k a:Int}{s:Bs}(h:Bv ns k)(hk:k<n)(h7:Al ns k=7∨Al ns k=8):DB s.rules.length (bV ns rd n k a s)=GF rd (Aa ns k) s:=by
 have hv:AX (Al ns k)=true:=by rcases h7 with e|e<;>rw[e]<;>rfl
 have hle:=(Mw (rd:=rd) (a:=a) (s:=s) h hk hv).1
 have hr:=Bc.1 h.1
 obtain⟨m,rfl⟩:∃m,n=m+1:=⟨n-1,by omega⟩
 unfold Al at h7
 have hs:stp rd (tW ns m) (bV ns rd m) (Aa ns k).kids:=b3j h hk hv fun c hc=>hc
 rw[GF,if_pos h7,AM]
 by_cases hb:FX rd s=true
 ·rw[if_pos hb]
  have h1:(Be rd 2 1 s).rules.length=s.rules.length+1:=by rw[Be,if_pos hb];simp
  have h2:(Be rd 2 1 s).rules.length≤(bV ns rd (m+1) k a s).rules.length:=by
   rw[bV]
   unfold bV1
   rcases h7 with e|e
   ·simp only[e,KJ]
    exact(VX (t:=(Aa ns k).text) (Wc h e) hs).1.ru
   ·simp only[e,Ms]
    exact(VZ hs).1.ru
  rw[DB,if_pos (by omega)]
 ·rw[if_neg hb]
  have:=hle.fu (by simpa using hb)
  rw[DB,this,if_neg (by omega)]
end Go.My
end
section
namespace Go.My
open Go.Eng Go.Proofs
variable {G:GInv}
abbrev zBW (x:List Ru×List Ch×List Sn×List Ti×List UInt8×Int):Bs:=⟨x.1,x.2.1,x.2.2.1,x.2.2.2.1,x.2.2.2.2.1⟩
abbrev zI (x:List Ru×List Ch×List Sn×List Ti×List UInt8×Int):Int:=x.2.2.2.2.2
def isB(w t:Bs):Prop:=t=w
structure vlP (ns:List Nd) (n:Nat) (s:Bs) (k a:Int):Prop where
 up:Bv ns k
 lt:k<n
 vl:AX (Al ns k)=true
 rm:bR (tW ns n k) s
 ar:0≤a∧a≤40
def BK(c:BC)(n:Nat)(s:Bs)(k a:Int)(o:Int)(t:Bs):Prop:=t=bV c.ns c.rd n k a s∧o=GF c.rd (Aa c.ns k) s
def Ci(n:Nat):Sig:= {X:=BC×List Ru×List Ch×List Sn×List Ti×List UInt8×Int×Int,args:=fun x=>[buA x.1 (xC x),.int .i64 x.2.2.2.2.2.2.1,.int .i64 x.2.2.2.2.2.2.2],pre:=fun x=>vlP x.1.ns n (xC x) x.2.2.2.2.2.2.1 x.2.2.2.2.2.2.2,Y:=Int×BT,post:=fun x y=>BK x.1 n (xC x) x.2.2.2.2.2.2.1 x.2.2.2.2.2.2.2 y.1 (yBW y.2),res:=fun x y=> .int .i64 y.1,outs:=fun x y=>[buA x.1 (yBW y.2),.top,.top],keep:=true}
def kdP(ns:List Nd)(n:Nat)(ks:List Int):Prop:=∀c∈ks,Bv ns c∧c<n∧AX (Al ns c)=true
theorem Sh{ns:List Nd}{rd:Bool}{n:Nat}{ks:List Int}(h:kdP ns n ks):stp rd (tW ns n) (bV ns rd n) ks:=fun c hc a s=>Mw (h c hc).1 (h c hc).2.1 (h c hc).2.2
theorem MR{a:Int}(h:0≤a∧a≤40):0≤up4 a∧up4 a≤40:=by unfold up4;omega
structure liP (c:BC) (n:Nat) (s:Bs) (op:List UInt8) (ks:List Int) (en:List UInt8) (a:Int):Prop where
 kd:kdP c.ns n ks
 kl:ks.length≤12
 ol:op.length≤1
 el:en.length≤1
 rm:bR (28+wL (tW c.ns n) ks) s
 ar:0≤a∧a≤40
def liR(c:BC)(s:Bs)(op:List UInt8):Int:=AM c.rd (Am op s)
def li0(c:BC)(s:Bs)(op:List UInt8)(ks:List Int)(a:Int):Bs:=AU (liR c s op) 1 false (up4 a) (Be c.rd (min (ks.length:Int) 2+1) 1 (Am op s))
def Xn(c:BC)(n:Nat)(s:Bs)(op:List UInt8)(ks:List Int)(a:Int):List Int→Int→Bs→Bs:=itF (bV c.ns c.rd n) (liR c s op) (min (ks.length:Int) 2) (up4 a)
def liI(c:BC)(n:Nat)(s:Bs)(op:List UInt8)(ks:List Int)(a:Int)(i:Int)(t:Bs):Prop:=
 HS (Xn c n s op ks a) (fun k=>2+tW c.ns n k) ks 2 (li0 c s op ks a) i t
theorem b5r{c:BC}{n:Nat}{ks:List Int}:wL (fun k=>2+tW c.ns n k) ks=2*ks.length+wL (tW c.ns n) ks:=OM
theorem Xo{c:BC}{n:Nat}{s:Bs}{op:List UInt8}{ks:List Int}{en:List UInt8}{a:Int}(h:liP c n s op ks en a):bR (27+wL (tW c.ns n) ks) (Am op s):=JD h.rm (by have:=h.ol;omega)
theorem Si{c:BC}{n:Nat}{s:Bs}{op:List UInt8}{ks:List Int}{en:List UInt8}{a:Int}(h:liP c n s op ks en a):bB (Am op s):=CY (Xo h)
theorem a4E{c:BC}{n:Nat}{s t:Bs}{op:List UInt8}{ks:List Int}{en:List UInt8}{a:Int}(h:liP c n s op ks en a)(ht:t=Be c.rd (min (ks.length:Int) 2+1) 1 (Am op s)):bB t:=by subst ht;exact CY (HR (Xo h))
theorem a4F{c:BC}{n:Nat}{s t u:Bs}{op:List UInt8}{ks:List Int}{en:List UInt8}{a:Int}(h:liP c n s op ks en a)(hu:u=AU (AM c.rd (Am op s)) 1 false (min (a+4) 40) t)(ht:t=Be c.rd (min (ks.length:Int) 2+1) 1 (Am op s)):liI c n s op ks a 0 u:=by
 subst hu;subst ht
 have h1:bR (wL (fun k=>2+tW c.ns n k) ks+2) (li0 c s op ks a):=by
  rw[b5r];exact JE (HR (Xo h)) (by have:=h.kl;omega)
 exact Sb (F:=Xn c n s op ks a) h1
theorem liS{c:BC}{n:Nat}{s:Bs}{op:List UInt8}{ks:List Int}{en:List UInt8}{a:Int}(h:liP c n s op ks en a):lpS c.rd (Xn c n s op ks a) (itS (bV c.ns c.rd n) (liR c s op) (min (ks.length:Int) 2) (up4 a)) (fun k=>2+tW c.ns n k) ks:=b5n (Sh h.kd)
theorem Xp{c:BC}{n:Nat}{s t:Bs}{op:List UInt8}{ks:List Int}{a i:Int}(h:liI c n s op ks a i t):0≤i∧i≤ks.length:=OL h
theorem Sj{c:BC}{n:Nat}{s t:Bs}{op:List UInt8}{ks:List Int}{a i k:Int}(h:liI c n s op ks a i t)(hc:ks[i.toNat]? =some k):bR (tW c.ns n k+2) t:=Dj (Sc h hc) (by omega)
theorem Xq{c:BC}{n:Nat}{s t:Bs}{op:List UInt8}{ks:List Int}{a i k:Int}(h:liI c n s op ks a i t)(hc:ks[i.toNat]? =some k):t.text.length≤2^61:=Hi (CY (Sj h hc))
theorem a4G{c:BC}{n:Nat}{s t:Bs}{op:List UInt8}{ks:List Int}{a i k:Int}(h:liI c n s op ks a i t)(hc:ks[i.toNat]? =some k):bB (Am [44] t):=CY (m:=1) (JD (Sj h hc) (by show 1+1≤_;omega))
theorem a4H{c:BC}{n:Nat}{s t:Bs}{op:List UInt8}{ks:List Int}{en:List UInt8}{a i k:Int}(h:liI c n s op ks a i t)(hx:liP c n s op ks en a)(hc:ks[i.toNat]? =some k):vlP c.ns n t k (min (a+4) 40):=
 ⟨(hx.kd k (AY hc)).1,(hx.kd k (AY hc)).2.1,(hx.kd k (AY hc)).2.2,Dj (Sj h hc) (by omega),MR hx.ar⟩
theorem a4I{c:BC}{n:Nat}{s t u:Bs}{op:List UInt8}{ks:List Int}{en:List UInt8}{a i k:Int}(h:liI c n s op ks a i t)(hu:u=AU (AM c.rd (Am op s)) (min (ks.length:Int) 2) true (min (a+4) 40) (Am [44] t))(hx:liP c n s op ks en a)(hc:ks[i.toNat]? =some k):vlP c.ns n u k (min (a+4) 40):=by
 subst hu
 exact⟨(hx.kd k (AY hc)).1,(hx.kd k (AY hc)).2.1,(hx.kd k (AY hc)).2.2,JE (JD (n:=tW c.ns n k+1) (Sj h hc) (by simp)) (by omega),MR hx.ar⟩
theorem a4J{c:BC}{n:Nat}{s t u:Bs}{op:List UInt8}{ks:List Int}{en:List UInt8}{a i k o:Int}(hu:BK c n t k (min (a+4) 40) o u)(h:liI c n s op ks a i t)(hx:liP c n s op ks en a)(hc:ks[i.toNat]? =some k)(hi:¬i>0):liI c n s op ks a (i+1) u:=by
 have:=OK (liS hx) h hc
 have e:i=0:=by have:=(OL h);omega
 rw[hu.1]
 rw[itS,if_pos e] at this
 exact this
theorem a4K{c:BC}{n:Nat}{s t u v:Bs}{op:List UInt8}{ks:List Int}{en:List UInt8}{a i k o:Int}(h:liI c n s op ks a i t)(hu:BK c n v k (min (a+4) 40) o u)(hv:v=AU (AM c.rd (Am op s)) (min (ks.length:Int) 2) true (min (a+4) 40) (Am [44] t))(hx:liP c n s op ks en a)(hc:ks[i.toNat]? =some k)(hi:i>0):liI c n s op ks a (i+1) u:=by
 have:=OK (liS hx) h hc
 rw[hu.1,hv]
 rw[itS,if_neg (by omega)] at this
 exact this
theorem a4L{c:BC}{n:Nat}{s t:Bs}{op:List UInt8}{ks:List Int}{en:List UInt8}{a i:Int}(h:liI c n s op ks a i t)(hx:liP c n s op ks en a)(hi:¬i<ks.length):bB t:=CY (MQ (liS hx) h hi).2
theorem a4M{c:BC}{n:Nat}{s t u:Bs}{op:List UInt8}{ks:List Int}{en:List UInt8}{a i:Int}(hu:u=AU (AM c.rd (Am op s)) 1 false a t)(h:liI c n s op ks a i t)(hx:liP c n s op ks en a)(hi:¬i<ks.length):u.text.length≤2^61:=by
 subst hu
 exact Hi (CY (m:=1) (JE (MQ (liS hx) h hi).2 (by omega)))
theorem a4N{c:BC}{n:Nat}{s t u:Bs}{op:List UInt8}{ks:List Int}{en:List UInt8}{a i:Int}(hu:u=AU (AM c.rd (Am op s)) 1 false a t)(h:liI c n s op ks a i t)(hx:liP c n s op ks en a)(hi:¬i<ks.length)(hk:(ks.length:Int)>0):isB (Ee c.rd (bV c.ns c.rd n) op ks en a s) (Am en u):=by
 have:=(MQ (liS hx) h hi).1
 subst hu
 unfold isB
 rw[Ee,if_neg (by intro e;rw[e] at hk;simp at hk),this,show((min ks.length 2:Nat):Int)=min (ks.length:Int) 2 by omega]
 rfl
theorem a4O{c:BC}{n:Nat}{s:Bs}{op:List UInt8}{ks:List Int}{en:List UInt8}{a:Int}(hk:¬(ks.length:Int)>0):isB (Ee c.rd (bV c.ns c.rd n) op ks en a s) (Am en (Am op s)):=by
 unfold isB;rw[Ee,if_pos (List.eq_nil_of_length_eq_zero (by omega))]
attribute [local irreducible] liI
def JF(n:Nat):Sig:= {X:=BC×List Ru×List Ch×List Sn×List Ti×List UInt8×List UInt8×List Int×List UInt8×Int,args:=fun x=>[buA x.1 (xC x),.str x.2.2.2.2.2.2.1,Ad x.2.2.2.2.2.2.2.1,.str x.2.2.2.2.2.2.2.2.1,.int .i64 x.2.2.2.2.2.2.2.2.2],pre:=fun x=>liP x.1 n (xC x) x.2.2.2.2.2.2.1 x.2.2.2.2.2.2.2.1 x.2.2.2.2.2.2.2.2.1 x.2.2.2.2.2.2.2.2.2,Y:=BT,post:=fun x y=>isB (Ee x.1.rd (bV x.1.ns x.1.rd n) x.2.2.2.2.2.2.1 x.2.2.2.2.2.2.2.1 x.2.2.2.2.2.2.2.2.1 x.2.2.2.2.2.2.2.2.2 (xC x)) (yBW y),res:=fun x y=> .tup [],outs:=fun x y=>[buA x.1 (yBW y),.top,.top,.top,.top],keep:=true}
def ON(n:Nat)(x:BC×List Ru×List Ch×List Sn×List Ti×List UInt8×List UInt8×List Int×List UInt8×Int):LS:= {ι:=List Ru×List Ch×List Sn×List Ti×List UInt8×Int,inv:=fun i=>liI x.1 n (xC x) x.2.2.2.2.2.2.1 x.2.2.2.2.2.2.2.1 x.2.2.2.2.2.2.2.2.2 (zI i) (zBW i),regs:=fun i=>[(0,buA x.1 (zBW i)),(3,.str x.2.2.2.2.2.2.2.2.1),(4,.int .i64 x.2.2.2.2.2.2.2.2.2),(10,.int .i64 (min (x.2.2.2.2.2.2.2.2.2+4) 40)),(11,.int .i64 (min (x.2.2.2.2.2.2.2.1.length:Int) 2)),(12,.int .i64 (AM x.1.rd (Am x.2.2.2.2.2.2.1 (xC x)))),(40,Ad x.2.2.2.2.2.2.2.1),(41,.int .i64 x.2.2.2.2.2.2.2.1.length),(42,.int .i64 (zI i))],als:=[],meas:=fun i=>x.2.2.2.2.2.2.2.1.length-(zI i).toNat}
theorem b5s(n:Nat)(hc:Ah G Go.Proofs.Tryz.prog 81 (Ci n)):Ah G Tryz.prog 112 (JF n):=
 vcFun_okP [(79,0,DG),(80,0,CX),(81,0,(Ci n))] [] false (fun x=>[(7,ON n x)]) Tryz.func112 rfl (by decide) ⟨MN,MO,hc,trivial⟩ (fun(x:BC×List Ru×List Ch×List Sn×List Ti×List UInt8×List UInt8×List Int×List UInt8×Int)=>True∧(↑(List.length (xC x).text+List.length x.2.2.2.2.2.2.1):Int)≤IntKind.max IntKind.i64∧Ab (decide ((↑(List.length x.2.2.2.2.2.2.2.1):Int)>(0:Int))) (inR IntKind.i64 (x.2.2.2.2.2.2.2.2.2+(4:Int))∧inR IntKind.i64 (min (↑(List.length x.2.2.2.2.2.2.2.1):Int) (2:Int)+(1:Int))∧cA DG [.box 0 [.int .i64 x.1.ind,AV.sl true 0 2 Ru ruA (xC x).rules,AV.sl true 0 5 Ch chA (xC x).chunks,AV.sl true 0 3 Sn snA (xC x).spans,AV.sl true 0 2 Ti tiA (xC x).ties,nds x.1.ns,.str ((xC x).text++x.2.2.2.2.2.2.1),.bool x.1.rd],.int .i64 (min (↑(List.length x.2.2.2.2.2.2.2.1):Int) (2:Int)+(1:Int)),.int .i64 (1:Int)] fun x_1 y=>cA CX [.box 0 [.int .i64 x_1.1.ind,AV.sl true 0 2 Ru ruA (yBW y).rules,AV.sl true 0 5 Ch chA (yBW y).chunks,AV.sl true 0 3 Sn snA (yBW y).spans,AV.sl true 0 2 Ti tiA (yBW y).ties,nds x_1.1.ns,.str (yBW y).text,.bool x_1.1.rd],.int .i64 (AM x_1.1.rd (xC x_1)),.int .i64 (1:Int),.bool false,.int .i64 (min (x.2.2.2.2.2.2.2.2.2+(4:Int)) (40:Int))] fun x_2 y=>eA (ON n x) [.box 0 [.int .i64 x_2.1.ind,AV.sl true 0 2 Ru ruA (yBW y).rules,AV.sl true 0 5 Ch chA (yBW y).chunks,AV.sl true 0 3 Sn snA (yBW y).spans,AV.sl true 0 2 Ti tiA (yBW y).ties,nds x_2.1.ns,.str (yBW y).text,.bool x_2.1.rd],.str x.2.2.2.2.2.2.2.2.1,.int .i64 x.2.2.2.2.2.2.2.2.2,.int .i64 (min (x.2.2.2.2.2.2.2.2.2+(4:Int)) (40:Int)),.int .i64 (min (↑(List.length x.2.2.2.2.2.2.2.1):Int) (2:Int)),.int .i64 (AM x_1.1.rd (xC x_1)),Ad x.2.2.2.2.2.2.2.1,.int .i64 (↑(List.length x.2.2.2.2.2.2.2.1):Int),.int .i64 (0:Int)]∧∀(i:List Ru×List Ch×List Sn×List Ti×List UInt8×Int),liI x.1 n (xC x) x.2.2.2.2.2.2.1 x.2.2.2.2.2.2.2.1 x.2.2.2.2.2.2.2.2.2 (zI i) (zBW i)→Ab (decide (zI i<(↑(List.length x.2.2.2.2.2.2.2.1):Int))) (((0:Int)≤zI i∧zI i<(↑(List.length x.2.2.2.2.2.2.2.1):Int))∧∀(e:Int),x.2.2.2.2.2.2.2.1[Int.toNat (zI i)]? =some e→Ab (decide (zI i>(0:Int))) ((↑(List.length (zBW i).text+(1:Nat)):Int)≤IntKind.max IntKind.i64∧cA CX [.box 0 [.int .i64 x.1.ind,AV.sl true 0 2 Ru ruA (zBW i).rules,AV.sl true 0 5 Ch chA (zBW i).chunks,AV.sl true 0 3 Sn snA (zBW i).spans,AV.sl true 0 2 Ti tiA (zBW i).ties,nds x.1.ns,.str ((zBW i).text++ #[(44:UInt8)].toList),.bool x.1.rd],.int .i64 (AM x.1.rd (Am x.2.2.2.2.2.2.1 (xC x))),.int .i64 (min (↑(List.length x.2.2.2.2.2.2.2.1):Int) (2:Int)),.bool true,.int .i64 (min (x.2.2.2.2.2.2.2.2.2+(4:Int)) (40:Int))] fun x_3 y=>cA (Ci n) [.box 0 [.int .i64 x_3.1.ind,AV.sl true 0 2 Ru ruA (yBW y).rules,AV.sl true 0 5 Ch chA (yBW y).chunks,AV.sl true 0 3 Sn snA (yBW y).spans,AV.sl true 0 2 Ti tiA (yBW y).ties,nds x_3.1.ns,.str (yBW y).text,.bool x_3.1.rd],.int .i64 e,.int .i64 (min (x.2.2.2.2.2.2.2.2.2+(4:Int)) (40:Int))] fun x_4 y=>inR IntKind.i64 (zI i+(1:Int))∧eN (ON n x) i [.box 0 [.int .i64 x_4.1.ind,AV.sl true 0 2 Ru ruA (yBW y.2).rules,AV.sl true 0 5 Ch chA (yBW y.2).chunks,AV.sl true 0 3 Sn snA (yBW y.2).spans,AV.sl true 0 2 Ti tiA (yBW y.2).ties,nds x_4.1.ns,.str (yBW y.2).text,.bool x_4.1.rd],.str x.2.2.2.2.2.2.2.2.1,.int .i64 x.2.2.2.2.2.2.2.2.2,.int .i64 (min (x.2.2.2.2.2.2.2.2.2+(4:Int)) (40:Int)),.int .i64 (min (↑(List.length x.2.2.2.2.2.2.2.1):Int) (2:Int)),.int .i64 (AM x.1.rd (Am x.2.2.2.2.2.2.1 (xC x))),Ad x.2.2.2.2.2.2.2.1,.int .i64 (↑(List.length x.2.2.2.2.2.2.2.1):Int),.int .i64 (zI i+(1:Int))]) (cA (Ci n) [.box 0 [.int .i64 x.1.ind,AV.sl true 0 2 Ru ruA (zBW i).rules,AV.sl true 0 5 Ch chA (zBW i).chunks,AV.sl true 0 3 Sn snA (zBW i).spans,AV.sl true 0 2 Ti tiA (zBW i).ties,nds x.1.ns,.str (zBW i).text,.bool x.1.rd],.int .i64 e,.int .i64 (min (x.2.2.2.2.2.2.2.2.2+(4:Int)) (40:Int))] fun x_3 y=>inR IntKind.i64 (zI i+(1:Int))∧eN (ON n x) i [.box 0 [.int .i64 x_3.1.ind,AV.sl true 0 2 Ru ruA (yBW y.2).rules,AV.sl true 0 5 Ch chA (yBW y.2).chunks,AV.sl true 0 3 Sn snA (yBW y.2).spans,AV.sl true 0 2 Ti tiA (yBW y.2).ties,nds x_3.1.ns,.str (yBW y.2).text,.bool x_3.1.rd],.str x.2.2.2.2.2.2.2.2.1,.int .i64 x.2.2.2.2.2.2.2.2.2,.int .i64 (min (x.2.2.2.2.2.2.2.2.2+(4:Int)) (40:Int)),.int .i64 (min (↑(List.length x.2.2.2.2.2.2.2.1):Int) (2:Int)),.int .i64 (AM x.1.rd (Am x.2.2.2.2.2.2.1 (xC x))),Ad x.2.2.2.2.2.2.2.1,.int .i64 (↑(List.length x.2.2.2.2.2.2.2.1):Int),.int .i64 (zI i+(1:Int))])) (cA CX [.box 0 [.int .i64 x.1.ind,AV.sl true 0 2 Ru ruA (zBW i).rules,AV.sl true 0 5 Ch chA (zBW i).chunks,AV.sl true 0 3 Sn snA (zBW i).spans,AV.sl true 0 2 Ti tiA (zBW i).ties,nds x.1.ns,.str (zBW i).text,.bool x.1.rd],.int .i64 (AM x.1.rd (Am x.2.2.2.2.2.2.1 (xC x))),.int .i64 (1:Int),.bool false,.int .i64 x.2.2.2.2.2.2.2.2.2] fun x_3 y=>(↑(List.length (yBW y).text+List.length x.2.2.2.2.2.2.2.2.1):Int)≤IntKind.max IntKind.i64∧rA (JF n) x [.tup [],.box 0 [.int .i64 x_3.1.ind,AV.sl true 0 2 Ru ruA (yBW y).rules,AV.sl true 0 5 Ch chA (yBW y).chunks,AV.sl true 0 3 Sn snA (yBW y).spans,AV.sl true 0 2 Ti tiA (yBW y).ties,nds x_3.1.ns,.str ((yBW y).text++x.2.2.2.2.2.2.2.2.1),.bool x_3.1.rd],.top,.top,.top,.top])) ((↑(List.length ((xC x).text++x.2.2.2.2.2.2.1)+List.length x.2.2.2.2.2.2.2.2.1):Int)≤IntKind.max IntKind.i64∧rA (JF n) x [.tup [],.box 0 [.int .i64 x.1.ind,AV.sl true 0 2 Ru ruA (xC x).rules,AV.sl true 0 5 Ch chA (xC x).chunks,AV.sl true 0 3 Sn snA (xC x).spans,AV.sl true 0 2 Ti tiA (xC x).ties,nds x.1.ns,.str ((xC x).text++x.2.2.2.2.2.2.1++x.2.2.2.2.2.2.2.2.1),.bool x.1.rd],.top,.top,.top,.top])) (fun x=>by kernel_rfl) fun(x:BC×List Ru×List Ch×List Sn×List Ti×List UInt8×List UInt8×List Int×List UInt8×Int) (hx:liP x.1 n (xC x) x.2.2.2.2.2.2.1 x.2.2.2.2.2.2.2.1 x.2.2.2.2.2.2.2.2.1 x.2.2.2.2.2.2.2.2.2)=>(by
 dsimp only[buA,cA,Bl,eA,eN,ON,Ad,Bg,nds,rA,Bj,JF,DG,CX,Ci,Bm,Bn,Aq,Aw,mvL,lnL,mvE,lnE,mvG,mvH,lnG,lnH,AZ]
 obtain⟨b,r,c,s,t,u,op,ks,en,a⟩:=x;dsimp only[xC] at hx ⊢
 have hx:liP b n ⟨r,c,s,t,u⟩ op ks en a:=hx
 have h1:=hx.ar;have h2:=hx.kl
 (repeat' first|(with_reducible first|rfl|exact True.intro|apply AG|apply And.intro|((first|apply Au|apply AE|apply Av|apply AF)<;>intro _))|(apply As<;>intro _)|apply AD|refine Af () ?_ ?_|((first|apply AK|apply AJ|apply AI|apply AH|apply AC|apply AB|apply AA|apply Az|apply Ax)<;>try dsimp only)|apply Af|(refine Prod.forall.2 ?_;intro _;try dsimp only)|(intro _;try dsimp only))
 all_goals(try dsimp only[yBW,xC,zBW,zI] at*)
 all_goals first
  |with_reducible rfl
  |exact Si hx
  |exact a4E hx ‹_›
  |exact a4F hx ‹_› ‹_›
  |exact a4G ‹_› ‹_›
  |exact a4I ‹_› ‹_› hx ‹_›
  |exact a4H ‹_› hx ‹_›
  |exact a4K ‹_› ‹_› ‹_› hx ‹_› ‹_›
  |exact a4J ‹_› ‹_› hx ‹_› ‹_›
  |exact a4L ‹_› hx ‹_›
  |exact a4N ‹_› ‹_› hx ‹_› ‹_›
  |exact a4O ‹_›
  |(have hq:=Xp (show liI _ _ _ _ _ _ _ _ by assumption);(try simp only[Ai]);omega)
  |(have hq:=Xq (show liI _ _ _ _ _ _ _ _ by assumption) ‹_›;dsimp only at hq;(try simp only[Ai]);omega)
  |(have hq:=Hi (CY hx.rm);have hq2:=hx.ol;(try simp only[Ai]);omega)
  |(have hq:=Hi (Si hx);have hq2:=hx.el;(try simp only[Ai,List.length_append,Am] at*);omega)
  |(have hq:=a4M ‹_› ‹_› hx ‹_›;have hq2:=hx.el;(try simp only[Ai] at*);omega)
  |rfl
  |skip)
structure cnP (c:BC) (n:Nat) (s:Bs) (x:Nd) (a:Int):Prop where
 kd:kdP c.ns n x.kids
 kl:x.kids.length≤12
 tl:x.text.length≤2
 rm:bR (60+wL (tW c.ns n) x.kids) s
 ar:0≤a∧a≤40
def Xr(c:BC)(n:Nat)(s:Bs)(x:Nd)(a:Int):List Int→Int→Bs→Bs:=Sd c.ns (bV c.ns c.rd n) (AM c.rd s) a x.text
def Cj(c:BC)(n:Nat)(s:Bs)(x:Nd)(a:Int)(i:Int)(t:Bs):Prop:=HS (Xr c n s x a) (fun k=>4+tW c.ns n k) x.kids 2 (Be c.rd 2 1 s) i t
def cnB(c:BC)(s:Bs)(x:Nd)(a:Int)(i:Int)(z:Bs):Bs:=if i=0 then z else AU (AM c.rd s) 1 true a (Am (32::x.text) z)
def cnJ(c:BC)(n:Nat)(s:Bs)(x:Nd)(a:Int)(z:Bs)(i k:Int)(t:Bs):Prop:=(Cj c n s x a i z∧x.kids[i.toNat]? =some k)∧t=cnB c s x a i z
def Ll(c:BC)(n:Nat)(s:Bs)(kind a k:Int)(z:Bs):Bs:=if Al c.ns k=kind then CI (DB z.rules.length (bV c.ns c.rd n k a z)) (AM c.rd s) (bV c.ns c.rd n k a z) else bV c.ns c.rd n k a z
def cnK(c:BC)(n:Nat)(s:Bs)(x:Nd)(a:Int)(z:Bs)(i:Int)(t:Bs)(e kind:Int):Prop:=
 ∃k u,(cnJ c n s x a z i k u∧kind=Al c.ns k)∧(e=u.chunks.length∧t=Ll c n s 7 a k u)
def cnQ(c:BC)(n:Nat)(s:Bs)(x:Nd)(a:Int)(o:Int)(t:Bs):Prop:=t=KJ c.ns c.rd (bV c.ns c.rd n) x a s∧o=AM c.rd s
theorem cnS{c:BC}{n:Nat}{s:Bs}{x:Nd}{a:Int}(h:cnP c n s x a):lpS c.rd (Xr c n s x a) (Se c.ns (bV c.ns c.rd n) (AM c.rd s) a x.text) (fun k=>4+tW c.ns n k) x.kids:=b5o h.tl (Sh h.kd)
theorem a4P{c:BC}{n:Nat}{s t:Bs}{x:Nd}{a:Int}(h:cnP c n s x a)(ht:t=Be c.rd 2 1 s):Cj c n s x a 0 t:=by
 subst ht
 have h1:bR (wL (fun k=>4+tW c.ns n k) x.kids+2) (Be c.rd 2 1 s):=by
  rw[OM];exact Dj (HR h.rm) (by have:=h.kl;omega)
 exact Sb (F:=Xr c n s x a) h1
theorem OO{c:BC}{n:Nat}{s t:Bs}{x:Nd}{a i:Int}(h:Cj c n s x a i t):0≤i∧i≤x.kids.length:=OL h
theorem Xs{c:BC}{n:Nat}{s t:Bs}{x:Nd}{a i k:Int}(h:Cj c n s x a i t)(hc:x.kids[i.toNat]? =some k):bR (tW c.ns n k+4+2) t:=Dj (Sc h hc) (by omega)
theorem a4Q{c:BC}{n:Nat}{s t:Bs}{x:Nd}{a i k:Int}(h:Cj c n s x a i t)(hc:x.kids[i.toNat]? =some k):t.text.length+6≤2^61:=by
 have:=(Xs h hc).2;unfold tot at this;omega
theorem Xt{c:BC}{n:Nat}{s t:Bs}{x:Nd}{a i k:Int}(hx:cnP c n s x a)(h:Cj c n s x a i t)(hc:x.kids[i.toNat]? =some k):bR (tW c.ns n k+3) (Am (32::x.text) t):=JD (Xs h hc) (by have:=hx.tl;rw[List.length_cons];omega)
theorem a4R{c:BC}{n:Nat}{s t:Bs}{x:Nd}{a i k:Int}(h:Cj c n s x a i t)(hc:x.kids[i.toNat]? =some k)(hi:¬i>0):cnJ c n s x a t i k t:=⟨⟨h,hc⟩,by rw[cnB,if_pos (by have:=OO h;omega)]⟩
theorem Xu{c:BC}{n:Nat}{s t u:Bs}{x:Nd}{a i k:Int}(h:Cj c n s x a i t)(hu:u=AU (AM c.rd s) 1 true a (Am (32::x.text) t))(hc:x.kids[i.toNat]? =some k)(hi:i>0):cnJ c n s x a t i k u:=⟨⟨h,hc⟩,by rw[cnB,if_neg (by omega)];exact hu⟩
theorem Sk{c:BC}{n:Nat}{s z t:Bs}{x:Nd}{a i k:Int}(hx:cnP c n s x a)(h:cnJ c n s x a z i k t):bR (tW c.ns n k+2) t:=by
 rw[h.2,cnB]
 split
 ·exact Dj (Xs h.1.1 h.1.2) (by omega)
 ·exact JE (Xt hx h.1.1 h.1.2) (by omega)
theorem Xv{c:BC}{n:Nat}{s z t:Bs}{x:Nd}{a i k:Int}(h:cnJ c n s x a z i k t)(hx:cnP c n s x a):vlP c.ns n t k a:=by
 have hk:=hx.kd k (AY h.1.2)
 exact⟨hk.1,hk.2.1,hk.2.2,Dj (Sk hx h) (by omega),hx.ar⟩
theorem Xw{c:BC}{n:Nat}{s t:Bs}{k a o:Int}{m:Nat}(h:vlP c.ns n s k a)(hq:BK c n s k a o t)(hm:bR (tW c.ns n k+m) s):bR m t:=by
 rw[hq.1]
 exact MP hm (Mw (rd:=c.rd) h.up h.lt h.vl) (by omega)
theorem Xx{c:BC}{n:Nat}{s z t u:Bs}{x:Nd}{a i k o:Int}(h:cnJ c n s x a z i k t)(hu:BK c n t k a o u)(hx:cnP c n s x a):bB u:=CY (Xw (Xv h hx) hu (Sk hx h))
theorem a4S{c:BC}{n:Nat}{s z t:Bs}{x:Nd}{a i k:Int}(h:cnJ c n s x a z i k t)(hx:cnP c n s x a):(0≤k∧k<c.ns.length)∧t.chunks.length≤79:=⟨Bc.1 (hx.kd k (AY h.1.2)).1.1,(Sk hx h).1.ch⟩
theorem Ek{ns:List Nd}{k:Int}{e:Nd}(h:ns[k.toNat]? =some e):Al ns k=e.kind:=by rw[Al,Bd h]
theorem a4T{c:BC}{n:Nat}{s z t u:Bs}{x:Nd}{a i k o:Int}{e:Nd}(h:cnJ c n s x a z i k t)(hu:BK c n t k a o u)(he:c.ns[k.toNat]? =some e)(hk:¬e.kind=7):cnK c n s x a z i u t.chunks.length e.kind:=
 ⟨k,t,⟨h,(Ek he).symm⟩,rfl,by rw[Ll,if_neg (by rw[Ek he];exact hk)];exact hu.1⟩
theorem a4U{c:BC}{n:Nat}{s z t u v:Bs}{x:Nd}{a i k o:Int}{e:Nd}(h:cnJ c n s x a z i k t)(hu:BK c n t k a o u)(hv:v=CI o (AM c.rd s) u)(hx:cnP c n s x a)(he:c.ns[k.toNat]? =some e)(hk:e.kind=7):cnK c n s x a z i v t.chunks.length e.kind:=by
 refine⟨k,t,⟨h,(Ek he).symm⟩,rfl,?_⟩
 have hkp:=hx.kd k (AY h.1.2)
 rw[Ll,if_pos (by rw[Ek he];exact hk),Sf hkp.1 hkp.2.1 (.inl (by rw[Ek he];exact hk)),hv,hu.1,hu.2]
theorem Sl{c:BC}{n:Nat}{s z t:Bs}{x:Nd}{a i e kind:Int}(h:cnK c n s x a z i t e kind)(hx:cnP c n s x a):bB t:=by
 obtain⟨k,u,⟨h1,_⟩,_,h2⟩:=h
 have hb:=Xx (o:=GF c.rd (Aa c.ns k) u) h1 ⟨rfl,rfl⟩ hx
 rw[h2,Ll]
 split
 ·exact⟨VW hb.ok,by have:=(VV (rd:=true) (k:=DB u.rules.length (bV c.ns c.rd n k a u)) (u:=AM c.rd s) (s:=bV c.ns c.rd n k a u)).tt;have:=hb.tt;omega⟩
 ·exact hb
theorem Sm{c:BC}{n:Nat}{s z t:Bs}{x:Nd}{a i e kind:Int}(h:cnK c n s x a z i t e kind)(hx:cnP c n s x a):Cj c n s x a (i+1) (if kind=1∨kind=2∨kind=3 then t else Fk e t):=by
 obtain⟨k,u,⟨h1,hk⟩,he,h2⟩:=h
 have:=OK (cnS hx) h1.1.1 h1.1.2
 rw[Se,show(if i=0 then z else AU (AM c.rd s) 1 true a (Am (32::x.text) z))=u from h1.2.symm,Ir] at this
 rw[hk,he,h2]
 exact this
theorem b5t{c:BC}{n:Nat}{s z t:Bs}{x:Nd}{a i e kind:Int}(h:cnK c n s x a z i t e kind)(hx:cnP c n s x a)(hk:kind=1∨kind=2∨kind=3):Cj c n s x a (i+1) t:=by
 have:=Sm h hx;rwa [if_pos hk] at this
theorem b5u{c:BC}{n:Nat}{s z t v:Bs}{x:Nd}{a i e kind:Int}(h:cnK c n s x a z i t e kind)(hv:v=Fk e t)(hx:cnP c n s x a)(hk:¬kind=1)(hk2:¬kind=2)(hk3:¬kind=3):Cj c n s x a (i+1) v:=by
 have:=Sm h hx;rw[if_neg (by omega)] at this;rw[hv];exact this
theorem a4V{c:BC}{n:Nat}{s t:Bs}{x:Nd}{a i:Int}(h:Cj c n s x a i t)(hx:cnP c n s x a)(hi:¬i<x.kids.length):cnQ c n s x a (AM c.rd s) t:=⟨(MQ (cnS hx) h hi).1,rfl⟩
attribute [local irreducible] Cj cnJ cnK
abbrev wB (x:List Ru×List Ch×List Sn×List Ti×List UInt8×Int×Int):Bs:=⟨x.1,x.2.1,x.2.2.1,x.2.2.2.1,x.2.2.2.2.1⟩
def Xy(n:Nat)(x:BC×List Ru×List Ch×List Sn×List Ti×List UInt8×Nd×Int)(i:List Ru×List Ch×List Sn×List Ti×List UInt8×Int):LS:= {ι:=Int×Unit,inv:=fun k=>zI i>0∧x.2.2.2.2.2.2.1.kids[(zI i).toNat]? =some k.1,regs:=fun k=>[(0,buA x.1 (Am (32::x.2.2.2.2.2.2.1.text) (zBW i))),(9,.int .i64 k.1),(2,.int .i64 x.2.2.2.2.2.2.2),(4,.box 0 (ndA false x.2.2.2.2.2.2.1)),(7,.int .i64 (AM x.1.rd (xC x))),(16,Ad x.2.2.2.2.2.2.1.kids),(17,.int .i64 x.2.2.2.2.2.2.1.kids.length),(18,.int .i64 (zI i))],als:=[],meas:=fun _=>0}
def So(n:Nat)(x:BC×List Ru×List Ch×List Sn×List Ti×List UInt8×Nd×Int)(i:List Ru×List Ch×List Sn×List Ti×List UInt8×Int):LS:= {ι:=List Ru×List Ch×List Sn×List Ti×List UInt8×Int,inv:=fun j=>cnJ x.1 n (xC x) x.2.2.2.2.2.2.1 x.2.2.2.2.2.2.2 (zBW i) (zI i) (zI j) (zBW j),regs:=fun j=>[(0,buA x.1 (zBW j)),(9,.int .i64 (zI j)),(2,.int .i64 x.2.2.2.2.2.2.2),(4,.box 0 (ndA false x.2.2.2.2.2.2.1)),(7,.int .i64 (AM x.1.rd (xC x))),(16,Ad x.2.2.2.2.2.2.1.kids),(17,.int .i64 x.2.2.2.2.2.2.1.kids.length),(18,.int .i64 (zI i))],als:=[],meas:=fun _=>0}
def Sp(n:Nat)(x:BC×List Ru×List Ch×List Sn×List Ti×List UInt8×Nd×Int)(i:List Ru×List Ch×List Sn×List Ti×List UInt8×Int):LS:= {ι:=List Ru×List Ch×List Sn×List Ti×List UInt8×Int×Int,inv:=fun j=>cnK x.1 n (xC x) x.2.2.2.2.2.2.1 x.2.2.2.2.2.2.2 (zBW i) (zI i) (wB j) j.2.2.2.2.2.1 j.2.2.2.2.2.2,regs:=fun j=>[(0,buA x.1 (wB j)),(10,.int .i64 j.2.2.2.2.2.1),(12,.int .i64 j.2.2.2.2.2.2),(2,.int .i64 x.2.2.2.2.2.2.2),(4,.box 0 (ndA false x.2.2.2.2.2.2.1)),(7,.int .i64 (AM x.1.rd (xC x))),(16,Ad x.2.2.2.2.2.2.1.kids),(17,.int .i64 x.2.2.2.2.2.2.1.kids.length),(18,.int .i64 (zI i))],als:=[],meas:=fun _=>0}
def OP(n:Nat)(x:BC×List Ru×List Ch×List Sn×List Ti×List UInt8×Nd×Int):LS:= {ι:=List Ru×List Ch×List Sn×List Ti×List UInt8×Int,inv:=fun i=>Cj x.1 n (xC x) x.2.2.2.2.2.2.1 x.2.2.2.2.2.2.2 (zI i) (zBW i),regs:=fun i=>[(0,buA x.1 (zBW i)),(2,.int .i64 x.2.2.2.2.2.2.2),(4,.box 0 (ndA false x.2.2.2.2.2.2.1)),(7,.int .i64 (AM x.1.rd (xC x))),(16,Ad x.2.2.2.2.2.2.1.kids),(17,.int .i64 x.2.2.2.2.2.2.1.kids.length),(18,.int .i64 (zI i))],als:=[],meas:=fun i=>x.2.2.2.2.2.2.1.kids.length-(zI i).toNat,sub:=fun i=>[(200008,So n x i),(100006,Xy n x i),(200013,Sp n x i)]}
def MS(n:Nat):Sig:= {X:=BC×List Ru×List Ch×List Sn×List Ti×List UInt8×Nd×Int,args:=fun x=>[buA x.1 (xC x),.agg (ndA false x.2.2.2.2.2.2.1),.int .i64 x.2.2.2.2.2.2.2],pre:=fun x=>cnP x.1 n (xC x) x.2.2.2.2.2.2.1 x.2.2.2.2.2.2.2,Y:=Int×BT,post:=fun x y=>cnQ x.1 n (xC x) x.2.2.2.2.2.2.1 x.2.2.2.2.2.2.2 y.1 (yBW y.2),res:=fun x y=> .int .i64 y.1,outs:=fun x y=>[buA x.1 (yBW y.2),.top,.top],keep:=true}
def Sq(n:Nat)(x:BC×List Ru×List Ch×List Sn×List Ti×List UInt8×Nd×Int)(i:List Ru×List Ch×List Sn×List Ti×List UInt8×Int)(i_2:List Ru×List Ch×List Sn×List Ti×List UInt8×Int×Int):Prop:=eN (OP n x) i [.box 0 [.int .i64 x.1.ind,AV.sl true 0 2 Ru ruA (wB i_2).rules,AV.sl true 0 5 Ch chA (wB i_2).chunks,AV.sl true 0 3 Sn snA (wB i_2).spans,AV.sl true 0 2 Ti tiA (wB i_2).ties,nds x.1.ns,.str (wB i_2).text,.bool x.1.rd],.int .i64 x.2.2.2.2.2.2.2,.box 0 [.int .i64 x.2.2.2.2.2.2.1.kind,.str x.2.2.2.2.2.2.1.text,Ad x.2.2.2.2.2.2.1.kids,.bool x.2.2.2.2.2.2.1.blank],.int .i64 (AM x.1.rd (xC x)),Ad x.2.2.2.2.2.2.1.kids,.int .i64 (↑(List.length x.2.2.2.2.2.2.1.kids):Int),.int .i64 (zI i+(1:Int))]
def Xz(n:Nat)(x:BC×List Ru×List Ch×List Sn×List Ti×List UInt8×Nd×Int)(e:Int)(i:List Ru×List Ch×List Sn×List Ti×List UInt8×Int):Prop:=(↑((1:Nat)+List.length x.2.2.2.2.2.2.1.text):Int)≤IntKind.max IntKind.i64∧((↑(List.length (zBW i).text+List.length (#[(32:UInt8)].toList++x.2.2.2.2.2.2.1.text)):Int)≤IntKind.max IntKind.i64∧(true=true∧(eA (Xy n x i) [.box 0 [.int .i64 x.1.ind,AV.sl true 0 2 Ru ruA (zBW i).rules,AV.sl true 0 5 Ch chA (zBW i).chunks,AV.sl true 0 3 Sn snA (zBW i).spans,AV.sl true 0 2 Ti tiA (zBW i).ties,nds x.1.ns,.str ((zBW i).text++(#[(32:UInt8)].toList++x.2.2.2.2.2.2.1.text)),.bool x.1.rd],.int .i64 e,.int .i64 x.2.2.2.2.2.2.2,.box 0 [.int .i64 x.2.2.2.2.2.2.1.kind,.str x.2.2.2.2.2.2.1.text,Ad x.2.2.2.2.2.2.1.kids,.bool x.2.2.2.2.2.2.1.blank],.int .i64 (AM x.1.rd (xC x)),Ad x.2.2.2.2.2.2.1.kids,.int .i64 (↑(List.length x.2.2.2.2.2.2.1.kids):Int),.int .i64 (zI i)])))
theorem b5v(n:Nat)(hc:Ah G Go.Proofs.Tryz.prog 81 (Ci n)):Ah G Tryz.prog 113 (MS n):=
 vcFun_okP [(79,0,DG),(80,0,CX),(81,0,(Ci n)),(140,0,IE),(141,0,Lk)] [] false (fun x=>[(3,OP n x)]) Tryz.func113 rfl (by decide) ⟨MN,MO,hc,a4D,b5m,trivial⟩ (fun(x:BC×List Ru×List Ch×List Sn×List Ti×List UInt8×Nd×Int)=>True∧cA DG [.box 0 [.int .i64 x.1.ind,AV.sl true 0 2 Ru ruA (xC x).rules,AV.sl true 0 5 Ch chA (xC x).chunks,AV.sl true 0 3 Sn snA (xC x).spans,AV.sl true 0 2 Ti tiA (xC x).ties,nds x.1.ns,.str (xC x).text,.bool x.1.rd],.int .i64 (2:Int),.int .i64 (1:Int)] fun x_1 y=>eA (OP n x) [.box 0 [.int .i64 x_1.1.ind,AV.sl true 0 2 Ru ruA (yBW y).rules,AV.sl true 0 5 Ch chA (yBW y).chunks,AV.sl true 0 3 Sn snA (yBW y).spans,AV.sl true 0 2 Ti tiA (yBW y).ties,nds x_1.1.ns,.str (yBW y).text,.bool x_1.1.rd],.int .i64 x.2.2.2.2.2.2.2,.box 0 [.int .i64 x.2.2.2.2.2.2.1.kind,.str x.2.2.2.2.2.2.1.text,Ad x.2.2.2.2.2.2.1.kids,.bool x.2.2.2.2.2.2.1.blank],.int .i64 (AM x_1.1.rd (xC x_1)),Ad x.2.2.2.2.2.2.1.kids,.int .i64 (↑(List.length x.2.2.2.2.2.2.1.kids):Int),.int .i64 (0:Int)]∧∀(i:List Ru×List Ch×List Sn×List Ti×List UInt8×Int),Cj x.1 n (xC x) x.2.2.2.2.2.2.1 x.2.2.2.2.2.2.2 (zI i) (zBW i)→Ab (decide (zI i<(↑(List.length x.2.2.2.2.2.2.1.kids):Int))) (((0:Int)≤zI i∧zI i<(↑(List.length x.2.2.2.2.2.2.1.kids):Int))∧∀(e:Int),x.2.2.2.2.2.2.1.kids[Int.toNat (zI i)]? =some e→Ab (decide (zI i>(0:Int))) (true=true∧((Xz n x e i)∧(Xz n x e i))∧∀(i_1:Int×Unit),zI i>(0:Int)∧x.2.2.2.2.2.2.1.kids[Int.toNat (zI i)]? =some i_1.1→cA CX [.box 0 [.int .i64 x.1.ind,AV.sl true 0 2 Ru ruA (Am ((32:UInt8)::x.2.2.2.2.2.2.1.text) (zBW i)).rules,AV.sl true 0 5 Ch chA (Am ((32:UInt8)::x.2.2.2.2.2.2.1.text) (zBW i)).chunks,AV.sl true 0 3 Sn snA (Am ((32:UInt8)::x.2.2.2.2.2.2.1.text) (zBW i)).spans,AV.sl true 0 2 Ti tiA (Am ((32:UInt8)::x.2.2.2.2.2.2.1.text) (zBW i)).ties,nds x.1.ns,.str (Am ((32:UInt8)::x.2.2.2.2.2.2.1.text) (zBW i)).text,.bool x.1.rd],.int .i64 (AM x.1.rd (xC x)),.int .i64 (1:Int),.bool true,.int .i64 x.2.2.2.2.2.2.2] fun x_2 y=>eA (So n x i) [.box 0 [.int .i64 x_2.1.ind,AV.sl true 0 2 Ru ruA (yBW y).rules,AV.sl true 0 5 Ch chA (yBW y).chunks,AV.sl true 0 3 Sn snA (yBW y).spans,AV.sl true 0 2 Ti tiA (yBW y).ties,nds x_2.1.ns,.str (yBW y).text,.bool x_2.1.rd],.int .i64 i_1.1,.int .i64 x.2.2.2.2.2.2.2,.box 0 [.int .i64 x.2.2.2.2.2.2.1.kind,.str x.2.2.2.2.2.2.1.text,Ad x.2.2.2.2.2.2.1.kids,.bool x.2.2.2.2.2.2.1.blank],.int .i64 (AM x.1.rd (xC x)),Ad x.2.2.2.2.2.2.1.kids,.int .i64 (↑(List.length x.2.2.2.2.2.2.1.kids):Int),.int .i64 (zI i)]) (eA (So n x i) [.box 0 [.int .i64 x.1.ind,AV.sl true 0 2 Ru ruA (zBW i).rules,AV.sl true 0 5 Ch chA (zBW i).chunks,AV.sl true 0 3 Sn snA (zBW i).spans,AV.sl true 0 2 Ti tiA (zBW i).ties,nds x.1.ns,.str (zBW i).text,.bool x.1.rd],.int .i64 e,.int .i64 x.2.2.2.2.2.2.2,.box 0 [.int .i64 x.2.2.2.2.2.2.1.kind,.str x.2.2.2.2.2.2.1.text,Ad x.2.2.2.2.2.2.1.kids,.bool x.2.2.2.2.2.2.1.blank],.int .i64 (AM x.1.rd (xC x)),Ad x.2.2.2.2.2.2.1.kids,.int .i64 (↑(List.length x.2.2.2.2.2.2.1.kids):Int),.int .i64 (zI i)])∧∀(i_1:List Ru×List Ch×List Sn×List Ti×List UInt8×Int),cnJ x.1 n (xC x) x.2.2.2.2.2.2.1 x.2.2.2.2.2.2.2 (zBW i) (zI i) (zI i_1) (zBW i_1)→cA (Ci n) [.box 0 [.int .i64 x.1.ind,AV.sl true 0 2 Ru ruA (zBW i_1).rules,AV.sl true 0 5 Ch chA (zBW i_1).chunks,AV.sl true 0 3 Sn snA (zBW i_1).spans,AV.sl true 0 2 Ti tiA (zBW i_1).ties,nds x.1.ns,.str (zBW i_1).text,.bool x.1.rd],.int .i64 (zI i_1),.int .i64 x.2.2.2.2.2.2.2] fun x_2 y=>((0:Int)≤zI i_1∧zI i_1<(↑(List.length x_2.1.ns):Int))∧∀(e:Nd),x_2.1.ns[Int.toNat (zI i_1)]? =some e→Ab (e.kind==(7:Int)) (cA IE [.box 0 [.int .i64 x_2.1.ind,AV.sl true 0 2 Ru ruA (yBW y.2).rules,AV.sl true 0 5 Ch chA (yBW y.2).chunks,AV.sl true 0 3 Sn snA (yBW y.2).spans,AV.sl true 0 2 Ti tiA (yBW y.2).ties,nds x_2.1.ns,.str (yBW y.2).text,.bool x_2.1.rd],.int .i64 y.1,.int .i64 (AM x.1.rd (xC x))] fun x_3 y=>eA (Sp n x i) [.box 0 [.int .i64 x_3.1.ind,AV.sl true 0 2 Ru ruA (yBW y).rules,AV.sl true 0 5 Ch chA (yBW y).chunks,AV.sl true 0 3 Sn snA (yBW y).spans,AV.sl true 0 2 Ti tiA (yBW y).ties,nds x_3.1.ns,.str (yBW y).text,.bool x_3.1.rd],.int .i64 (↑(List.length (zBW i_1).chunks):Int),.int .i64 e.kind,.int .i64 x.2.2.2.2.2.2.2,.box 0 [.int .i64 x.2.2.2.2.2.2.1.kind,.str x.2.2.2.2.2.2.1.text,Ad x.2.2.2.2.2.2.1.kids,.bool x.2.2.2.2.2.2.1.blank],.int .i64 (AM x.1.rd (xC x)),Ad x.2.2.2.2.2.2.1.kids,.int .i64 (↑(List.length x.2.2.2.2.2.2.1.kids):Int),.int .i64 (zI i)]) (eA (Sp n x i) [.box 0 [.int .i64 x_2.1.ind,AV.sl true 0 2 Ru ruA (yBW y.2).rules,AV.sl true 0 5 Ch chA (yBW y.2).chunks,AV.sl true 0 3 Sn snA (yBW y.2).spans,AV.sl true 0 2 Ti tiA (yBW y.2).ties,nds x_2.1.ns,.str (yBW y.2).text,.bool x_2.1.rd],.int .i64 (↑(List.length (zBW i_1).chunks):Int),.int .i64 e.kind,.int .i64 x.2.2.2.2.2.2.2,.box 0 [.int .i64 x.2.2.2.2.2.2.1.kind,.str x.2.2.2.2.2.2.1.text,Ad x.2.2.2.2.2.2.1.kids,.bool x.2.2.2.2.2.2.1.blank],.int .i64 (AM x.1.rd (xC x)),Ad x.2.2.2.2.2.2.1.kids,.int .i64 (↑(List.length x.2.2.2.2.2.2.1.kids):Int),.int .i64 (zI i)])∧∀(i_2:List Ru×List Ch×List Sn×List Ti×List UInt8×Int×Int),cnK x.1 n (xC x) x.2.2.2.2.2.2.1 x.2.2.2.2.2.2.2 (zBW i) (zI i) (wB i_2) i_2.2.2.2.2.2.1 i_2.2.2.2.2.2.2→Ab (i_2.2.2.2.2.2.2 != (1:Int)) (Ab (i_2.2.2.2.2.2.2 != (2:Int)) (Ab (i_2.2.2.2.2.2.2 != (3:Int)) (cA Lk [.box 0 [.int .i64 x.1.ind,AV.sl true 0 2 Ru ruA (wB i_2).rules,AV.sl true 0 5 Ch chA (wB i_2).chunks,AV.sl true 0 3 Sn snA (wB i_2).spans,AV.sl true 0 2 Ti tiA (wB i_2).ties,nds x.1.ns,.str (wB i_2).text,.bool x.1.rd],.int .i64 i_2.2.2.2.2.2.1] fun x_3 y=>inR IntKind.i64 (zI i+(1:Int))∧eN (OP n x) i [.box 0 [.int .i64 x_3.1.ind,AV.sl true 0 2 Ru ruA (yBW y).rules,AV.sl true 0 5 Ch chA (yBW y).chunks,AV.sl true 0 3 Sn snA (yBW y).spans,AV.sl true 0 2 Ti tiA (yBW y).ties,nds x_3.1.ns,.str (yBW y).text,.bool x_3.1.rd],.int .i64 x.2.2.2.2.2.2.2,.box 0 [.int .i64 x.2.2.2.2.2.2.1.kind,.str x.2.2.2.2.2.2.1.text,Ad x.2.2.2.2.2.2.1.kids,.bool x.2.2.2.2.2.2.1.blank],.int .i64 (AM x.1.rd (xC x)),Ad x.2.2.2.2.2.2.1.kids,.int .i64 (↑(List.length x.2.2.2.2.2.2.1.kids):Int),.int .i64 (zI i+(1:Int))]) (inR IntKind.i64 (zI i+(1:Int))∧(Sq n x i i_2))) (inR IntKind.i64 (zI i+(1:Int))∧(Sq n x i i_2))) (inR IntKind.i64 (zI i+(1:Int))∧(Sq n x i i_2))) (rA (MS n) x [.int .i64 (AM x.1.rd (xC x)),.box 0 [.int .i64 x.1.ind,AV.sl true 0 2 Ru ruA (zBW i).rules,AV.sl true 0 5 Ch chA (zBW i).chunks,AV.sl true 0 3 Sn snA (zBW i).spans,AV.sl true 0 2 Ti tiA (zBW i).ties,nds x.1.ns,.str (zBW i).text,.bool x.1.rd],.top,.top])) (fun x=>by kernel_rfl) fun(x:BC×List Ru×List Ch×List Sn×List Ti×List UInt8×Nd×Int) (hx:cnP x.1 n (xC x) x.2.2.2.2.2.2.1 x.2.2.2.2.2.2.2)=>(by
 dsimp only[Xz,Sq,buA,cA,Bl,Sp,OP,Xy,So,eA,eN,Ad,Bg,nds,rA,Bj,MS,DG,Lk,CX,IE,Ci,Bm,Bn,Aq,Aw,mvL,lnL,mvE,lnE,mvG,mvH,lnG,lnH,AZ]
 obtain⟨b,r,c,s,t,u,x,a⟩:=x;dsimp only[xC] at hx ⊢
 have hx:cnP b n ⟨r,c,s,t,u⟩ x a:=hx
 have h1:=hx.ar;have h2:=hx.kl;have h3:=hx.tl
 (repeat' first|(with_reducible first|rfl|exact True.intro|apply AG|apply And.intro|((first|apply Au|apply AE|apply Av|apply AF)<;>intro _))|(apply As<;>intro _)|apply AD|refine Af () ?_ ?_|((first|apply AK|apply AJ|apply AI|apply AH|apply AC|apply AB|apply AA|apply Az|apply Ax)<;>try dsimp only)|apply Af|(refine Prod.forall.2 ?_;intro _;try dsimp only)|(intro _;try dsimp only))
 all_goals(try dsimp only[yBW,xC,zBW,zI,wB] at*)
 all_goals first
  |with_reducible rfl
  |exact CY hx.rm
  |exact a4P hx ‹_›
  |exact CY (Xt hx ‹_› ‹_›)
  |exact a4R ‹_› ‹_› ‹_›
  |exact Xu ‹_› ‹_› ‹_› ‹_›
  |exact Xu ‹_› ‹_› (show _∧x.kids[_]? =some _ by assumption).2 ‹_›
  |exact Xv ‹_› hx
  |exact Xx ‹_› ‹_› hx
  |exact a4T ‹_› ‹_› ‹_› ‹_›
  |exact a4U ‹_› ‹_› ‹_› hx ‹_› ‹_›
  |exact Sl ‹_› hx
  |exact b5t ‹_› hx (by omega)
  |exact b5u ‹_› ‹_› hx ‹_› ‹_› ‹_›
  |exact a4V ‹_› hx ‹_›
  |(have hq:=OO (show Cj _ _ _ _ _ _ _ by assumption);(try simp only[Ai]);omega)
  |(have hq:=a4Q (show Cj _ _ _ _ _ _ _ by assumption) ‹_›;dsimp only at hq;(try simp only[Ai,List.length_append,List.length_cons,List.length_nil]);omega)
  |(have hq:=a4S (show cnJ _ _ _ _ _ _ _ _ _ by assumption) hx;dsimp only at hq;(try simp only[Ai]);omega)
  |exact⟨by assumption,by assumption⟩
  |exact()
  |rfl
  |skip)
end Go.My
end
section
namespace Go.My
open Go.Eng Go.Proofs
variable {G:GInv}
structure pnP (c:BC) (n:Nat) (s:Bs) (x:Nd) (a:Int):Prop where
 kd:kdP c.ns n x.kids
 kl:x.kids.length≤3
 rm:bR (60+wL (tW c.ns n) x.kids) s
 ar:0≤a∧a≤40
def pnF(c:BC)(n:Nat)(s:Bs)(a:Int):List Int→Int→Bs→Bs:=pkL c.ns (bV c.ns c.rd n) (AM c.rd s) a
def pnI(c:BC)(n:Nat)(s:Bs)(x:Nd)(a:Int)(i:Int)(t:Bs):Prop:=HS (pnF c n s a) (fun k=>3+tW c.ns n k) x.kids 2 (Be c.rd 2 1 s) i t
def pnB(c:BC)(s:Bs)(a:Int)(i:Int)(z:Bs):Bs:=if i=0 then z else Am (pkT i) (AU (AM c.rd s) 1 true a z)
def pnJ(c:BC)(n:Nat)(s:Bs)(x:Nd)(a:Int)(z:Bs)(i k:Int)(t:Bs):Prop:=(pnI c n s x a i z∧x.kids[i.toNat]? =some k)∧t=pnB c s a i z
def pnQ(c:BC)(n:Nat)(s:Bs)(x:Nd)(a:Int)(o:Int)(t:Bs):Prop:=t=Ms c.ns c.rd (bV c.ns c.rd n) x a s∧o=AM c.rd s
theorem pnS{c:BC}{n:Nat}{s:Bs}{x:Nd}{a:Int}(h:pnP c n s x a):lpS c.rd (pnF c n s a) (pkS c.ns (bV c.ns c.rd n) (AM c.rd s) a) (fun k=>3+tW c.ns n k) x.kids:=b5p (Sh h.kd)
theorem a4W{c:BC}{n:Nat}{s t:Bs}{x:Nd}{a:Int}(h:pnP c n s x a)(ht:t=Be c.rd 2 1 s):pnI c n s x a 0 t:=by
 subst ht
 have h1:bR (wL (fun k=>3+tW c.ns n k) x.kids+2) (Be c.rd 2 1 s):=by
  rw[OM];exact Dj (HR h.rm) (by have:=h.kl;omega)
 exact Sb (F:=pnF c n s a) h1
theorem Sr{c:BC}{n:Nat}{s t:Bs}{x:Nd}{a i:Int}(h:pnI c n s x a i t):0≤i∧i≤x.kids.length:=OL h
theorem XA{c:BC}{n:Nat}{s t:Bs}{x:Nd}{a i k:Int}(h:pnI c n s x a i t)(hc:x.kids[i.toNat]? =some k):bR (tW c.ns n k+3+2) t:=Dj (Sc h hc) (by omega)
theorem a4X{c:BC}{n:Nat}{s t:Bs}{x:Nd}{a i k:Int}(h:pnI c n s x a i t)(hc:x.kids[i.toNat]? =some k):bB t:=CY (XA h hc)
theorem a4Y{c:BC}{n:Nat}{s t u:Bs}{x:Nd}{a i k:Int}(h:pnI c n s x a i t)(hu:u=AU (AM c.rd s) 1 true a t)(hc:x.kids[i.toNat]? =some k):bR (tW c.ns n k+4) u:=by
 subst hu;exact JE (XA h hc) (by omega)
theorem a4Z{c:BC}{n:Nat}{s t u:Bs}{x:Nd}{a i k:Int}(h:pnI c n s x a i t)(hu:u=AU (AM c.rd s) 1 true a t)(hc:x.kids[i.toNat]? =some k):u.text.length+4≤2^61:=by
 have:=(a4Y h hu hc).2;unfold tot at this;omega
theorem a5a{c:BC}{n:Nat}{s t:Bs}{x:Nd}{a i k:Int}(h:pnI c n s x a i t)(hc:x.kids[i.toNat]? =some k)(hi:¬i>0):pnJ c n s x a t i k t:=⟨⟨h,hc⟩,by rw[pnB,if_pos (by have:=Sr h;omega)]⟩
theorem b5w{c:BC}{n:Nat}{s t u:Bs}{x:Nd}{a i k:Int}(h:pnI c n s x a i t)(hc:x.kids[i.toNat]? =some k)(hi:i>0)(hu:u=AU (AM c.rd s) 1 true a t):pnJ c n s x a t i k (Am (pkT i) u):=⟨⟨h,hc⟩,by rw[pnB,if_neg (by omega),hu]⟩
theorem XB{c:BC}{n:Nat}{s z t:Bs}{x:Nd}{a i k:Int}(h:pnJ c n s x a z i k t):bR (tW c.ns n k+2) t:=by
 rw[h.2,pnB]
 split
 ·exact Dj (XA h.1.1 h.1.2) (by omega)
 ·exact JD (a4Y h.1.1 rfl h.1.2) (by have:= @VY i;omega)
theorem XC{c:BC}{n:Nat}{s z t:Bs}{x:Nd}{a i k:Int}(h:pnJ c n s x a z i k t)(hx:pnP c n s x a):vlP c.ns n t k a:=by
 have hk:=hx.kd k (AY h.1.2)
 exact⟨hk.1,hk.2.1,hk.2.2,Dj (XB h) (by omega),hx.ar⟩
theorem a5b{c:BC}{n:Nat}{s z t u:Bs}{x:Nd}{a i k o:Int}(h:pnJ c n s x a z i k t)(hu:BK c n t k a o u)(hx:pnP c n s x a):bB u:=CY (Xw (XC h hx) hu (XB h))
theorem a5c{c:BC}{n:Nat}{s z t:Bs}{x:Nd}{a i k:Int}(h:pnJ c n s x a z i k t)(hx:pnP c n s x a):0≤k∧k<c.ns.length:=Bc.1 (hx.kd k (AY h.1.2)).1.1
theorem a5d{c:BC}{n:Nat}{s z t:Bs}{x:Nd}{a i k:Int}(h:pnJ c n s x a z i k t)(hx:pnP c n s x a):pnI c n s x a (i+1) (Ll c n s 8 a k t):=by
 have:=OK (pnS hx) h.1.1 h.1.2
 rw[pkS,show(if i=0 then z else Am (pkT i) (AU (AM c.rd s) 1 true a z))=t from h.2.symm,It] at this
 exact this
theorem a5e{c:BC}{n:Nat}{s z t u:Bs}{x:Nd}{a i k o:Int}{e:Nd}(h:pnJ c n s x a z i k t)(hu:BK c n t k a o u)(hx:pnP c n s x a)(he:c.ns[k.toNat]? =some e)(hk:¬e.kind=8):pnI c n s x a (i+1) u:=by
 have:=a5d h hx
 rw[Ll,if_neg (by rw[Ek he];exact hk),←hu.1] at this;exact this
theorem a5f{c:BC}{n:Nat}{s z t u v:Bs}{x:Nd}{a i k o:Int}{e:Nd}(h:pnJ c n s x a z i k t)(hu:BK c n t k a o u)(hv:v=CI o (AM c.rd s) u)(hx:pnP c n s x a)(he:c.ns[k.toNat]? =some e)(hk:e.kind=8):pnI c n s x a (i+1) v:=by
 have:=a5d h hx
 have hkp:=hx.kd k (AY h.1.2)
 rw[Ll,if_pos (by rw[Ek he];exact hk),Sf hkp.1 hkp.2.1 (.inr (by rw[Ek he];exact hk)),←hu.2,←hu.1,←hv] at this;exact this
theorem a5g{c:BC}{n:Nat}{s t:Bs}{x:Nd}{a i:Int}(h:pnI c n s x a i t)(hx:pnP c n s x a)(hi:¬i<x.kids.length):pnQ c n s x a (AM c.rd s) t:=⟨(MQ (pnS hx) h hi).1,rfl⟩
theorem XD{i:Int}{l:List UInt8}(h:([[],[63,32],[58,32]]:List (List UInt8))[i.toNat]? =some l)(hi:i>0):l=pkT i∧l.length≤2:=by
 have hlt:=(Cm h).1
 simp only[List.length_cons,List.length_nil] at hlt
 have:i=1∨i=2:=by omega
 rcases this with rfl|rfl
 ·simp at h;subst h;exact⟨rfl,by simp⟩
 ·simp at h;subst h;exact⟨rfl,by simp⟩
theorem a5h{c:BC}{n:Nat}{s t u:Bs}{x:Nd}{a i k:Int}{l:List UInt8}(h:pnI c n s x a i t)(hc:x.kids[i.toNat]? =some k)(hi:i>0)(hu:u=AU (AM c.rd s) 1 true a t)(hl:([[],[63,32],[58,32]]:List (List UInt8))[i.toNat]? =some l):pnJ c n s x a t i k (Am l u):=by
 rw[(XD hl hi).1];exact b5w h hc hi hu
theorem b5x{c:BC}{n:Nat}{s t:Bs}{x:Nd}{a i k:Int}{l:List UInt8}{r1:List Ru}{r2:List Ch}{r3:List Sn}{r4:List Ti}{r5:List UInt8}(h:pnI c n s x a i t)(hc:x.kids[i.toNat]? =some k)(hi:i>0)(hu:⟨r1,r2,r3,r4,r5⟩=AU (AM c.rd s) 1 true a t)(hl:([[],[63,32],[58,32]]:List (List UInt8))[i.toNat]? =some l):pnJ c n s x a t i k ⟨r1,r2,r3,r4,r5++l⟩:=a5h h hc hi hu hl
attribute [local irreducible] pnI pnJ
def MT(n:Nat)(x:BC×List Ru×List Ch×List Sn×List Ti×List UInt8×Nd×Int)(i:List Ru×List Ch×List Sn×List Ti×List UInt8×Int):LS:= {ι:=List Ru×List Ch×List Sn×List Ti×List UInt8×Int,inv:=fun j=>pnJ x.1 n (xC x) x.2.2.2.2.2.2.1 x.2.2.2.2.2.2.2 (zBW i) (zI i) (zI j) (zBW j),regs:=fun j=>[(0,buA x.1 (zBW j)),(9,.int .i64 (zI j)),(2,.int .i64 x.2.2.2.2.2.2.2),(4,.box 0 (ndA false x.2.2.2.2.2.2.1)),(7,.int .i64 (AM x.1.rd (xC x))),(14,Ad x.2.2.2.2.2.2.1.kids),(15,.int .i64 x.2.2.2.2.2.2.1.kids.length),(16,.int .i64 (zI i))],als:=[],meas:=fun _=>0}
def OQ(n:Nat)(x:BC×List Ru×List Ch×List Sn×List Ti×List UInt8×Nd×Int):LS:= {ι:=List Ru×List Ch×List Sn×List Ti×List UInt8×Int,inv:=fun i=>pnI x.1 n (xC x) x.2.2.2.2.2.2.1 x.2.2.2.2.2.2.2 (zI i) (zBW i),regs:=fun i=>[(0,buA x.1 (zBW i)),(2,.int .i64 x.2.2.2.2.2.2.2),(4,.box 0 (ndA false x.2.2.2.2.2.2.1)),(7,.int .i64 (AM x.1.rd (xC x))),(14,Ad x.2.2.2.2.2.2.1.kids),(15,.int .i64 x.2.2.2.2.2.2.1.kids.length),(16,.int .i64 (zI i))],als:=[],meas:=fun i=>x.2.2.2.2.2.2.1.kids.length-(zI i).toNat,sub:=fun i=>[(200008,MT n x i),(100007,MT n x i)]}
def MU(n:Nat):Sig:= {X:=BC×List Ru×List Ch×List Sn×List Ti×List UInt8×Nd×Int,args:=fun x=>[buA x.1 (xC x),.agg (ndA false x.2.2.2.2.2.2.1),.int .i64 x.2.2.2.2.2.2.2],pre:=fun x=>pnP x.1 n (xC x) x.2.2.2.2.2.2.1 x.2.2.2.2.2.2.2,Y:=Int×BT,post:=fun x y=>pnQ x.1 n (xC x) x.2.2.2.2.2.2.1 x.2.2.2.2.2.2.2 y.1 (yBW y.2),res:=fun x y=> .int .i64 y.1,outs:=fun x y=>[buA x.1 (yBW y.2),.top,.top],keep:=true}
def Ss(n:Nat)(x:BC×List Ru×List Ch×List Sn×List Ti×List UInt8×Nd×Int)(e:Int)(i:List Ru×List Ch×List Sn×List Ti×List UInt8×Int)(x_2:CX.X)(y:CX.Y):Prop:=((0:Int)≤zI i∧zI i<(↑(3:Nat):Int))∧(∀(l:List UInt8),[#[].toList,#[(63:UInt8),(32:UInt8)].toList,#[(58:UInt8),(32:UInt8)].toList][Int.toNat (zI i)]? =some l→(↑(List.length (yBW y).text+List.length l):Int)≤IntKind.max IntKind.i64∧(true=true∧(eA (MT n x i) [.box 0 [.int .i64 x_2.1.ind,AV.sl true 0 2 Ru ruA (yBW y).rules,AV.sl true 0 5 Ch chA (yBW y).chunks,AV.sl true 0 3 Sn snA (yBW y).spans,AV.sl true 0 2 Ti tiA (yBW y).ties,nds x_2.1.ns,.str ((yBW y).text++l),.bool x_2.1.rd],.int .i64 e,.int .i64 x.2.2.2.2.2.2.2,.box 0 [.int .i64 x.2.2.2.2.2.2.1.kind,.str x.2.2.2.2.2.2.1.text,Ad x.2.2.2.2.2.2.1.kids,.bool x.2.2.2.2.2.2.1.blank],.int .i64 (AM x.1.rd (xC x)),Ad x.2.2.2.2.2.2.1.kids,.int .i64 (↑(List.length x.2.2.2.2.2.2.1.kids):Int),.int .i64 (zI i)])))
theorem b5y(n:Nat)(hc:Ah G Go.Proofs.Tryz.prog 81 (Ci n)):Ah G Tryz.prog 114 (MU n):=
 vcFun_okP [(79,0,DG),(80,0,CX),(81,0,(Ci n)),(140,0,IE)] [] false (fun x=>[(3,OQ n x)]) Tryz.func114 rfl (by decide) ⟨MN,MO,hc,a4D,trivial⟩ (fun(x:BC×List Ru×List Ch×List Sn×List Ti×List UInt8×Nd×Int)=>True∧cA DG [.box 0 [.int .i64 x.1.ind,AV.sl true 0 2 Ru ruA (xC x).rules,AV.sl true 0 5 Ch chA (xC x).chunks,AV.sl true 0 3 Sn snA (xC x).spans,AV.sl true 0 2 Ti tiA (xC x).ties,nds x.1.ns,.str (xC x).text,.bool x.1.rd],.int .i64 (2:Int),.int .i64 (1:Int)] fun x_1 y=>eA (OQ n x) [.box 0 [.int .i64 x_1.1.ind,AV.sl true 0 2 Ru ruA (yBW y).rules,AV.sl true 0 5 Ch chA (yBW y).chunks,AV.sl true 0 3 Sn snA (yBW y).spans,AV.sl true 0 2 Ti tiA (yBW y).ties,nds x_1.1.ns,.str (yBW y).text,.bool x_1.1.rd],.int .i64 x.2.2.2.2.2.2.2,.box 0 [.int .i64 x.2.2.2.2.2.2.1.kind,.str x.2.2.2.2.2.2.1.text,Ad x.2.2.2.2.2.2.1.kids,.bool x.2.2.2.2.2.2.1.blank],.int .i64 (AM x_1.1.rd (xC x_1)),Ad x.2.2.2.2.2.2.1.kids,.int .i64 (↑(List.length x.2.2.2.2.2.2.1.kids):Int),.int .i64 (0:Int)]∧∀(i:List Ru×List Ch×List Sn×List Ti×List UInt8×Int),pnI x.1 n (xC x) x.2.2.2.2.2.2.1 x.2.2.2.2.2.2.2 (zI i) (zBW i)→Ab (decide (zI i<(↑(List.length x.2.2.2.2.2.2.1.kids):Int))) (((0:Int)≤zI i∧zI i<(↑(List.length x.2.2.2.2.2.2.1.kids):Int))∧∀(e:Int),x.2.2.2.2.2.2.1.kids[Int.toNat (zI i)]? =some e→Ab (decide (zI i>(0:Int))) (cA CX [.box 0 [.int .i64 x.1.ind,AV.sl true 0 2 Ru ruA (zBW i).rules,AV.sl true 0 5 Ch chA (zBW i).chunks,AV.sl true 0 3 Sn snA (zBW i).spans,AV.sl true 0 2 Ti tiA (zBW i).ties,nds x.1.ns,.str (zBW i).text,.bool x.1.rd],.int .i64 (AM x.1.rd (xC x)),.int .i64 (1:Int),.bool true,.int .i64 x.2.2.2.2.2.2.2] fun x_2 y=>true=true∧((Ss n x e i x_2 y)∧(Ss n x e i x_2 y)∧(Ss n x e i x_2 y))∧∀(i_1:List Ru×List Ch×List Sn×List Ti×List UInt8×Int),pnJ x.1 n (xC x) x.2.2.2.2.2.2.1 x.2.2.2.2.2.2.2 (zBW i) (zI i) (zI i_1) (zBW i_1)→eA (MT n x i) [.box 0 [.int .i64 x.1.ind,AV.sl true 0 2 Ru ruA (zBW i_1).rules,AV.sl true 0 5 Ch chA (zBW i_1).chunks,AV.sl true 0 3 Sn snA (zBW i_1).spans,AV.sl true 0 2 Ti tiA (zBW i_1).ties,nds x.1.ns,.str (zBW i_1).text,.bool x.1.rd],.int .i64 (zI i_1),.int .i64 x.2.2.2.2.2.2.2,.box 0 [.int .i64 x.2.2.2.2.2.2.1.kind,.str x.2.2.2.2.2.2.1.text,Ad x.2.2.2.2.2.2.1.kids,.bool x.2.2.2.2.2.2.1.blank],.int .i64 (AM x.1.rd (xC x)),Ad x.2.2.2.2.2.2.1.kids,.int .i64 (↑(List.length x.2.2.2.2.2.2.1.kids):Int),.int .i64 (zI i)]) (eA (MT n x i) [.box 0 [.int .i64 x.1.ind,AV.sl true 0 2 Ru ruA (zBW i).rules,AV.sl true 0 5 Ch chA (zBW i).chunks,AV.sl true 0 3 Sn snA (zBW i).spans,AV.sl true 0 2 Ti tiA (zBW i).ties,nds x.1.ns,.str (zBW i).text,.bool x.1.rd],.int .i64 e,.int .i64 x.2.2.2.2.2.2.2,.box 0 [.int .i64 x.2.2.2.2.2.2.1.kind,.str x.2.2.2.2.2.2.1.text,Ad x.2.2.2.2.2.2.1.kids,.bool x.2.2.2.2.2.2.1.blank],.int .i64 (AM x.1.rd (xC x)),Ad x.2.2.2.2.2.2.1.kids,.int .i64 (↑(List.length x.2.2.2.2.2.2.1.kids):Int),.int .i64 (zI i)])∧∀(i_1:List Ru×List Ch×List Sn×List Ti×List UInt8×Int),pnJ x.1 n (xC x) x.2.2.2.2.2.2.1 x.2.2.2.2.2.2.2 (zBW i) (zI i) (zI i_1) (zBW i_1)→cA (Ci n) [.box 0 [.int .i64 x.1.ind,AV.sl true 0 2 Ru ruA (zBW i_1).rules,AV.sl true 0 5 Ch chA (zBW i_1).chunks,AV.sl true 0 3 Sn snA (zBW i_1).spans,AV.sl true 0 2 Ti tiA (zBW i_1).ties,nds x.1.ns,.str (zBW i_1).text,.bool x.1.rd],.int .i64 (zI i_1),.int .i64 x.2.2.2.2.2.2.2] fun x_2 y=>((0:Int)≤zI i_1∧zI i_1<(↑(List.length x_2.1.ns):Int))∧∀(e:Nd),x_2.1.ns[Int.toNat (zI i_1)]? =some e→Ab (e.kind==(8:Int)) (cA IE [.box 0 [.int .i64 x_2.1.ind,AV.sl true 0 2 Ru ruA (yBW y.2).rules,AV.sl true 0 5 Ch chA (yBW y.2).chunks,AV.sl true 0 3 Sn snA (yBW y.2).spans,AV.sl true 0 2 Ti tiA (yBW y.2).ties,nds x_2.1.ns,.str (yBW y.2).text,.bool x_2.1.rd],.int .i64 y.1,.int .i64 (AM x.1.rd (xC x))] fun x_3 y=>inR IntKind.i64 (zI i+(1:Int))∧eN (OQ n x) i [.box 0 [.int .i64 x_3.1.ind,AV.sl true 0 2 Ru ruA (yBW y).rules,AV.sl true 0 5 Ch chA (yBW y).chunks,AV.sl true 0 3 Sn snA (yBW y).spans,AV.sl true 0 2 Ti tiA (yBW y).ties,nds x_3.1.ns,.str (yBW y).text,.bool x_3.1.rd],.int .i64 x.2.2.2.2.2.2.2,.box 0 [.int .i64 x.2.2.2.2.2.2.1.kind,.str x.2.2.2.2.2.2.1.text,Ad x.2.2.2.2.2.2.1.kids,.bool x.2.2.2.2.2.2.1.blank],.int .i64 (AM x.1.rd (xC x)),Ad x.2.2.2.2.2.2.1.kids,.int .i64 (↑(List.length x.2.2.2.2.2.2.1.kids):Int),.int .i64 (zI i+(1:Int))]) (inR IntKind.i64 (zI i+(1:Int))∧eN (OQ n x) i [.box 0 [.int .i64 x_2.1.ind,AV.sl true 0 2 Ru ruA (yBW y.2).rules,AV.sl true 0 5 Ch chA (yBW y.2).chunks,AV.sl true 0 3 Sn snA (yBW y.2).spans,AV.sl true 0 2 Ti tiA (yBW y.2).ties,nds x_2.1.ns,.str (yBW y.2).text,.bool x_2.1.rd],.int .i64 x.2.2.2.2.2.2.2,.box 0 [.int .i64 x.2.2.2.2.2.2.1.kind,.str x.2.2.2.2.2.2.1.text,Ad x.2.2.2.2.2.2.1.kids,.bool x.2.2.2.2.2.2.1.blank],.int .i64 (AM x.1.rd (xC x)),Ad x.2.2.2.2.2.2.1.kids,.int .i64 (↑(List.length x.2.2.2.2.2.2.1.kids):Int),.int .i64 (zI i+(1:Int))])) (rA (MU n) x [.int .i64 (AM x.1.rd (xC x)),.box 0 [.int .i64 x.1.ind,AV.sl true 0 2 Ru ruA (zBW i).rules,AV.sl true 0 5 Ch chA (zBW i).chunks,AV.sl true 0 3 Sn snA (zBW i).spans,AV.sl true 0 2 Ti tiA (zBW i).ties,nds x.1.ns,.str (zBW i).text,.bool x.1.rd],.top,.top])) (fun x=>by kernel_rfl) fun(x:BC×List Ru×List Ch×List Sn×List Ti×List UInt8×Nd×Int) (hx:pnP x.1 n (xC x) x.2.2.2.2.2.2.1 x.2.2.2.2.2.2.2)=>(by
 dsimp only[Ss,buA,cA,Bl,eA,eN,Ad,Bg,nds,OQ,MT,rA,Bj,MU,DG,CX,IE,Ci,Bm,Bn,Aq,Aw,mvL,lnL,mvE,lnE,mvG,mvH,lnG,lnH,AZ]
 obtain⟨b,r,c,s,t,u,x,a⟩:=x;dsimp only[xC] at hx ⊢
 have hx:pnP b n ⟨r,c,s,t,u⟩ x a:=hx
 have h1:=hx.ar;have h2:=hx.kl
 (repeat' first|(with_reducible first|rfl|exact True.intro|apply AG|apply And.intro|((first|apply Au|apply AE|apply Av|apply AF)<;>intro _))|(apply As<;>intro _)|apply AD|refine Af () ?_ ?_|((first|apply AK|apply AJ|apply AI|apply AH|apply AC|apply AB|apply AA|apply Az|apply Ax)<;>try dsimp only)|apply Af|(refine Prod.forall.2 ?_;intro _;try dsimp only)|(intro _;try dsimp only))
 all_goals(try dsimp only[yBW,xC,zBW,zI,wB] at*)
 all_goals first
  |with_reducible rfl
  |exact CY hx.rm
  |exact a4W hx ‹_›
  |exact a4X ‹_› ‹_›
  |exact a5a ‹_› ‹_› ‹_›
  |exact b5x ‹_› ‹_› ‹_› ‹_› ‹_›
  |exact XC ‹_› hx
  |exact a5b ‹_› ‹_› hx
  |exact a5e ‹_› ‹_› hx ‹_› ‹_›
  |exact a5f ‹_› ‹_› ‹_› hx ‹_› ‹_›
  |exact a5g ‹_› hx ‹_›
  |(have hq:=Sr (show pnI _ _ _ _ _ _ _ by assumption);(try simp only[Ai]);omega)
  |(have hq:=a5c (show pnJ _ _ _ _ _ _ _ _ _ by assumption) hx;(try simp only[Ai]);omega)
  |(have hq2:=(XD ‹_› ‹_›).2;have hq:=a4Z (show pnI _ _ _ _ _ _ _ by assumption) ‹_› ‹_›;dsimp only at hq;(try simp only[Ai,List.length_append,List.length_cons,List.length_nil]);omega)
  |exact()
  |skip)
structure fnP (c:BC) (n:Nat) (s:Bs) (x:Nd) (a:Int):Prop where
 kd:kdP c.ns n x.kids
 kl:1≤x.kids.length∧x.kids.length≤12
 nm:∀k∈x.kids,k∈x.kids.take (x.kids.length-1)→(Aa c.ns k).text.length≤30
 rm:bR (80+wL (tW c.ns n) x.kids) s
 ar:0≤a∧a≤40
def fnT(x:Nd):List Int:=x.kids.take (x.kids.length-1)
def fnM(c:BC)(x:Nd)(i:Int):List (List UInt8):=((fnT x).take i.toNat).map fun k=>(Aa c.ns k).text
def fnQ(c:BC)(n:Nat)(s:Bs)(x:Nd)(a:Int)(t:Bs):Prop:=t=bFn c.ns c.rd (bV c.ns c.rd n) x a s
theorem Su{x:Nd}(h:1≤x.kids.length):x.kids.take ((x.kids.length:Int)-1).toNat=fnT x:=by rw[fnT,show((x.kids.length:Int)-1).toNat=x.kids.length-1 by omega]
theorem Ga{x:Nd}:(fnT x).length=x.kids.length-1:=by rw[fnT,List.length_take];omega
theorem XE{x:Nd}{i:Nat}{k:Int}(h:(fnT x)[i]? =some k):k∈x.kids:=List.mem_of_mem_take (AY h)
theorem a5i{c:BC}{n:Nat}{s:Bs}{x:Nd}{a k:Int}{i:Nat}(hx:fnP c n s x a)(h:(fnT x)[i]? =some k):0≤k∧k<c.ns.length:=Bc.1 (hx.kd k (XE h)).1.1
theorem b5z{c:BC}{x:Nd}:fnM c x 0=[]:=rfl
theorem XF{c:BC}{x:Nd}{i k:Int}{e:Nd}(h0:0≤i)(h:(fnT x)[i.toNat]? =some k)(he:c.ns[k.toNat]? =some e):fnM c x i++[e.text]=fnM c x (i+1):=by
 rw[fnM,fnM,BD h0,CT h,List.map_append,←Bd he];rfl
theorem Sv{c:BC}{x:Nd}{i:Int}:(fnM c x i).length≤x.kids.length:=by
 rw[fnM,List.length_map,List.length_take,Ga];omega
theorem a5j{c:BC}{x:Nd}{i:Int}{t:List UInt8}(h:x.kids.length≤12):Bb ((fnM c x i).length+[t].length) 16:=by
 have:= @Sv c x i
 simp only[Bb,List.length_cons,List.length_nil];omega
theorem XG{c:BC}{x:Nd}{i:Int}(h:¬i<(fnT x).length):DF (fnM c x i) [44,32]=DC c.ns (fnT x) true:=by
 rw[b3I,fnM,List.take_of_length_le (by omega)]
theorem b5A{c:BC}{n:Nat}{s:Bs}{x:Nd}{a i:Int}(hx:fnP c n s x a)(h:¬i<(fnT x).length):(DF (fnM c x i) [44,32]).length≤400:=by
 rw[XG h]
 have h1:=KK (ns:=c.ns) (w:=fun _=>30) (l:=fnT x) (first:=true) fun k hk=>hx.nm k (List.mem_of_mem_take hk) hk
 have h2:=Jt (w:=fun _=>30) (b:=30) (l:=fnT x) fun _ _=>by omega
 have h3:= @Ga x;have h4:=hx.kl
 omega
theorem b5B{c:BC}{x:Nd}{i:Int}{u:List UInt8}(h:¬i<(fnT x).length):u++([40]++DF (fnM c x i) [44,32]++[41,32,61,62])=u++(CW c.ns x++[32,61,62]):=by
 rw[XG h,CW,fnT];simp
theorem Sw{c:BC}{n:Nat}{s:Bs}{x:Nd}{a:Int}(hx:fnP c n s x a):bR (20+tW c.ns n (kd x (x.kids.length-1))) (Am (CW c.ns x++[32,61,62]) s):=by
 have h1:=KK (ns:=c.ns) (w:=tW c.ns n) (l:=fnT x) (first:=true) fun k hk=>by
  have h2:=hx.kd k (List.mem_of_mem_take hk)
  have h3:=Bc.1 h2.1.1
  rw[show n=(n-1)+1 by omega];exact a2g
 have h2:=QY (w:=tW c.ns n) (x:=x) (by have:=hx.kl;omega)
 have h3:= @Ga x;have h4:=hx.kl
 refine JD hx.rm ?_
 rw[CW]
 simp only[fnT] at h1 h3
 simp only[List.length_append,List.length_cons,List.length_nil];omega
theorem a5k{c:BC}{n:Nat}{s t:Bs}{x:Nd}{a:Int}(ht:t=Be c.rd 2 2 (Am (CW c.ns x++[32,61,62]) s))(hx:fnP c n s x a):bB t:=by subst ht;exact CY (HR (Sw hx))
theorem a5l{c:BC}{n:Nat}{s t u:Bs}{x:Nd}{a k:Int}(hu:u=AU (AM c.rd (Am (CW c.ns x++[32,61,62]) s)) 1 true a t)(ht:t=Be c.rd 2 2 (Am (CW c.ns x++[32,61,62]) s))(hx:fnP c n s x a)(hk:x.kids[((x.kids.length:Int)-1).toNat]? =some k):vlP c.ns n u k a:=by
 subst hu;subst ht
 have h1:=hx.kd k (AY hk)
 have h2:=hx.kl
 rw[show((x.kids.length:Int)-1).toNat=x.kids.length-1 by omega] at hk
 exact⟨h1.1,h1.2.1,h1.2.2,JE (HR (Sw hx)) (by rw[Ct hk];omega),hx.ar⟩
theorem a5m{c:BC}{n:Nat}{s t u v:Bs}{x:Nd}{a k o:Int}(hv:BK c n u k a o v)(hu:u=AU (AM c.rd (Am (CW c.ns x++[32,61,62]) s)) 1 true a t)(ht:t=Be c.rd 2 2 (Am (CW c.ns x++[32,61,62]) s))(hx:fnP c n s x a)(hk:x.kids[((x.kids.length:Int)-1).toNat]? =some k):fnQ c n s x a v:=by
 have h1:=hx.kl
 rw[show((x.kids.length:Int)-1).toNat=x.kids.length-1 by omega] at hk
 rw[fnQ,bFn,Ct hk,hv.1,hu,ht]
def MV(n:Nat):Sig:= {X:=BC×List Ru×List Ch×List Sn×List Ti×List UInt8×Nd×Int,args:=fun x=>[buA x.1 (xC x),.agg (ndA false x.2.2.2.2.2.2.1),.int .i64 x.2.2.2.2.2.2.2],pre:=fun x=>fnP x.1 n (xC x) x.2.2.2.2.2.2.1 x.2.2.2.2.2.2.2,Y:=BT,post:=fun x y=>fnQ x.1 n (xC x) x.2.2.2.2.2.2.1 x.2.2.2.2.2.2.2 (yBW y),res:=fun x y=> .tup [],outs:=fun x y=>[buA x.1 (yBW y),.top,.top],keep:=true}
def Sx(n:Nat)(x:BC×List Ru×List Ch×List Sn×List Ti×List UInt8×Nd×Int):LS:= {ι:=Int,inv:=fun i=>0≤i∧i≤(fnT x.2.2.2.2.2.2.1).length,regs:=fun i=>[(0,buA x.1 (xC x)),(2,.int .i64 x.2.2.2.2.2.2.2),(4,.box 0 (ndA false x.2.2.2.2.2.2.1)),(6,.int .i64 (x.2.2.2.2.2.2.1.kids.length-1)),(7,Cg (fnM x.1 x.2.2.2.2.2.2.1 i)),(18,Ad (fnT x.2.2.2.2.2.2.1)),(19,.int .i64 (fnT x.2.2.2.2.2.2.1).length),(20,.int .i64 i)],als:=[],meas:=fun i=>(fnT x.2.2.2.2.2.2.1).length-i.toNat}
def XH(n:Nat)(x:BC×List Ru×List Ch×List Sn×List Ti×List UInt8×Nd×Int):LS:= {ι:=Unit,inv:=fun _=>True,regs:=fun _=>[(0,buA x.1 (Am (CW x.1.ns x.2.2.2.2.2.2.1++[32,61,62]) (xC x))),(2,.int .i64 x.2.2.2.2.2.2.2),(4,.box 0 (ndA false x.2.2.2.2.2.2.1)),(6,.int .i64 (x.2.2.2.2.2.2.1.kids.length-1))],als:=[],meas:=fun _=>0}
def XI(n:Nat)(x:BC×List Ru×List Ch×List Sn×List Ti×List UInt8×Nd×Int)(i:Int):Prop:=cA GJ [AV.sl true 0 1 (List UInt8) Ag (fnM x.1 x.2.2.2.2.2.2.1 i),.str #[(44:UInt8),(32:UInt8)].toList] fun x_1 y=>(↑((1:Nat)+List.length (DF x_1.1 x_1.2)):Int)≤IntKind.max IntKind.i64∧((↑(List.length (#[(40:UInt8)].toList++DF x_1.1 x_1.2)+(4:Nat)):Int)≤IntKind.max IntKind.i64∧((↑(List.length (xC x).text+List.length (#[(40:UInt8)].toList++DF x_1.1 x_1.2++ #[(41:UInt8),(32:UInt8),(61:UInt8),(62:UInt8)].toList)):Int)≤IntKind.max IntKind.i64∧(true=true∧(eA (XH n x) [.box 0 [.int .i64 x.1.ind,AV.sl true 0 2 Ru ruA (xC x).rules,AV.sl true 0 5 Ch chA (xC x).chunks,AV.sl true 0 3 Sn snA (xC x).spans,AV.sl true 0 2 Ti tiA (xC x).ties,nds x.1.ns,.str ((xC x).text++(#[(40:UInt8)].toList++DF x_1.1 x_1.2++ #[(41:UInt8),(32:UInt8),(61:UInt8),(62:UInt8)].toList)),.bool x.1.rd],.int .i64 x.2.2.2.2.2.2.2,.box 0 [.int .i64 x.2.2.2.2.2.2.1.kind,.str x.2.2.2.2.2.2.1.text,Ad x.2.2.2.2.2.2.1.kids,.bool x.2.2.2.2.2.2.1.blank],.int .i64 ((↑(List.length x.2.2.2.2.2.2.1.kids):Int)-(1:Int))]))))
theorem b5C(n:Nat)(hc:Ah G Go.Proofs.Tryz.prog 81 (Ci n)):Ah G Tryz.prog 115 (MV n):=
 vcFun_okP [(79,0,DG),(80,0,CX),(81,0,(Ci n)),(128,0,GJ)] [(42,⟨List UInt8,Ag⟩)] false (fun x=>[(4,Sx n x),(100008,XH n x)]) Tryz.func115 rfl (by decide) ⟨MN,MO,hc,a2S,trivial⟩ (fun(x:BC×List Ru×List Ch×List Sn×List Ti×List UInt8×Nd×Int)=>True∧inR IntKind.i64 ((↑(List.length x.2.2.2.2.2.2.1.kids):Int)-(1:Int))∧((0:Int)≤(0:Int)∧(0:Int)≤(↑(List.length x.2.2.2.2.2.2.1.kids):Int)-(1:Int)∧(↑(List.length x.2.2.2.2.2.2.1.kids):Int)-(1:Int)≤(↑(List.length x.2.2.2.2.2.2.1.kids):Int))∧eA (Sx n x) [.box 0 [.int .i64 x.1.ind,AV.sl true 0 2 Ru ruA (xC x).rules,AV.sl true 0 5 Ch chA (xC x).chunks,AV.sl true 0 3 Sn snA (xC x).spans,AV.sl true 0 2 Ti tiA (xC x).ties,nds x.1.ns,.str (xC x).text,.bool x.1.rd],.int .i64 x.2.2.2.2.2.2.2,.box 0 [.int .i64 x.2.2.2.2.2.2.1.kind,.str x.2.2.2.2.2.2.1.text,Ad x.2.2.2.2.2.2.1.kids,.bool x.2.2.2.2.2.2.1.blank],.int .i64 ((↑(List.length x.2.2.2.2.2.2.1.kids):Int)-(1:Int)),.nil,Ad (List.take (Int.toNat ((↑(List.length x.2.2.2.2.2.2.1.kids):Int)-(1:Int))) x.2.2.2.2.2.2.1.kids),.int .i64 (↑(List.length (List.take (Int.toNat ((↑(List.length x.2.2.2.2.2.2.1.kids):Int)-(1:Int))) x.2.2.2.2.2.2.1.kids)):Int),.int .i64 (0:Int)]∧∀(i:Int),(0:Int)≤i∧i≤(↑(List.length (fnT x.2.2.2.2.2.2.1)):Int)→Ab (decide (i<(↑(List.length (fnT x.2.2.2.2.2.2.1)):Int))) (((0:Int)≤i∧i<(↑(List.length (fnT x.2.2.2.2.2.2.1)):Int))∧∀(e:Int),(fnT x.2.2.2.2.2.2.1)[Int.toNat i]? =some e→((0:Int)≤e∧e<(↑(List.length x.1.ns):Int))∧∀(e_1:Nd),x.1.ns[Int.toNat e]? =some e_1→∃(x_1:List UInt8),e_1.text=x_1∧∃(zs:List (List UInt8)),AV.sl true 0 1 (List UInt8) Ag [x_1]=AV.sl true 0 1 (List UInt8) Ag zs∧BH Ag∧Bb (List.length (fnM x.1 x.2.2.2.2.2.2.1 i)+List.length zs) (16:Nat)∧inR IntKind.i64 (i+(1:Int))∧eN (Sx n x) i [.box 0 [.int .i64 x.1.ind,AV.sl true 0 2 Ru ruA (xC x).rules,AV.sl true 0 5 Ch chA (xC x).chunks,AV.sl true 0 3 Sn snA (xC x).spans,AV.sl true 0 2 Ti tiA (xC x).ties,nds x.1.ns,.str (xC x).text,.bool x.1.rd],.int .i64 x.2.2.2.2.2.2.2,.box 0 [.int .i64 x.2.2.2.2.2.2.1.kind,.str x.2.2.2.2.2.2.1.text,Ad x.2.2.2.2.2.2.1.kids,.bool x.2.2.2.2.2.2.1.blank],.int .i64 ((↑(List.length x.2.2.2.2.2.2.1.kids):Int)-(1:Int)),AV.sl true 0 1 (List UInt8) Ag (fnM x.1 x.2.2.2.2.2.2.1 i++zs),Ad (fnT x.2.2.2.2.2.2.1),.int .i64 (↑(List.length (fnT x.2.2.2.2.2.2.1)):Int),.int .i64 (i+(1:Int))]) (true=true∧((XI n x i)∧(XI n x i))∧∀(i:Unit),True→cA DG [.box 0 [.int .i64 x.1.ind,AV.sl true 0 2 Ru ruA (Am (CW x.1.ns x.2.2.2.2.2.2.1++[(32:UInt8),(61:UInt8),(62:UInt8)]) (xC x)).rules,AV.sl true 0 5 Ch chA (Am (CW x.1.ns x.2.2.2.2.2.2.1++[(32:UInt8),(61:UInt8),(62:UInt8)]) (xC x)).chunks,AV.sl true 0 3 Sn snA (Am (CW x.1.ns x.2.2.2.2.2.2.1++[(32:UInt8),(61:UInt8),(62:UInt8)]) (xC x)).spans,AV.sl true 0 2 Ti tiA (Am (CW x.1.ns x.2.2.2.2.2.2.1++[(32:UInt8),(61:UInt8),(62:UInt8)]) (xC x)).ties,nds x.1.ns,.str (Am (CW x.1.ns x.2.2.2.2.2.2.1++[(32:UInt8),(61:UInt8),(62:UInt8)]) (xC x)).text,.bool x.1.rd],.int .i64 (2:Int),.int .i64 (2:Int)] fun x_1 y=>cA CX [.box 0 [.int .i64 x_1.1.ind,AV.sl true 0 2 Ru ruA (yBW y).rules,AV.sl true 0 5 Ch chA (yBW y).chunks,AV.sl true 0 3 Sn snA (yBW y).spans,AV.sl true 0 2 Ti tiA (yBW y).ties,nds x_1.1.ns,.str (yBW y).text,.bool x_1.1.rd],.int .i64 (AM x_1.1.rd (xC x_1)),.int .i64 (1:Int),.bool true,.int .i64 x.2.2.2.2.2.2.2] fun x_2 y=>((0:Int)≤(↑(List.length x.2.2.2.2.2.2.1.kids):Int)-(1:Int)∧(↑(List.length x.2.2.2.2.2.2.1.kids):Int)-(1:Int)<(↑(List.length x.2.2.2.2.2.2.1.kids):Int))∧∀(e:Int),x.2.2.2.2.2.2.1.kids[Int.toNat ((↑(List.length x.2.2.2.2.2.2.1.kids):Int)-(1:Int))]? =some e→cA (Ci n) [.box 0 [.int .i64 x_2.1.ind,AV.sl true 0 2 Ru ruA (yBW y).rules,AV.sl true 0 5 Ch chA (yBW y).chunks,AV.sl true 0 3 Sn snA (yBW y).spans,AV.sl true 0 2 Ti tiA (yBW y).ties,nds x_2.1.ns,.str (yBW y).text,.bool x_2.1.rd],.int .i64 e,.int .i64 x.2.2.2.2.2.2.2] fun x_3 y=>rA (MV n) x [.tup [],.box 0 [.int .i64 x_3.1.ind,AV.sl true 0 2 Ru ruA (yBW y.2).rules,AV.sl true 0 5 Ch chA (yBW y.2).chunks,AV.sl true 0 3 Sn snA (yBW y.2).spans,AV.sl true 0 2 Ti tiA (yBW y.2).ties,nds x_3.1.ns,.str (yBW y.2).text,.bool x_3.1.rd],.top,.top])) (fun x=>by kernel_rfl) fun(x:BC×List Ru×List Ch×List Sn×List Ti×List UInt8×Nd×Int) (hx:fnP x.1 n (xC x) x.2.2.2.2.2.2.1 x.2.2.2.2.2.2.2)=>(by
 dsimp only[XI,buA,cA,Bl,eA,eN,XH,Sx,Ad,Bg,nds,Cg,rA,Bj,MV,DG,CX,Ci,GJ,Bm,Bn,Ej,Aq,Aw,mvL,lnL,mvE,lnE,mvG,mvH,lnG,lnH,AZ]
 obtain⟨b,r,c,s,t,u,x,a⟩:=x;dsimp only[xC] at hx ⊢
 have hx:fnP b n ⟨r,c,s,t,u⟩ x a:=hx
 have h1:=hx.ar;have h2:=hx.kl
 (repeat' first|(with_reducible first|rfl|exact True.intro|apply AG|apply And.intro|((first|apply Au|apply AE|apply Av|apply AF)<;>intro _))|(apply As<;>intro _)|apply AD|refine Af () ?_ ?_|((first|apply AK|apply AJ|apply AI|apply AH|apply AC|apply AB|apply AA|apply Az|apply Ax)<;>try dsimp only)|apply Af|(refine Prod.forall.2 ?_;intro _;try dsimp only)|(intro _;try dsimp only))
 all_goals(try dsimp only[yBW,xC,zBW,zI,wB] at*)
 all_goals first
  |with_reducible rfl
  |exact Su hx.kl.1
  |(rw[Su hx.kl.1];done)
  |exact b5z
  |exact XF (by omega) ‹_› ‹_›
  |exact(XF (by omega) ‹_› ‹_›).symm
  |exact CY (Sw hx)
  |exact a5k ‹_› hx
  |exact a5l ‹_› ‹_› hx ‹_›
  |exact a5m ‹_› ‹_› ‹_› hx ‹_›
  |exact b5B ‹_›
  |(have hl:= @Ga x;(try simp only[Ai]);omega)
  |(have hq:=a5i hx ‹_›;(try simp only[Ai]);omega)
  |(have hq:=b5A hx ‹_›;have hb:=Hi (CY hx.rm);have hm:= @Sv b x;(try have hm:= @Sv b x ‹Int›);dsimp only at hb;(try simp only[Ai,List.length_append,List.length_cons,List.length_nil]);omega)
  |exact a5j hx.kl.2
  |exact()
  |rfl
  |skip)
end Go.My
end
