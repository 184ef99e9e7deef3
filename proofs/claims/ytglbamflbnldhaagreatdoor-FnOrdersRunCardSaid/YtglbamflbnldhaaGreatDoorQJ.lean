/- joined -/
import Derived.Test.YtglbamflbnldhaaGreatDoorQI
set_option linter.unusedSimpArgs false
set_option linter.unusedVariables false
section
namespace Go.My
open Go.Eng Go.Proofs
variable {G:GInv}
def mc(m:Ms):Mc:=⟨m.out,m.code,m.steps,m.deep⟩
def uOk(m:Ms):Prop:=mOk (mc m)∧(LZ m.cells (mc m)∧bdd m.ret)
def Dt(m m2:Ms)(e:Int):Prop:=Ej (mc m) (mc m2) e∧uOk m2
def usA(s:ZS)(m:Ms):AV:= .box 0 [nds s.ns,cls m.cells,Ab m.out,.int .i64 m.code,.int .i64 m.steps,.int .i64 s.L,.int .i64 m.deep,.bool m.done,.int .i64 m.ret]
abbrev uh {α:Type} (x:ZX α):Ms:=⟨x.2.1,x.2.2.1,x.2.2.2.1,x.2.2.2.2.1,x.2.2.2.2.2.1,x.2.2.2.2.2.2.1,x.2.2.2.2.2.2.2.1⟩
abbrev UY:=List Int×Int×Int×Int×Cls×Bool×Int
abbrev yu (y:UY):Ms:=⟨y.1,y.2.1,y.2.2.1,y.2.2.2.1,y.2.2.2.2.1,y.2.2.2.2.2.1,y.2.2.2.2.2.2⟩
abbrev yw {α:Type} (y:α×UY):α×Ms:=(y.1,yu y.2)
theorem KP(m:Ms):(⟨m.out,m.code,m.steps,m.deep,m.cells,m.done,m.ret⟩:Ms)=m:=rfl
theorem Mn{m:Ms}(h:uOk m):Dt m m 0:=⟨WN h.1,h⟩
theorem EI{m m2:Ms}{e e2:Int}(h:Dt m m2 e)(he:e≤e2):Dt m m2 e2:=⟨b3A h.1 he,h.2⟩
theorem GH{m m2 m3:Ms}{e e2:Int}(h:Dt m m2 e)(g:Dt m2 m3 e2):Dt m m3 (e+e2):=⟨b3B h.1 g.1,g.2⟩
theorem b7g{m:Ms}:mc (AW m)=PO (mc m):=by
 unfold AW PO mc;split<;>rfl
theorem Mo{m:Ms}(h:uOk m):Dt m (AW m) 0:=by
 have g:=b3C h.1
 rw[←b7g] at g
 refine⟨g,g.1.1,?_,?_⟩
 ·have hc:(AW m).cells=m.cells:=by unfold AW;split<;>rfl
  rw[hc];exact Xu h.2.1 g.2.1
 ·have hc:(AW m).ret=m.ret:=by unfold AW;split<;>rfl
  rw[hc];exact h.2.2
theorem b7h{L:Int}{m:Ms}:mc (Bm L m)=Su L (mc m):=by
 unfold Bm Su mc;split
 ·split<;>rfl
 ·rfl
theorem b7i{m:Ms}(h:m.code=0):AW m=⟨m.out,1,m.steps,m.deep,m.cells,m.done,m.ret⟩:=by rw[AW,if_pos h]
theorem b7j{m:Ms}(h:¬m.code=0):AW m=m:=by rw[AW,if_neg h]
theorem a5m{L:Int}{m:Ms}(h:m.code=0)(h2:L≤m.steps):Bm L m=⟨m.out,2,m.steps,m.deep,m.cells,m.done,m.ret⟩:=by rw[Bm,if_pos h,if_pos h2]
theorem Xv{L:Int}{m:Ms}(h:m.code=0)(h2:¬L≤m.steps):Bm L m=⟨m.out,0,m.steps+1,m.deep,m.cells,m.done,m.ret⟩:=by rw[Bm,if_pos h,if_neg h2]
theorem a5n{L:Int}{m:Ms}(h:¬m.code=0):Bm L m=m:=by rw[Bm,if_neg h]
def Oi:Sig:= {X:=Cls×List UInt8,args:=fun x=>[cls x.1,.str x.2],pre:=fun x=>x.1.length<2^62,Y:=Unit,post:=fun x y=>True,res:=fun x y=> .tup [.int .i64 (nOf (Cz x.1 x.2)),.bool (Cz x.1 x.2).isSome],outs:=fun x y=>[.top,.top],keep:=false}
def Tf(x:Cls×List UInt8):LS:= {ι:=Int,inv:=fun i=>Jm x.1 x.2 i,regs:=fun i=>[(0,cls x.1),(1,.str x.2),(6,.int .i64 i)],als:=[],meas:=fun i=>x.1.length-i.toNat}
theorem a5o:Aj G Tryz.prog 123 Oi:=
 vcFun_okP [] [] false (fun x=>[(2,Tf x)]) Tryz.func123 rfl (by decide) trivial (fun(x:Cls×List UInt8)=>(∀(y:Unit),True→(True∧True∧True)∧True∧True∧True)∧eA (Tf x) [AV.sl false 0 2 (List UInt8×Int) Ah x.1,.str x.2,.int .i64 (0:Int)]∧∀(i:Int),Jm x.1 x.2 i→Aa (decide (i<(↑(List.length x.1):Int))) (((0:Int)≤i∧i<(↑(List.length x.1):Int))∧∀(e:List UInt8×Int),x.1[Int.toNat i]? =some e→Aa (e.1==x.2) (((0:Int)≤i∧i<(↑(List.length x.1):Int))∧∀(e:List UInt8×Int),x.1[Int.toNat i]? =some e→rA Oi x [.tup [.int .i64 e.2,.bool true],.top,.top]) (inR IntKind.i64 (i+(1:Int))∧eN (Tf x) i [AV.sl false 0 2 (List UInt8×Int) Ah x.1,.str x.2,.int .i64 (i+(1:Int))])) (rA Oi x [.tup [.int .i64 (0:Int),.bool false],.top,.top])) (fun x=>by kernel_rfl) fun(x:Cls×List UInt8) (hx:x.1.length<2^62)=>(by
 dsimp only[Ah,cls,eA,eN,Tf,rA,Oi,Au,Az,Br]
 obtain⟨l,t⟩:=x;dsimp only at hx ⊢
 have hx:l.length<2^62:=hx
 (repeat' first|(with_reducible first|rfl|exact True.intro|apply AK|apply And.intro|((first|apply AA|apply AI|apply AB|apply AJ)<;>intro _))|(apply Ax<;>intro _)|apply AH|refine Ae () ?_ ?_|((first|apply AO|apply AN|apply AM|apply AL|apply AG|apply AF|apply AE|apply AD|apply AC)<;>try dsimp only)|apply Ae|(refine Prod.forall.2 ?_;intro _;try dsimp only)|(intro _;try dsimp only))
 all_goals(try(repeat(rename(_:List (List UInt8×Int))[_]? =some _=>hq;revert hq;rename(_:List (List UInt8×Int))[_]? =some _=>hr;intro hq;rw[hr] at hq;cases hq)))
 all_goals first
  |rfl
  |exact b6U
  |(rw[a5a ‹_› ‹_› ‹_›];rfl)
  |(rw[a5a ‹_› ‹_› ‹_›];done)
  |exact b6W ‹_› ‹_› ‹_›
  |(rw[a5b ‹_› ‹_›];rfl)
  |(rw[a5b ‹_› ‹_›];done)
  |(have hq:=b6V (show Jm _ _ _ by assumption);(try simp only[AQ]);omega)
  |skip)
def Di:Sig:= {X:=ZX Unit,args:=fun x=>[usA x.1 (uh x)],pre:=fun x=>True,Y:=Unit,post:=fun x y=>True,res:=fun x y=> .int .i64 0,outs:=fun x y=>[usA x.1 (AW (uh x))],keep:=true}
theorem Mp:Aj G Tryz.prog 43 Di:=
 vcFun_okP [] [] false (fun x=>[]) Tryz.func43 rfl (by decide) trivial (fun(x:ZX Unit)=>True∧Aa ((uh x).code==(0:Int)) (rA Di x [.int .i64 (0:Int),.box 0 [nds x.1.ns,AV.sl false 0 2 (List UInt8×Int) Ah (uh x).cells,Ab (uh x).out,.int .i64 (1:Int),.int .i64 (uh x).steps,.int .i64 x.1.L,.int .i64 (uh x).deep,.bool (uh x).done,.int .i64 (uh x).ret]]) (rA Di x [.int .i64 (0:Int),.box 0 [nds x.1.ns,AV.sl false 0 2 (List UInt8×Int) Ah (uh x).cells,Ab (uh x).out,.int .i64 (uh x).code,.int .i64 (uh x).steps,.int .i64 x.1.L,.int .i64 (uh x).deep,.bool (uh x).done,.int .i64 (uh x).ret]])) (fun x=>by kernel_rfl) fun(x:ZX Unit) (hx:True)=>(by
 dsimp only[Ah,cls,Bu,nds,Ab,rA,Di,usA,Au,Az]
 obtain⟨s,o,c,t,d,cs,en,re,_⟩:=x;dsimp only[uh] at hx ⊢
 (repeat' first|(with_reducible first|rfl|exact True.intro|apply AK|apply And.intro|((first|apply AA|apply AI|apply AB|apply AJ)<;>intro _))|(apply Ax<;>intro _)|apply AH|refine Ae () ?_ ?_|((first|apply AO|apply AN|apply AM|apply AL|apply AG|apply AF|apply AE|apply AD|apply AC)<;>try dsimp only)|apply Ae|(refine Prod.forall.2 ?_;intro _;try dsimp only)|(intro _;try dsimp only))
 all_goals first
  |rfl
  |(rw[b7i ‹_›];done)
  |(rw[b7j ‹_›];done)
  |skip
 all_goals trace_state)
def IG:Sig:= {X:=ZX Unit,args:=fun x=>[usA x.1 (uh x)],pre:=fun x=>0≤(uh x).steps∧(uh x).steps≤2^40,Y:=Unit,post:=fun x y=>True,res:=fun x y=> .bool (decide ((Bm x.1.L (uh x)).code=0)),outs:=fun x y=>[usA x.1 (Bm x.1.L (uh x))],keep:=true}
def Xw(x:ZX Unit):Prop:=Aa ((uh x).code != (0:Int)) (rA IG x [.bool false,.box 0 [nds x.1.ns,AV.sl false 0 2 (List UInt8×Int) Ah (uh x).cells,Ab (uh x).out,.int .i64 (uh x).code,.int .i64 (uh x).steps,.int .i64 x.1.L,.int .i64 (uh x).deep,.bool (uh x).done,.int .i64 (uh x).ret]]) (inR IntKind.i64 ((uh x).steps+(1:Int))∧rA IG x [.bool true,.box 0 [nds x.1.ns,AV.sl false 0 2 (List UInt8×Int) Ah (uh x).cells,Ab (uh x).out,.int .i64 (uh x).code,.int .i64 ((uh x).steps+(1:Int)),.int .i64 x.1.L,.int .i64 (uh x).deep,.bool (uh x).done,.int .i64 (uh x).ret]])
theorem a5p:Aj G Tryz.prog 120 IG:=
 vcFun_okP [] [] false (fun x=>[]) Tryz.func120 rfl (by decide) trivial (fun(x:ZX Unit)=>True∧true=true∧true=true∧Aa ((uh x).code==(0:Int)) (Aa (decide ((uh x).steps≥x.1.L)) (rA IG x [.bool false,.box 0 [nds x.1.ns,AV.sl false 0 2 (List UInt8×Int) Ah (uh x).cells,Ab (uh x).out,.int .i64 (2:Int),.int .i64 (uh x).steps,.int .i64 x.1.L,.int .i64 (uh x).deep,.bool (uh x).done,.int .i64 (uh x).ret]]) (Xw x)) (Xw x)) (fun x=>by kernel_rfl) fun(x:ZX Unit) (hx:0≤(uh x).steps∧(uh x).steps≤2^40)=>(by
 dsimp only[Xw,Ah,cls,Bu,nds,Ab,rA,IG,usA,Au,Az]
 obtain⟨s,o,c,t,d,cs,en,re,_⟩:=x;dsimp only[uh] at hx ⊢
 have hx:0≤t∧t≤2^40:=hx
 (repeat' first|(with_reducible first|rfl|exact True.intro|apply AK|apply And.intro|((first|apply AA|apply AI|apply AB|apply AJ)<;>intro _))|(apply Ax<;>intro _)|apply AH|refine Ae () ?_ ?_|((first|apply AO|apply AN|apply AM|apply AL|apply AG|apply AF|apply AE|apply AD|apply AC)<;>try dsimp only)|apply Ae|(refine Prod.forall.2 ?_;intro _;try dsimp only)|(intro _;try dsimp only))
 all_goals first
  |rfl
  |(rw[a5m ‹_› ‹_›];done)
  |(rw[a5m ‹_› ‹_›];rfl)
  |(rw[Xv ‹_› (by omega)];done)
  |(rw[Xv ‹_› (by omega)];rfl)
  |(rw[Xv ‹_› (by omega)];assumption)
  |(rw[a5n ‹_›];done)
  |(rw[a5n ‹_›];simp [*];done)
  |((try simp only[AQ]);omega)
  |skip
 all_goals trace_state)
def uKm(n:Int)(m:Ms):Ms:=if inn n (-1000000000) 1000000000 then m else AW m
theorem b7k{n L:Int}{m:Ms}:PV n L m=some (HX n,uKm n m):=by
 unfold PV HX uKm;split<;>rfl
def HY:Sig:= {X:=ZX Int,args:=fun x=>[usA x.1 (uh x),.int .i64 (zl x)],pre:=fun x=>True,Y:=Unit,post:=fun x y=>True,res:=fun x y=> .int .i64 (HX (zl x)),outs:=fun x y=>[usA x.1 (uKm (zl x) (uh x)),.top],keep:=true}
theorem a5q:Aj G Tryz.prog 42 HY:=
 vcFun_okP [(46,0,CP),(43,0,Di)] [] false (fun x=>[]) Tryz.func42 rfl (by decide) ⟨Kw,Mp,trivial⟩ (fun(x:ZX Int)=>True∧cA CP [.int .i64 (zl x),.int .i64 (-1000000000:Int),.int .i64 (1000000000:Int)] fun x_1 y=>Aa (!inn x_1.1 x_1.2.1 x_1.2.2) (cA Di [.box 0 [nds x.1.ns,AV.sl false 0 2 (List UInt8×Int) Ah (uh x).cells,Ab (uh x).out,.int .i64 (uh x).code,.int .i64 (uh x).steps,.int .i64 x.1.L,.int .i64 (uh x).deep,.bool (uh x).done,.int .i64 (uh x).ret]] fun x_2 y=>rA HY x [.int .i64 (0:Int),.box 0 [nds x_2.1.ns,AV.sl false 0 2 (List UInt8×Int) Ah (AW (uh x_2)).cells,Ab (AW (uh x_2)).out,.int .i64 (AW (uh x_2)).code,.int .i64 (AW (uh x_2)).steps,.int .i64 x_2.1.L,.int .i64 (AW (uh x_2)).deep,.bool (AW (uh x_2)).done,.int .i64 (AW (uh x_2)).ret],.top]) (rA HY x [.int .i64 (zl x),.box 0 [nds x.1.ns,AV.sl false 0 2 (List UInt8×Int) Ah (uh x).cells,Ab (uh x).out,.int .i64 (uh x).code,.int .i64 (uh x).steps,.int .i64 x.1.L,.int .i64 (uh x).deep,.bool (uh x).done,.int .i64 (uh x).ret],.top])) (fun x=>by kernel_rfl) fun(x:ZX Int) (hx:True)=>(by
 dsimp only[cA,Ah,cls,Bu,nds,Ab,rA,CP,Di,HY,usA,Au,Az,mvL,lnL,mvE,lnE]
 obtain⟨s,o,c,t,d,cs,en,re,n⟩:=x;dsimp only[uh,zl] at hx ⊢
 (repeat' first|(with_reducible first|rfl|exact True.intro|apply AK|apply And.intro|((first|apply AA|apply AI|apply AB|apply AJ)<;>intro _))|(apply Ax<;>intro _)|apply AH|refine Ae () ?_ ?_|((first|apply AO|apply AN|apply AM|apply AL|apply AG|apply AF|apply AE|apply AD|apply AC)<;>try dsimp only)|apply Ae|(refine Prod.forall.2 ?_;intro _;try dsimp only)|(intro _;try dsimp only))
 all_goals first
  |rfl
  |exact()
  |(simp [HX,uKm, *];done)
  |skip
 all_goals trace_state)
def KQ:Sig:= {X:=ZX (List UInt8×Int×Int),args:=fun x=>[usA x.1 (uh x),.str (zl x).1,.int .i64 (zl x).2.1,.int .i64 (zl x).2.2],pre:=fun x=>bdd (zl x).2.1∧bdd (zl x).2.2,Y:=Unit,post:=fun x y=>True,res:=fun x y=> .int .i64 (HX (Eh (zl x).1 (zl x).2.1 (zl x).2.2)),outs:=fun x y=>[usA x.1 (uKm (Eh (zl x).1 (zl x).2.1 (zl x).2.2) (uh x)),.top,.top,.top],keep:=true}
theorem b7l:Aj G Tryz.prog 186 KQ:=
 vcFun_okP [(42,0,HY)] [] false (fun x=>[]) Tryz.func186 rfl (by decide) ⟨a5q,trivial⟩ (fun(x:ZX (List UInt8×Int×Int))=>True∧Aa ((zl x).1== #[(43:UInt8)].toList) (inR IntKind.i64 ((zl x).2.1+(zl x).2.2)∧cA HY [.box 0 [nds x.1.ns,AV.sl false 0 2 (List UInt8×Int) Ah (uh x).cells,Ab (uh x).out,.int .i64 (uh x).code,.int .i64 (uh x).steps,.int .i64 x.1.L,.int .i64 (uh x).deep,.bool (uh x).done,.int .i64 (uh x).ret],.int .i64 ((zl x).2.1+(zl x).2.2)] fun x_1 y=>rA KQ x [.int .i64 (HX (zl x_1)),.box 0 [nds x_1.1.ns,AV.sl false 0 2 (List UInt8×Int) Ah (uKm (zl x_1) (uh x_1)).cells,Ab (uKm (zl x_1) (uh x_1)).out,.int .i64 (uKm (zl x_1) (uh x_1)).code,.int .i64 (uKm (zl x_1) (uh x_1)).steps,.int .i64 x_1.1.L,.int .i64 (uKm (zl x_1) (uh x_1)).deep,.bool (uKm (zl x_1) (uh x_1)).done,.int .i64 (uKm (zl x_1) (uh x_1)).ret],.top,.top,.top]) (Aa ((zl x).1== #[(45:UInt8)].toList) (inR IntKind.i64 ((zl x).2.1-(zl x).2.2)∧cA HY [.box 0 [nds x.1.ns,AV.sl false 0 2 (List UInt8×Int) Ah (uh x).cells,Ab (uh x).out,.int .i64 (uh x).code,.int .i64 (uh x).steps,.int .i64 x.1.L,.int .i64 (uh x).deep,.bool (uh x).done,.int .i64 (uh x).ret],.int .i64 ((zl x).2.1-(zl x).2.2)] fun x_1 y=>rA KQ x [.int .i64 (HX (zl x_1)),.box 0 [nds x_1.1.ns,AV.sl false 0 2 (List UInt8×Int) Ah (uKm (zl x_1) (uh x_1)).cells,Ab (uKm (zl x_1) (uh x_1)).out,.int .i64 (uKm (zl x_1) (uh x_1)).code,.int .i64 (uKm (zl x_1) (uh x_1)).steps,.int .i64 x_1.1.L,.int .i64 (uKm (zl x_1) (uh x_1)).deep,.bool (uKm (zl x_1) (uh x_1)).done,.int .i64 (uKm (zl x_1) (uh x_1)).ret],.top,.top,.top]) (inR IntKind.i64 ((zl x).2.1*(zl x).2.2)∧cA HY [.box 0 [nds x.1.ns,AV.sl false 0 2 (List UInt8×Int) Ah (uh x).cells,Ab (uh x).out,.int .i64 (uh x).code,.int .i64 (uh x).steps,.int .i64 x.1.L,.int .i64 (uh x).deep,.bool (uh x).done,.int .i64 (uh x).ret],.int .i64 ((zl x).2.1*(zl x).2.2)] fun x_1 y=>rA KQ x [.int .i64 (HX (zl x_1)),.box 0 [nds x_1.1.ns,AV.sl false 0 2 (List UInt8×Int) Ah (uKm (zl x_1) (uh x_1)).cells,Ab (uKm (zl x_1) (uh x_1)).out,.int .i64 (uKm (zl x_1) (uh x_1)).code,.int .i64 (uKm (zl x_1) (uh x_1)).steps,.int .i64 x_1.1.L,.int .i64 (uKm (zl x_1) (uh x_1)).deep,.bool (uKm (zl x_1) (uh x_1)).done,.int .i64 (uKm (zl x_1) (uh x_1)).ret],.top,.top,.top]))) (fun x=>by kernel_rfl) fun(x:ZX (List UInt8×Int×Int)) (hx:bdd (zl x).2.1∧bdd (zl x).2.2)=>(by
 dsimp only[cA,Ah,cls,Bu,nds,Ab,rA,HY,KQ,usA,Au,Az,mvL,lnL,mvE,lnE]
 obtain⟨s,o,c,t,d,cs,en,re,z,a,b⟩:=x;dsimp only[uh,zl] at hx ⊢
 obtain⟨h1,h2⟩:=hx
 have hm:=b2s h1.1 h1.2 h2.1 h2.2
 unfold bdd at h1 h2
 (repeat' first|(with_reducible first|rfl|exact True.intro|apply AK|apply And.intro|((first|apply AA|apply AI|apply AB|apply AJ)<;>intro _))|(apply Ax<;>intro _)|apply AH|refine Ae () ?_ ?_|((first|apply AO|apply AN|apply AM|apply AL|apply AG|apply AF|apply AE|apply AD|apply AC)<;>try dsimp only)|apply Ae|(refine Prod.forall.2 ?_;intro _;try dsimp only)|(intro _;try dsimp only))
 all_goals first
  |rfl
  |(simp [Eh, *];done)
  |((try simp only[AQ]);omega)
  |skip
 all_goals trace_state)
def Fq:Sig:= {X:=Bool,args:=fun x=>[.bool x],pre:=fun x=>True,Y:=Unit,post:=fun x y=>True,res:=fun x y=> .int .i64 (tr x),outs:=fun x y=>[.top],keep:=false}
theorem b7m:Aj G Tryz.prog 185 Fq:=
 vcFun_okP [] [] false (fun x=>[]) Tryz.func185 rfl (by decide) trivial (fun(x:Bool)=>(∀(y:Unit),True→True∧True∧True)∧Aa x (rA Fq x [.int .i64 (1:Int),.top]) (rA Fq x [.int .i64 (0:Int),.top])) (fun x=>by kernel_rfl) fun(x:Bool) (hx:True)=>(by
 dsimp only[rA,Fq,Au,Az]
 (repeat' first|(with_reducible first|rfl|exact True.intro|apply AK|apply And.intro|((first|apply AA|apply AI|apply AB|apply AJ)<;>intro _))|(apply Ax<;>intro _)|apply AH|refine Ae () ?_ ?_|((first|apply AO|apply AN|apply AM|apply AL|apply AG|apply AF|apply AE|apply AD|apply AC)<;>try dsimp only)|apply Ae|(refine Prod.forall.2 ?_;intro _;try dsimp only)|(intro _;try dsimp only))
 all_goals first
  |rfl
  |(simp [tr, *];done)
  |skip)
def HZ:Sig:= {X:=List Nd×List UInt8,args:=fun x=>[nds x.1,.str x.2],pre:=fun x=>tOk x.1,Y:=Unit,post:=fun x y=>True,res:=fun x y=> .int .i64 (Bb x.1 x.2 (Bc x.1).kids),outs:=fun x y=>[.top,.top],keep:=false}
def Qm(x:List Nd×List UInt8):LS:= {ι:=Int,inv:=fun i=>mtI x.1 x.2 i,regs:=fun i=>[(0,nds x.1),(1,.str x.2),(5,Af (Bc x.1).kids),(6,.int .i64 i)],als:=[],meas:=fun i=>(Bc x.1).kids.length-i.toNat}
theorem Xx:Aj G Tryz.prog 14 HZ:=
 vcFun_okP [(17,0,He)] [] false (fun x=>[(5,Qm x)]) Tryz.func14 rfl (by decide) ⟨a2r,trivial⟩ (fun(x:List Nd×List UInt8)=>(∀(y:Unit),True→True∧True∧True∧True)∧cA He [nds x.1] fun x_1 y=>Aa (!Bf x_1) (rA HZ x [.int .i64 (-1:Int),.top,.top]) (inR IntKind.i64 ((↑(List.length x.1):Int)-(1:Int))∧((0:Int)≤(↑(List.length x.1):Int)-(1:Int)∧(↑(List.length x.1):Int)-(1:Int)<(↑(List.length x.1):Int))∧∀(e:Nd),x.1[Int.toNat ((↑(List.length x.1):Int)-(1:Int))]? =some e→eA (Qm x) [nds x.1,.str x.2,Af e.kids,.int .i64 (0:Int)]∧∀(i:Int),mtI x.1 x.2 i→Aa (decide (i<(↑(List.length (Bc x.1).kids):Int))) (((0:Int)≤i∧i<(↑(List.length (Bc x.1).kids):Int))∧∀(e:Int),(Bc x.1).kids[Int.toNat i]? =some e→((0:Int)≤e∧e<(↑(List.length x.1):Int))∧∀(e_1:Nd),x.1[Int.toNat e]? =some e_1→Aa (e_1.kind==(20:Int)) (((0:Int)≤i∧i<(↑(List.length (Bc x.1).kids):Int))∧∀(e:Int),(Bc x.1).kids[Int.toNat i]? =some e→((0:Int)≤e∧e<(↑(List.length x.1):Int))∧∀(e_2:Nd),x.1[Int.toNat e]? =some e_2→Aa (e_2.text==x.2) (((0:Int)≤i∧i<(↑(List.length (Bc x.1).kids):Int))∧∀(e:Int),(Bc x.1).kids[Int.toNat i]? =some e→rA HZ x [.int .i64 e,.top,.top]) (inR IntKind.i64 (i+(1:Int))∧eN (Qm x) i [nds x.1,.str x.2,Af (Bc x.1).kids,.int .i64 (i+(1:Int))])) (inR IntKind.i64 (i+(1:Int))∧eN (Qm x) i [nds x.1,.str x.2,Af (Bc x.1).kids,.int .i64 (i+(1:Int))])) (rA HZ x [.int .i64 (-1:Int),.top,.top]))) (fun x=>by kernel_rfl) fun(x:List Nd×List UInt8) (hx:tOk x.1)=>(by
 dsimp only[cA,eA,eN,Qm,Af,Bu,nds,rA,HZ,He,Au,Az,mvL,lnL,mvE,lnE,Br]
 obtain⟨ns,t⟩:=x;dsimp only at hx ⊢
 have hx:tOk ns:=hx
 have hl:=hx.2
 have hz:∃z,ns[((ns.length:Int)-1).toNat]? =some z:=⟨_,List.getElem?_eq_getElem (by omega)⟩
 obtain⟨z,hz⟩:=hz
 have hr:Bc ns=z:=Bn hz
 (repeat' first|(with_reducible first|rfl|exact True.intro|apply AK|apply And.intro|((first|apply AA|apply AI|apply AB|apply AJ)<;>intro _))|(apply Ax<;>intro _)|apply AH|refine Ae () ?_ ?_|((first|apply AO|apply AN|apply AM|apply AL|apply AG|apply AF|apply AE|apply AD|apply AC)<;>try dsimp only)|apply Ae|(refine Prod.forall.2 ?_;intro _;try dsimp only)|(intro _;try dsimp only))
 all_goals(try(have hB:=b7b (show mtI _ _ _ by assumption)))
 all_goals(try(repeat(rename(_:List Int)[_]? =some _=>hq;revert hq;rename(_:List Int)[_]? =some _=>hr;intro hq;rw[hr] at hq;cases hq)))
 all_goals(try(repeat(rename(_:List Nd)[_]? =some _=>hq;revert hq;rename(_:List Nd)[_]? =some _=>hr;intro hq;rw[hr] at hq;cases hq)))
 all_goals first
  |rfl
  |exact hx.1.2
  |exact b7a hx
  |exact a5i ‹_› ‹_› ‹_› ‹_› ‹_›
  |exact(a5i ‹_› ‹_› ‹_› ‹_› ‹_›).symm
  |exact a5j ‹_› ‹_› ‹_› (fun h=>absurd h.1 ‹_›)
  |exact a5j ‹_› ‹_› ‹_› (fun h=>absurd h.2 ‹_›)
  |exact(b7c ‹_› ‹_›).symm
  |exact(Xs hx ‹_›).1
  |exact(Xs hx ‹_›).2
  |(have hq:=Xs hx (show(Bc ns).kids[_]? =some _ by assumption);omega)
  |(rename ns[_]? =some _=>hq;rw[hz] at hq;cases hq;rw[hr];done)
  |(exfalso;have hq:=hx.1.1;rename Bf _=false=>hr;rw[hr] at hq;cases hq;done)
  |((try simp only[AQ]);omega)
  |skip)
def vPu(n:Nat)(s:ZS)(m:Ms)(k:Int):Prop:=(zB s∧uOk m)∧(kOk s.ns (mc m) n k∧wK s.ns k≤pot (mc m))
def cQu(c:Bg Int)(s:ZS)(m:Ms)(e:Int)(y:Int×Ms):Prop:=(c s.L m=some y∧bdd y.1)∧Dt m y.2 e
def vQu(n:Nat)(s:ZS)(m:Ms)(k:Int)(y:Int×Ms):Prop:=cQu ((eu s.ns n).val k) s m (wK s.ns k) y
def bPu(n:Nat)(s:ZS)(m:Ms)(k:Int):Prop:=(zB s∧uOk m)∧(((0≤k∧k<s.ns.length)∧BA s.ns k≤12)∧Cw s.ns (mc m) n k)
def bQu(n:Nat)(s:ZS)(m:Ms)(k:Int)(y:Ms):Prop:=(eu s.ns n).blk k s.L m=some ((),y)∧Dt m y 0
def Dj(n:Nat):Sig:= {X:=ZX Int,args:=fun x=>[usA x.1 (uh x),.int .i64 (zl x)],pre:=fun x=>vPu n x.1 (uh x) (zl x),Y:=Int×UY,post:=fun x y=>vQu n x.1 (uh x) (zl x) (yw y),res:=fun x y=> .int .i64 y.1,outs:=fun x y=>[usA x.1 (yu y.2),.top],keep:=true}
def Ia(n:Nat):Sig:= {X:=ZX Int,args:=fun x=>[usA x.1 (uh x),.int .i64 (zl x)],pre:=fun x=>bPu n x.1 (uh x) (zl x),Y:=UY,post:=fun x y=>bQu n x.1 (uh x) (zl x) (yu y),res:=fun x y=> .tup [],outs:=fun x y=>[usA x.1 (yu y),.top],keep:=true}
structure uAll (G:GInv) (n:Nat):Prop where
 val:Aj G Go.Proofs.Tryz.prog 122 (Dj n)
 blk:Aj G Go.Proofs.Tryz.prog 74 (Ia n)
def cPu(n:Nat)(s:ZS)(m:Ms)(x:Nd):Prop:=(zB s∧uOk m)∧((∀c∈x.kids,kOk s.ns (mc m) n c)∧((x.kids.length≤12∧1≤x.kids.length)∧wS s.ns x.kids≤pot (mc m)))
theorem Tg{n:Nat}{s:ZS}{m0 m:Ms}{x:Nd}{i c:Int}(hp:cPu n s m0 x)(h:lpI s (mc m0) (mc m) x.kids i (wS s.ns x.kids))(hu:uOk m)(hc:x.kids[i.toNat]? =some c):vPu n s m c:=
 ⟨⟨hp.1.1,hu⟩,NW (hp.2.1 c (BO hc)) h.1.2.2,a5k h hc hp.2.2.2⟩
theorem EZ{x:Nd}{i:Nat}{c:Int}(h:x.kids[i]? =some c):BB x i=c:=by simp [BB,List.getD,h]
def cuI(n:Nat)(s:ZS)(m0:Ms)(x:Nd)(a:Int)(m:Ms):Prop:=((lpI s (mc m0) (mc m) x.kids 1 (wS s.ns x.kids)∧uOk m)∧(bdd a∧x.kids.length≤12))∧chU (eu s.ns n).val x s.L m0=chT (eu s.ns n).val x a s.L m
abbrev JU (n:Nat) (s:ZS) (m0:Ms) (x:Nd) (y:Int×Ms):Prop:=cQu (chU (eu s.ns n).val x) s m0 (wS s.ns x.kids) y
theorem b7n{n:Nat}{s:ZS}{m:Ms}{x:Nd}{c:Int}(hp:cPu n s m x)(hc:x.kids[0]? =some c):vPu n s m c:=Tg (i:=0) hp (Xt hp.1.2.1) hp.1.2 hc
theorem KR{n:Nat}{s:ZS}{m:Ms}{x:Nd}{c:Int}{y:Int×Ms}(hp:cPu n s m x)(hc:x.kids[0]? =some c)(hv:vQu n s m c y):cuI n s m x y.1 y.2:=by
 refine⟨⟨⟨Mm (i:=0) (Xt hp.1.2.1) hc hv.2.1,hv.2.2⟩,hv.1.2,hp.2.2.1.1⟩,?_⟩
 rw[chU,Cg,EZ hc,hv.1.1];rfl
def IH(n:Nat)(s:ZS)(m0:Ms)(x:Nd)(i a:Int)(m:Ms):Prop:=
 ((lpI s (mc m0) (mc m) x.kids i (wS s.ns x.kids)∧uOk m)∧(bdd a∧x.kids.length≤12))∧chU (eu s.ns n).val x s.L m0=Ji (eu s.ns n).val x.text (x.kids.drop i.toNat) a s.L m
theorem a5r{n:Nat}{s:ZS}{m0 m:Ms}{x:Nd}{a:Int}(h:cuI n s m0 x a m)(ht:x.text=[38,38]∨x.text=[124,124]):IH n s m0 x 1 a m:=by
 refine⟨h.1,?_⟩
 rw[h.2,chT,if_pos ht];rfl
theorem b7o{n:Nat}{s:ZS}{m0 m:Ms}{x:Nd}{i a:Int}(h:IH n s m0 x i a m):(0≤i∧i≤x.kids.length)∧x.kids.length≤12:=⟨h.1.1.1.1.1,h.1.2.2⟩
theorem b7p{n:Nat}{s:ZS}{m0 m:Ms}{x:Nd}{i a c:Int}(hp:cPu n s m0 x)(h:IH n s m0 x i a m)(hc:x.kids[i.toNat]? =some c):vPu n s m c:=Tg hp h.1.1.1 h.1.1.2 hc
theorem b7q{V:Int→Bg Int}{t:List UInt8}{l:List Int}{a L:Int}{m:Ms}(h:l=[]∨¬m.code=0∨¬(a != 0)=(t==[38,38])):Ji V t l a L m=some (tr (a != 0),m):=by
 cases l with
 |nil=>rfl
 |cons k l=>
  rw[Ji,CC]
  split
  ·rename_i e
   rcases h with h|h|h
   ·cases h
   ·exact absurd e h
   ·rw[if_neg h];rfl
  ·rfl
theorem Xy{n:Nat}{s:ZS}{m0 m:Ms}{x:Nd}{i a:Int}(h:IH n s m0 x i a m)(hx:¬i<(x.kids.length:Int)∨¬m.code=0∨¬(a != 0)=(x.text==[38,38])):JU n s m0 x (tr (a != 0),m):=by
 refine⟨⟨?_,a5l⟩,Ql h.1.1.1,h.1.1.2⟩
 rw[h.2,b7q]
 rcases hx with hx|hx
 ·exact .inl (List.drop_eq_nil_of_le (by have:=h.1.1.1.1.1;omega))
 ·exact .inr hx
theorem b7r{n:Nat}{s:ZS}{m0 m:Ms}{x:Nd}{i a c:Int}{y:Int×Ms}(h:IH n s m0 x i a m)(hq:m.code=0)(he:(a != 0)=(x.text==[38,38]))(hc:x.kids[i.toNat]? =some c)(hv:vQu n s m c y):IH n s m0 x (i+1) y.1 y.2:=by
 refine⟨⟨⟨Mm h.1.1.1 hc hv.2.1,hv.2.2⟩,hv.1.2,h.1.2.2⟩,?_⟩
 rw[h.2,GG h.1.1.1.1.1.1 hc,Ji,CC,if_pos hq,if_pos he,Cg,hv.1.1];rfl
def Mq(x:Nd):Prop:=¬(x.text=[38,38]∨x.text=[124,124])∧(x.text=[61,61]∨x.text=[60])
theorem b7s{n:Nat}{s:ZS}{m0 m:Ms}{x:Nd}{a:Int}(h:cuI n s m0 x a m)(ht:Mq x)(hl:¬(x.kids.length:Int)=2):JU n s m0 x (0,AW m):=by
 have g:=Mo h.1.1.2
 refine⟨⟨?_,Hq⟩,EI (GH ⟨Ql h.1.1.1,h.1.1.2⟩ g) (by omega)⟩
 rw[h.2,chT,if_neg ht.1,if_pos ht.2,if_pos (by omega)];rfl
theorem b7t{n:Nat}{s:ZS}{m0 m:Ms}{x:Nd}{a c:Int}(hp:cPu n s m0 x)(h:cuI n s m0 x a m)(hc:x.kids[1]? =some c):vPu n s m c:=Tg (i:=1) hp h.1.1.1 h.1.1.2 hc
theorem Xz{n:Nat}{s:ZS}{m0 m:Ms}{x:Nd}{a c:Int}{y:Int×Ms}(h:cuI n s m0 x a m)(ht:Mq x)(hl:(x.kids.length:Int)=2)(hc:x.kids[1]? =some c)(hv:vQu n s m c y){v:Int}(e:v=if x.text=[61,61] then tr (a==y.1) else tr (decide (a<y.1))):JU n s m0 x (v,y.2):=by
 subst e
 refine⟨⟨?_,by split<;>exact a5l⟩,b7f (i:=1) h.1.1.1 hc hv.2.1,hv.2.2⟩
 rw[h.2,chT,if_neg ht.1,if_pos ht.2,if_neg (by omega),Cg,EZ hc,hv.1.1];rfl
theorem b7u{n:Nat}{s:ZS}{m0 m:Ms}{x:Nd}{a c:Int}{y:Int×Ms}(h:cuI n s m0 x a m)(ht:Mq x)(hl:(x.kids.length:Int)=2)(hc:x.kids[1]? =some c)(hv:vQu n s m c y)(h1:x.text=[61,61])(h2:a=y.1):JU n s m0 x (tr true,y.2):=Xz (v:=tr true) h ht hl hc hv (by rw[if_pos h1,h2];simp)
theorem b7v{n:Nat}{s:ZS}{m0 m:Ms}{x:Nd}{a c:Int}{y:Int×Ms}(h:cuI n s m0 x a m)(ht:Mq x)(hl:(x.kids.length:Int)=2)(hc:x.kids[1]? =some c)(hv:vQu n s m c y)(h1:x.text=[61,61])(h2:a≠y.1):JU n s m0 x (tr false,y.2):=Xz (v:=tr false) h ht hl hc hv (by rw[if_pos h1,beq_eq_false_iff_ne.2 h2])
theorem b7w{n:Nat}{s:ZS}{m0 m:Ms}{x:Nd}{a c:Int}{y:Int×Ms}(h:cuI n s m0 x a m)(ht:Mq x)(hl:(x.kids.length:Int)=2)(hc:x.kids[1]? =some c)(hv:vQu n s m c y)(h1:x.text=[60]):JU n s m0 x (tr (decide (a<y.1)),y.2):=Xz h ht hl hc hv (by rw[if_neg (by rw[h1];decide)])
theorem XA{α β γ δ ε ζ η θ ι κ μ:Type}{p q:α×β×γ×δ×ε×ζ×η×θ×ι×κ×μ→Prop}(a:α)(b:β)(c:γ)(d:δ)(e:ε)(f:ζ)(g:η)(h:θ)(i:ι)(j:κ)(k:μ)(h2:q (a,b,c,d,e,f,g,h,i,j,k))(h1:p (a,b,c,d,e,f,g,h,i,j,k)):∃x,p x∧q x:=⟨_,h1,h2⟩
theorem b7x{x:Nd}(h1:x.text=[61,61])(h2:x.text=[60]):False:=by rw[h1] at h2;cases h2
theorem b7y{x:Nd}(h1:¬x.text=[38,38])(h2:¬x.text=[124,124])(h:x.text=[61,61]):Mq x:=⟨fun h=>h.elim h1 h2,.inl h⟩
theorem b7z{x:Nd}(h1:¬x.text=[38,38])(h2:¬x.text=[124,124])(h:x.text=[60]):Mq x:=⟨fun h=>h.elim h1 h2,.inr h⟩
def Hr(n:Nat)(s:ZS)(m0:Ms)(x:Nd)(i a:Int)(m:Ms):Prop:=
 ((lpI s (mc m0) (mc m) x.kids i (wS s.ns x.kids)∧uOk m)∧(bdd a∧x.kids.length≤12))∧chU (eu s.ns n).val x s.L m0=Iy (eu s.ns n).val x.text (x.kids.drop i.toNat) a s.L m
theorem b7A{n:Nat}{s:ZS}{m0 m:Ms}{x:Nd}{a:Int}(h:cuI n s m0 x a m)(h1:¬x.text=[38,38])(h2:¬x.text=[124,124])(h3:¬x.text=[61,61])(h4:¬x.text=[60]):Hr n s m0 x 1 a m:=by
 refine⟨h.1,?_⟩
 rw[h.2,chT,if_neg (fun h=>h.elim h1 h2),if_neg (fun h=>h.elim h3 h4)];rfl
theorem b7B{n:Nat}{s:ZS}{m0 m:Ms}{x:Nd}{i a:Int}(h:Hr n s m0 x i a m):((0≤i∧i≤x.kids.length)∧x.kids.length≤12)∧bdd a:=⟨⟨h.1.1.1.1.1,h.1.2.2⟩,h.1.2.1⟩
theorem b7C{n:Nat}{s:ZS}{m0 m:Ms}{x:Nd}{i a c:Int}(hp:cPu n s m0 x)(h:Hr n s m0 x i a m)(hc:x.kids[i.toNat]? =some c):vPu n s m c:=Tg hp h.1.1.1 h.1.1.2 hc
theorem a5s{V:Int→Bg Int}{t:List UInt8}{l:List Int}{a L:Int}{m:Ms}(h:l=[]∨¬m.code=0):Iy V t l a L m=some (a,m):=by
 cases l with
 |nil=>rfl
 |cons k l=>
  rw[Iy,CC]
  rcases h with h|h
  ·cases h
  ·rw[if_neg h]
theorem a5t{n:Nat}{s:ZS}{m0 m:Ms}{x:Nd}{i a:Int}(h:Hr n s m0 x i a m)(hx:¬i<(x.kids.length:Int)∨¬m.code=0):JU n s m0 x (a,m):=by
 refine⟨⟨?_,h.1.2.1⟩,Ql h.1.1.1,h.1.1.2⟩
 rw[h.2,a5s]
 rcases hx with hx|hx
 ·exact .inl (List.drop_eq_nil_of_le (by have:=h.1.1.1.1.1;omega))
 ·exact .inr hx
theorem a5u{n:Nat}{s:ZS}{m0 m:Ms}{x:Nd}{i a c:Int}{y:Int×Ms}(h:Hr n s m0 x i a m)(hq:m.code=0)(hc:x.kids[i.toNat]? =some c)(hv:vQu n s m c y):
 chU (eu s.ns n).val x s.L m0=Fk a (Cg (PV (Eh x.text a y.1)) (Iy (eu s.ns n).val x.text (x.kids.drop (i+1).toNat))) s.L y.2:=by
 rw[h.2,GG h.1.1.1.1.1.1 hc,Iy,CC,if_pos hq,Cg,hv.1.1];rfl
theorem b7D{n:Nat}{s:ZS}{m0 m:Ms}{x:Nd}{i a c:Int}{y:Int×Ms}(h:Hr n s m0 x i a m)(hq:m.code=0)(hc:x.kids[i.toNat]? =some c)(hv:vQu n s m c y)(hy:¬y.2.code=0):Hr n s m0 x (i+1) a y.2:=by
 refine⟨⟨⟨Mm h.1.1.1 hc hv.2.1,hv.2.2⟩,h.1.2⟩,?_⟩
 rw[a5u h hq hc hv,CC,if_neg hy,a5s (.inr hy)]
theorem b7E{r:Int}:bdd (HX r):=by unfold HX;split;rename_i h;exact KB.1 h;exact Hq
theorem b7F{m:Ms}{r:Int}(h:uOk m):Dt m (uKm r m) 0:=by unfold uKm;split;exact Mn h;exact Mo h
theorem b7G{n:Nat}{s:ZS}{m0 m:Ms}{x:Nd}{i a c:Int}{y:Int×Ms}(h:Hr n s m0 x i a m)(hq:m.code=0)(hc:x.kids[i.toNat]? =some c)(hv:vQu n s m c y)(hy:y.2.code=0):Hr n s m0 x (i+1) (HX (Eh x.text a y.1)) (uKm (Eh x.text a y.1) y.2):=by
 have g:=GH hv.2 (b7F (r:=Eh x.text a y.1) hv.2.2)
 rw[show wK s.ns c+0=wK s.ns c by omega] at g
 refine⟨⟨⟨Mm h.1.1.1 hc g.1,g.2⟩,b7E,h.1.2.2⟩,?_⟩
 rw[a5u h hq hc hv,CC,if_pos hy,Cg,b7k];rfl
theorem b7H{n:Nat}{s:ZS}{m:Ms}{c:Int}{y:Int×Ms}(h:vQu n s m c y):bdd y.1:=h.1.2
attribute [local irreducible] vPu vQu cQu IH Hr cuI chU chT Ji Iy
def Ep(n:Nat):Sig:= {X:=ZX Nd,args:=fun x=>[usA x.1 (uh x),.agg (ndA false (zl x))],pre:=fun x=>cPu n x.1 (uh x) (zl x),Y:=Int×UY,post:=fun x y=>JU n x.1 (uh x) (zl x) (yw y),res:=fun x y=> .int .i64 y.1,outs:=fun x y=>[usA x.1 (yu y.2),.top],keep:=true}
def Qn(n:Nat)(x:ZX Nd):LS:= {ι:=Int×Int×UY,inv:=fun i=>IH n x.1 (uh x) (zl x) i.1 i.2.1 (yu i.2.2),regs:=fun i=>[(0,usA x.1 (yu i.2.2)),(3,.box 0 (ndA false (zl x))),(5,.int .i64 i.2.1),(6,.int .i64 i.1)],als:=[],meas:=fun i=>(zl x).kids.length-i.1.toNat}
def Qo(n:Nat)(x:ZX Nd):LS:= {ι:=Int×Int×UY,inv:=fun i=>Hr n x.1 (uh x) (zl x) i.1 i.2.1 (yu i.2.2),regs:=fun i=>[(0,usA x.1 (yu i.2.2)),(3,.box 0 (ndA false (zl x))),(5,.int .i64 i.2.1),(8,.int .i64 i.1)],als:=[],meas:=fun i=>(zl x).kids.length-i.1.toNat}
def Qp(n:Nat)(x:ZX Nd)(i:Int×Int×UY):Prop:=cA Fq [.bool (i.2.1 != (0:Int))] fun x_2 y=>rA (Ep n) x [.int .i64 (tr x_2),.box 0 [nds x.1.ns,AV.sl false 0 2 (List UInt8×Int) Ah (yu i.2.2).cells,Ab (yu i.2.2).out,.int .i64 (yu i.2.2).code,.int .i64 (yu i.2.2).steps,.int .i64 x.1.L,.int .i64 (yu i.2.2).deep,.bool (yu i.2.2).done,.int .i64 (yu i.2.2).ret],.top]
def XB(n:Nat)(x:ZX Nd)(i:Int×Int×UY):Prop:=Aa ((yu i.2.2).code==(0:Int)) (Aa ((i.2.1 != (0:Int))==((zl x).text== #[(38:UInt8),(38:UInt8)].toList)) (((0:Int)≤i.1∧i.1<(↑(List.length (zl x).kids):Int))∧∀(e:Int),(zl x).kids[Int.toNat i.1]? =some e→cA (Dj n) [.box 0 [nds x.1.ns,AV.sl false 0 2 (List UInt8×Int) Ah (yu i.2.2).cells,Ab (yu i.2.2).out,.int .i64 (yu i.2.2).code,.int .i64 (yu i.2.2).steps,.int .i64 x.1.L,.int .i64 (yu i.2.2).deep,.bool (yu i.2.2).done,.int .i64 (yu i.2.2).ret],.int .i64 e] fun x_2 y=>inR IntKind.i64 (i.1+(1:Int))∧eN (Qn n x) i [.box 0 [nds x_2.1.ns,AV.sl false 0 2 (List UInt8×Int) Ah (yu y.2).cells,Ab (yu y.2).out,.int .i64 (yu y.2).code,.int .i64 (yu y.2).steps,.int .i64 x_2.1.L,.int .i64 (yu y.2).deep,.bool (yu y.2).done,.int .i64 (yu y.2).ret],.box 0 [.int .i64 (zl x).kind,.str (zl x).text,Af (zl x).kids,.bool (zl x).blank],.int .i64 y.1,.int .i64 (i.1+(1:Int))]) (Qp n x i)) (Qp n x i)
theorem b7I(n:Nat)(h:uAll G n):Aj G Tryz.prog 150 (Ep n):=
 vcFun_okP [(122,0,(Dj n)),(185,0,Fq),(43,0,Di),(186,0,KQ)] [] false (fun x=>[(6,Qn n x),(17,Qo n x)]) Tryz.func150 rfl (by decide) ⟨h.val,b7m,Mp,b7l,trivial⟩ (fun(x:ZX Nd)=>True∧((0:Int)≤(0:Int)∧(0:Int)<(↑(List.length (zl x).kids):Int))∧∀(e:Int),(zl x).kids[(0:Nat)]? =some e→cA (Dj n) [.box 0 [nds x.1.ns,AV.sl false 0 2 (List UInt8×Int) Ah (uh x).cells,Ab (uh x).out,.int .i64 (uh x).code,.int .i64 (uh x).steps,.int .i64 x.1.L,.int .i64 (uh x).deep,.bool (uh x).done,.int .i64 (uh x).ret],.int .i64 e] fun x_1 y=>Aa ((zl x).text== #[(38:UInt8),(38:UInt8)].toList) (eA (Qn n x) [.box 0 [nds x_1.1.ns,AV.sl false 0 2 (List UInt8×Int) Ah (yu y.2).cells,Ab (yu y.2).out,.int .i64 (yu y.2).code,.int .i64 (yu y.2).steps,.int .i64 x_1.1.L,.int .i64 (yu y.2).deep,.bool (yu y.2).done,.int .i64 (yu y.2).ret],.box 0 [.int .i64 (zl x).kind,.str (zl x).text,Af (zl x).kids,.bool (zl x).blank],.int .i64 y.1,.int .i64 (1:Int)]∧∀(i:Int×Int×UY),IH n x.1 (uh x) (zl x) i.1 i.2.1 (yu i.2.2)→Aa (decide (i.1<(↑(List.length (zl x).kids):Int))) (XB n x i) (Qp n x i)) (Aa ((zl x).text== #[(124:UInt8),(124:UInt8)].toList) (eA (Qn n x) [.box 0 [nds x_1.1.ns,AV.sl false 0 2 (List UInt8×Int) Ah (yu y.2).cells,Ab (yu y.2).out,.int .i64 (yu y.2).code,.int .i64 (yu y.2).steps,.int .i64 x_1.1.L,.int .i64 (yu y.2).deep,.bool (yu y.2).done,.int .i64 (yu y.2).ret],.box 0 [.int .i64 (zl x).kind,.str (zl x).text,Af (zl x).kids,.bool (zl x).blank],.int .i64 y.1,.int .i64 (1:Int)]∧∀(i:Int×Int×UY),IH n x.1 (uh x) (zl x) i.1 i.2.1 (yu i.2.2)→Aa (decide (i.1<(↑(List.length (zl x).kids):Int))) (XB n x i) (Qp n x i)) (Aa ((zl x).text== #[(61:UInt8),(61:UInt8)].toList) (Aa ((↑(List.length (zl x).kids):Int) != (2:Int)) (cA Di [.box 0 [nds x_1.1.ns,AV.sl false 0 2 (List UInt8×Int) Ah (yu y.2).cells,Ab (yu y.2).out,.int .i64 (yu y.2).code,.int .i64 (yu y.2).steps,.int .i64 x_1.1.L,.int .i64 (yu y.2).deep,.bool (yu y.2).done,.int .i64 (yu y.2).ret]] fun x_2 y=>rA (Ep n) x [.int .i64 (0:Int),.box 0 [nds x_2.1.ns,AV.sl false 0 2 (List UInt8×Int) Ah (AW (uh x_2)).cells,Ab (AW (uh x_2)).out,.int .i64 (AW (uh x_2)).code,.int .i64 (AW (uh x_2)).steps,.int .i64 x_2.1.L,.int .i64 (AW (uh x_2)).deep,.bool (AW (uh x_2)).done,.int .i64 (AW (uh x_2)).ret],.top]) (((0:Int)≤(1:Int)∧(1:Int)<(↑(List.length (zl x).kids):Int))∧∀(e:Int),(zl x).kids[(1:Nat)]? =some e→cA (Dj n) [.box 0 [nds x_1.1.ns,AV.sl false 0 2 (List UInt8×Int) Ah (yu y.2).cells,Ab (yu y.2).out,.int .i64 (yu y.2).code,.int .i64 (yu y.2).steps,.int .i64 x_1.1.L,.int .i64 (yu y.2).deep,.bool (yu y.2).done,.int .i64 (yu y.2).ret],.int .i64 e] fun x_2 y_1=>Aa ((zl x).text== #[(61:UInt8),(61:UInt8)].toList) (Aa (y.1==y_1.1) (cA Fq [.bool true] fun x_3 y=>rA (Ep n) x [.int .i64 (tr x_3),.box 0 [nds x_2.1.ns,AV.sl false 0 2 (List UInt8×Int) Ah (yu y_1.2).cells,Ab (yu y_1.2).out,.int .i64 (yu y_1.2).code,.int .i64 (yu y_1.2).steps,.int .i64 x_2.1.L,.int .i64 (yu y_1.2).deep,.bool (yu y_1.2).done,.int .i64 (yu y_1.2).ret],.top]) (Aa ((zl x).text== #[(60:UInt8)].toList) (cA Fq [.bool (decide (y.1<y_1.1))] fun x_3 y=>rA (Ep n) x [.int .i64 (tr x_3),.box 0 [nds x_2.1.ns,AV.sl false 0 2 (List UInt8×Int) Ah (yu y_1.2).cells,Ab (yu y_1.2).out,.int .i64 (yu y_1.2).code,.int .i64 (yu y_1.2).steps,.int .i64 x_2.1.L,.int .i64 (yu y_1.2).deep,.bool (yu y_1.2).done,.int .i64 (yu y_1.2).ret],.top]) (cA Fq [.bool false] fun x_3 y=>rA (Ep n) x [.int .i64 (tr x_3),.box 0 [nds x_2.1.ns,AV.sl false 0 2 (List UInt8×Int) Ah (yu y_1.2).cells,Ab (yu y_1.2).out,.int .i64 (yu y_1.2).code,.int .i64 (yu y_1.2).steps,.int .i64 x_2.1.L,.int .i64 (yu y_1.2).deep,.bool (yu y_1.2).done,.int .i64 (yu y_1.2).ret],.top]))) (Aa ((zl x).text== #[(60:UInt8)].toList) (cA Fq [.bool (decide (y.1<y_1.1))] fun x_3 y=>rA (Ep n) x [.int .i64 (tr x_3),.box 0 [nds x_2.1.ns,AV.sl false 0 2 (List UInt8×Int) Ah (yu y_1.2).cells,Ab (yu y_1.2).out,.int .i64 (yu y_1.2).code,.int .i64 (yu y_1.2).steps,.int .i64 x_2.1.L,.int .i64 (yu y_1.2).deep,.bool (yu y_1.2).done,.int .i64 (yu y_1.2).ret],.top]) (cA Fq [.bool false] fun x_3 y=>rA (Ep n) x [.int .i64 (tr x_3),.box 0 [nds x_2.1.ns,AV.sl false 0 2 (List UInt8×Int) Ah (yu y_1.2).cells,Ab (yu y_1.2).out,.int .i64 (yu y_1.2).code,.int .i64 (yu y_1.2).steps,.int .i64 x_2.1.L,.int .i64 (yu y_1.2).deep,.bool (yu y_1.2).done,.int .i64 (yu y_1.2).ret],.top])))) (Aa ((zl x).text== #[(60:UInt8)].toList) (Aa ((↑(List.length (zl x).kids):Int) != (2:Int)) (cA Di [.box 0 [nds x_1.1.ns,AV.sl false 0 2 (List UInt8×Int) Ah (yu y.2).cells,Ab (yu y.2).out,.int .i64 (yu y.2).code,.int .i64 (yu y.2).steps,.int .i64 x_1.1.L,.int .i64 (yu y.2).deep,.bool (yu y.2).done,.int .i64 (yu y.2).ret]] fun x_2 y=>rA (Ep n) x [.int .i64 (0:Int),.box 0 [nds x_2.1.ns,AV.sl false 0 2 (List UInt8×Int) Ah (AW (uh x_2)).cells,Ab (AW (uh x_2)).out,.int .i64 (AW (uh x_2)).code,.int .i64 (AW (uh x_2)).steps,.int .i64 x_2.1.L,.int .i64 (AW (uh x_2)).deep,.bool (AW (uh x_2)).done,.int .i64 (AW (uh x_2)).ret],.top]) (((0:Int)≤(1:Int)∧(1:Int)<(↑(List.length (zl x).kids):Int))∧∀(e:Int),(zl x).kids[(1:Nat)]? =some e→cA (Dj n) [.box 0 [nds x_1.1.ns,AV.sl false 0 2 (List UInt8×Int) Ah (yu y.2).cells,Ab (yu y.2).out,.int .i64 (yu y.2).code,.int .i64 (yu y.2).steps,.int .i64 x_1.1.L,.int .i64 (yu y.2).deep,.bool (yu y.2).done,.int .i64 (yu y.2).ret],.int .i64 e] fun x_2 y_1=>Aa ((zl x).text== #[(61:UInt8),(61:UInt8)].toList) (Aa (y.1==y_1.1) (cA Fq [.bool true] fun x_3 y=>rA (Ep n) x [.int .i64 (tr x_3),.box 0 [nds x_2.1.ns,AV.sl false 0 2 (List UInt8×Int) Ah (yu y_1.2).cells,Ab (yu y_1.2).out,.int .i64 (yu y_1.2).code,.int .i64 (yu y_1.2).steps,.int .i64 x_2.1.L,.int .i64 (yu y_1.2).deep,.bool (yu y_1.2).done,.int .i64 (yu y_1.2).ret],.top]) (Aa ((zl x).text== #[(60:UInt8)].toList) (cA Fq [.bool (decide (y.1<y_1.1))] fun x_3 y=>rA (Ep n) x [.int .i64 (tr x_3),.box 0 [nds x_2.1.ns,AV.sl false 0 2 (List UInt8×Int) Ah (yu y_1.2).cells,Ab (yu y_1.2).out,.int .i64 (yu y_1.2).code,.int .i64 (yu y_1.2).steps,.int .i64 x_2.1.L,.int .i64 (yu y_1.2).deep,.bool (yu y_1.2).done,.int .i64 (yu y_1.2).ret],.top]) (cA Fq [.bool false] fun x_3 y=>rA (Ep n) x [.int .i64 (tr x_3),.box 0 [nds x_2.1.ns,AV.sl false 0 2 (List UInt8×Int) Ah (yu y_1.2).cells,Ab (yu y_1.2).out,.int .i64 (yu y_1.2).code,.int .i64 (yu y_1.2).steps,.int .i64 x_2.1.L,.int .i64 (yu y_1.2).deep,.bool (yu y_1.2).done,.int .i64 (yu y_1.2).ret],.top]))) (Aa ((zl x).text== #[(60:UInt8)].toList) (cA Fq [.bool (decide (y.1<y_1.1))] fun x_3 y=>rA (Ep n) x [.int .i64 (tr x_3),.box 0 [nds x_2.1.ns,AV.sl false 0 2 (List UInt8×Int) Ah (yu y_1.2).cells,Ab (yu y_1.2).out,.int .i64 (yu y_1.2).code,.int .i64 (yu y_1.2).steps,.int .i64 x_2.1.L,.int .i64 (yu y_1.2).deep,.bool (yu y_1.2).done,.int .i64 (yu y_1.2).ret],.top]) (cA Fq [.bool false] fun x_3 y=>rA (Ep n) x [.int .i64 (tr x_3),.box 0 [nds x_2.1.ns,AV.sl false 0 2 (List UInt8×Int) Ah (yu y_1.2).cells,Ab (yu y_1.2).out,.int .i64 (yu y_1.2).code,.int .i64 (yu y_1.2).steps,.int .i64 x_2.1.L,.int .i64 (yu y_1.2).deep,.bool (yu y_1.2).done,.int .i64 (yu y_1.2).ret],.top])))) (eA (Qo n x) [.box 0 [nds x_1.1.ns,AV.sl false 0 2 (List UInt8×Int) Ah (yu y.2).cells,Ab (yu y.2).out,.int .i64 (yu y.2).code,.int .i64 (yu y.2).steps,.int .i64 x_1.1.L,.int .i64 (yu y.2).deep,.bool (yu y.2).done,.int .i64 (yu y.2).ret],.box 0 [.int .i64 (zl x).kind,.str (zl x).text,Af (zl x).kids,.bool (zl x).blank],.int .i64 y.1,.int .i64 (1:Int)]∧∀(i:Int×Int×UY),Hr n x.1 (uh x) (zl x) i.1 i.2.1 (yu i.2.2)→Aa (decide (i.1<(↑(List.length (zl x).kids):Int))) (Aa ((yu i.2.2).code==(0:Int)) (((0:Int)≤i.1∧i.1<(↑(List.length (zl x).kids):Int))∧∀(e:Int),(zl x).kids[Int.toNat i.1]? =some e→cA (Dj n) [.box 0 [nds x.1.ns,AV.sl false 0 2 (List UInt8×Int) Ah (yu i.2.2).cells,Ab (yu i.2.2).out,.int .i64 (yu i.2.2).code,.int .i64 (yu i.2.2).steps,.int .i64 x.1.L,.int .i64 (yu i.2.2).deep,.bool (yu i.2.2).done,.int .i64 (yu i.2.2).ret],.int .i64 e] fun x_2 y=>Aa ((yu y.2).code==(0:Int)) (cA KQ [.box 0 [nds x_2.1.ns,AV.sl false 0 2 (List UInt8×Int) Ah (yu y.2).cells,Ab (yu y.2).out,.int .i64 (yu y.2).code,.int .i64 (yu y.2).steps,.int .i64 x_2.1.L,.int .i64 (yu y.2).deep,.bool (yu y.2).done,.int .i64 (yu y.2).ret],.str (zl x).text,.int .i64 i.2.1,.int .i64 y.1] fun x_3 y=>inR IntKind.i64 (i.1+(1:Int))∧eN (Qo n x) i [.box 0 [nds x_3.1.ns,AV.sl false 0 2 (List UInt8×Int) Ah (uKm (Eh (zl x_3).1 (zl x_3).2.1 (zl x_3).2.2) (uh x_3)).cells,Ab (uKm (Eh (zl x_3).1 (zl x_3).2.1 (zl x_3).2.2) (uh x_3)).out,.int .i64 (uKm (Eh (zl x_3).1 (zl x_3).2.1 (zl x_3).2.2) (uh x_3)).code,.int .i64 (uKm (Eh (zl x_3).1 (zl x_3).2.1 (zl x_3).2.2) (uh x_3)).steps,.int .i64 x_3.1.L,.int .i64 (uKm (Eh (zl x_3).1 (zl x_3).2.1 (zl x_3).2.2) (uh x_3)).deep,.bool (uKm (Eh (zl x_3).1 (zl x_3).2.1 (zl x_3).2.2) (uh x_3)).done,.int .i64 (uKm (Eh (zl x_3).1 (zl x_3).2.1 (zl x_3).2.2) (uh x_3)).ret],.box 0 [.int .i64 (zl x).kind,.str (zl x).text,Af (zl x).kids,.bool (zl x).blank],.int .i64 (HX (Eh (zl x_3).1 (zl x_3).2.1 (zl x_3).2.2)),.int .i64 (i.1+(1:Int))]) (inR IntKind.i64 (i.1+(1:Int))∧eN (Qo n x) i [.box 0 [nds x_2.1.ns,AV.sl false 0 2 (List UInt8×Int) Ah (yu y.2).cells,Ab (yu y.2).out,.int .i64 (yu y.2).code,.int .i64 (yu y.2).steps,.int .i64 x_2.1.L,.int .i64 (yu y.2).deep,.bool (yu y.2).done,.int .i64 (yu y.2).ret],.box 0 [.int .i64 (zl x).kind,.str (zl x).text,Af (zl x).kids,.bool (zl x).blank],.int .i64 i.2.1,.int .i64 (i.1+(1:Int))])) (rA (Ep n) x [.int .i64 i.2.1,.box 0 [nds x.1.ns,AV.sl false 0 2 (List UInt8×Int) Ah (yu i.2.2).cells,Ab (yu i.2.2).out,.int .i64 (yu i.2.2).code,.int .i64 (yu i.2.2).steps,.int .i64 x.1.L,.int .i64 (yu i.2.2).deep,.bool (yu i.2.2).done,.int .i64 (yu i.2.2).ret],.top])) (rA (Ep n) x [.int .i64 i.2.1,.box 0 [nds x.1.ns,AV.sl false 0 2 (List UInt8×Int) Ah (yu i.2.2).cells,Ab (yu i.2.2).out,.int .i64 (yu i.2.2).code,.int .i64 (yu i.2.2).steps,.int .i64 x.1.L,.int .i64 (yu i.2.2).deep,.bool (yu i.2.2).done,.int .i64 (yu i.2.2).ret],.top])))))) (fun x=>by kernel_rfl) fun(x:ZX Nd) (hx:cPu n x.1 (uh x) (zl x))=>(by
 dsimp only[XB,Qp,cA,Ah,cls,eA,eN,Qo,Qn,Af,Bu,nds,Ab,rA,Fq,Ep,Di,KQ,Dj,usA,Au,Az,mvL,lnL,mvE,lnE,Br]
 obtain⟨s,o,c,t,d,cs,en,re,z⟩:=x;dsimp only[uh,zl] at hx ⊢
 have hx:cPu n s ⟨o,c,t,d,cs,en,re⟩ z:=hx
 have hl:=hx.2.2.1
 (repeat' first|(apply XA<;>try dsimp only)|(with_reducible first|rfl|exact True.intro|apply AK|apply And.intro|((first|apply AA|apply AI|apply AB|apply AJ)<;>intro _))|(apply Ax<;>intro _)|apply AH|refine Ae () ?_ ?_|((first|apply AO|apply AN|apply AM|apply AL|apply AG|apply AF|apply AE|apply AD|apply AC)<;>try dsimp only)|apply Ae|(refine Prod.forall.2 ?_;intro _;try dsimp only)|(intro _;try dsimp only))
 all_goals(try simp only[KP] at*)
 all_goals(try(have hB:=b7o (show IH _ _ _ _ _ _ _ by assumption)))
 all_goals(try(have hB:=b7B (show Hr _ _ _ _ _ _ _ by assumption)))
 all_goals(try(have hT:=b7y ‹_› ‹_› (show z.text=[61,61] by assumption)))
 all_goals(try(have hT:=b7z ‹_› ‹_› (show z.text=[60] by assumption)))
 all_goals first
  |rfl
  |exact hx
  |exact()
  |exact b7n hx ‹_›
  |exact a5r (KR hx ‹_› ‹_›) (.inl ‹_›)
  |exact a5r (KR hx ‹_› ‹_›) (.inr ‹_›)
  |exact b7p hx ‹_› ‹_›
  |exact Xy ‹_› (.inl ‹_›)
  |exact Xy ‹_› (.inr (.inl ‹_›))
  |exact Xy ‹_› (.inr (.inr ‹_›))
  |exact b7r ‹_› ‹_› ‹_› ‹_› ‹_›
  |exact b7s (KR hx ‹_› ‹_›) hT ‹_›
  |exact b7t hx (KR hx (show z.kids[0]? =some _ by assumption) ‹_›) ‹_›
  |exact(b7x ‹_› ‹_›).elim
  |exact absurd (show z.text=[61,61] by assumption) ‹_›
  |exact absurd (show z.text=[60] by assumption) ‹_›
  |exact b7u (KR hx (show z.kids[0]? =some _ by assumption) ‹_›) hT ‹_› (show z.kids[1]? =some _ by assumption) ‹_› ‹_› ‹_›
  |exact b7v (KR hx (show z.kids[0]? =some _ by assumption) ‹_›) hT ‹_› (show z.kids[1]? =some _ by assumption) ‹_› ‹_› ‹_›
  |exact b7w (KR hx (show z.kids[0]? =some _ by assumption) ‹_›) hT ‹_› (show z.kids[1]? =some _ by assumption) ‹_› ‹_›
  |exact b7A (KR hx ‹_› ‹_›) ‹_› ‹_› ‹_› ‹_›
  |exact b7C hx ‹_› ‹_›
  |exact a5t ‹_› (.inl ‹_›)
  |exact a5t ‹_› (.inr ‹_›)
  |exact b7D ‹_› ‹_› ‹_› ‹_› ‹_›
  |exact b7G ‹_› ‹_› ‹_› ‹_› ‹_›
  |exact hB.2
  |exact b7H ‹_›
  |((try simp only[AQ]);omega)
  |skip)
end Go.My
end
section
namespace Go.My
open Go.Eng Go.Proofs
variable {G:GInv}
def naU(s:ZS)(x:Nd)(az:List Int)(i:Int)(cs:Cls):Prop:=
 (((0≤i∧i≤az.length)∧az.length≤12)∧(x.kids.length:Int)=az.length+1)∧(((∀p∈cs,bdd p.2)∧(cs.length:Int)≤i)∧Hi s.ns (x.kids.take az.length) az []=Hi s.ns ((x.kids.take az.length).drop i.toNat) (az.drop i.toNat) cs)
def kU(s:ZS)(k:Int):Prop:=(((0≤k∧k<s.ns.length)∧BA s.ns k≤13)∧(ndAt s.ns k).kind=20)
def mPu(n:Nat)(s:ZS)(m:Ms)(k:Int)(az:List Int):Prop:=((zB s∧uOk m)∧((∀a∈az,bdd a)∧az.length≤12))∧(kU s k∧(21-m.deep)*((s.ns.length:Int)+1)+s.ns.length<n)
abbrev mQu (n:Nat) (s:ZS) (m:Ms) (k:Int) (az:List Int) (y:Int×Ms):Prop:=cQu (meU s.ns (eu s.ns n).blk k az) s m 0 y
theorem a5v{s:ZS}{t:List UInt8}(hz:zB s)(h:¬Bb s.ns t (Bc s.ns).kids<0):kU s (Bb s.ns t (Bc s.ns).kids):=by
 rcases @Sx s.ns t (Bc s.ns).kids with e|e
 ·omega
 ·exact⟨a3l hz.1 e.1,e.2⟩
theorem b7J{s:ZS}{k:Int}(hz:zB s)(h:kU s k):1≤(ndAt s.ns k).kids.length∧(ndAt s.ns k).kids.length≤12:=by
 obtain⟨⟨h1,h2⟩,h3⟩:=h
 have p:=DM (PU hz.1 h1)
 refine⟨?_,p.2.1⟩
 have hk:=p.2.2.2.2.2.1
 rw[h3] at hk
 match hm:(ndAt s.ns k).kids with
 |[]=>rw[hm] at hk;simp [Cd,EP] at hk
 |a::l=>simp
theorem b7K{n:Nat}{s:ZS}{m:Ms}{k:Int}{az:List Int}(hp:mPu n s m k az)(h:¬((ndAt s.ns k).kids.length:Int)-1=az.length):mQu n s m k az (0,AW m):=by
 refine⟨⟨?_,Hq⟩,Mo hp.1.1.2⟩
 rw[meU,if_pos (by omega)];rfl
theorem b7L{n:Nat}{s:ZS}{m:Ms}{k:Int}{az:List Int}(hp:mPu n s m k az)(h:((ndAt s.ns k).kids.length:Int)-1=az.length):naU s (ndAt s.ns k) az 0 []:=⟨⟨⟨by omega,hp.1.2.2⟩,by omega⟩,⟨by simp,by simp⟩,rfl⟩
theorem a5w{s:ZS}{x:Nd}{az:List Int}{i:Int}{cs:Cls}(h:naU s x az i cs):(((0≤i∧i≤az.length)∧az.length≤12)∧(cs.length:Int)≤i)∧(x.kids.length:Int)=az.length+1:=⟨⟨h.1.1,h.2.1.2⟩,h.1.2⟩
theorem XC{t:List UInt8}{n:Int}:∀ {l:Cls},(CA l t n).length≤l.length+1
 |[]=>by simp [CA]
 |p::l=>by
  rw[CA];split
  ·simp
  ·have:= @XC t n l;simp;omega
theorem XD{t:List UInt8}{n:Int}(hn:bdd n):∀ {l:Cls},(∀p∈l,bdd p.2)→∀p∈CA l t n,bdd p.2
 |[],_,p,h=>by simp [CA] at h;subst h;exact hn
 |q::l,hl,p,h=>by
  rw[CA] at h;split at h
  ·rcases List.mem_cons.1 h with rfl|h
   ·exact hn
   ·exact hl p (by simp [h])
  ·rcases List.mem_cons.1 h with rfl|h
   ·exact hl p (by simp)
   ·exact XD hn (fun p hp=>hl p (by simp [hp])) p h
theorem b7M{n:Nat}{s:ZS}{m:Ms}{k:Int}{az:List Int}{i c a:Int}{e:Nd}{cs:Cls}(hp:mPu n s m k az)(h:naU s (ndAt s.ns k) az i cs)(hc:(ndAt s.ns k).kids[i.toNat]? =some c)(ha:az[i.toNat]? =some a)(he:s.ns[c.toNat]? =some e):naU s (ndAt s.ns k) az (i+1) (CA cs e.text a):=by
 have hl:=(List.getElem?_eq_some_iff.1 ha).1
 have hb:=h.1.1
 refine⟨⟨⟨by omega,hb.2⟩,h.1.2⟩,⟨XD (hp.1.2.1 a (BO ha)) h.2.1.1,by have:= @XC e.text a cs;have:=h.2.1.2;omega⟩,?_⟩
 have hc2:((ndAt s.ns k).kids.take az.length)[i.toNat]? =some c:=by rw[List.getElem?_take,if_pos (by omega)];exact hc
 rw[h.2.2,GG hb.1.1 hc2,GG hb.1.1 ha,Hi,Bn he]
theorem Th{n:Nat}{s:ZS}{m:Ms}{k:Int}{az:List Int}{i:Nat}{c:Int}(hp:mPu n s m k az)(hc:(ndAt s.ns k).kids[i]? =some c):(0≤c∧c<s.ns.length)∧BA s.ns c≤12:=by
 have h1:=(HS hp.1.1.1.1 hp.2.1.1.1).2 c (BO hc)
 have:=hp.2.1.1;omega
theorem b7N{n:Nat}{s:ZS}{m:Ms}{k b i:Int}{az:List Int}{cs:Cls}{j:Nat}(hp:mPu n s m k az)(hb:(ndAt s.ns k).kids[j]? =some b)(h:naU s (ndAt s.ns k) az i cs):bPu n s ⟨m.out,m.code,m.steps,m.deep,cs,false,0⟩ b:=by
 have hm:=hp.1.1.2
 refine⟨⟨hp.1.1.1,hm.1,⟨h.2.1.1,?_⟩,Hq⟩,Th hp hb,?_⟩
 ·have:=h.2.1.2;have:=h.1.1;have:=hm.1.1.1;simp only[mc] at*;omega
 ·have h1:=hp.2.2;have h2:=(Th hp hb).1;unfold Cw;simp only[mc];omega
theorem b7O{n:Nat}{s:ZS}{m y:Ms}{k b i:Int}{az:List Int}{cs:Cls}(hp:mPu n s m k az)(hl:((ndAt s.ns k).kids.length:Int)-1=az.length)
 (hb:(ndAt s.ns k).kids[(((ndAt s.ns k).kids.length:Int)-1).toNat]? =some b) (h:naU s (ndAt s.ns k) az i cs) (hi:¬i<(az.length:Int)) (hy:bQu n s ⟨m.out,m.code,m.steps,m.deep,cs,false,0⟩ b y):mQu n s m k az (y.ret,⟨y.out,y.code,y.steps,y.deep,y.cells,m.done,m.ret⟩):=by
 have e1:cs=Hi s.ns ((ndAt s.ns k).kids.take az.length) az []:=by
  rw[h.2.2,List.drop_eq_nil_of_le (by simp only[List.length_take];omega)];rfl
 have e2:BB (ndAt s.ns k) az.length=b:=by
  rw[show(((ndAt s.ns k).kids.length:Int)-1).toNat=az.length by omega] at hb
  exact EZ hb
 have g:=hy.2
 refine⟨⟨?_,g.2.2.2⟩,g.1,g.2.1,g.2.2.1,hp.1.1.2.2.2⟩
 rw[meU,if_neg (by omega),e2,←e1,hy.1];rfl
attribute [local irreducible] bQu bPu cQu naU
def Mr(n:Nat):Sig:= {X:=ZX (Int×List Int),args:=fun x=>[usA x.1 (uh x),.int .i64 (zl x).1,Af (zl x).2],pre:=fun x=>mPu n x.1 (uh x) (zl x).1 (zl x).2,Y:=Int×UY,post:=fun x y=>mQu n x.1 (uh x) (zl x).1 (zl x).2 (yw y),res:=fun x y=> .int .i64 y.1,outs:=fun x y=>[usA x.1 (yu y.2),.top,.top],keep:=true}
def XE(n:Nat)(x:ZX (Int×List Int)):LS:= {ι:=Int×Cls,inv:=fun i=>naU x.1 (ndAt x.1.ns (zl x).1) (zl x).2 i.1 i.2,regs:=fun i=>[(0,usA x.1 ⟨(uh x).out,(uh x).code,(uh x).steps,(uh x).deep,i.2,(uh x).done,(uh x).ret⟩),(2,Af (zl x).2),(7,.box 0 (ndA false (ndAt x.1.ns (zl x).1))),(8,.int .i64 (((ndAt x.1.ns (zl x).1).kids.length:Int)-1)),(9,.int .i64 i.1)],als:=[],meas:=fun i=>(zl x).2.length-i.1.toNat,sub:=fun j=>[(100009,{ι:=Cls,inv:=fun i=>naU x.1 (ndAt x.1.ns (zl x).1) (zl x).2 (j.1+1) i,regs:=fun i=>[(0,usA x.1 ⟨(uh x).out,(uh x).code,(uh x).steps,(uh x).deep,i,(uh x).done,(uh x).ret⟩),(2,Af (zl x).2),(7,.box 0 (ndA false (ndAt x.1.ns (zl x).1))),(8,.int .i64 (((ndAt x.1.ns (zl x).1).kids.length:Int)-1)),(9,.int .i64 j.1)],als:=[],meas:=fun _=>0})]}
def XF(x:ZX (Int×List Int))(e:Int)(i:Int×Cls):Prop:=(((0:Int)≤i.1∧i.1<(↑(List.length (ndAt x.1.ns (zl x).1).kids):Int))∧∀(e_1:Int),(ndAt x.1.ns (zl x).1).kids[Int.toNat i.1]? =some e_1→((0:Int)≤e_1∧e_1<(↑(List.length x.1.ns):Int))∧∀(e_2:Nd),x.1.ns[Int.toNat e_1]? =some e_2→cA Eo [AV.sl false 0 2 (List UInt8×Int) Ah i.2,.str e_2.text,.int .i64 e] fun x_1 y=>true=true∧∃(i_1:Cls),naU x.1 (ndAt x.1.ns (zl x).1) (zl x).2 (i.1+(1:Int)) i_1∧(nds x.1.ns=nds x.1.ns∧AV.sl false 0 2 (List UInt8×Int) Ah (CA x_1.1 x_1.2.1 x_1.2.2)=AV.sl false 0 2 (List UInt8×Int) Ah i_1∧Ab (uh x).out=Ab (uh x).out∧(uh x).code=(uh x).code∧(uh x).steps=(uh x).steps∧x.1.L=x.1.L∧(uh x).deep=(uh x).deep∧(uh x).done=(uh x).done∧(uh x).ret=(uh x).ret∧Af (zl x).2=Af (zl x).2∧(ndAt x.1.ns (zl x).1).kind=(ndAt x.1.ns (zl x).1).kind∧(ndAt x.1.ns (zl x).1).text=(ndAt x.1.ns (zl x).1).text∧Af (ndAt x.1.ns (zl x).1).kids=Af (ndAt x.1.ns (zl x).1).kids∧(ndAt x.1.ns (zl x).1).blank=(ndAt x.1.ns (zl x).1).blank∧(↑(List.length (ndAt x.1.ns (zl x).1).kids):Int)-(1:Int)=(↑(List.length (ndAt x.1.ns (zl x).1).kids):Int)-(1:Int)∧i.1=i.1∧True)∧True)∧((0:Int)≤i.1∧i.1<(↑(List.length (ndAt x.1.ns (zl x).1).kids):Int))∧∀(e_1:Int),(ndAt x.1.ns (zl x).1).kids[Int.toNat i.1]? =some e_1→((0:Int)≤e_1∧e_1<(↑(List.length x.1.ns):Int))∧∀(e_2:Nd),x.1.ns[Int.toNat e_1]? =some e_2→cA Eo [AV.sl false 0 2 (List UInt8×Int) Ah i.2,.str e_2.text,.int .i64 e] fun x_1 y=>true=true∧∃(i_1:Cls),naU x.1 (ndAt x.1.ns (zl x).1) (zl x).2 (i.1+(1:Int)) i_1∧(nds x.1.ns=nds x.1.ns∧AV.sl false 0 2 (List UInt8×Int) Ah (CA x_1.1 x_1.2.1 x_1.2.2)=AV.sl false 0 2 (List UInt8×Int) Ah i_1∧Ab (uh x).out=Ab (uh x).out∧(uh x).code=(uh x).code∧(uh x).steps=(uh x).steps∧x.1.L=x.1.L∧(uh x).deep=(uh x).deep∧(uh x).done=(uh x).done∧(uh x).ret=(uh x).ret∧Af (zl x).2=Af (zl x).2∧(ndAt x.1.ns (zl x).1).kind=(ndAt x.1.ns (zl x).1).kind∧(ndAt x.1.ns (zl x).1).text=(ndAt x.1.ns (zl x).1).text∧Af (ndAt x.1.ns (zl x).1).kids=Af (ndAt x.1.ns (zl x).1).kids∧(ndAt x.1.ns (zl x).1).blank=(ndAt x.1.ns (zl x).1).blank∧(↑(List.length (ndAt x.1.ns (zl x).1).kids):Int)-(1:Int)=(↑(List.length (ndAt x.1.ns (zl x).1).kids):Int)-(1:Int)∧i.1=i.1∧True)∧True
theorem a5x(n:Nat)(h:uAll G n):Aj G Tryz.prog 44 (Mr n):=
 vcFun_okP [(43,0,Di),(26,0,Eo),(74,0,(Ia n))] [(42,⟨List UInt8×Int,Ah⟩)] false (fun x=>[(7,XE n x)]) Tryz.func44 rfl (by decide) ⟨Mp,a5h,h.blk,trivial⟩ (fun(x:ZX (Int×List Int))=>True∧((0:Int)≤(zl x).1∧(zl x).1<(↑(List.length x.1.ns):Int))∧∀(e:Nd),x.1.ns[Int.toNat (zl x).1]? =some e→inR IntKind.i64 ((↑(List.length e.kids):Int)-(1:Int))∧Aa ((↑(List.length e.kids):Int)-(1:Int) != (↑(List.length (zl x).2):Int)) (cA Di [.box 0 [nds x.1.ns,AV.sl false 0 2 (List UInt8×Int) Ah (uh x).cells,Ab (uh x).out,.int .i64 (uh x).code,.int .i64 (uh x).steps,.int .i64 x.1.L,.int .i64 (uh x).deep,.bool (uh x).done,.int .i64 (uh x).ret]] fun x_1 y=>rA (Mr n) x [.int .i64 (0:Int),.box 0 [nds x_1.1.ns,AV.sl false 0 2 (List UInt8×Int) Ah (AW (uh x_1)).cells,Ab (AW (uh x_1)).out,.int .i64 (AW (uh x_1)).code,.int .i64 (AW (uh x_1)).steps,.int .i64 x_1.1.L,.int .i64 (AW (uh x_1)).deep,.bool (AW (uh x_1)).done,.int .i64 (AW (uh x_1)).ret],.top,.top]) ((∃(i:Int×Cls),naU x.1 (ndAt x.1.ns (zl x).1) (zl x).2 i.1 i.2∧(nds x.1.ns=nds x.1.ns∧AV.sl false 0 2 (List UInt8×Int) (fun(x:List UInt8×Int)=>fzL (Ah x)) []=AV.sl false 0 2 (List UInt8×Int) Ah i.2∧Ab (uh x).out=Ab (uh x).out∧(uh x).code=(uh x).code∧(uh x).steps=(uh x).steps∧x.1.L=x.1.L∧(uh x).deep=(uh x).deep∧(uh x).done=(uh x).done∧(uh x).ret=(uh x).ret∧Af (zl x).2=Af (zl x).2∧e.kind=(ndAt x.1.ns (zl x).1).kind∧e.text=(ndAt x.1.ns (zl x).1).text∧Af e.kids=Af (ndAt x.1.ns (zl x).1).kids∧e.blank=(ndAt x.1.ns (zl x).1).blank∧(↑(List.length e.kids):Int)-(1:Int)=(↑(List.length (ndAt x.1.ns (zl x).1).kids):Int)-(1:Int)∧(0:Int)=i.1∧True)∧True)∧∀(i:Int×Cls),naU x.1 (ndAt x.1.ns (zl x).1) (zl x).2 i.1 i.2→Aa (decide (i.1<(↑(List.length (ndAt x.1.ns (zl x).1).kids):Int)-(1:Int))) (true=true∧(((0:Int)≤i.1∧i.1<(↑(List.length (zl x).2):Int))∧∀(e:Int),(zl x).2[Int.toNat i.1]? =some e→(XF x e i)∧(XF x e i)∧((0:Int)≤i.1∧i.1<(↑(List.length (ndAt x.1.ns (zl x).1).kids):Int))∧∀(e_1:Int),(ndAt x.1.ns (zl x).1).kids[Int.toNat i.1]? =some e_1→(((0:Int)≤e_1∧e_1<(↑(List.length x.1.ns):Int))∧∀(e_2:Nd),x.1.ns[Int.toNat e_1]? =some e_2→cA Eo [AV.sl false 0 2 (List UInt8×Int) Ah i.2,.str e_2.text,.int .i64 e] fun x_1 y=>true=true∧∃(i_1:Cls),naU x.1 (ndAt x.1.ns (zl x).1) (zl x).2 (i.1+(1:Int)) i_1∧(nds x.1.ns=nds x.1.ns∧AV.sl false 0 2 (List UInt8×Int) Ah (CA x_1.1 x_1.2.1 x_1.2.2)=AV.sl false 0 2 (List UInt8×Int) Ah i_1∧Ab (uh x).out=Ab (uh x).out∧(uh x).code=(uh x).code∧(uh x).steps=(uh x).steps∧x.1.L=x.1.L∧(uh x).deep=(uh x).deep∧(uh x).done=(uh x).done∧(uh x).ret=(uh x).ret∧Af (zl x).2=Af (zl x).2∧(ndAt x.1.ns (zl x).1).kind=(ndAt x.1.ns (zl x).1).kind∧(ndAt x.1.ns (zl x).1).text=(ndAt x.1.ns (zl x).1).text∧Af (ndAt x.1.ns (zl x).1).kids=Af (ndAt x.1.ns (zl x).1).kids∧(ndAt x.1.ns (zl x).1).blank=(ndAt x.1.ns (zl x).1).blank∧(↑(List.length (ndAt x.1.ns (zl x).1).kids):Int)-(1:Int)=(↑(List.length (ndAt x.1.ns (zl x).1).kids):Int)-(1:Int)∧i.1=i.1∧True)∧True)∧((0:Int)≤e_1∧e_1<(↑(List.length x.1.ns):Int))∧∀(e_2:Nd),x.1.ns[Int.toNat e_1]? =some e_2→cA Eo [AV.sl false 0 2 (List UInt8×Int) Ah i.2,.str e_2.text,.int .i64 e] fun x_1 y=>true=true∧∃(i_1:Cls),naU x.1 (ndAt x.1.ns (zl x).1) (zl x).2 (i.1+(1:Int)) i_1∧(nds x.1.ns=nds x.1.ns∧AV.sl false 0 2 (List UInt8×Int) Ah (CA x_1.1 x_1.2.1 x_1.2.2)=AV.sl false 0 2 (List UInt8×Int) Ah i_1∧Ab (uh x).out=Ab (uh x).out∧(uh x).code=(uh x).code∧(uh x).steps=(uh x).steps∧x.1.L=x.1.L∧(uh x).deep=(uh x).deep∧(uh x).done=(uh x).done∧(uh x).ret=(uh x).ret∧Af (zl x).2=Af (zl x).2∧(ndAt x.1.ns (zl x).1).kind=(ndAt x.1.ns (zl x).1).kind∧(ndAt x.1.ns (zl x).1).text=(ndAt x.1.ns (zl x).1).text∧Af (ndAt x.1.ns (zl x).1).kids=Af (ndAt x.1.ns (zl x).1).kids∧(ndAt x.1.ns (zl x).1).blank=(ndAt x.1.ns (zl x).1).blank∧(↑(List.length (ndAt x.1.ns (zl x).1).kids):Int)-(1:Int)=(↑(List.length (ndAt x.1.ns (zl x).1).kids):Int)-(1:Int)∧i.1=i.1∧True)∧True)∧∀(i_1:Cls),naU x.1 (ndAt x.1.ns (zl x).1) (zl x).2 (i.1+(1:Int)) i_1→inR IntKind.i64 (i.1+(1:Int))∧eN (XE n x) i [.box 0 [nds x.1.ns,AV.sl false 0 2 (List UInt8×Int) Ah i_1,Ab (uh x).out,.int .i64 (uh x).code,.int .i64 (uh x).steps,.int .i64 x.1.L,.int .i64 (uh x).deep,.bool (uh x).done,.int .i64 (uh x).ret],Af (zl x).2,.box 0 [.int .i64 (ndAt x.1.ns (zl x).1).kind,.str (ndAt x.1.ns (zl x).1).text,Af (ndAt x.1.ns (zl x).1).kids,.bool (ndAt x.1.ns (zl x).1).blank],.int .i64 ((↑(List.length (ndAt x.1.ns (zl x).1).kids):Int)-(1:Int)),.int .i64 (i.1+(1:Int))]) (((0:Int)≤(↑(List.length (ndAt x.1.ns (zl x).1).kids):Int)-(1:Int)∧(↑(List.length (ndAt x.1.ns (zl x).1).kids):Int)-(1:Int)<(↑(List.length (ndAt x.1.ns (zl x).1).kids):Int))∧∀(e:Int),(ndAt x.1.ns (zl x).1).kids[Int.toNat ((↑(List.length (ndAt x.1.ns (zl x).1).kids):Int)-(1:Int))]? =some e→cA (Ia n) [.box 0 [nds x.1.ns,AV.sl false 0 2 (List UInt8×Int) Ah i.2,Ab (uh x).out,.int .i64 (uh x).code,.int .i64 (uh x).steps,.int .i64 x.1.L,.int .i64 (uh x).deep,.bool false,.int .i64 (0:Int)],.int .i64 e] fun x_1 y=>rA (Mr n) x [.int .i64 (yu y).ret,.box 0 [nds x_1.1.ns,AV.sl false 0 2 (List UInt8×Int) Ah (yu y).cells,Ab (yu y).out,.int .i64 (yu y).code,.int .i64 (yu y).steps,.int .i64 x_1.1.L,.int .i64 (yu y).deep,.bool (uh x).done,.int .i64 (uh x).ret],.top,.top]))) (fun x=>by kernel_rfl) fun(x:ZX (Int×List Int)) (hx:mPu n x.1 (uh x) (zl x).1 (zl x).2)=>(by
 dsimp only[XF,cA,Ah,cls,eN,XE,Af,Bu,nds,KO,Ab,rA,Eo,Ia,Di,Mr,usA,Au,Az,mvL,lnL,mvE,lnE,Br]
 obtain⟨s,o,c,t,d,cs,en,re,k,az⟩:=x;dsimp only[uh,zl] at hx ⊢
 have hx:mPu n s ⟨o,c,t,d,cs,en,re⟩ k az:=hx
 have hk:=hx.2.1
 have hE:=b7J hx.1.1.1 hk
 (repeat' first|(apply XA<;>try dsimp only)|(with_reducible first|rfl|exact True.intro|apply AK|apply And.intro|((first|apply AA|apply AI|apply AB|apply AJ)<;>intro _))|(apply Ax<;>intro _)|apply AH|refine Ae () ?_ ?_|((first|apply AO|apply AN|apply AM|apply AL|apply AG|apply AF|apply AE|apply AD|apply AC)<;>try dsimp only)|apply Ae|(refine Prod.forall.2 ?_;intro _;try dsimp only)|(intro _;try dsimp only))
 all_goals(try simp only[KP] at*)
 all_goals(try(have hB:=a5w (show naU _ _ _ _ _ by assumption)))
 all_goals(repeat(rename s.ns[Int.toNat k]? =some _=>hq;have hqe:=(Bn hq).symm;clear hq;subst hqe))
 all_goals(try(repeat(rename(_:List Int)[_]? =some _=>hq;revert hq;rename(_:List Int)[_]? =some _=>hr;intro hq;rw[hr] at hq;cases hq)))
 all_goals first
  |rfl
  |exact hx
  |exact()
  |exact hk.1.1.1
  |exact hk.1.1.2
  |exact b7K hx ‹_›
  |exact b7L hx ‹_›
  |exact(Th hx ‹_›).1.1
  |exact(Th hx ‹_›).1.2
  |exact b7M hx ‹_› ‹_› ‹_› ‹_›
  |exact b7N hx ‹_› ‹_›
  |exact b7O hx ‹_› ‹_› ‹_› (by omega) ‹_›
  |((try simp only[AQ]);omega)
  |(rename naU _ _ _ (_+1) _=>hq;clear hq;have hB2:=a5w (show naU _ _ _ _ _ by assumption);omega)
  |skip)
end Go.My
end
section
namespace Go.My
open Go.Eng Go.Proofs
variable {G:GInv}
def Hs(n:Nat)(s:ZS)(m:Ms)(x:Nd):Prop:=cPu n s m x∧(wS s.ns (x.kids.drop 1)+1≤pot (mc m)∧(21-m.deep)*((s.ns.length:Int)+1)≤n)
abbrev Fs (n:Nat) (s:ZS) (m:Ms) (x:Nd) (y:Int×Ms):Prop:=cQu (caU s.ns (eu s.ns n).val (eu s.ns n).blk x) s m (wS s.ns (x.kids.drop 1)+1) y
def caN(s:ZS)(x:Nd):Nd:=ndAt s.ns (BB x 0)
def auI(n:Nat)(s:ZS)(m0:Ms)(x:Nd)(i:Int)(m:Ms)(az:List Int):Prop:=
 (((lpI s (mc m0) (mc m) x.kids i (wS s.ns (x.kids.drop 1))∧uOk m)∧x.kids.length≤12)∧(((caN s x).kind=1∧(az.length:Int)+1=i)∧(∀a∈az,bdd a)))∧
   Iz (eu s.ns n).val (x.kids.drop 1) [] s.L m0=Iz (eu s.ns n).val (x.kids.drop i.toNat) az s.L m
theorem b7P{n:Nat}{s:ZS}{m:Ms}{x:Nd}(hp:Hs n s m x)(h:¬(caN s x).kind=1):Fs n s m x (0,AW m):=by
 refine⟨⟨?_,Hq⟩,EI (Mo hp.1.1.2) (by have:= @PS s.ns (x.kids.drop 1);omega)⟩
 have h2:As s.ns (BB x 0)≠1:=h
 rw[caU,if_pos h2];rfl
theorem a5y{n:Nat}{s:ZS}{m:Ms}{x:Nd}{c:Int}(hp:Hs n s m x)(hc:x.kids[0]? =some c):0≤c∧c<s.ns.length:=(hp.1.2.1 c (BO hc)).1.1
theorem b7Q{n:Nat}{s:ZS}{m:Ms}{x:Nd}(hp:Hs n s m x):x.kids.length≤12∧1≤x.kids.length:=hp.1.2.2.1
theorem b7R{n:Nat}{s:ZS}{m:Ms}{x:Nd}(hp:Hs n s m x):tOk s.ns:=hp.1.1.1.1
theorem b7S{s:ZS}{x e:Nd}{c:Int}(hc:x.kids[0]? =some c)(he:s.ns[c.toNat]? =some e):e=caN s x:=by
 rw[caN,EZ hc,Bn he]
theorem b7T{s:ZS}{m:Mc}{ks:List Int}(h:mOk m)(hl:1≤ks.length):lpI s m m ks 1 (wS s.ns (ks.drop 1)):=⟨⟨by omega,h,rfl⟩,Int.le_refl _,by show _≤_-wS s.ns (ks.drop 1);omega⟩
theorem b7U{n:Nat}{s:ZS}{m:Ms}{x:Nd}(hp:Hs n s m x)(h:(caN s x).kind=1):auI n s m x 1 m []:=
 ⟨⟨⟨⟨b7T hp.1.1.2.1 hp.1.2.2.1.2,hp.1.1.2⟩,hp.1.2.2.1.1⟩,⟨h,rfl⟩,by simp⟩,rfl⟩
theorem XG{n:Nat}{s:ZS}{m0 m:Ms}{x:Nd}{i:Int}{az:List Int}(h:auI n s m0 x i m az):((0≤i∧i≤x.kids.length)∧x.kids.length≤12)∧((az.length:Int)+1=i∧(m.out.length:Int)≤5159780352000):=by
 refine⟨⟨h.1.1.1.1.1.1,h.1.1.2⟩,h.1.2.1.2,?_⟩
 have h2:=h.1.1.1.2.1
 have h3:=h2.2;have:=h2.1.1;unfold pot at h3;simp only[mc] at*;omega
theorem b7V{n:Nat}{s:ZS}{m0 m:Ms}{x:Nd}{i c:Int}{az:List Int}(hp:Hs n s m0 x)(h:auI n s m0 x i m az)(hc:x.kids[i.toNat]? =some c):vPu n s m c:=
 ⟨⟨hp.1.1.1,h.1.1.1.2⟩,NW (hp.1.2.1 c (BO hc)) h.1.1.1.1.1.2.2,a5k h.1.1.1.1 hc (by have:=hp.2.1;omega)⟩
theorem b7W{n:Nat}{s:ZS}{m0 m:Ms}{x:Nd}{i c:Int}{az:List Int}{y:Int×Ms}(h:auI n s m0 x i m az)(hq:m.code=0)(hc:x.kids[i.toNat]? =some c)(hv:vQu n s m c y):auI n s m0 x (i+1) y.2 (az++[y.1]):=by
 refine⟨⟨⟨⟨Mm h.1.1.1.1 hc hv.2.1,hv.2.2⟩,h.1.1.2⟩,⟨h.1.2.1.1,by have:=h.1.2.1.2;simp;omega⟩,?_⟩,?_⟩
 ·intro a ha
  rcases List.mem_append.1 ha with ha|ha
  ·exact h.1.2.2 a ha
  ·simp at ha;subst ha;exact hv.1.2
 ·rw[h.2,GG h.1.1.1.1.1.1.1 hc,Iz,CC,if_pos hq,Cg,hv.1.1];rfl
theorem b7X{V:Int→Bg Int}{l az:List Int}{L:Int}{m:Ms}(h:l=[]∨¬m.code=0):Iz V l az L m=some (az,m):=by
 cases l with
 |nil=>rfl
 |cons k l=>
  rw[Iz,CC]
  rcases h with h|h
  ·cases h
  ·rw[if_neg h]
def auX(n:Nat)(s:ZS)(m0:Ms)(x:Nd)(i:Int)(m:Ms)(az:List Int):Prop:=auI n s m0 x i m az∧(¬i<(x.kids.length:Int)∨¬m.code=0)
theorem XH{n:Nat}{s:ZS}{m0 m:Ms}{x:Nd}{i:Int}{az:List Int}(h:auX n s m0 x i m az):
 caU s.ns (eu s.ns n).val (eu s.ns n).blk x s.L m0=Fk 0 (if(caN s x).text=[112,114,105,110,116]∧az.length=1 then prU (az.headD 0) else mcU s.ns (eu s.ns n).blk (caN s x).text az) s.L m:=by
 have h2:¬As s.ns (BB x 0)≠1:=fun e=>e h.1.1.2.1.1
 have h3:Iz (eu s.ns n).val (x.kids.drop 1) [] s.L m0=some (az,m):=by
  rw[h.1.2,b7X]
  rcases h.2 with hx|hx
  ·exact .inl (List.drop_eq_nil_of_le (by have:=h.1.1.1.1.1.1.1;omega))
  ·exact .inr hx
 rw[caU,if_neg h2,Cg,h3];rfl
theorem Oj{n:Nat}{s:ZS}{m0 m:Ms}{x:Nd}{i:Int}{az:List Int}(h:auX n s m0 x i m az):Dt m0 m (wS s.ns (x.kids.drop 1)):=⟨Ql h.1.1.1.1.1,h.1.1.1.1.2⟩
theorem b7Y{n:Nat}{s:ZS}{m0 m:Ms}{x:Nd}{i:Int}{az:List Int}(h:auX n s m0 x i m az)(hq:¬m.code=0):Fs n s m0 x (0,m):=by
 refine⟨⟨?_,Hq⟩,EI (Oj h) (by omega)⟩
 rw[XH h,CC,if_neg hq]
theorem b7Z{n:Nat}{s:ZS}{m0 m:Ms}{x:Nd}{i a:Int}{az:List Int}(hp:Hs n s m0 x)(h:auX n s m0 x i m az)(hq:m.code=0)(ht:(caN s x).text=[112,114,105,110,116])(h1:(az.length:Int)=1)(ha:az[0]? =some a):
 Fs n s m0 x (0,⟨m.out++[a],m.code,m.steps,m.deep,m.cells,m.done,m.ret⟩):=by
 have g:=Oj h
 have hw:=hp.2.1
 have e:pot (mc ⟨m.out++[a],m.code,m.steps,m.deep,m.cells,m.done,m.ret⟩)=pot (mc m)-1:=by simp only[pot,mc,List.length_append,List.length_cons,List.length_nil];omega
 have hm:mOk (mc ⟨m.out++[a],m.code,m.steps,m.deep,m.cells,m.done,m.ret⟩):=⟨g.2.1.1,by rw[e];have:=g.1.2.2;omega⟩
 refine⟨⟨?_,Hq⟩,⟨⟨hm,g.1.1.2⟩,g.1.2.1,?_⟩,hm,g.2.2⟩
 ·have hh:az.headD 0=a:=by cases az with
   |nil=>cases ha
   |cons b l=>simp at ha;simpa using ha
  rw[XH h,CC,if_pos hq,if_pos ⟨ht,by omega⟩,prU,hh]
 ·have:=g.1.2.2;dsimp only at e ⊢;omega
theorem a5z{n:Nat}{s:ZS}{m0 m:Ms}{x:Nd}{i:Int}{az:List Int}(h:auX n s m0 x i m az)(hq:m.code=0)(hn:¬((caN s x).text=[112,114,105,110,116]∧(az.length:Int)=1)):caU s.ns (eu s.ns n).val (eu s.ns n).blk x s.L m0=mcU s.ns (eu s.ns n).blk (caN s x).text az s.L m:=by
 rw[XH h,CC,if_pos hq,if_neg (fun e=>hn ⟨e.1,by omega⟩)]
theorem Ti{n:Nat}{s:ZS}{m0 m:Ms}{x:Nd}{i:Int}{az:List Int}(h:auX n s m0 x i m az)(hq:m.code=0)(hn:¬((caN s x).text=[112,114,105,110,116]∧(az.length:Int)=1))(hk:Bb s.ns (caN s x).text (Bc s.ns).kids<0∨20≤m.deep):Fs n s m0 x (0,AW m):=by
 have g:=GH (Oj h) (Mo (Oj h).2)
 refine⟨⟨?_,Hq⟩,EI g (by omega)⟩
 rw[a5z h hq hn,mcU,if_pos hk];rfl
theorem b8a{n:Nat}{s:ZS}{m0 m:Ms}{x:Nd}{i:Int}{az:List Int}(hp:Hs n s m0 x)(h:auX n s m0 x i m az)(hk:¬Bb s.ns (caN s x).text (Bc s.ns).kids<0)(hd:¬20≤m.deep):mPu n s ⟨m.out,m.code,m.steps,m.deep+1,m.cells,m.done,m.ret⟩ (Bb s.ns (caN s x).text (Bc s.ns).kids) az:=by
 have g:=Oj h
 have hb:=XG h.1
 have hd2:m.deep=m0.deep:=g.1.1.2
 refine⟨⟨⟨hp.1.1.1,⟨⟨g.2.1.1.1,by have:=g.2.1.1.2;simp only[mc] at*;omega⟩,g.2.1.2⟩,g.2.2⟩,h.1.1.2.2,by omega⟩,a5v hp.1.1.1 hk,?_⟩
 have h1:=hp.2.2
 show(21-(m.deep+1))*((s.ns.length:Int)+1)+s.ns.length<n
 rw[hd2,show 21-(m0.deep+1)=(21-m0.deep)-1 by omega,Int.sub_mul,Int.one_mul];omega
theorem a5A{n:Nat}{s:ZS}{m0 m:Ms}{x:Nd}{i:Int}{az:List Int}{y:Int×Ms}(h:auX n s m0 x i m az)(hq:m.code=0)(hn:¬((caN s x).text=[112,114,105,110,116]∧(az.length:Int)=1))(hk:¬Bb s.ns (caN s x).text (Bc s.ns).kids<0)(hd:¬20≤m.deep)
 (hy:mQu n s ⟨m.out,m.code,m.steps,m.deep+1,m.cells,m.done,m.ret⟩ (Bb s.ns (caN s x).text (Bc s.ns).kids) az y):Fs n s m0 x (y.1,⟨y.2.out,y.2.code,y.2.steps,y.2.deep-1,m.cells,y.2.done,y.2.ret⟩):=by
 have g:=Oj h
 have g2:=hy.2
 have hd2:y.2.deep=m.deep+1:=g2.1.1.2
 have hm:mOk (mc ⟨y.2.out,y.2.code,y.2.steps,y.2.deep-1,m.cells,y.2.done,y.2.ret⟩):=⟨⟨g2.2.1.1.1,by have:=g.2.1.1.2;simp only[mc] at*;omega⟩,g2.2.1.2⟩
 have hs:m.steps≤y.2.steps:=g2.1.2.1
 have hpot:pot (mc m)-0≤pot (mc y.2):=g2.1.2.2
 refine⟨⟨?_,hy.1.2⟩,⟨⟨hm,?_⟩,?_,?_⟩,hm,Xu g.2.2.1 hs,g2.2.2.2⟩
 ·rw[a5z h hq hn,mcU,if_neg (by omega),hy.1.1];rfl
 ·show y.2.deep-1=m0.deep
  have:m.deep=m0.deep:=g.1.1.2
  omega
 ·have:m0.steps≤m.steps:=g.1.2.1
  show m0.steps≤y.2.steps;omega
 ·have:=g.1.2.2
  show _≤pot (mc y.2);omega
theorem b8b{n:Nat}{s:ZS}{m0 m:Ms}{x:Nd}{i:Int}{az:List Int}(h:auX n s m0 x i m az):(((0≤i∧i≤x.kids.length)∧x.kids.length≤12)∧((az.length:Int)+1=i∧(m.out.length:Int)≤5159780352000))∧(0≤m.deep∧m.deep≤21):=⟨XG h.1,h.1.1.1.1.2.1.1.2⟩
theorem a5B{n:Nat}{s:ZS}{m0 m:Ms}{x:Nd}{i:Int}{az:List Int}(h:auI n s m0 x i m az)(hx:¬i<(x.kids.length:Int)∨¬m.code=0):auX n s m0 x i m az:=⟨h,hx⟩
theorem b8c{n:Nat}{s:ZS}{m:Ms}{k:Int}{az:List Int}{y:Int×Ms}(hy:mQu n s m k az y):y.2.deep=m.deep:=hy.2.1.1.2
theorem XI{n:Nat}{s:ZS}{m:Ms}{k:Int}(hp:vPu (n+1) s m k):(zB s∧uOk m)∧((∀c∈(ndAt s.ns k).kids,kOk s.ns (mc m) n c)∧((ndAt s.ns k).kids.length≤12∧wS s.ns (ndAt s.ns k).kids≤pot (mc m))):=by
 have h:=hp.2.1
 refine⟨hp.1,a3n hp.1.1.1 h.1.1 (by have:=h.1.2.2;omega) h.2,(HS hp.1.1.1 h.1.1).1,?_⟩
 have:=Sy hp.1.1.1 h.1.1;have:=hp.2.2;omega
theorem XJ{n:Nat}{s:ZS}{m:Ms}{k:Int}(hp:vPu (n+1) s m k):(0≤k∧k<s.ns.length)∧Cd (ndAt s.ns k).kind ((ndAt s.ns k).kids.map (As s.ns))=true:=
 ⟨hp.2.1.1.1,(DM (PU hp.1.1.1 hp.2.1.1.1)).2.2.2.2.2.1⟩
theorem Tj{n:Nat}{s:ZS}{m:Ms}{k:Int}(hp:vPu (n+1) s m k)(hk:(ndAt s.ns k).kind=5∨(ndAt s.ns k).kind=7∨(ndAt s.ns k).kind=11):1≤(ndAt s.ns k).kids.length:=by
 have:=Mb (XJ hp).2 (by omega);simpa using this
theorem b8d{n:Nat}{s:ZS}{m:Ms}{k:Int}(hp:vPu (n+1) s m k)(hk:(ndAt s.ns k).kind=8):(ndAt s.ns k).kids.length=3:=by
 have h:=(XJ hp).2;rw[hk] at h
 have:=a3B h;simpa using this
theorem Tk{n:Nat}{s:ZS}{m:Ms}{k:Int}(hp:vPu (n+1) s m k)(hk:(ndAt s.ns k).kind=2):(ndAt s.ns k).text.all Bj=true∧1≤(ndAt s.ns k).text.length∧(ndAt s.ns k).text.length≤12:=
 b2q (ns:=s.ns) (k:=k) ⟨BV.2 hp.2.1.1.1,fun i hi=>PU hp.1.1.1 (by have:=hp.2.1.1.1;omega)⟩ hk
theorem a5C{n:Nat}{s:ZS}{m:Ms}{k:Int}(hp:vPu (n+1) s m k)(hk:(ndAt s.ns k).kind=5∨(ndAt s.ns k).kind=7∨(ndAt s.ns k).kind=11):cPu n s m (ndAt s.ns k):=by
 have h:=XI hp
 exact⟨h.1,h.2.1,⟨h.2.2.1,Tj hp hk⟩,h.2.2.2⟩
theorem b8e{n:Nat}{s:ZS}{m:Ms}{k:Int}(hp:vPu (n+1) s m k)(hk:(ndAt s.ns k).kind=5):Hs n s m (ndAt s.ns k):=by
 refine⟨a5C hp (.inl hk),?_,?_⟩
 ·have:=a3p hp.1.1.1 hp.2.1.1.1 (Tj hp (.inl hk));have:=hp.2.2;omega
 ·have h1:=hp.2.1.2;have h2:=hp.2.1.1.1;unfold Cw at h1;simp only[mc] at h1;omega
theorem Jn{n:Nat}{s:ZS}{m:Ms}{k:Int}:(eu s.ns (n+1)).val k s.L m=vaU s.ns (eu s.ns n).val (eu s.ns n).blk k s.L m:=rfl
theorem JV{n:Nat}{s:ZS}{m:Ms}{k e:Int}{c:Bg Int}{y:Int×Ms}(hc:(eu s.ns (n+1)).val k s.L m=c s.L m)(h:cQu c s m e y)(he:e≤wK s.ns k):vQu (n+1) s m k y:=⟨⟨by rw[hc];exact h.1.1,h.1.2⟩,EI h.2 he⟩
theorem Ok{ns:List Nd}{k:Int}:0≤wK ns k:=by have:= @NV (BA ns k);unfold wK;omega
theorem XK{s:ZS}{m:Ms}(h:uOk m):cQu Jh s m 0 (0,AW m):=⟨⟨rfl,Hq⟩,Mo h⟩
theorem XL{s:ZS}{m:Ms}{v:Int}(h:uOk m)(hv:bdd v):cQu (Fj v) s m 0 (v,m):=⟨⟨rfl,hv⟩,Mn h⟩
theorem b8f{n:Nat}{s:ZS}{m:Ms}{k:Int}(hp:vPu (n+1) s m k)(hq:¬m.code=0):vQu (n+1) s m k (0,m):=by
 refine JV ?_ (XL hp.1.2 Hq) Ok
 rw[Jn,vaU,CC,if_neg hq];rfl
theorem b8g{n:Nat}{s:ZS}{m:Ms}{k:Int}(hp:vPu (n+1) s m k)(hq:m.code=0)(hk:(ndAt s.ns k).kind=2)(hl:(ndAt s.ns k).text.length≤9):vQu (n+1) s m k (if 9<(ndAt s.ns k).text.length then 0 else Dy (ndAt s.ns k).text,m):=by
 rw[if_neg (by omega)]
 refine JV ?_ (XL hp.1.2 (v:=Dy (ndAt s.ns k).text) ?_) Ok
 ·rw[Jn,vaU,CC,if_pos hq,if_pos (show As s.ns k=2 from hk),if_neg (by omega)]
 ·have:=a2v (Tk hp hk).1 (by omega);unfold bdd;omega
theorem b8h{n:Nat}{s:ZS}{m:Ms}{k:Int}(hp:vPu (n+1) s m k)(hq:m.code=0)(hk:(ndAt s.ns k).kind=2)(hl:¬(ndAt s.ns k).text.length≤9):vQu (n+1) s m k (0,AW m):=by
 refine JV ?_ (XK hp.1.2) Ok
 rw[Jn,vaU,CC,if_pos hq,if_pos (show As s.ns k=2 from hk),if_pos (by omega)]
theorem b8i{m:Mc}{cs:Cls}{t:List UInt8}(h:LZ cs m):bdd (nOf (Cz cs t)):=by
 have key:∀ {l:Cls},(∀p∈l,bdd p.2)→bdd (nOf (Cz l t)):=by
  intro l
  induction l with
  |nil=>intro _;exact Hq
  |cons p l ih=>
   intro h
   rw[Cz];split
   ·exact h p (by simp)
   ·exact ih fun q hq=>h q (by simp [hq])
 exact key h.1
theorem b8j{n:Nat}{s:ZS}{m:Ms}{k:Int}(hp:vPu (n+1) s m k)(hq:m.code=0)(hk:(ndAt s.ns k).kind=1)(hs:(Cz m.cells (ndAt s.ns k).text).isSome=true):vQu (n+1) s m k (nOf (Cz m.cells (ndAt s.ns k).text),m):=by
 have hb:=b8i (t:=(ndAt s.ns k).text) hp.1.2.2.1
 refine JV ?_ (XL hp.1.2 hb) Ok
 have hk1:As s.ns k=1:=hk
 rw[Jn,vaU,CC,if_pos hq,if_neg (by omega),if_pos hk1,nmU]
 cases hc:Cz m.cells (ndAt s.ns k).text with
 |none=>rw[hc] at hs;cases hs
 |some v=>rfl
theorem b8k{n:Nat}{s:ZS}{m:Ms}{k:Int}(hp:vPu (n+1) s m k)(hq:m.code=0)(hk:(ndAt s.ns k).kind=1)(hs:(Cz m.cells (ndAt s.ns k).text).isSome=false):vQu (n+1) s m k (0,AW m):=by
 refine JV ?_ (XK hp.1.2) Ok
 have hk1:As s.ns k=1:=hk
 rw[Jn,vaU,CC,if_pos hq,if_neg (by omega),if_pos hk1,nmU]
 cases hc:Cz m.cells (ndAt s.ns k).text with
 |none=>rfl
 |some v=>rw[hc] at hs;cases hs
theorem b8l{n:Nat}{s:ZS}{m:Ms}{k c:Int}{i:Nat}(hp:vPu (n+1) s m k)(hc:(ndAt s.ns k).kids[i]? =some c):vPu n s m c:=by
 have h:=XI hp
 refine⟨hp.1,h.2.1 c (BO hc),?_⟩
 have:=PT (ns:=s.ns) (BO hc);have:=h.2.2.2;omega
theorem b8m{n:Nat}{s:ZS}{m:Ms}{k c:Int}{i:Nat}(hp:vPu (n+1) s m k)(hc:(ndAt s.ns k).kids[i]? =some c):wK s.ns c≤wK s.ns k:=by
 have:=PT (ns:=s.ns) (BO hc);have:=Sy hp.1.1.1 hp.2.1.1.1;omega
theorem b8n{n:Nat}{s:ZS}{m:Ms}{k c:Int}{y:Int×Ms}(hp:vPu (n+1) s m k)(hq:m.code=0)(hk:(ndAt s.ns k).kind=11)(hc:(ndAt s.ns k).kids[0]? =some c)(h:vQu n s m c y):vQu (n+1) s m k y:=by
 have hk1:As s.ns k=11:=hk
 refine JV (c:=(eu s.ns n).val c) ?_ h (b8m hp hc)
 rw[Jn,vaU,CC,if_pos hq,if_neg (by omega),if_neg (by omega),if_pos hk1,EZ hc]
theorem b8o{n:Nat}{s:ZS}{m:Ms}{k:Int}{y:Int×Ms}(hp:vPu (n+1) s m k)(hq:m.code=0)(hk:(ndAt s.ns k).kind=7)(h:JU n s m (ndAt s.ns k) y):vQu (n+1) s m k y:=by
 have hk1:As s.ns k=7:=hk
 refine JV ?_ h (Sy hp.1.1.1 hp.2.1.1.1)
 rw[Jn,vaU,CC,if_pos hq,if_neg (by omega),if_neg (by omega),if_neg (by omega),if_pos hk1]
theorem b8p{n:Nat}{s:ZS}{m:Ms}{k:Int}{y:Int×Ms}(hp:vPu (n+1) s m k)(hq:m.code=0)(hk:(ndAt s.ns k).kind=5)(h:Fs n s m (ndAt s.ns k) y):vQu (n+1) s m k y:=by
 have hk1:As s.ns k=5:=hk
 refine JV ?_ h (a3p hp.1.1.1 hp.2.1.1.1 (Tj hp (.inl hk)))
 rw[Jn,vaU,CC,if_pos hq,if_neg (by omega),if_neg (by omega),if_neg (by omega),if_neg (by omega),if_neg (by omega),if_pos hk1]
theorem b8q{n:Nat}{s:ZS}{m:Ms}{k:Int}(hp:vPu (n+1) s m k)(hq:m.code=0)(h2:¬(ndAt s.ns k).kind=2)(h1:¬(ndAt s.ns k).kind=1)(h11:¬(ndAt s.ns k).kind=11)(h7:¬(ndAt s.ns k).kind=7)(h8:¬(ndAt s.ns k).kind=8)(h5:¬(ndAt s.ns k).kind=5):vQu (n+1) s m k (0,AW m):=by
 refine JV ?_ (XK hp.1.2) Ok
 have e:As s.ns k=(ndAt s.ns k).kind:=rfl
 rw[Jn,vaU,CC,if_pos hq,e,if_neg h2,if_neg h1,if_neg h11,if_neg h7,if_neg h8,if_neg h5]
theorem a5D{n:Nat}{s:ZS}{m:Ms}{k c:Int}{y:Int×Ms}(hq:m.code=0)(hk:(ndAt s.ns k).kind=8)(hc:(ndAt s.ns k).kids[0]? =some c)(h:vQu n s m c y):
 (eu s.ns (n+1)).val k s.L m=(if y.1≠0 then(eu s.ns n).val (BB (ndAt s.ns k) 1) else(eu s.ns n).val (BB (ndAt s.ns k) 2)) s.L y.2:=by
 have hk1:As s.ns k=8:=hk
 rw[Jn,vaU,CC,if_pos hq,if_neg (by omega),if_neg (by omega),if_neg (by omega),if_neg (by omega),if_pos hk1,Cg,EZ hc,h.1.1];rfl
theorem a5E{n:Nat}{s:ZS}{k d:Int}{i:Nat}(hd:(ndAt s.ns k).kids[i]? =some d)(hi:1≤i):d∈(ndAt s.ns k).kids.drop 1:=by
 obtain⟨j,rfl⟩:∃j,i=1+j:=⟨i-1,by omega⟩
 exact List.mem_of_getElem? (i:=j) (by rw[List.getElem?_drop];exact hd)
theorem b8r{n:Nat}{s:ZS}{m:Ms}{k c d:Int}{i:Nat}{y:Int×Ms}(hp:vPu (n+1) s m k)(hc:(ndAt s.ns k).kids[0]? =some c)(h:vQu n s m c y)(hd:(ndAt s.ns k).kids[i]? =some d)(hi:1≤i):vPu n s y.2 d:=by
 have hcp:=XI hp
 have hl:lpI s (mc m) (mc y.2) (ndAt s.ns k).kids 1 (wS s.ns (ndAt s.ns k).kids):=Mm (i:=0) (Xt hp.1.2.1) hc h.2.1
 refine⟨⟨hp.1.1,h.2.2⟩,NW (hcp.2.1 d (BO hd)) h.2.1.1.2,?_⟩
 have h1:=PT (ns:=s.ns) (a5E (n:=n) hd hi)
 have h2:=hl.2.2;have h3:=hcp.2.2.2
 have e:(ndAt s.ns k).kids.drop (1:Int).toNat=(ndAt s.ns k).kids.drop 1:=rfl
 rw[e] at h2;omega
theorem a5F{n:Nat}{s:ZS}{m:Ms}{k c d:Int}{i:Nat}{y z:Int×Ms}(hp:vPu (n+1) s m k)(hc:(ndAt s.ns k).kids[0]? =some c)(h:vQu n s m c y)(hd:(ndAt s.ns k).kids[i]? =some d)(hi:1≤i)(hz:vQu n s y.2 d z):Dt m z.2 (wK s.ns k):=by
 refine EI (GH h.2 hz.2) ?_
 have h1:=PT (ns:=s.ns) (a5E (n:=n) hd hi)
 have h2:=Sy hp.1.1.1 hp.2.1.1.1
 have e:(ndAt s.ns k).kids=c::(ndAt s.ns k).kids.drop 1:=by
  cases hk:(ndAt s.ns k).kids with
  |nil=>rw[hk] at hc;cases hc
  |cons a l=>rw[hk] at hc;simp at hc;simp [hc]
 rw[e,wS] at h2;omega
theorem b8s{n:Nat}{s:ZS}{m:Ms}{k c d:Int}{y z:Int×Ms}(hp:vPu (n+1) s m k)(hq:m.code=0)(hk:(ndAt s.ns k).kind=8)(hc:(ndAt s.ns k).kids[0]? =some c)(h:vQu n s m c y)(hn:¬y.1=0)(hd:(ndAt s.ns k).kids[1]? =some d)(hz:vQu n s y.2 d z):vQu (n+1) s m k z:=by
 refine⟨⟨?_,hz.1.2⟩,a5F hp hc h hd (by omega) hz⟩
 rw[a5D hq hk hc h,if_pos hn,EZ hd];exact hz.1.1
theorem b8t{n:Nat}{s:ZS}{m:Ms}{k c d:Int}{y z:Int×Ms}(hp:vPu (n+1) s m k)(hq:m.code=0)(hk:(ndAt s.ns k).kind=8)(hc:(ndAt s.ns k).kids[0]? =some c)(h:vQu n s m c y)(hn:y.1=0)(hd:(ndAt s.ns k).kids[2]? =some d)(hz:vQu n s y.2 d z):vQu (n+1) s m k z:=by
 refine⟨⟨?_,hz.1.2⟩,a5F hp hc h hd (by omega) hz⟩
 rw[a5D hq hk hc h,if_neg (by simp [hn]),EZ hd];exact hz.1.1
theorem b8u{n:Nat}{s:ZS}{m:Ms}{k:Int}(hp:vPu n s m k):m.cells.length<2^62:=by
 have h1:=hp.1.2.2.1.2;have h2:=hp.1.2.1.1.1;simp only[mc] at*;omega
attribute [local irreducible] auI auX caN mPu vQu vPu cQu Hs cPu
def Jo(n:Nat):Sig:= {X:=ZX Nd,args:=fun x=>[usA x.1 (uh x),.agg (ndA false (zl x))],pre:=fun x=>Hs n x.1 (uh x) (zl x),Y:=Int×UY,post:=fun x y=>Fs n x.1 (uh x) (zl x) (yw y),res:=fun x y=> .int .i64 y.1,outs:=fun x y=>[usA x.1 (yu y.2),.top],keep:=true}
def Mt(n:Nat)(x:ZX Nd):LS:= {ι:=Unit,inv:=fun _=>True,regs:=fun _=>[(0,usA x.1 (uh x)),(3,.box 0 (ndA false (zl x))),(5,.box 0 (ndA false (caN x.1 (zl x))))],als:=[],meas:=fun _=>0}
def Tl(n:Nat)(x:ZX Nd):LS:= {ι:=Int×List Int×UY,inv:=fun i=>auI n x.1 (uh x) (zl x) i.1 (yu i.2.2) i.2.1,regs:=fun i=>[(0,usA x.1 (yu i.2.2)),(3,.box 0 (ndA false (zl x))),(5,.box 0 (ndA false (caN x.1 (zl x)))),(6,Ab i.2.1),(7,.int .i64 i.1)],als:=[],meas:=fun i=>(zl x).kids.length-i.1.toNat}
def XM(n:Nat)(x:ZX Nd):LS:= {ι:=Int×List Int×UY,inv:=fun i=>auX n x.1 (uh x) (zl x) i.1 (yu i.2.2) i.2.1,regs:=fun i=>[(0,usA x.1 (yu i.2.2)),(3,.box 0 (ndA false (zl x))),(5,.box 0 (ndA false (caN x.1 (zl x)))),(6,Ab i.2.1),(7,.int .i64 i.1)],als:=[],meas:=fun _=>0}
def b8v(n:Nat)(x:ZX Nd):LS:= {ι:=UY,inv:=fun i=>Fs n x.1 (uh x) (zl x) (0,yu i),regs:=fun i=>[(0,usA x.1 (yu i))],als:=[],meas:=fun _=>0}
def XN(n:Nat)(x:ZX Nd)(i:Int×List Int×UY)(x_1:Int):Prop:=∃(zs:List Int),Ab (yu i.2.2).out=Ab zs∧Bo AZ∧AY ((0:Nat)+List.length zs) (8:Nat)∧∃(x_2:Int),x_1=x_2∧∃(Co:List Int),Ab [x_2]=Ab Co∧Bo AZ∧AY (List.length ([]++zs)+List.length Co) (8:Nat)∧true=true∧∃(i_1:UY),Fs n x.1 (uh x) (zl x) ((0:Int),yu i_1)∧(nds x.1.ns=nds x.1.ns∧AV.sl false 0 2 (List UInt8×Int) Ah (yu i.2.2).cells=AV.sl false 0 2 (List UInt8×Int) Ah (yu i_1).cells∧Ab ([]++zs++Co)=Ab (yu i_1).out∧(yu i.2.2).code=(yu i_1).code∧(yu i.2.2).steps=(yu i_1).steps∧x.1.L=x.1.L∧(yu i.2.2).deep=(yu i_1).deep∧(yu i.2.2).done=(yu i_1).done∧(yu i.2.2).ret=(yu i_1).ret∧True)∧True
def XO(n:Nat)(x:ZX Nd)(i:Int×List Int×UY)(x_1:Int):Prop:=(XN n x i x_1)∧∃(x_2:Int),x_1=x_2∧∃(zs:List Int),Ab (yu i.2.2).out=Ab zs∧Bo AZ∧AY ((0:Nat)+List.length zs) (8:Nat)∧∃(Co:List Int),Ab [x_2]=Ab Co∧Bo AZ∧AY (List.length ([]++zs)+List.length Co) (8:Nat)∧true=true∧∃(i_1:UY),Fs n x.1 (uh x) (zl x) ((0:Int),yu i_1)∧(nds x.1.ns=nds x.1.ns∧AV.sl false 0 2 (List UInt8×Int) Ah (yu i.2.2).cells=AV.sl false 0 2 (List UInt8×Int) Ah (yu i_1).cells∧Ab ([]++zs++Co)=Ab (yu i_1).out∧(yu i.2.2).code=(yu i_1).code∧(yu i.2.2).steps=(yu i_1).steps∧x.1.L=x.1.L∧(yu i.2.2).deep=(yu i_1).deep∧(yu i.2.2).done=(yu i_1).done∧(yu i.2.2).ret=(yu i_1).ret∧True)∧True
def XP(n:Nat)(x:ZX Nd)(i:Int×List Int×UY):Prop:=((∃(zs:List Int),Ab (yu i.2.2).out=Ab zs∧Bo AZ∧AY ((0:Nat)+List.length zs) (8:Nat)∧(0:Nat)<List.length i.2.1∧∀(x_1:Int),i.2.1[(0:Nat)]? =some x_1→∃(x_2:Int),x_1=x_2∧∃(Co:List Int),Ab [x_2]=Ab Co∧Bo AZ∧AY (List.length ([]++zs)+List.length Co) (8:Nat)∧true=true∧∃(i_1:UY),Fs n x.1 (uh x) (zl x) ((0:Int),yu i_1)∧(nds x.1.ns=nds x.1.ns∧AV.sl false 0 2 (List UInt8×Int) Ah (yu i.2.2).cells=AV.sl false 0 2 (List UInt8×Int) Ah (yu i_1).cells∧Ab ([]++zs++Co)=Ab (yu i_1).out∧(yu i.2.2).code=(yu i_1).code∧(yu i.2.2).steps=(yu i_1).steps∧x.1.L=x.1.L∧(yu i.2.2).deep=(yu i_1).deep∧(yu i.2.2).done=(yu i_1).done∧(yu i.2.2).ret=(yu i_1).ret∧True)∧True)∧(0:Nat)<List.length i.2.1∧∀(x_1:Int),i.2.1[(0:Nat)]? =some x_1→(XN n x i x_1)∧∃(x_2:Int),x_1=x_2∧∃(zs:List Int),Ab (yu i.2.2).out=Ab zs∧Bo AZ∧AY ((0:Nat)+List.length zs) (8:Nat)∧∃(Co:List Int),Ab [x_2]=Ab Co∧Bo AZ∧AY (List.length ([]++zs)+List.length Co) (8:Nat)∧true=true∧∃(i_1:UY),Fs n x.1 (uh x) (zl x) ((0:Int),yu i_1)∧(nds x.1.ns=nds x.1.ns∧AV.sl false 0 2 (List UInt8×Int) Ah (yu i.2.2).cells=AV.sl false 0 2 (List UInt8×Int) Ah (yu i_1).cells∧Ab ([]++zs++Co)=Ab (yu i_1).out∧(yu i.2.2).code=(yu i_1).code∧(yu i.2.2).steps=(yu i_1).steps∧x.1.L=x.1.L∧(yu i.2.2).deep=(yu i_1).deep∧(yu i.2.2).done=(yu i_1).done∧(yu i.2.2).ret=(yu i_1).ret∧True)∧True)∧(0:Nat)<List.length i.2.1∧∀(x_1:Int),i.2.1[(0:Nat)]? =some x_1→(XO n x i x_1)∧∃(x_2:Int),x_1=x_2∧∃(zs:List Int),Ab (yu i.2.2).out=Ab zs∧Bo AZ∧AY ((0:Nat)+List.length zs) (8:Nat)∧∃(Co:List Int),Ab [x_2]=Ab Co∧Bo AZ∧AY (List.length ([]++zs)+List.length Co) (8:Nat)∧true=true∧∃(i_1:UY),Fs n x.1 (uh x) (zl x) ((0:Int),yu i_1)∧(nds x.1.ns=nds x.1.ns∧AV.sl false 0 2 (List UInt8×Int) Ah (yu i.2.2).cells=AV.sl false 0 2 (List UInt8×Int) Ah (yu i_1).cells∧Ab ([]++zs++Co)=Ab (yu i_1).out∧(yu i.2.2).code=(yu i_1).code∧(yu i.2.2).steps=(yu i_1).steps∧x.1.L=x.1.L∧(yu i.2.2).deep=(yu i_1).deep∧(yu i.2.2).done=(yu i_1).done∧(yu i.2.2).ret=(yu i_1).ret∧True)∧True
def XQ(n:Nat)(x:ZX Nd)(i:Int×List Int×UY)(x_1:Int):Prop:=(XO n x i x_1)∧∃(x_2:Int),x_1=x_2∧∃(zs:List Int),Ab (yu i.2.2).out=Ab zs∧Bo AZ∧AY ((0:Nat)+List.length zs) (8:Nat)∧∃(Co:List Int),Ab [x_2]=Ab Co∧Bo AZ∧AY (List.length ([]++zs)+List.length Co) (8:Nat)∧true=true∧∃(i_1:UY),Fs n x.1 (uh x) (zl x) ((0:Int),yu i_1)∧(nds x.1.ns=nds x.1.ns∧AV.sl false 0 2 (List UInt8×Int) Ah (yu i.2.2).cells=AV.sl false 0 2 (List UInt8×Int) Ah (yu i_1).cells∧Ab ([]++zs++Co)=Ab (yu i_1).out∧(yu i.2.2).code=(yu i_1).code∧(yu i.2.2).steps=(yu i_1).steps∧x.1.L=x.1.L∧(yu i.2.2).deep=(yu i_1).deep∧(yu i.2.2).done=(yu i_1).done∧(yu i.2.2).ret=(yu i_1).ret∧True)∧True
def XR(n:Nat)(x:ZX Nd):Prop:=((0:Int)≤(0:Int)∧(0:Int)<(↑(List.length (zl x).kids):Int))∧∀(e:Int),(zl x).kids[(0:Nat)]? =some e→((0:Int)≤e∧e<(↑(List.length x.1.ns):Int))∧∀(e_1:Nd),x.1.ns[Int.toNat e]? =some e_1→true=true∧eA (Mt n x) [.box 0 [nds x.1.ns,AV.sl false 0 2 (List UInt8×Int) Ah (uh x).cells,Ab (uh x).out,.int .i64 (uh x).code,.int .i64 (uh x).steps,.int .i64 x.1.L,.int .i64 (uh x).deep,.bool (uh x).done,.int .i64 (uh x).ret],.box 0 [.int .i64 (zl x).kind,.str (zl x).text,Af (zl x).kids,.bool (zl x).blank],.box 0 [.int .i64 e_1.kind,.str e_1.text,Af e_1.kids,.bool e_1.blank]]
def XS(n:Nat)(x:ZX Nd)(i:Int×List Int×UY):Prop:=cA Di [.box 0 [nds x.1.ns,AV.sl false 0 2 (List UInt8×Int) Ah (yu i.2.2).cells,Ab (yu i.2.2).out,.int .i64 (yu i.2.2).code,.int .i64 (yu i.2.2).steps,.int .i64 x.1.L,.int .i64 (yu i.2.2).deep,.bool (yu i.2.2).done,.int .i64 (yu i.2.2).ret]] fun x_2 y=>rA (Jo n) x [.int .i64 (0:Int),.box 0 [nds x_2.1.ns,AV.sl false 0 2 (List UInt8×Int) Ah (AW (uh x_2)).cells,Ab (AW (uh x_2)).out,.int .i64 (AW (uh x_2)).code,.int .i64 (AW (uh x_2)).steps,.int .i64 x_2.1.L,.int .i64 (AW (uh x_2)).deep,.bool (AW (uh x_2)).done,.int .i64 (AW (uh x_2)).ret],.top]
def XT(n:Nat)(x:ZX Nd)(i:Int×List Int×UY):Prop:=true=true∧true=true∧∃(x_1:List Nd×List UInt8),tOk x_1.1∧nds x.1.ns=nds x_1.1∧(caN x.1 (zl x)).text=x_1.2∧∃(y0:Unit),(∀(y:Unit),True→AV.int IntKind.i64 (Bb x_1.1 x_1.2 (Bc x_1.1).kids)=AV.int IntKind.i64 (Bb x_1.1 x_1.2 (Bc x_1.1).kids))∧true=true∧Aa (decide (Bb x_1.1 x_1.2 (Bc x_1.1).kids<(0:Int))) (XS n x i) (Aa (decide ((yu i.2.2).deep≥(20:Int))) (XS n x i) (inR IntKind.i64 ((yu i.2.2).deep+(1:Int))∧cA (Mr n) [.box 0 [nds x.1.ns,AV.sl false 0 2 (List UInt8×Int) Ah (yu i.2.2).cells,Ab (yu i.2.2).out,.int .i64 (yu i.2.2).code,.int .i64 (yu i.2.2).steps,.int .i64 x.1.L,.int .i64 ((yu i.2.2).deep+(1:Int)),.bool (yu i.2.2).done,.int .i64 (yu i.2.2).ret],.int .i64 (Bb x_1.1 x_1.2 (Bc x_1.1).kids),Ab i.2.1] fun x_2 y=>inR IntKind.i64 ((yu y.2).deep-(1:Int))∧rA (Jo n) x [.int .i64 y.1,.box 0 [nds x_2.1.ns,AV.sl false 0 2 (List UInt8×Int) Ah (yu i.2.2).cells,Ab (yu y.2).out,.int .i64 (yu y.2).code,.int .i64 (yu y.2).steps,.int .i64 x_2.1.L,.int .i64 ((yu y.2).deep-(1:Int)),.bool (yu y.2).done,.int .i64 (yu y.2).ret],.top]))
def XU(n:Nat)(x:ZX Nd)(i:Int×List Int×UY):Prop:=eA (XM n x) [.box 0 [nds x.1.ns,AV.sl false 0 2 (List UInt8×Int) Ah (yu i.2.2).cells,Ab (yu i.2.2).out,.int .i64 (yu i.2.2).code,.int .i64 (yu i.2.2).steps,.int .i64 x.1.L,.int .i64 (yu i.2.2).deep,.bool (yu i.2.2).done,.int .i64 (yu i.2.2).ret],.box 0 [.int .i64 (zl x).kind,.str (zl x).text,Af (zl x).kids,.bool (zl x).blank],.box 0 [.int .i64 (caN x.1 (zl x)).kind,.str (caN x.1 (zl x)).text,Af (caN x.1 (zl x)).kids,.bool (caN x.1 (zl x)).blank],Ab i.2.1,.int .i64 i.1]
theorem b8w(n:Nat)(h:uAll G n):Aj G Tryz.prog 151 (Jo n):=
 vcFun_okP [(43,0,Di),(122,0,(Dj n)),(14,0,HZ),(44,0,(Mr n))] [(25,⟨Int,AZ⟩)] false (fun x=>[(100001,Mt n x),(6,Tl n x),(200009,XM n x),(100012,b8v n x)]) Tryz.func151 rfl (by decide) ⟨Mp,h.val,Xx,(a5x n h),trivial⟩ (fun(x:ZX Nd)=>True∧true=true∧(((XR n x)∧((0:Int)≤(0:Int)∧(0:Int)<(↑(List.length (zl x).kids):Int))∧∀(e:Int),(zl x).kids[(0:Nat)]? =some e→((0:Int)≤e∧e<(↑(List.length x.1.ns):Int))∧∀(e_1:Nd),x.1.ns[Int.toNat e]? =some e_1→true=true∧eA (Mt n x) [.box 0 [nds x.1.ns,AV.sl false 0 2 (List UInt8×Int) Ah (uh x).cells,Ab (uh x).out,.int .i64 (uh x).code,.int .i64 (uh x).steps,.int .i64 x.1.L,.int .i64 (uh x).deep,.bool (uh x).done,.int .i64 (uh x).ret],.box 0 [.int .i64 (zl x).kind,.str (zl x).text,Af (zl x).kids,.bool (zl x).blank],.box 0 [.int .i64 e_1.kind,.str e_1.text,Af e_1.kids,.bool e_1.blank]])∧(((0:Int)≤(0:Int)∧(0:Int)<(↑(List.length (zl x).kids):Int))∧∀(e:Int),(zl x).kids[(0:Nat)]? =some e→(((0:Int)≤e∧e<(↑(List.length x.1.ns):Int))∧∀(e_1:Nd),x.1.ns[Int.toNat e]? =some e_1→true=true∧eA (Mt n x) [.box 0 [nds x.1.ns,AV.sl false 0 2 (List UInt8×Int) Ah (uh x).cells,Ab (uh x).out,.int .i64 (uh x).code,.int .i64 (uh x).steps,.int .i64 x.1.L,.int .i64 (uh x).deep,.bool (uh x).done,.int .i64 (uh x).ret],.box 0 [.int .i64 (zl x).kind,.str (zl x).text,Af (zl x).kids,.bool (zl x).blank],.box 0 [.int .i64 e_1.kind,.str e_1.text,Af e_1.kids,.bool e_1.blank]])∧((0:Int)≤e∧e<(↑(List.length x.1.ns):Int))∧∀(e_1:Nd),x.1.ns[Int.toNat e]? =some e_1→true=true∧eA (Mt n x) [.box 0 [nds x.1.ns,AV.sl false 0 2 (List UInt8×Int) Ah (uh x).cells,Ab (uh x).out,.int .i64 (uh x).code,.int .i64 (uh x).steps,.int .i64 x.1.L,.int .i64 (uh x).deep,.bool (uh x).done,.int .i64 (uh x).ret],.box 0 [.int .i64 (zl x).kind,.str (zl x).text,Af (zl x).kids,.bool (zl x).blank],.box 0 [.int .i64 e_1.kind,.str e_1.text,Af e_1.kids,.bool e_1.blank]])∧(XR n x)∧((0:Int)≤(0:Int)∧(0:Int)<(↑(List.length (zl x).kids):Int))∧∀(e:Int),(zl x).kids[(0:Nat)]? =some e→((0:Int)≤e∧e<(↑(List.length x.1.ns):Int))∧∀(e_1:Nd),x.1.ns[Int.toNat e]? =some e_1→true=true∧eA (Mt n x) [.box 0 [nds x.1.ns,AV.sl false 0 2 (List UInt8×Int) Ah (uh x).cells,Ab (uh x).out,.int .i64 (uh x).code,.int .i64 (uh x).steps,.int .i64 x.1.L,.int .i64 (uh x).deep,.bool (uh x).done,.int .i64 (uh x).ret],.box 0 [.int .i64 (zl x).kind,.str (zl x).text,Af (zl x).kids,.bool (zl x).blank],.box 0 [.int .i64 e_1.kind,.str e_1.text,Af e_1.kids,.bool e_1.blank]])∧∀(i:Unit),True→Aa ((caN x.1 (zl x)).kind != (1:Int)) (cA Di [.box 0 [nds x.1.ns,AV.sl false 0 2 (List UInt8×Int) Ah (uh x).cells,Ab (uh x).out,.int .i64 (uh x).code,.int .i64 (uh x).steps,.int .i64 x.1.L,.int .i64 (uh x).deep,.bool (uh x).done,.int .i64 (uh x).ret]] fun x_1 y=>rA (Jo n) x [.int .i64 (0:Int),.box 0 [nds x_1.1.ns,AV.sl false 0 2 (List UInt8×Int) Ah (AW (uh x_1)).cells,Ab (AW (uh x_1)).out,.int .i64 (AW (uh x_1)).code,.int .i64 (AW (uh x_1)).steps,.int .i64 x_1.1.L,.int .i64 (AW (uh x_1)).deep,.bool (AW (uh x_1)).done,.int .i64 (AW (uh x_1)).ret],.top]) ((eA (Tl n x) [.box 0 [nds x.1.ns,AV.sl false 0 2 (List UInt8×Int) Ah (uh x).cells,Ab (uh x).out,.int .i64 (uh x).code,.int .i64 (uh x).steps,.int .i64 x.1.L,.int .i64 (uh x).deep,.bool (uh x).done,.int .i64 (uh x).ret],.box 0 [.int .i64 (zl x).kind,.str (zl x).text,Af (zl x).kids,.bool (zl x).blank],.box 0 [.int .i64 (caN x.1 (zl x)).kind,.str (caN x.1 (zl x)).text,Af (caN x.1 (zl x)).kids,.bool (caN x.1 (zl x)).blank],Ab [],.int .i64 (1:Int)]∧∀(i:Int×List Int×UY),auI n x.1 (uh x) (zl x) i.1 (yu i.2.2) i.2.1→Aa (decide (i.1<(↑(List.length (zl x).kids):Int))) (Aa ((yu i.2.2).code==(0:Int)) (((0:Int)≤i.1∧i.1<(↑(List.length (zl x).kids):Int))∧∀(e:Int),(zl x).kids[Int.toNat i.1]? =some e→cA (Dj n) [.box 0 [nds x.1.ns,AV.sl false 0 2 (List UInt8×Int) Ah (yu i.2.2).cells,Ab (yu i.2.2).out,.int .i64 (yu i.2.2).code,.int .i64 (yu i.2.2).steps,.int .i64 x.1.L,.int .i64 (yu i.2.2).deep,.bool (yu i.2.2).done,.int .i64 (yu i.2.2).ret],.int .i64 e] fun x_1 y=>∃(x_2:Int),y.1=x_2∧∃(zs:List Int),Ab [x_2]=Ab zs∧Bo AZ∧AY (List.length i.2.1+List.length zs) (8:Nat)∧inR IntKind.i64 (i.1+(1:Int))∧eN (Tl n x) i [.box 0 [nds x_1.1.ns,AV.sl false 0 2 (List UInt8×Int) Ah (yu y.2).cells,Ab (yu y.2).out,.int .i64 (yu y.2).code,.int .i64 (yu y.2).steps,.int .i64 x_1.1.L,.int .i64 (yu y.2).deep,.bool (yu y.2).done,.int .i64 (yu y.2).ret],.box 0 [.int .i64 (zl x).kind,.str (zl x).text,Af (zl x).kids,.bool (zl x).blank],.box 0 [.int .i64 (caN x.1 (zl x)).kind,.str (caN x.1 (zl x)).text,Af (caN x.1 (zl x)).kids,.bool (caN x.1 (zl x)).blank],Ab (i.2.1++zs),.int .i64 (i.1+(1:Int))]) (XU n x i)) (XU n x i))∧∀(i:Int×List Int×UY),auX n x.1 (uh x) (zl x) i.1 (yu i.2.2) i.2.1→Aa ((yu i.2.2).code != (0:Int)) (rA (Jo n) x [.int .i64 (0:Int),.box 0 [nds x.1.ns,AV.sl false 0 2 (List UInt8×Int) Ah (yu i.2.2).cells,Ab (yu i.2.2).out,.int .i64 (yu i.2.2).code,.int .i64 (yu i.2.2).steps,.int .i64 x.1.L,.int .i64 (yu i.2.2).deep,.bool (yu i.2.2).done,.int .i64 (yu i.2.2).ret],.top]) (Aa ((caN x.1 (zl x)).text== #[(112:UInt8),(114:UInt8),(105:UInt8),(110:UInt8),(116:UInt8)].toList) (Aa ((↑(List.length i.2.1):Int)==(1:Int)) (true=true∧(((0:Int)≤(0:Int)∧(0:Int)<(↑(List.length i.2.1):Int))∧(XP n x i)∧(XP n x i)∧(0:Nat)<List.length i.2.1∧∀(x_1:Int),i.2.1[(0:Nat)]? =some x_1→(XQ n x i x_1)∧(XQ n x i x_1)∧∃(x_2:Int),x_1=x_2∧(∃(zs:List Int),Ab (yu i.2.2).out=Ab zs∧Bo AZ∧AY ((0:Nat)+List.length zs) (8:Nat)∧∃(Co:List Int),Ab [x_2]=Ab Co∧Bo AZ∧AY (List.length ([]++zs)+List.length Co) (8:Nat)∧true=true∧∃(i_1:UY),Fs n x.1 (uh x) (zl x) ((0:Int),yu i_1)∧(nds x.1.ns=nds x.1.ns∧AV.sl false 0 2 (List UInt8×Int) Ah (yu i.2.2).cells=AV.sl false 0 2 (List UInt8×Int) Ah (yu i_1).cells∧Ab ([]++zs++Co)=Ab (yu i_1).out∧(yu i.2.2).code=(yu i_1).code∧(yu i.2.2).steps=(yu i_1).steps∧x.1.L=x.1.L∧(yu i.2.2).deep=(yu i_1).deep∧(yu i.2.2).done=(yu i_1).done∧(yu i.2.2).ret=(yu i_1).ret∧True)∧True)∧∃(zs:List Int),Ab (yu i.2.2).out=Ab zs∧Bo AZ∧AY ((0:Nat)+List.length zs) (8:Nat)∧∃(Co:List Int),Ab [x_2]=Ab Co∧Bo AZ∧AY (List.length ([]++zs)+List.length Co) (8:Nat)∧true=true∧∃(i_1:UY),Fs n x.1 (uh x) (zl x) ((0:Int),yu i_1)∧(nds x.1.ns=nds x.1.ns∧AV.sl false 0 2 (List UInt8×Int) Ah (yu i.2.2).cells=AV.sl false 0 2 (List UInt8×Int) Ah (yu i_1).cells∧Ab ([]++zs++Co)=Ab (yu i_1).out∧(yu i.2.2).code=(yu i_1).code∧(yu i.2.2).steps=(yu i_1).steps∧x.1.L=x.1.L∧(yu i.2.2).deep=(yu i_1).deep∧(yu i.2.2).done=(yu i_1).done∧(yu i.2.2).ret=(yu i_1).ret∧True)∧True)∧∀(i:UY),Fs n x.1 (uh x) (zl x) ((0:Int),yu i)→rA (Jo n) x [.int .i64 (0:Int),.box 0 [nds x.1.ns,AV.sl false 0 2 (List UInt8×Int) Ah (yu i).cells,Ab (yu i).out,.int .i64 (yu i).code,.int .i64 (yu i).steps,.int .i64 x.1.L,.int .i64 (yu i).deep,.bool (yu i).done,.int .i64 (yu i).ret],.top]) (XT n x i)) (XT n x i)))) (fun x=>by kernel_rfl) fun(x:ZX Nd) (hx:Hs n x.1 (uh x) (zl x))=>(by
 dsimp only[XU,XT,XS,XR,XQ,XP,XO,XN,cA,Ah,cls,eA,eN,Tl,XM,Mt,Af,Bu,nds,Ab,rA,Jo,Di,Mr,Dj,usA,Au,Az,mvL,lnL,mvE,lnE,Br]
 obtain⟨s,o,c,t,d,cs,en,re,z⟩:=x;dsimp only[uh,zl] at hx ⊢
 have hx:Hs n s ⟨o,c,t,d,cs,en,re⟩ z:=hx
 have h1:=b7Q hx
 (repeat' first|(apply XA<;>try dsimp only)|(with_reducible first|rfl|exact True.intro|apply AK|apply And.intro|((first|apply AA|apply AI|apply AB|apply AJ)<;>intro _))|(apply Ax<;>intro _)|apply AH|refine Ae () ?_ ?_|((first|apply AO|apply AN|apply AM|apply AL|apply AG|apply AF|apply AE|apply AD|apply AC)<;>try dsimp only)|apply Ae|(refine Prod.forall.2 ?_;intro _;try dsimp only)|(intro _;try dsimp only))
 all_goals(try simp only[KP] at*)
 all_goals(try(have hB:=XG (show auI _ _ _ _ _ _ _ by assumption);dsimp only[yu] at hB))
 all_goals(try(have hB:=b8b (show auX _ _ _ _ _ _ _ by assumption);dsimp only[yu] at hB))
 all_goals(try(rename s.ns[_]? =some _=>hq;have hN:=b7S ‹_› hq))
 all_goals(try(have hD:=b8c (show mQu _ _ _ _ _ _ by assumption);dsimp only[yu] at hD))
 all_goals first
  |rfl
  |exact hx
  |exact()
  |exact True.intro
  |exact b7R hx
  |(rw[hN];done)
  |(exact(a5y hx ‹_›).1)
  |(exact(a5y hx ‹_›).2)
  |exact b7P hx ‹_›
  |exact b7U hx (by omega)
  |exact b7V hx ‹_› ‹_›
  |exact b7W ‹_› ‹_› ‹_› ‹_›
  |exact a5B ‹_› (.inl ‹_›)
  |exact a5B ‹_› (.inr ‹_›)
  |exact b7Y ‹_› ‹_›
  |exact b7Z hx ‹_› (by omega) ‹_› ‹_› ‹_›
  |exact b8a hx ‹_› ‹_› (by omega)
  |exact Ti ‹_› (by omega) (fun h=>absurd h.1 ‹_›) (.inl ‹_›)
  |exact Ti ‹_› (by omega) (fun h=>absurd h.2 ‹_›) (.inl ‹_›)
  |exact Ti ‹_› (by omega) (fun h=>absurd h.1 ‹_›) (.inr (by omega))
  |exact Ti ‹_› (by omega) (fun h=>absurd h.2 ‹_›) (.inr (by omega))
  |exact a5A ‹_› (by omega) (fun h=>absurd h.1 ‹_›) ‹_› (by omega) ‹_›
  |exact a5A ‹_› (by omega) (fun h=>absurd h.2 ‹_›) ‹_› (by omega) ‹_›
  |((try simp only[AQ,AY,List.length_append,List.length_cons,List.length_nil]);omega)
  |skip)
def Ib(n:Nat):Sig:= {X:=ZX Int,args:=fun x=>[usA x.1 (uh x),.int .i64 (zl x)],pre:=fun x=>vPu (n+1) x.1 (uh x) (zl x),Y:=Int×UY,post:=fun x y=>vQu (n+1) x.1 (uh x) (zl x) (yw y),res:=fun x y=> .int .i64 y.1,outs:=fun x y=>[usA x.1 (yu y.2),.top],keep:=true}
def XV(n:Nat)(x:ZX Int):Prop:=cA Di [.box 0 [nds x.1.ns,AV.sl false 0 2 (List UInt8×Int) Ah (uh x).cells,Ab (uh x).out,.int .i64 (uh x).code,.int .i64 (uh x).steps,.int .i64 x.1.L,.int .i64 (uh x).deep,.bool (uh x).done,.int .i64 (uh x).ret]] fun x_2 y=>rA (Ib n) x [.int .i64 (0:Int),.box 0 [nds x_2.1.ns,AV.sl false 0 2 (List UInt8×Int) Ah (AW (uh x_2)).cells,Ab (AW (uh x_2)).out,.int .i64 (AW (uh x_2)).code,.int .i64 (AW (uh x_2)).steps,.int .i64 x_2.1.L,.int .i64 (AW (uh x_2)).deep,.bool (AW (uh x_2)).done,.int .i64 (AW (uh x_2)).ret],.top]
theorem b8x(n:Nat)(h:uAll G n):Aj G Tryz.prog 122 (Ib n):=
 vcFun_okP [(43,0,Di),(149,0,KE),(123,0,Oi),(122,0,(Dj n)),(150,0,(Ep n)),(151,0,(Jo n))] [] false (fun x=>[]) Tryz.func122 rfl (by decide) ⟨Mp,b4e,a5o,h.val,(b7I n h),(b8w n h),trivial⟩ (fun(x:ZX Int)=>True∧Aa ((uh x).code != (0:Int)) (rA (Ib n) x [.int .i64 (0:Int),.box 0 [nds x.1.ns,AV.sl false 0 2 (List UInt8×Int) Ah (uh x).cells,Ab (uh x).out,.int .i64 (uh x).code,.int .i64 (uh x).steps,.int .i64 x.1.L,.int .i64 (uh x).deep,.bool (uh x).done,.int .i64 (uh x).ret],.top]) (((0:Int)≤zl x∧zl x<(↑(List.length x.1.ns):Int))∧∀(e:Nd),x.1.ns[Int.toNat (zl x)]? =some e→Aa (e.kind==(2:Int)) (cA KE [.str e.text] fun x_1 y=>Aa (decide (List.length x_1≤(9:Nat))) (rA (Ib n) x [.int .i64 (if(9:Nat)<List.length x_1 then(0:Int) else Dy x_1),.box 0 [nds x.1.ns,AV.sl false 0 2 (List UInt8×Int) Ah (uh x).cells,Ab (uh x).out,.int .i64 (uh x).code,.int .i64 (uh x).steps,.int .i64 x.1.L,.int .i64 (uh x).deep,.bool (uh x).done,.int .i64 (uh x).ret],.top]) (XV n x)) (Aa (e.kind==(1:Int)) (true=true∧true=true∧∃(x_1:Cls×List UInt8),List.length x_1.1<(4611686018427387904:Nat)∧AV.sl false 0 2 (List UInt8×Int) Ah (uh x).cells=AV.sl false 0 2 (List UInt8×Int) Ah x_1.1∧e.text=x_1.2∧∃(y0:Unit),(∀(y:Unit),True→AV.tup [.int .i64 (nOf (Cz x_1.1 x_1.2)),.bool (Option.isSome (Cz x_1.1 x_1.2))]=AV.tup [.int .i64 (nOf (Cz x_1.1 x_1.2)),.bool (Option.isSome (Cz x_1.1 x_1.2))])∧true=true∧Aa (Option.isSome (Cz x_1.1 x_1.2)) (rA (Ib n) x [.int .i64 (nOf (Cz x_1.1 x_1.2)),.box 0 [nds x.1.ns,AV.sl false 0 2 (List UInt8×Int) Ah (uh x).cells,Ab (uh x).out,.int .i64 (uh x).code,.int .i64 (uh x).steps,.int .i64 x.1.L,.int .i64 (uh x).deep,.bool (uh x).done,.int .i64 (uh x).ret],.top]) (XV n x)) (Aa (e.kind==(11:Int)) (((0:Int)≤(0:Int)∧(0:Int)<(↑(List.length e.kids):Int))∧∀(e_1:Int),e.kids[(0:Nat)]? =some e_1→cA (Dj n) [.box 0 [nds x.1.ns,AV.sl false 0 2 (List UInt8×Int) Ah (uh x).cells,Ab (uh x).out,.int .i64 (uh x).code,.int .i64 (uh x).steps,.int .i64 x.1.L,.int .i64 (uh x).deep,.bool (uh x).done,.int .i64 (uh x).ret],.int .i64 e_1] fun x_1 y=>rA (Ib n) x [.int .i64 y.1,.box 0 [nds x_1.1.ns,AV.sl false 0 2 (List UInt8×Int) Ah (yu y.2).cells,Ab (yu y.2).out,.int .i64 (yu y.2).code,.int .i64 (yu y.2).steps,.int .i64 x_1.1.L,.int .i64 (yu y.2).deep,.bool (yu y.2).done,.int .i64 (yu y.2).ret],.top]) (Aa (e.kind==(7:Int)) (cA (Ep n) [.box 0 [nds x.1.ns,AV.sl false 0 2 (List UInt8×Int) Ah (uh x).cells,Ab (uh x).out,.int .i64 (uh x).code,.int .i64 (uh x).steps,.int .i64 x.1.L,.int .i64 (uh x).deep,.bool (uh x).done,.int .i64 (uh x).ret],.agg [.int .i64 e.kind,.str e.text,Af e.kids,.bool e.blank]] fun x_1 y=>rA (Ib n) x [.int .i64 y.1,.box 0 [nds x_1.1.ns,AV.sl false 0 2 (List UInt8×Int) Ah (yu y.2).cells,Ab (yu y.2).out,.int .i64 (yu y.2).code,.int .i64 (yu y.2).steps,.int .i64 x_1.1.L,.int .i64 (yu y.2).deep,.bool (yu y.2).done,.int .i64 (yu y.2).ret],.top]) (Aa (e.kind==(8:Int)) (((0:Int)≤(0:Int)∧(0:Int)<(↑(List.length e.kids):Int))∧∀(e_1:Int),e.kids[(0:Nat)]? =some e_1→cA (Dj n) [.box 0 [nds x.1.ns,AV.sl false 0 2 (List UInt8×Int) Ah (uh x).cells,Ab (uh x).out,.int .i64 (uh x).code,.int .i64 (uh x).steps,.int .i64 x.1.L,.int .i64 (uh x).deep,.bool (uh x).done,.int .i64 (uh x).ret],.int .i64 e_1] fun x_1 y=>Aa (y.1 != (0:Int)) (((0:Int)≤(1:Int)∧(1:Int)<(↑(List.length e.kids):Int))∧∀(e_2:Int),e.kids[(1:Nat)]? =some e_2→cA (Dj n) [.box 0 [nds x_1.1.ns,AV.sl false 0 2 (List UInt8×Int) Ah (yu y.2).cells,Ab (yu y.2).out,.int .i64 (yu y.2).code,.int .i64 (yu y.2).steps,.int .i64 x_1.1.L,.int .i64 (yu y.2).deep,.bool (yu y.2).done,.int .i64 (yu y.2).ret],.int .i64 e_2] fun x_2 y=>rA (Ib n) x [.int .i64 y.1,.box 0 [nds x_2.1.ns,AV.sl false 0 2 (List UInt8×Int) Ah (yu y.2).cells,Ab (yu y.2).out,.int .i64 (yu y.2).code,.int .i64 (yu y.2).steps,.int .i64 x_2.1.L,.int .i64 (yu y.2).deep,.bool (yu y.2).done,.int .i64 (yu y.2).ret],.top]) (((0:Int)≤(2:Int)∧(2:Int)<(↑(List.length e.kids):Int))∧∀(e_2:Int),e.kids[(2:Nat)]? =some e_2→cA (Dj n) [.box 0 [nds x_1.1.ns,AV.sl false 0 2 (List UInt8×Int) Ah (yu y.2).cells,Ab (yu y.2).out,.int .i64 (yu y.2).code,.int .i64 (yu y.2).steps,.int .i64 x_1.1.L,.int .i64 (yu y.2).deep,.bool (yu y.2).done,.int .i64 (yu y.2).ret],.int .i64 e_2] fun x_2 y=>rA (Ib n) x [.int .i64 y.1,.box 0 [nds x_2.1.ns,AV.sl false 0 2 (List UInt8×Int) Ah (yu y.2).cells,Ab (yu y.2).out,.int .i64 (yu y.2).code,.int .i64 (yu y.2).steps,.int .i64 x_2.1.L,.int .i64 (yu y.2).deep,.bool (yu y.2).done,.int .i64 (yu y.2).ret],.top])) (Aa (e.kind==(5:Int)) (cA (Jo n) [.box 0 [nds x.1.ns,AV.sl false 0 2 (List UInt8×Int) Ah (uh x).cells,Ab (uh x).out,.int .i64 (uh x).code,.int .i64 (uh x).steps,.int .i64 x.1.L,.int .i64 (uh x).deep,.bool (uh x).done,.int .i64 (uh x).ret],.agg [.int .i64 e.kind,.str e.text,Af e.kids,.bool e.blank]] fun x_1 y=>rA (Ib n) x [.int .i64 y.1,.box 0 [nds x_1.1.ns,AV.sl false 0 2 (List UInt8×Int) Ah (yu y.2).cells,Ab (yu y.2).out,.int .i64 (yu y.2).code,.int .i64 (yu y.2).steps,.int .i64 x_1.1.L,.int .i64 (yu y.2).deep,.bool (yu y.2).done,.int .i64 (yu y.2).ret],.top]) (cA Di [.box 0 [nds x.1.ns,AV.sl false 0 2 (List UInt8×Int) Ah (uh x).cells,Ab (uh x).out,.int .i64 (uh x).code,.int .i64 (uh x).steps,.int .i64 x.1.L,.int .i64 (uh x).deep,.bool (uh x).done,.int .i64 (uh x).ret]] fun x_1 y=>rA (Ib n) x [.int .i64 (0:Int),.box 0 [nds x_1.1.ns,AV.sl false 0 2 (List UInt8×Int) Ah (AW (uh x_1)).cells,Ab (AW (uh x_1)).out,.int .i64 (AW (uh x_1)).code,.int .i64 (AW (uh x_1)).steps,.int .i64 x_1.1.L,.int .i64 (AW (uh x_1)).deep,.bool (AW (uh x_1)).done,.int .i64 (AW (uh x_1)).ret],.top])))))))) (fun x=>by kernel_rfl) fun(x:ZX Int) (hx:vPu (n+1) x.1 (uh x) (zl x))=>(by
 dsimp only[XV,cA,Ah,cls,Af,Bu,nds,Ab,rA,KE,Jo,Ep,Di,Dj,Ib,usA,Au,Az,mvL,lnL,mvE,lnE]
 obtain⟨s,o,c,t,d,cs,en,re,k⟩:=x;dsimp only[uh,zl] at hx ⊢
 have hx:vPu (n+1) s ⟨o,c,t,d,cs,en,re⟩ k:=hx
 have hv:=XJ hx
 (repeat' first|(with_reducible first|rfl|exact True.intro|apply AK|apply And.intro|((first|apply AA|apply AI|apply AB|apply AJ)<;>intro _))|(apply Ax<;>intro _)|apply AH|refine Ae () ?_ ?_|((first|apply AO|apply AN|apply AM|apply AL|apply AG|apply AF|apply AE|apply AD|apply AC)<;>try dsimp only)|apply Ae|(refine Prod.forall.2 ?_;intro _;try dsimp only)|(intro _;try dsimp only))
 all_goals(try simp only[KP,decide_eq_true_eq,decide_eq_false_iff_not] at*)
 all_goals(repeat(rename s.ns[_]? =some _=>hq;have hqe:=(Bn hq).symm;clear hq;subst hqe))
 all_goals(try(have hl:=b8d hx ‹_›))
 all_goals(try(have hl:=Tj hx (.inr (.inr ‹_›))))
 all_goals first
  |rfl
  |exact hx
  |exact()
  |exact hv.1.1
  |exact hv.1.2
  |exact b8u hx
  |exact(Tk hx ‹_›).1
  |exact(Tk hx ‹_›).2.1
  |exact(Tk hx ‹_›).2.2
  |exact b8f hx ‹_›
  |exact b8g hx (by omega) ‹_› ‹_›
  |exact b8h hx (by omega) ‹_› ‹_›
  |exact b8j hx (by omega) ‹_› ‹_›
  |exact b8k hx (by omega) ‹_› ‹_›
  |exact b8l hx ‹_›
  |exact b8n hx (by omega) ‹_› ‹_› ‹_›
  |exact a5C hx (.inr (.inl ‹_›))
  |exact b8o hx (by omega) ‹_› ‹_›
  |exact b8e hx ‹_›
  |exact b8p hx (by omega) ‹_› ‹_›
  |exact b8q hx (by omega) ‹_› ‹_› ‹_› ‹_› ‹_› ‹_›
  |exact b8r hx ‹_› ‹_› ‹_› (by omega)
  |exact b8s hx (by omega) ‹_› (show(ndAt s.ns k).kids[0]? =some _ by assumption) ‹_› ‹_› (show(ndAt s.ns k).kids[1]? =some _ by assumption) ‹_›
  |exact b8t hx (by omega) ‹_› (show(ndAt s.ns k).kids[0]? =some _ by assumption) ‹_› ‹_› (show(ndAt s.ns k).kids[2]? =some _ by assumption) ‹_›
  |((try simp only[AQ]);omega)
  |skip)
end Go.My
end
