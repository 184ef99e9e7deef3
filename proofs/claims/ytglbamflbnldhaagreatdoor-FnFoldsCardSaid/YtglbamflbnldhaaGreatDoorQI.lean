/- joined -/
import Derived.Test.YtglbamflbnldhaaGreatDoorQH
set_option linter.unusedSimpArgs false
set_option linter.unusedVariables false
section
namespace Go.My
open Go.Eng Go.Proofs
variable {G:GInv}
def mc(m:Ms):Mc:=⟨m.out,m.code,m.steps,m.deep⟩
def uOk(m:Ms):Prop:=mOk (mc m)∧(Mb m.cells (mc m)∧bdd m.ret)
def Dq(m m2:Ms)(e:Int):Prop:=El (mc m) (mc m2) e∧uOk m2
def usA(s:ZS)(m:Ms):AV:= .box 0 [nds s.ns,cls m.cells,Ad m.out,.int .i64 m.code,.int .i64 m.steps,.int .i64 s.L,.int .i64 m.deep,.bool m.done,.int .i64 m.ret]
abbrev uh {α:Type} (x:ZX α):Ms:=⟨x.2.1,x.2.2.1,x.2.2.2.1,x.2.2.2.2.1,x.2.2.2.2.2.1,x.2.2.2.2.2.2.1,x.2.2.2.2.2.2.2.1⟩
abbrev UY:=List Int×Int×Int×Int×Cls×Bool×Int
abbrev yu (y:UY):Ms:=⟨y.1,y.2.1,y.2.2.1,y.2.2.2.1,y.2.2.2.2.1,y.2.2.2.2.2.1,y.2.2.2.2.2.2⟩
abbrev yw {α:Type} (y:α×UY):α×Ms:=(y.1,yu y.2)
theorem KH(m:Ms):(⟨m.out,m.code,m.steps,m.deep,m.cells,m.done,m.ret⟩:Ms)=m:=rfl
theorem Mo{m:Ms}(h:uOk m):Dq m m 0:=⟨Wl h.1,h⟩
theorem EB{m m2:Ms}{e e2:Int}(h:Dq m m2 e)(he:e≤e2):Dq m m2 e2:=⟨b1R h.1 he,h.2⟩
theorem GC{m m2 m3:Ms}{e e2:Int}(h:Dq m m2 e)(g:Dq m2 m3 e2):Dq m m3 (e+e2):=⟨b1S h.1 g.1,g.2⟩
theorem b3t{m:Ms}:mc (AU m)=PE (mc m):=by
 unfold AU PE mc;split<;>rfl
theorem Mp{m:Ms}(h:uOk m):Dq m (AU m) 0:=by
 have g:=b1T h.1
 rw[←b3t] at g
 refine⟨g,g.1.1,?_,?_⟩
 ·have hc:(AU m).cells=m.cells:=by unfold AU;split<;>rfl
  rw[hc];exact WK h.2.1 g.2.1
 ·have hc:(AU m).ret=m.ret:=by unfold AU;split<;>rfl
  rw[hc];exact h.2.2
theorem b3u{L:Int}{m:Ms}:mc (Bm L m)=RW L (mc m):=by
 unfold Bm RW mc;split
 ·split<;>rfl
 ·rfl
theorem b3v{m:Ms}(h:m.code=0):AU m=⟨m.out,1,m.steps,m.deep,m.cells,m.done,m.ret⟩:=by rw[AU,if_pos h]
theorem b3w{m:Ms}(h:¬m.code=0):AU m=m:=by rw[AU,if_neg h]
theorem a3N{L:Int}{m:Ms}(h:m.code=0)(h2:L≤m.steps):Bm L m=⟨m.out,2,m.steps,m.deep,m.cells,m.done,m.ret⟩:=by rw[Bm,if_pos h,if_pos h2]
theorem WM{L:Int}{m:Ms}(h:m.code=0)(h2:¬L≤m.steps):Bm L m=⟨m.out,0,m.steps+1,m.deep,m.cells,m.done,m.ret⟩:=by rw[Bm,if_pos h,if_neg h2]
theorem a3O{L:Int}{m:Ms}(h:¬m.code=0):Bm L m=m:=by rw[Bm,if_neg h]
def NY:Sig:= {X:=Cls×List UInt8,args:=fun x=>[cls x.1,.str x.2],pre:=fun x=>x.1.length<2^62,Y:=Unit,post:=fun x y=>True,res:=fun x y=> .tup [.int .i64 (nOf (Cy x.1 x.2)),.bool (Cy x.1 x.2).isSome],outs:=fun x y=>[.top,.top],keep:=false}
def SB(x:Cls×List UInt8):LS:= {ι:=Int,inv:=fun i=>Jf x.1 x.2 i,regs:=fun i=>[(0,cls x.1),(1,.str x.2),(6,.int .i64 i)],als:=[],meas:=fun i=>x.1.length-i.toNat}
theorem a3P:Al G Tryz.prog 123 NY:=
 vcFun_okP [] [] false (fun x=>[(2,SB x)]) Tryz.func123 rfl (by decide) trivial (fun(x:Cls×List UInt8)=>(∀(y:Unit),True→(True∧True∧True)∧True∧True∧True)∧eA (SB x) [AV.sl false 0 2 (List UInt8×Int) Ai x.1,.str x.2,.int .i64 (0:Int)]∧∀(i:Int),Jf x.1 x.2 i→Ab (decide (i<(↑(List.length x.1):Int))) (((0:Int)≤i∧i<(↑(List.length x.1):Int))∧∀(e:List UInt8×Int),x.1[Int.toNat i]? =some e→Ab (e.1==x.2) (((0:Int)≤i∧i<(↑(List.length x.1):Int))∧∀(e:List UInt8×Int),x.1[Int.toNat i]? =some e→rA NY x [.tup [.int .i64 e.2,.bool true],.top,.top]) (inR IntKind.i64 (i+(1:Int))∧eN (SB x) i [AV.sl false 0 2 (List UInt8×Int) Ai x.1,.str x.2,.int .i64 (i+(1:Int))])) (rA NY x [.tup [.int .i64 (0:Int),.bool false],.top,.top])) (fun x=>by kernel_rfl) fun(x:Cls×List UInt8) (hx:x.1.length<2^62)=>(by
 dsimp only[Ai,cls,eA,eN,SB,rA,NY,Aw,Az,Bv]
 obtain⟨l,t⟩:=x;dsimp only at hx ⊢
 have hx:l.length<2^62:=hx
 (repeat' first|(with_reducible first|rfl|exact True.intro|apply AK|apply And.intro|((first|apply AA|apply AI|apply AB|apply AJ)<;>intro _))|(apply Ax<;>intro _)|apply AH|refine Af () ?_ ?_|((first|apply AO|apply AN|apply AM|apply AL|apply AG|apply AF|apply AE|apply AD|apply AC)<;>try dsimp only)|apply Af|(refine Prod.forall.2 ?_;intro _;try dsimp only)|(intro _;try dsimp only))
 all_goals(try(repeat(rename(_:List (List UInt8×Int))[_]? =some _=>hq;revert hq;rename(_:List (List UInt8×Int))[_]? =some _=>hr;intro hq;rw[hr] at hq;cases hq)))
 all_goals first
  |rfl
  |exact b3b
  |(rw[a3x ‹_› ‹_› ‹_›];rfl)
  |(rw[a3x ‹_› ‹_› ‹_›];done)
  |exact b3d ‹_› ‹_› ‹_›
  |(rw[a3y ‹_› ‹_›];rfl)
  |(rw[a3y ‹_› ‹_›];done)
  |(have hq:=b3c (show Jf _ _ _ by assumption);(try simp only[AQ]);omega)
  |skip)
def Db:Sig:= {X:=ZX Unit,args:=fun x=>[usA x.1 (uh x)],pre:=fun x=>True,Y:=Unit,post:=fun x y=>True,res:=fun x y=> .int .i64 0,outs:=fun x y=>[usA x.1 (AU (uh x))],keep:=true}
theorem Mq:Al G Tryz.prog 43 Db:=
 vcFun_okP [] [] false (fun x=>[]) Tryz.func43 rfl (by decide) trivial (fun(x:ZX Unit)=>True∧Ab ((uh x).code==(0:Int)) (rA Db x [.int .i64 (0:Int),.box 0 [nds x.1.ns,AV.sl false 0 2 (List UInt8×Int) Ai (uh x).cells,Ad (uh x).out,.int .i64 (1:Int),.int .i64 (uh x).steps,.int .i64 x.1.L,.int .i64 (uh x).deep,.bool (uh x).done,.int .i64 (uh x).ret]]) (rA Db x [.int .i64 (0:Int),.box 0 [nds x.1.ns,AV.sl false 0 2 (List UInt8×Int) Ai (uh x).cells,Ad (uh x).out,.int .i64 (uh x).code,.int .i64 (uh x).steps,.int .i64 x.1.L,.int .i64 (uh x).deep,.bool (uh x).done,.int .i64 (uh x).ret]])) (fun x=>by kernel_rfl) fun(x:ZX Unit) (hx:True)=>(by
 dsimp only[Ai,cls,Bx,nds,Ad,rA,Db,usA,Aw,Az]
 obtain⟨s,o,c,t,d,cs,en,re,_⟩:=x;dsimp only[uh] at hx ⊢
 (repeat' first|(with_reducible first|rfl|exact True.intro|apply AK|apply And.intro|((first|apply AA|apply AI|apply AB|apply AJ)<;>intro _))|(apply Ax<;>intro _)|apply AH|refine Af () ?_ ?_|((first|apply AO|apply AN|apply AM|apply AL|apply AG|apply AF|apply AE|apply AD|apply AC)<;>try dsimp only)|apply Af|(refine Prod.forall.2 ?_;intro _;try dsimp only)|(intro _;try dsimp only))
 all_goals first
  |rfl
  |(rw[b3v ‹_›];done)
  |(rw[b3w ‹_›];done)
  |skip
 all_goals trace_state)
def Hg:Sig:= {X:=ZX Unit,args:=fun x=>[usA x.1 (uh x)],pre:=fun x=>0≤(uh x).steps∧(uh x).steps≤2^40,Y:=Unit,post:=fun x y=>True,res:=fun x y=> .bool (decide ((Bm x.1.L (uh x)).code=0)),outs:=fun x y=>[usA x.1 (Bm x.1.L (uh x))],keep:=true}
theorem a3Q:Al G Tryz.prog 120 Hg:=
 vcFun_okP [] [] false (fun x=>[]) Tryz.func120 rfl (by decide) trivial (fun(x:ZX Unit)=>True∧true=true∧true=true∧Ab ((uh x).code==(0:Int)) (Ab (decide ((uh x).steps≥x.1.L)) (rA Hg x [.bool false,.box 0 [nds x.1.ns,AV.sl false 0 2 (List UInt8×Int) Ai (uh x).cells,Ad (uh x).out,.int .i64 (2:Int),.int .i64 (uh x).steps,.int .i64 x.1.L,.int .i64 (uh x).deep,.bool (uh x).done,.int .i64 (uh x).ret]]) (Ab ((uh x).code != (0:Int)) (rA Hg x [.bool false,.box 0 [nds x.1.ns,AV.sl false 0 2 (List UInt8×Int) Ai (uh x).cells,Ad (uh x).out,.int .i64 (uh x).code,.int .i64 (uh x).steps,.int .i64 x.1.L,.int .i64 (uh x).deep,.bool (uh x).done,.int .i64 (uh x).ret]]) (inR IntKind.i64 ((uh x).steps+(1:Int))∧rA Hg x [.bool true,.box 0 [nds x.1.ns,AV.sl false 0 2 (List UInt8×Int) Ai (uh x).cells,Ad (uh x).out,.int .i64 (uh x).code,.int .i64 ((uh x).steps+(1:Int)),.int .i64 x.1.L,.int .i64 (uh x).deep,.bool (uh x).done,.int .i64 (uh x).ret]]))) (Ab ((uh x).code != (0:Int)) (rA Hg x [.bool false,.box 0 [nds x.1.ns,AV.sl false 0 2 (List UInt8×Int) Ai (uh x).cells,Ad (uh x).out,.int .i64 (uh x).code,.int .i64 (uh x).steps,.int .i64 x.1.L,.int .i64 (uh x).deep,.bool (uh x).done,.int .i64 (uh x).ret]]) (inR IntKind.i64 ((uh x).steps+(1:Int))∧rA Hg x [.bool true,.box 0 [nds x.1.ns,AV.sl false 0 2 (List UInt8×Int) Ai (uh x).cells,Ad (uh x).out,.int .i64 (uh x).code,.int .i64 ((uh x).steps+(1:Int)),.int .i64 x.1.L,.int .i64 (uh x).deep,.bool (uh x).done,.int .i64 (uh x).ret]]))) (fun x=>by kernel_rfl) fun(x:ZX Unit) (hx:0≤(uh x).steps∧(uh x).steps≤2^40)=>(by
 dsimp only[Ai,cls,Bx,nds,Ad,rA,Hg,usA,Aw,Az]
 obtain⟨s,o,c,t,d,cs,en,re,_⟩:=x;dsimp only[uh] at hx ⊢
 have hx:0≤t∧t≤2^40:=hx
 (repeat' first|(with_reducible first|rfl|exact True.intro|apply AK|apply And.intro|((first|apply AA|apply AI|apply AB|apply AJ)<;>intro _))|(apply Ax<;>intro _)|apply AH|refine Af () ?_ ?_|((first|apply AO|apply AN|apply AM|apply AL|apply AG|apply AF|apply AE|apply AD|apply AC)<;>try dsimp only)|apply Af|(refine Prod.forall.2 ?_;intro _;try dsimp only)|(intro _;try dsimp only))
 all_goals first
  |rfl
  |(rw[a3N ‹_› ‹_›];done)
  |(rw[a3N ‹_› ‹_›];rfl)
  |(rw[WM ‹_› (by omega)];done)
  |(rw[WM ‹_› (by omega)];rfl)
  |(rw[WM ‹_› (by omega)];assumption)
  |(rw[a3O ‹_›];done)
  |(rw[a3O ‹_›];simp [*];done)
  |((try simp only[AQ]);omega)
  |skip
 all_goals trace_state)
def uKm(n:Int)(m:Ms):Ms:=if inn n (-1000000000) 1000000000 then m else AU m
theorem b3x{n L:Int}{m:Ms}:NQ n L m=some (HK n,uKm n m):=by
 unfold NQ HK uKm;split<;>rfl
def HL:Sig:= {X:=ZX Int,args:=fun x=>[usA x.1 (uh x),.int .i64 (zl x)],pre:=fun x=>True,Y:=Unit,post:=fun x y=>True,res:=fun x y=> .int .i64 (HK (zl x)),outs:=fun x y=>[usA x.1 (uKm (zl x) (uh x)),.top],keep:=true}
theorem a3R:Al G Tryz.prog 42 HL:=
 vcFun_okP [(46,0,CN),(43,0,Db)] [] false (fun x=>[]) Tryz.func42 rfl (by decide) ⟨Kx,Mq,trivial⟩ (fun(x:ZX Int)=>True∧cA CN [.int .i64 (zl x),.int .i64 (-1000000000:Int),.int .i64 (1000000000:Int)] fun x_1 y=>Ab (!inn x_1.1 x_1.2.1 x_1.2.2) (cA Db [.box 0 [nds x.1.ns,AV.sl false 0 2 (List UInt8×Int) Ai (uh x).cells,Ad (uh x).out,.int .i64 (uh x).code,.int .i64 (uh x).steps,.int .i64 x.1.L,.int .i64 (uh x).deep,.bool (uh x).done,.int .i64 (uh x).ret]] fun x_2 y=>rA HL x [.int .i64 (0:Int),.box 0 [nds x_2.1.ns,AV.sl false 0 2 (List UInt8×Int) Ai (AU (uh x_2)).cells,Ad (AU (uh x_2)).out,.int .i64 (AU (uh x_2)).code,.int .i64 (AU (uh x_2)).steps,.int .i64 x_2.1.L,.int .i64 (AU (uh x_2)).deep,.bool (AU (uh x_2)).done,.int .i64 (AU (uh x_2)).ret],.top]) (rA HL x [.int .i64 (zl x),.box 0 [nds x.1.ns,AV.sl false 0 2 (List UInt8×Int) Ai (uh x).cells,Ad (uh x).out,.int .i64 (uh x).code,.int .i64 (uh x).steps,.int .i64 x.1.L,.int .i64 (uh x).deep,.bool (uh x).done,.int .i64 (uh x).ret],.top])) (fun x=>by kernel_rfl) fun(x:ZX Int) (hx:True)=>(by
 dsimp only[cA,Ai,cls,Bx,nds,Ad,rA,CN,Db,HL,usA,Aw,Az,mvL,lnL,mvE,lnE]
 obtain⟨s,o,c,t,d,cs,en,re,n⟩:=x;dsimp only[uh,zl] at hx ⊢
 (repeat' first|(with_reducible first|rfl|exact True.intro|apply AK|apply And.intro|((first|apply AA|apply AI|apply AB|apply AJ)<;>intro _))|(apply Ax<;>intro _)|apply AH|refine Af () ?_ ?_|((first|apply AO|apply AN|apply AM|apply AL|apply AG|apply AF|apply AE|apply AD|apply AC)<;>try dsimp only)|apply Af|(refine Prod.forall.2 ?_;intro _;try dsimp only)|(intro _;try dsimp only))
 all_goals first
  |rfl
  |exact()
  |(simp [HK,uKm, *];done)
  |skip
 all_goals trace_state)
def KI:Sig:= {X:=ZX (List UInt8×Int×Int),args:=fun x=>[usA x.1 (uh x),.str (zl x).1,.int .i64 (zl x).2.1,.int .i64 (zl x).2.2],pre:=fun x=>bdd (zl x).2.1∧bdd (zl x).2.2,Y:=Unit,post:=fun x y=>True,res:=fun x y=> .int .i64 (HK (CS (zl x).1 (zl x).2.1 (zl x).2.2)),outs:=fun x y=>[usA x.1 (uKm (CS (zl x).1 (zl x).2.1 (zl x).2.2) (uh x)),.top,.top,.top],keep:=true}
theorem b3y:Al G Tryz.prog 186 KI:=
 vcFun_okP [(42,0,HL)] [] false (fun x=>[]) Tryz.func186 rfl (by decide) ⟨a3R,trivial⟩ (fun(x:ZX (List UInt8×Int×Int))=>True∧Ab ((zl x).1== #[(43:UInt8)].toList) (inR IntKind.i64 ((zl x).2.1+(zl x).2.2)∧cA HL [.box 0 [nds x.1.ns,AV.sl false 0 2 (List UInt8×Int) Ai (uh x).cells,Ad (uh x).out,.int .i64 (uh x).code,.int .i64 (uh x).steps,.int .i64 x.1.L,.int .i64 (uh x).deep,.bool (uh x).done,.int .i64 (uh x).ret],.int .i64 ((zl x).2.1+(zl x).2.2)] fun x_1 y=>rA KI x [.int .i64 (HK (zl x_1)),.box 0 [nds x_1.1.ns,AV.sl false 0 2 (List UInt8×Int) Ai (uKm (zl x_1) (uh x_1)).cells,Ad (uKm (zl x_1) (uh x_1)).out,.int .i64 (uKm (zl x_1) (uh x_1)).code,.int .i64 (uKm (zl x_1) (uh x_1)).steps,.int .i64 x_1.1.L,.int .i64 (uKm (zl x_1) (uh x_1)).deep,.bool (uKm (zl x_1) (uh x_1)).done,.int .i64 (uKm (zl x_1) (uh x_1)).ret],.top,.top,.top]) (Ab ((zl x).1== #[(45:UInt8)].toList) (inR IntKind.i64 ((zl x).2.1-(zl x).2.2)∧cA HL [.box 0 [nds x.1.ns,AV.sl false 0 2 (List UInt8×Int) Ai (uh x).cells,Ad (uh x).out,.int .i64 (uh x).code,.int .i64 (uh x).steps,.int .i64 x.1.L,.int .i64 (uh x).deep,.bool (uh x).done,.int .i64 (uh x).ret],.int .i64 ((zl x).2.1-(zl x).2.2)] fun x_1 y=>rA KI x [.int .i64 (HK (zl x_1)),.box 0 [nds x_1.1.ns,AV.sl false 0 2 (List UInt8×Int) Ai (uKm (zl x_1) (uh x_1)).cells,Ad (uKm (zl x_1) (uh x_1)).out,.int .i64 (uKm (zl x_1) (uh x_1)).code,.int .i64 (uKm (zl x_1) (uh x_1)).steps,.int .i64 x_1.1.L,.int .i64 (uKm (zl x_1) (uh x_1)).deep,.bool (uKm (zl x_1) (uh x_1)).done,.int .i64 (uKm (zl x_1) (uh x_1)).ret],.top,.top,.top]) (inR IntKind.i64 ((zl x).2.1*(zl x).2.2)∧cA HL [.box 0 [nds x.1.ns,AV.sl false 0 2 (List UInt8×Int) Ai (uh x).cells,Ad (uh x).out,.int .i64 (uh x).code,.int .i64 (uh x).steps,.int .i64 x.1.L,.int .i64 (uh x).deep,.bool (uh x).done,.int .i64 (uh x).ret],.int .i64 ((zl x).2.1*(zl x).2.2)] fun x_1 y=>rA KI x [.int .i64 (HK (zl x_1)),.box 0 [nds x_1.1.ns,AV.sl false 0 2 (List UInt8×Int) Ai (uKm (zl x_1) (uh x_1)).cells,Ad (uKm (zl x_1) (uh x_1)).out,.int .i64 (uKm (zl x_1) (uh x_1)).code,.int .i64 (uKm (zl x_1) (uh x_1)).steps,.int .i64 x_1.1.L,.int .i64 (uKm (zl x_1) (uh x_1)).deep,.bool (uKm (zl x_1) (uh x_1)).done,.int .i64 (uKm (zl x_1) (uh x_1)).ret],.top,.top,.top]))) (fun x=>by kernel_rfl) fun(x:ZX (List UInt8×Int×Int)) (hx:bdd (zl x).2.1∧bdd (zl x).2.2)=>(by
 dsimp only[cA,Ai,cls,Bx,nds,Ad,rA,HL,KI,usA,Aw,Az,mvL,lnL,mvE,lnE]
 obtain⟨s,o,c,t,d,cs,en,re,z,a,b⟩:=x;dsimp only[uh,zl] at hx ⊢
 obtain⟨h1,h2⟩:=hx
 have hm:=a1z h1.1 h1.2 h2.1 h2.2
 unfold bdd at h1 h2
 (repeat' first|(with_reducible first|rfl|exact True.intro|apply AK|apply And.intro|((first|apply AA|apply AI|apply AB|apply AJ)<;>intro _))|(apply Ax<;>intro _)|apply AH|refine Af () ?_ ?_|((first|apply AO|apply AN|apply AM|apply AL|apply AG|apply AF|apply AE|apply AD|apply AC)<;>try dsimp only)|apply Af|(refine Prod.forall.2 ?_;intro _;try dsimp only)|(intro _;try dsimp only))
 all_goals first
  |rfl
  |(simp [CS, *];done)
  |((try simp only[AQ]);omega)
  |skip
 all_goals trace_state)
def Fp:Sig:= {X:=Bool,args:=fun x=>[.bool x],pre:=fun x=>True,Y:=Unit,post:=fun x y=>True,res:=fun x y=> .int .i64 (tr x),outs:=fun x y=>[.top],keep:=false}
theorem b3z:Al G Tryz.prog 185 Fp:=
 vcFun_okP [] [] false (fun x=>[]) Tryz.func185 rfl (by decide) trivial (fun(x:Bool)=>(∀(y:Unit),True→True∧True∧True)∧Ab x (rA Fp x [.int .i64 (1:Int),.top]) (rA Fp x [.int .i64 (0:Int),.top])) (fun x=>by kernel_rfl) fun(x:Bool) (hx:True)=>(by
 dsimp only[rA,Fp,Aw,Az]
 (repeat' first|(with_reducible first|rfl|exact True.intro|apply AK|apply And.intro|((first|apply AA|apply AI|apply AB|apply AJ)<;>intro _))|(apply Ax<;>intro _)|apply AH|refine Af () ?_ ?_|((first|apply AO|apply AN|apply AM|apply AL|apply AG|apply AF|apply AE|apply AD|apply AC)<;>try dsimp only)|apply Af|(refine Prod.forall.2 ?_;intro _;try dsimp only)|(intro _;try dsimp only))
 all_goals first
  |rfl
  |(simp [tr, *];done)
  |skip)
def JN:Sig:= {X:=List Nd×List UInt8,args:=fun x=>[nds x.1,.str x.2],pre:=fun x=>tOk x.1,Y:=Unit,post:=fun x y=>True,res:=fun x y=> .int .i64 (Bl x.1 x.2 (Bf x.1).kids),outs:=fun x y=>[.top,.top],keep:=false}
def PZ(x:List Nd×List UInt8):LS:= {ι:=Int,inv:=fun i=>mtI x.1 x.2 i,regs:=fun i=>[(0,nds x.1),(1,.str x.2),(5,Ag (Bf x.1).kids),(6,.int .i64 i)],als:=[],meas:=fun i=>(Bf x.1).kids.length-i.toNat}
theorem a3S:Al G Tryz.prog 14 JN:=
 vcFun_okP [(17,0,Fg)] [] false (fun x=>[(5,PZ x)]) Tryz.func14 rfl (by decide) ⟨VX,trivial⟩ (fun(x:List Nd×List UInt8)=>(∀(y:Unit),True→True∧True∧True∧True)∧cA Fg [nds x.1] fun x_1 y=>Ab (!BB x_1) (rA JN x [.int .i64 (-1:Int),.top,.top]) (inR IntKind.i64 ((↑(List.length x.1):Int)-(1:Int))∧((0:Int)≤(↑(List.length x.1):Int)-(1:Int)∧(↑(List.length x.1):Int)-(1:Int)<(↑(List.length x.1):Int))∧∀(e:Nd),x.1[Int.toNat ((↑(List.length x.1):Int)-(1:Int))]? =some e→eA (PZ x) [nds x.1,.str x.2,Ag e.kids,.int .i64 (0:Int)]∧∀(i:Int),mtI x.1 x.2 i→Ab (decide (i<(↑(List.length (Bf x.1).kids):Int))) (((0:Int)≤i∧i<(↑(List.length (Bf x.1).kids):Int))∧∀(e:Int),(Bf x.1).kids[Int.toNat i]? =some e→((0:Int)≤e∧e<(↑(List.length x.1):Int))∧∀(e_1:Nd),x.1[Int.toNat e]? =some e_1→Ab (e_1.kind==(20:Int)) (((0:Int)≤i∧i<(↑(List.length (Bf x.1).kids):Int))∧∀(e:Int),(Bf x.1).kids[Int.toNat i]? =some e→((0:Int)≤e∧e<(↑(List.length x.1):Int))∧∀(e_2:Nd),x.1[Int.toNat e]? =some e_2→Ab (e_2.text==x.2) (((0:Int)≤i∧i<(↑(List.length (Bf x.1).kids):Int))∧∀(e:Int),(Bf x.1).kids[Int.toNat i]? =some e→rA JN x [.int .i64 e,.top,.top]) (inR IntKind.i64 (i+(1:Int))∧eN (PZ x) i [nds x.1,.str x.2,Ag (Bf x.1).kids,.int .i64 (i+(1:Int))])) (inR IntKind.i64 (i+(1:Int))∧eN (PZ x) i [nds x.1,.str x.2,Ag (Bf x.1).kids,.int .i64 (i+(1:Int))])) (rA JN x [.int .i64 (-1:Int),.top,.top]))) (fun x=>by kernel_rfl) fun(x:List Nd×List UInt8) (hx:tOk x.1)=>(by
 dsimp only[cA,eA,eN,PZ,Ag,Bx,nds,rA,JN,Fg,Aw,Az,mvL,lnL,mvE,lnE,Bv]
 obtain⟨ns,t⟩:=x;dsimp only at hx ⊢
 have hx:tOk ns:=hx
 have hl:=hx.2
 have hz:∃z,ns[((ns.length:Int)-1).toNat]? =some z:=⟨_,List.getElem?_eq_getElem (by omega)⟩
 obtain⟨z,hz⟩:=hz
 have hr:Bf ns=z:=Bo hz
 (repeat' first|(with_reducible first|rfl|exact True.intro|apply AK|apply And.intro|((first|apply AA|apply AI|apply AB|apply AJ)<;>intro _))|(apply Ax<;>intro _)|apply AH|refine Af () ?_ ?_|((first|apply AO|apply AN|apply AM|apply AL|apply AG|apply AF|apply AE|apply AD|apply AC)<;>try dsimp only)|apply Af|(refine Prod.forall.2 ?_;intro _;try dsimp only)|(intro _;try dsimp only))
 all_goals(try(have hB:=b3i (show mtI _ _ _ by assumption)))
 all_goals(try(repeat(rename(_:List Int)[_]? =some _=>hq;revert hq;rename(_:List Int)[_]? =some _=>hr;intro hq;rw[hr] at hq;cases hq)))
 all_goals(try(repeat(rename(_:List Nd)[_]? =some _=>hq;revert hq;rename(_:List Nd)[_]? =some _=>hr;intro hq;rw[hr] at hq;cases hq)))
 all_goals first
  |rfl
  |exact hx.1.2
  |exact b3h hx
  |exact a3F ‹_› ‹_› ‹_› ‹_› ‹_›
  |exact(a3F ‹_› ‹_› ‹_› ‹_› ‹_›).symm
  |exact a3G ‹_› ‹_› ‹_› (fun h=>absurd h.1 ‹_›)
  |exact a3G ‹_› ‹_› ‹_› (fun h=>absurd h.2 ‹_›)
  |exact(b3j ‹_› ‹_›).symm
  |exact(WE hx ‹_›).1
  |exact(WE hx ‹_›).2
  |(have hq:=WE hx (show(Bf ns).kids[_]? =some _ by assumption);omega)
  |(rename ns[_]? =some _=>hq;rw[hz] at hq;cases hq;rw[hr];done)
  |(exfalso;have hq:=hx.1.1;rename BB _=false=>hr;rw[hr] at hq;cases hq;done)
  |((try simp only[AQ]);omega)
  |skip)
def vPu(n:Nat)(s:ZS)(m:Ms)(k:Int):Prop:=(zB s∧uOk m)∧(kOk s.ns (mc m) n k∧wK s.ns k≤pot (mc m))
def cQu(c:Be Int)(s:ZS)(m:Ms)(e:Int)(y:Int×Ms):Prop:=(c s.L m=some y∧bdd y.1)∧Dq m y.2 e
def vQu(n:Nat)(s:ZS)(m:Ms)(k:Int)(y:Int×Ms):Prop:=cQu ((eu s.ns n).val k) s m (wK s.ns k) y
def bPu(n:Nat)(s:ZS)(m:Ms)(k:Int):Prop:=(zB s∧uOk m)∧(((0≤k∧k<s.ns.length)∧Bz s.ns k≤12)∧Ct s.ns (mc m) n k)
def bQu(n:Nat)(s:ZS)(m:Ms)(k:Int)(y:Ms):Prop:=(eu s.ns n).blk k s.L m=some ((),y)∧Dq m y 0
def Di(n:Nat):Sig:= {X:=ZX Int,args:=fun x=>[usA x.1 (uh x),.int .i64 (zl x)],pre:=fun x=>vPu n x.1 (uh x) (zl x),Y:=Int×UY,post:=fun x y=>vQu n x.1 (uh x) (zl x) (yw y),res:=fun x y=> .int .i64 y.1,outs:=fun x y=>[usA x.1 (yu y.2),.top],keep:=true}
def HM(n:Nat):Sig:= {X:=ZX Int,args:=fun x=>[usA x.1 (uh x),.int .i64 (zl x)],pre:=fun x=>bPu n x.1 (uh x) (zl x),Y:=UY,post:=fun x y=>bQu n x.1 (uh x) (zl x) (yu y),res:=fun x y=> .tup [],outs:=fun x y=>[usA x.1 (yu y),.top],keep:=true}
structure uAll (G:GInv) (n:Nat):Prop where
 val:Al G Go.Proofs.Tryz.prog 122 (Di n)
 blk:Al G Go.Proofs.Tryz.prog 74 (HM n)
def cPu(n:Nat)(s:ZS)(m:Ms)(x:Nd):Prop:=(zB s∧uOk m)∧((∀c∈x.kids,kOk s.ns (mc m) n c)∧((x.kids.length≤12∧1≤x.kids.length)∧wS s.ns x.kids≤pot (mc m)))
theorem SC{n:Nat}{s:ZS}{m0 m:Ms}{x:Nd}{i c:Int}(hp:cPu n s m0 x)(h:lpI s (mc m0) (mc m) x.kids i (wS s.ns x.kids))(hu:uOk m)(hc:x.kids[i.toNat]? =some c):vPu n s m c:=
 ⟨⟨hp.1.1,hu⟩,NP (hp.2.1 c (BJ hc)) h.1.2.2,a3L h hc hp.2.2.2⟩
theorem EV{x:Nd}{i:Nat}{c:Int}(h:x.kids[i]? =some c):Bu x i=c:=by simp [Bu,List.getD,h]
def cuI(n:Nat)(s:ZS)(m0:Ms)(x:Nd)(a:Int)(m:Ms):Prop:=((lpI s (mc m0) (mc m) x.kids 1 (wS s.ns x.kids)∧uOk m)∧(bdd a∧x.kids.length≤12))∧chU (eu s.ns n).val x s.L m0=chT (eu s.ns n).val x a s.L m
abbrev JO (n:Nat) (s:ZS) (m0:Ms) (x:Nd) (y:Int×Ms):Prop:=cQu (chU (eu s.ns n).val x) s m0 (wS s.ns x.kids) y
theorem b3A{n:Nat}{s:ZS}{m:Ms}{x:Nd}{c:Int}(hp:cPu n s m x)(hc:x.kids[0]? =some c):vPu n s m c:=SC (i:=0) hp (WJ hp.1.2.1) hp.1.2 hc
theorem KJ{n:Nat}{s:ZS}{m:Ms}{x:Nd}{c:Int}{y:Int×Ms}(hp:cPu n s m x)(hc:x.kids[0]? =some c)(hv:vQu n s m c y):cuI n s m x y.1 y.2:=by
 refine⟨⟨⟨Mn (i:=0) (WJ hp.1.2.1) hc hv.2.1,hv.2.2⟩,hv.1.2,hp.2.2.1.1⟩,?_⟩
 rw[chU,Ce,EV hc,hv.1.1];rfl
def It(n:Nat)(s:ZS)(m0:Ms)(x:Nd)(i a:Int)(m:Ms):Prop:=
 ((lpI s (mc m0) (mc m) x.kids i (wS s.ns x.kids)∧uOk m)∧(bdd a∧x.kids.length≤12))∧chU (eu s.ns n).val x s.L m0=Ja (eu s.ns n).val x.text (x.kids.drop i.toNat) a s.L m
theorem a3T{n:Nat}{s:ZS}{m0 m:Ms}{x:Nd}{a:Int}(h:cuI n s m0 x a m)(ht:x.text=[38,38]∨x.text=[124,124]):It n s m0 x 1 a m:=by
 refine⟨h.1,?_⟩
 rw[h.2,chT,if_pos ht];rfl
theorem b3B{n:Nat}{s:ZS}{m0 m:Ms}{x:Nd}{i a:Int}(h:It n s m0 x i a m):(0≤i∧i≤x.kids.length)∧x.kids.length≤12:=⟨h.1.1.1.1.1,h.1.2.2⟩
theorem b3C{n:Nat}{s:ZS}{m0 m:Ms}{x:Nd}{i a c:Int}(hp:cPu n s m0 x)(h:It n s m0 x i a m)(hc:x.kids[i.toNat]? =some c):vPu n s m c:=SC hp h.1.1.1 h.1.1.2 hc
theorem b3D{V:Int→Be Int}{t:List UInt8}{l:List Int}{a L:Int}{m:Ms}(h:l=[]∨¬m.code=0∨¬(a != 0)=(t==[38,38])):Ja V t l a L m=some (tr (a != 0),m):=by
 cases l with
 |nil=>rfl
 |cons k l=>
  rw[Ja,Cu]
  split
  ·rename_i e
   rcases h with h|h|h
   ·cases h
   ·exact absurd e h
   ·rw[if_neg h];rfl
  ·rfl
theorem WN{n:Nat}{s:ZS}{m0 m:Ms}{x:Nd}{i a:Int}(h:It n s m0 x i a m)(hx:¬i<(x.kids.length:Int)∨¬m.code=0∨¬(a != 0)=(x.text==[38,38])):JO n s m0 x (tr (a != 0),m):=by
 refine⟨⟨?_,a3M⟩,PY h.1.1.1,h.1.1.2⟩
 rw[h.2,b3D]
 rcases hx with hx|hx
 ·exact .inl (List.drop_eq_nil_of_le (by have:=h.1.1.1.1.1;omega))
 ·exact .inr hx
theorem b3E{n:Nat}{s:ZS}{m0 m:Ms}{x:Nd}{i a c:Int}{y:Int×Ms}(h:It n s m0 x i a m)(hq:m.code=0)(he:(a != 0)=(x.text==[38,38]))(hc:x.kids[i.toNat]? =some c)(hv:vQu n s m c y):It n s m0 x (i+1) y.1 y.2:=by
 refine⟨⟨⟨Mn h.1.1.1 hc hv.2.1,hv.2.2⟩,hv.1.2,h.1.2.2⟩,?_⟩
 rw[h.2,GA h.1.1.1.1.1.1 hc,Ja,Cu,if_pos hq,if_pos he,Ce,hv.1.1];rfl
def Mr(x:Nd):Prop:=¬(x.text=[38,38]∨x.text=[124,124])∧(x.text=[61,61]∨x.text=[60])
theorem b3F{n:Nat}{s:ZS}{m0 m:Ms}{x:Nd}{a:Int}(h:cuI n s m0 x a m)(ht:Mr x)(hl:¬(x.kids.length:Int)=2):JO n s m0 x (0,AU m):=by
 have g:=Mp h.1.1.2
 refine⟨⟨?_,Hf⟩,EB (GC ⟨PY h.1.1.1,h.1.1.2⟩ g) (by omega)⟩
 rw[h.2,chT,if_neg ht.1,if_pos ht.2,if_pos (by omega)];rfl
theorem b3G{n:Nat}{s:ZS}{m0 m:Ms}{x:Nd}{a c:Int}(hp:cPu n s m0 x)(h:cuI n s m0 x a m)(hc:x.kids[1]? =some c):vPu n s m c:=SC (i:=1) hp h.1.1.1 h.1.1.2 hc
theorem WO{n:Nat}{s:ZS}{m0 m:Ms}{x:Nd}{a c:Int}{y:Int×Ms}(h:cuI n s m0 x a m)(ht:Mr x)(hl:(x.kids.length:Int)=2)(hc:x.kids[1]? =some c)(hv:vQu n s m c y){v:Int}(e:v=if x.text=[61,61] then tr (a==y.1) else tr (decide (a<y.1))):JO n s m0 x (v,y.2):=by
 subst e
 refine⟨⟨?_,by split<;>exact a3M⟩,b3s (i:=1) h.1.1.1 hc hv.2.1,hv.2.2⟩
 rw[h.2,chT,if_neg ht.1,if_pos ht.2,if_neg (by omega),Ce,EV hc,hv.1.1];rfl
theorem b3H{n:Nat}{s:ZS}{m0 m:Ms}{x:Nd}{a c:Int}{y:Int×Ms}(h:cuI n s m0 x a m)(ht:Mr x)(hl:(x.kids.length:Int)=2)(hc:x.kids[1]? =some c)(hv:vQu n s m c y)(h1:x.text=[61,61])(h2:a=y.1):JO n s m0 x (tr true,y.2):=WO (v:=tr true) h ht hl hc hv (by rw[if_pos h1,h2];simp)
theorem b3I{n:Nat}{s:ZS}{m0 m:Ms}{x:Nd}{a c:Int}{y:Int×Ms}(h:cuI n s m0 x a m)(ht:Mr x)(hl:(x.kids.length:Int)=2)(hc:x.kids[1]? =some c)(hv:vQu n s m c y)(h1:x.text=[61,61])(h2:a≠y.1):JO n s m0 x (tr false,y.2):=WO (v:=tr false) h ht hl hc hv (by rw[if_pos h1,beq_eq_false_iff_ne.2 h2])
theorem b3J{n:Nat}{s:ZS}{m0 m:Ms}{x:Nd}{a c:Int}{y:Int×Ms}(h:cuI n s m0 x a m)(ht:Mr x)(hl:(x.kids.length:Int)=2)(hc:x.kids[1]? =some c)(hv:vQu n s m c y)(h1:x.text=[60]):JO n s m0 x (tr (decide (a<y.1)),y.2):=WO h ht hl hc hv (by rw[if_neg (by rw[h1];decide)])
theorem WP{α β γ δ ε ζ η θ ι κ μ:Type}{p q:α×β×γ×δ×ε×ζ×η×θ×ι×κ×μ→Prop}(a:α)(b:β)(c:γ)(d:δ)(e:ε)(f:ζ)(g:η)(h:θ)(i:ι)(j:κ)(k:μ)(h2:q (a,b,c,d,e,f,g,h,i,j,k))(h1:p (a,b,c,d,e,f,g,h,i,j,k)):∃x,p x∧q x:=⟨_,h1,h2⟩
theorem b3K{x:Nd}(h1:x.text=[61,61])(h2:x.text=[60]):False:=by rw[h1] at h2;cases h2
theorem b3L{x:Nd}(h1:¬x.text=[38,38])(h2:¬x.text=[124,124])(h:x.text=[61,61]):Mr x:=⟨fun h=>h.elim h1 h2,.inl h⟩
theorem b3M{x:Nd}(h1:¬x.text=[38,38])(h2:¬x.text=[124,124])(h:x.text=[60]):Mr x:=⟨fun h=>h.elim h1 h2,.inr h⟩
def Hh(n:Nat)(s:ZS)(m0:Ms)(x:Nd)(i a:Int)(m:Ms):Prop:=
 ((lpI s (mc m0) (mc m) x.kids i (wS s.ns x.kids)∧uOk m)∧(bdd a∧x.kids.length≤12))∧chU (eu s.ns n).val x s.L m0=Hc (eu s.ns n).val x.text (x.kids.drop i.toNat) a s.L m
theorem b3N{n:Nat}{s:ZS}{m0 m:Ms}{x:Nd}{a:Int}(h:cuI n s m0 x a m)(h1:¬x.text=[38,38])(h2:¬x.text=[124,124])(h3:¬x.text=[61,61])(h4:¬x.text=[60]):Hh n s m0 x 1 a m:=by
 refine⟨h.1,?_⟩
 rw[h.2,chT,if_neg (fun h=>h.elim h1 h2),if_neg (fun h=>h.elim h3 h4)];rfl
theorem b3O{n:Nat}{s:ZS}{m0 m:Ms}{x:Nd}{i a:Int}(h:Hh n s m0 x i a m):((0≤i∧i≤x.kids.length)∧x.kids.length≤12)∧bdd a:=⟨⟨h.1.1.1.1.1,h.1.2.2⟩,h.1.2.1⟩
theorem b3P{n:Nat}{s:ZS}{m0 m:Ms}{x:Nd}{i a c:Int}(hp:cPu n s m0 x)(h:Hh n s m0 x i a m)(hc:x.kids[i.toNat]? =some c):vPu n s m c:=SC hp h.1.1.1 h.1.1.2 hc
theorem a3U{V:Int→Be Int}{t:List UInt8}{l:List Int}{a L:Int}{m:Ms}(h:l=[]∨¬m.code=0):Hc V t l a L m=some (a,m):=by
 cases l with
 |nil=>rfl
 |cons k l=>
  rw[Hc,Cu]
  rcases h with h|h
  ·cases h
  ·rw[if_neg h]
theorem a3V{n:Nat}{s:ZS}{m0 m:Ms}{x:Nd}{i a:Int}(h:Hh n s m0 x i a m)(hx:¬i<(x.kids.length:Int)∨¬m.code=0):JO n s m0 x (a,m):=by
 refine⟨⟨?_,h.1.2.1⟩,PY h.1.1.1,h.1.1.2⟩
 rw[h.2,a3U]
 rcases hx with hx|hx
 ·exact .inl (List.drop_eq_nil_of_le (by have:=h.1.1.1.1.1;omega))
 ·exact .inr hx
theorem a3W{n:Nat}{s:ZS}{m0 m:Ms}{x:Nd}{i a c:Int}{y:Int×Ms}(h:Hh n s m0 x i a m)(hq:m.code=0)(hc:x.kids[i.toNat]? =some c)(hv:vQu n s m c y):
 chU (eu s.ns n).val x s.L m0=Fk a (Ce (NQ (CS x.text a y.1)) (Hc (eu s.ns n).val x.text (x.kids.drop (i+1).toNat))) s.L y.2:=by
 rw[h.2,GA h.1.1.1.1.1.1 hc,Hc,Cu,if_pos hq,Ce,hv.1.1];rfl
theorem b3Q{n:Nat}{s:ZS}{m0 m:Ms}{x:Nd}{i a c:Int}{y:Int×Ms}(h:Hh n s m0 x i a m)(hq:m.code=0)(hc:x.kids[i.toNat]? =some c)(hv:vQu n s m c y)(hy:¬y.2.code=0):Hh n s m0 x (i+1) a y.2:=by
 refine⟨⟨⟨Mn h.1.1.1 hc hv.2.1,hv.2.2⟩,h.1.2⟩,?_⟩
 rw[a3W h hq hc hv,Cu,if_neg hy,a3U (.inr hy)]
theorem b3R{r:Int}:bdd (HK r):=by unfold HK;split;rename_i h;exact Ih.1 h;exact Hf
theorem b3S{m:Ms}{r:Int}(h:uOk m):Dq m (uKm r m) 0:=by unfold uKm;split;exact Mo h;exact Mp h
theorem b3T{n:Nat}{s:ZS}{m0 m:Ms}{x:Nd}{i a c:Int}{y:Int×Ms}(h:Hh n s m0 x i a m)(hq:m.code=0)(hc:x.kids[i.toNat]? =some c)(hv:vQu n s m c y)(hy:y.2.code=0):Hh n s m0 x (i+1) (HK (CS x.text a y.1)) (uKm (CS x.text a y.1) y.2):=by
 have g:=GC hv.2 (b3S (r:=CS x.text a y.1) hv.2.2)
 rw[show wK s.ns c+0=wK s.ns c by omega] at g
 refine⟨⟨⟨Mn h.1.1.1 hc g.1,g.2⟩,b3R,h.1.2.2⟩,?_⟩
 rw[a3W h hq hc hv,Cu,if_pos hy,Ce,b3x];rfl
theorem b3U{n:Nat}{s:ZS}{m:Ms}{c:Int}{y:Int×Ms}(h:vQu n s m c y):bdd y.1:=h.1.2
attribute [local irreducible] vPu vQu cQu It Hh cuI chU chT Ja Hc
def Ep(n:Nat):Sig:= {X:=ZX Nd,args:=fun x=>[usA x.1 (uh x),.agg (ndA false (zl x))],pre:=fun x=>cPu n x.1 (uh x) (zl x),Y:=Int×UY,post:=fun x y=>JO n x.1 (uh x) (zl x) (yw y),res:=fun x y=> .int .i64 y.1,outs:=fun x y=>[usA x.1 (yu y.2),.top],keep:=true}
def Qa(n:Nat)(x:ZX Nd):LS:= {ι:=Int×Int×UY,inv:=fun i=>It n x.1 (uh x) (zl x) i.1 i.2.1 (yu i.2.2),regs:=fun i=>[(0,usA x.1 (yu i.2.2)),(3,.box 0 (ndA false (zl x))),(5,.int .i64 i.2.1),(6,.int .i64 i.1)],als:=[],meas:=fun i=>(zl x).kids.length-i.1.toNat}
def Qb(n:Nat)(x:ZX Nd):LS:= {ι:=Int×Int×UY,inv:=fun i=>Hh n x.1 (uh x) (zl x) i.1 i.2.1 (yu i.2.2),regs:=fun i=>[(0,usA x.1 (yu i.2.2)),(3,.box 0 (ndA false (zl x))),(5,.int .i64 i.2.1),(8,.int .i64 i.1)],als:=[],meas:=fun i=>(zl x).kids.length-i.1.toNat}
def Qc(n:Nat)(x:ZX Nd)(i:Int×Int×UY):Prop:=cA Fp [.bool (i.2.1 != (0:Int))] fun x_2 y=>rA (Ep n) x [.int .i64 (tr x_2),.box 0 [nds x.1.ns,AV.sl false 0 2 (List UInt8×Int) Ai (yu i.2.2).cells,Ad (yu i.2.2).out,.int .i64 (yu i.2.2).code,.int .i64 (yu i.2.2).steps,.int .i64 x.1.L,.int .i64 (yu i.2.2).deep,.bool (yu i.2.2).done,.int .i64 (yu i.2.2).ret],.top]
def WQ(n:Nat)(x:ZX Nd)(i:Int×Int×UY):Prop:=Ab ((yu i.2.2).code==(0:Int)) (Ab ((i.2.1 != (0:Int))==((zl x).text== #[(38:UInt8),(38:UInt8)].toList)) (((0:Int)≤i.1∧i.1<(↑(List.length (zl x).kids):Int))∧∀(e:Int),(zl x).kids[Int.toNat i.1]? =some e→cA (Di n) [.box 0 [nds x.1.ns,AV.sl false 0 2 (List UInt8×Int) Ai (yu i.2.2).cells,Ad (yu i.2.2).out,.int .i64 (yu i.2.2).code,.int .i64 (yu i.2.2).steps,.int .i64 x.1.L,.int .i64 (yu i.2.2).deep,.bool (yu i.2.2).done,.int .i64 (yu i.2.2).ret],.int .i64 e] fun x_2 y=>inR IntKind.i64 (i.1+(1:Int))∧eN (Qa n x) i [.box 0 [nds x_2.1.ns,AV.sl false 0 2 (List UInt8×Int) Ai (yu y.2).cells,Ad (yu y.2).out,.int .i64 (yu y.2).code,.int .i64 (yu y.2).steps,.int .i64 x_2.1.L,.int .i64 (yu y.2).deep,.bool (yu y.2).done,.int .i64 (yu y.2).ret],.box 0 [.int .i64 (zl x).kind,.str (zl x).text,Ag (zl x).kids,.bool (zl x).blank],.int .i64 y.1,.int .i64 (i.1+(1:Int))]) (Qc n x i)) (Qc n x i)
theorem b3V(n:Nat)(h:uAll G n):Al G Tryz.prog 150 (Ep n):=
 vcFun_okP [(122,0,(Di n)),(185,0,Fp),(43,0,Db),(186,0,KI)] [] false (fun x=>[(6,Qa n x),(17,Qb n x)]) Tryz.func150 rfl (by decide) ⟨h.val,b3z,Mq,b3y,trivial⟩ (fun(x:ZX Nd)=>True∧((0:Int)≤(0:Int)∧(0:Int)<(↑(List.length (zl x).kids):Int))∧∀(e:Int),(zl x).kids[(0:Nat)]? =some e→cA (Di n) [.box 0 [nds x.1.ns,AV.sl false 0 2 (List UInt8×Int) Ai (uh x).cells,Ad (uh x).out,.int .i64 (uh x).code,.int .i64 (uh x).steps,.int .i64 x.1.L,.int .i64 (uh x).deep,.bool (uh x).done,.int .i64 (uh x).ret],.int .i64 e] fun x_1 y=>Ab ((zl x).text== #[(38:UInt8),(38:UInt8)].toList) (eA (Qa n x) [.box 0 [nds x_1.1.ns,AV.sl false 0 2 (List UInt8×Int) Ai (yu y.2).cells,Ad (yu y.2).out,.int .i64 (yu y.2).code,.int .i64 (yu y.2).steps,.int .i64 x_1.1.L,.int .i64 (yu y.2).deep,.bool (yu y.2).done,.int .i64 (yu y.2).ret],.box 0 [.int .i64 (zl x).kind,.str (zl x).text,Ag (zl x).kids,.bool (zl x).blank],.int .i64 y.1,.int .i64 (1:Int)]∧∀(i:Int×Int×UY),It n x.1 (uh x) (zl x) i.1 i.2.1 (yu i.2.2)→Ab (decide (i.1<(↑(List.length (zl x).kids):Int))) (WQ n x i) (Qc n x i)) (Ab ((zl x).text== #[(124:UInt8),(124:UInt8)].toList) (eA (Qa n x) [.box 0 [nds x_1.1.ns,AV.sl false 0 2 (List UInt8×Int) Ai (yu y.2).cells,Ad (yu y.2).out,.int .i64 (yu y.2).code,.int .i64 (yu y.2).steps,.int .i64 x_1.1.L,.int .i64 (yu y.2).deep,.bool (yu y.2).done,.int .i64 (yu y.2).ret],.box 0 [.int .i64 (zl x).kind,.str (zl x).text,Ag (zl x).kids,.bool (zl x).blank],.int .i64 y.1,.int .i64 (1:Int)]∧∀(i:Int×Int×UY),It n x.1 (uh x) (zl x) i.1 i.2.1 (yu i.2.2)→Ab (decide (i.1<(↑(List.length (zl x).kids):Int))) (WQ n x i) (Qc n x i)) (Ab ((zl x).text== #[(61:UInt8),(61:UInt8)].toList) (Ab ((↑(List.length (zl x).kids):Int) != (2:Int)) (cA Db [.box 0 [nds x_1.1.ns,AV.sl false 0 2 (List UInt8×Int) Ai (yu y.2).cells,Ad (yu y.2).out,.int .i64 (yu y.2).code,.int .i64 (yu y.2).steps,.int .i64 x_1.1.L,.int .i64 (yu y.2).deep,.bool (yu y.2).done,.int .i64 (yu y.2).ret]] fun x_2 y=>rA (Ep n) x [.int .i64 (0:Int),.box 0 [nds x_2.1.ns,AV.sl false 0 2 (List UInt8×Int) Ai (AU (uh x_2)).cells,Ad (AU (uh x_2)).out,.int .i64 (AU (uh x_2)).code,.int .i64 (AU (uh x_2)).steps,.int .i64 x_2.1.L,.int .i64 (AU (uh x_2)).deep,.bool (AU (uh x_2)).done,.int .i64 (AU (uh x_2)).ret],.top]) (((0:Int)≤(1:Int)∧(1:Int)<(↑(List.length (zl x).kids):Int))∧∀(e:Int),(zl x).kids[(1:Nat)]? =some e→cA (Di n) [.box 0 [nds x_1.1.ns,AV.sl false 0 2 (List UInt8×Int) Ai (yu y.2).cells,Ad (yu y.2).out,.int .i64 (yu y.2).code,.int .i64 (yu y.2).steps,.int .i64 x_1.1.L,.int .i64 (yu y.2).deep,.bool (yu y.2).done,.int .i64 (yu y.2).ret],.int .i64 e] fun x_2 y_1=>Ab ((zl x).text== #[(61:UInt8),(61:UInt8)].toList) (Ab (y.1==y_1.1) (cA Fp [.bool true] fun x_3 y=>rA (Ep n) x [.int .i64 (tr x_3),.box 0 [nds x_2.1.ns,AV.sl false 0 2 (List UInt8×Int) Ai (yu y_1.2).cells,Ad (yu y_1.2).out,.int .i64 (yu y_1.2).code,.int .i64 (yu y_1.2).steps,.int .i64 x_2.1.L,.int .i64 (yu y_1.2).deep,.bool (yu y_1.2).done,.int .i64 (yu y_1.2).ret],.top]) (Ab ((zl x).text== #[(60:UInt8)].toList) (cA Fp [.bool (decide (y.1<y_1.1))] fun x_3 y=>rA (Ep n) x [.int .i64 (tr x_3),.box 0 [nds x_2.1.ns,AV.sl false 0 2 (List UInt8×Int) Ai (yu y_1.2).cells,Ad (yu y_1.2).out,.int .i64 (yu y_1.2).code,.int .i64 (yu y_1.2).steps,.int .i64 x_2.1.L,.int .i64 (yu y_1.2).deep,.bool (yu y_1.2).done,.int .i64 (yu y_1.2).ret],.top]) (cA Fp [.bool false] fun x_3 y=>rA (Ep n) x [.int .i64 (tr x_3),.box 0 [nds x_2.1.ns,AV.sl false 0 2 (List UInt8×Int) Ai (yu y_1.2).cells,Ad (yu y_1.2).out,.int .i64 (yu y_1.2).code,.int .i64 (yu y_1.2).steps,.int .i64 x_2.1.L,.int .i64 (yu y_1.2).deep,.bool (yu y_1.2).done,.int .i64 (yu y_1.2).ret],.top]))) (Ab ((zl x).text== #[(60:UInt8)].toList) (cA Fp [.bool (decide (y.1<y_1.1))] fun x_3 y=>rA (Ep n) x [.int .i64 (tr x_3),.box 0 [nds x_2.1.ns,AV.sl false 0 2 (List UInt8×Int) Ai (yu y_1.2).cells,Ad (yu y_1.2).out,.int .i64 (yu y_1.2).code,.int .i64 (yu y_1.2).steps,.int .i64 x_2.1.L,.int .i64 (yu y_1.2).deep,.bool (yu y_1.2).done,.int .i64 (yu y_1.2).ret],.top]) (cA Fp [.bool false] fun x_3 y=>rA (Ep n) x [.int .i64 (tr x_3),.box 0 [nds x_2.1.ns,AV.sl false 0 2 (List UInt8×Int) Ai (yu y_1.2).cells,Ad (yu y_1.2).out,.int .i64 (yu y_1.2).code,.int .i64 (yu y_1.2).steps,.int .i64 x_2.1.L,.int .i64 (yu y_1.2).deep,.bool (yu y_1.2).done,.int .i64 (yu y_1.2).ret],.top])))) (Ab ((zl x).text== #[(60:UInt8)].toList) (Ab ((↑(List.length (zl x).kids):Int) != (2:Int)) (cA Db [.box 0 [nds x_1.1.ns,AV.sl false 0 2 (List UInt8×Int) Ai (yu y.2).cells,Ad (yu y.2).out,.int .i64 (yu y.2).code,.int .i64 (yu y.2).steps,.int .i64 x_1.1.L,.int .i64 (yu y.2).deep,.bool (yu y.2).done,.int .i64 (yu y.2).ret]] fun x_2 y=>rA (Ep n) x [.int .i64 (0:Int),.box 0 [nds x_2.1.ns,AV.sl false 0 2 (List UInt8×Int) Ai (AU (uh x_2)).cells,Ad (AU (uh x_2)).out,.int .i64 (AU (uh x_2)).code,.int .i64 (AU (uh x_2)).steps,.int .i64 x_2.1.L,.int .i64 (AU (uh x_2)).deep,.bool (AU (uh x_2)).done,.int .i64 (AU (uh x_2)).ret],.top]) (((0:Int)≤(1:Int)∧(1:Int)<(↑(List.length (zl x).kids):Int))∧∀(e:Int),(zl x).kids[(1:Nat)]? =some e→cA (Di n) [.box 0 [nds x_1.1.ns,AV.sl false 0 2 (List UInt8×Int) Ai (yu y.2).cells,Ad (yu y.2).out,.int .i64 (yu y.2).code,.int .i64 (yu y.2).steps,.int .i64 x_1.1.L,.int .i64 (yu y.2).deep,.bool (yu y.2).done,.int .i64 (yu y.2).ret],.int .i64 e] fun x_2 y_1=>Ab ((zl x).text== #[(61:UInt8),(61:UInt8)].toList) (Ab (y.1==y_1.1) (cA Fp [.bool true] fun x_3 y=>rA (Ep n) x [.int .i64 (tr x_3),.box 0 [nds x_2.1.ns,AV.sl false 0 2 (List UInt8×Int) Ai (yu y_1.2).cells,Ad (yu y_1.2).out,.int .i64 (yu y_1.2).code,.int .i64 (yu y_1.2).steps,.int .i64 x_2.1.L,.int .i64 (yu y_1.2).deep,.bool (yu y_1.2).done,.int .i64 (yu y_1.2).ret],.top]) (Ab ((zl x).text== #[(60:UInt8)].toList) (cA Fp [.bool (decide (y.1<y_1.1))] fun x_3 y=>rA (Ep n) x [.int .i64 (tr x_3),.box 0 [nds x_2.1.ns,AV.sl false 0 2 (List UInt8×Int) Ai (yu y_1.2).cells,Ad (yu y_1.2).out,.int .i64 (yu y_1.2).code,.int .i64 (yu y_1.2).steps,.int .i64 x_2.1.L,.int .i64 (yu y_1.2).deep,.bool (yu y_1.2).done,.int .i64 (yu y_1.2).ret],.top]) (cA Fp [.bool false] fun x_3 y=>rA (Ep n) x [.int .i64 (tr x_3),.box 0 [nds x_2.1.ns,AV.sl false 0 2 (List UInt8×Int) Ai (yu y_1.2).cells,Ad (yu y_1.2).out,.int .i64 (yu y_1.2).code,.int .i64 (yu y_1.2).steps,.int .i64 x_2.1.L,.int .i64 (yu y_1.2).deep,.bool (yu y_1.2).done,.int .i64 (yu y_1.2).ret],.top]))) (Ab ((zl x).text== #[(60:UInt8)].toList) (cA Fp [.bool (decide (y.1<y_1.1))] fun x_3 y=>rA (Ep n) x [.int .i64 (tr x_3),.box 0 [nds x_2.1.ns,AV.sl false 0 2 (List UInt8×Int) Ai (yu y_1.2).cells,Ad (yu y_1.2).out,.int .i64 (yu y_1.2).code,.int .i64 (yu y_1.2).steps,.int .i64 x_2.1.L,.int .i64 (yu y_1.2).deep,.bool (yu y_1.2).done,.int .i64 (yu y_1.2).ret],.top]) (cA Fp [.bool false] fun x_3 y=>rA (Ep n) x [.int .i64 (tr x_3),.box 0 [nds x_2.1.ns,AV.sl false 0 2 (List UInt8×Int) Ai (yu y_1.2).cells,Ad (yu y_1.2).out,.int .i64 (yu y_1.2).code,.int .i64 (yu y_1.2).steps,.int .i64 x_2.1.L,.int .i64 (yu y_1.2).deep,.bool (yu y_1.2).done,.int .i64 (yu y_1.2).ret],.top])))) (eA (Qb n x) [.box 0 [nds x_1.1.ns,AV.sl false 0 2 (List UInt8×Int) Ai (yu y.2).cells,Ad (yu y.2).out,.int .i64 (yu y.2).code,.int .i64 (yu y.2).steps,.int .i64 x_1.1.L,.int .i64 (yu y.2).deep,.bool (yu y.2).done,.int .i64 (yu y.2).ret],.box 0 [.int .i64 (zl x).kind,.str (zl x).text,Ag (zl x).kids,.bool (zl x).blank],.int .i64 y.1,.int .i64 (1:Int)]∧∀(i:Int×Int×UY),Hh n x.1 (uh x) (zl x) i.1 i.2.1 (yu i.2.2)→Ab (decide (i.1<(↑(List.length (zl x).kids):Int))) (Ab ((yu i.2.2).code==(0:Int)) (((0:Int)≤i.1∧i.1<(↑(List.length (zl x).kids):Int))∧∀(e:Int),(zl x).kids[Int.toNat i.1]? =some e→cA (Di n) [.box 0 [nds x.1.ns,AV.sl false 0 2 (List UInt8×Int) Ai (yu i.2.2).cells,Ad (yu i.2.2).out,.int .i64 (yu i.2.2).code,.int .i64 (yu i.2.2).steps,.int .i64 x.1.L,.int .i64 (yu i.2.2).deep,.bool (yu i.2.2).done,.int .i64 (yu i.2.2).ret],.int .i64 e] fun x_2 y=>Ab ((yu y.2).code==(0:Int)) (cA KI [.box 0 [nds x_2.1.ns,AV.sl false 0 2 (List UInt8×Int) Ai (yu y.2).cells,Ad (yu y.2).out,.int .i64 (yu y.2).code,.int .i64 (yu y.2).steps,.int .i64 x_2.1.L,.int .i64 (yu y.2).deep,.bool (yu y.2).done,.int .i64 (yu y.2).ret],.str (zl x).text,.int .i64 i.2.1,.int .i64 y.1] fun x_3 y=>inR IntKind.i64 (i.1+(1:Int))∧eN (Qb n x) i [.box 0 [nds x_3.1.ns,AV.sl false 0 2 (List UInt8×Int) Ai (uKm (CS (zl x_3).1 (zl x_3).2.1 (zl x_3).2.2) (uh x_3)).cells,Ad (uKm (CS (zl x_3).1 (zl x_3).2.1 (zl x_3).2.2) (uh x_3)).out,.int .i64 (uKm (CS (zl x_3).1 (zl x_3).2.1 (zl x_3).2.2) (uh x_3)).code,.int .i64 (uKm (CS (zl x_3).1 (zl x_3).2.1 (zl x_3).2.2) (uh x_3)).steps,.int .i64 x_3.1.L,.int .i64 (uKm (CS (zl x_3).1 (zl x_3).2.1 (zl x_3).2.2) (uh x_3)).deep,.bool (uKm (CS (zl x_3).1 (zl x_3).2.1 (zl x_3).2.2) (uh x_3)).done,.int .i64 (uKm (CS (zl x_3).1 (zl x_3).2.1 (zl x_3).2.2) (uh x_3)).ret],.box 0 [.int .i64 (zl x).kind,.str (zl x).text,Ag (zl x).kids,.bool (zl x).blank],.int .i64 (HK (CS (zl x_3).1 (zl x_3).2.1 (zl x_3).2.2)),.int .i64 (i.1+(1:Int))]) (inR IntKind.i64 (i.1+(1:Int))∧eN (Qb n x) i [.box 0 [nds x_2.1.ns,AV.sl false 0 2 (List UInt8×Int) Ai (yu y.2).cells,Ad (yu y.2).out,.int .i64 (yu y.2).code,.int .i64 (yu y.2).steps,.int .i64 x_2.1.L,.int .i64 (yu y.2).deep,.bool (yu y.2).done,.int .i64 (yu y.2).ret],.box 0 [.int .i64 (zl x).kind,.str (zl x).text,Ag (zl x).kids,.bool (zl x).blank],.int .i64 i.2.1,.int .i64 (i.1+(1:Int))])) (rA (Ep n) x [.int .i64 i.2.1,.box 0 [nds x.1.ns,AV.sl false 0 2 (List UInt8×Int) Ai (yu i.2.2).cells,Ad (yu i.2.2).out,.int .i64 (yu i.2.2).code,.int .i64 (yu i.2.2).steps,.int .i64 x.1.L,.int .i64 (yu i.2.2).deep,.bool (yu i.2.2).done,.int .i64 (yu i.2.2).ret],.top])) (rA (Ep n) x [.int .i64 i.2.1,.box 0 [nds x.1.ns,AV.sl false 0 2 (List UInt8×Int) Ai (yu i.2.2).cells,Ad (yu i.2.2).out,.int .i64 (yu i.2.2).code,.int .i64 (yu i.2.2).steps,.int .i64 x.1.L,.int .i64 (yu i.2.2).deep,.bool (yu i.2.2).done,.int .i64 (yu i.2.2).ret],.top])))))) (fun x=>by kernel_rfl) fun(x:ZX Nd) (hx:cPu n x.1 (uh x) (zl x))=>(by
 dsimp only[WQ,Qc,cA,Ai,cls,eA,eN,Qb,Qa,Ag,Bx,nds,Ad,rA,Fp,Ep,Db,KI,Di,usA,Aw,Az,mvL,lnL,mvE,lnE,Bv]
 obtain⟨s,o,c,t,d,cs,en,re,z⟩:=x;dsimp only[uh,zl] at hx ⊢
 have hx:cPu n s ⟨o,c,t,d,cs,en,re⟩ z:=hx
 have hl:=hx.2.2.1
 (repeat' first|(apply WP<;>try dsimp only)|(with_reducible first|rfl|exact True.intro|apply AK|apply And.intro|((first|apply AA|apply AI|apply AB|apply AJ)<;>intro _))|(apply Ax<;>intro _)|apply AH|refine Af () ?_ ?_|((first|apply AO|apply AN|apply AM|apply AL|apply AG|apply AF|apply AE|apply AD|apply AC)<;>try dsimp only)|apply Af|(refine Prod.forall.2 ?_;intro _;try dsimp only)|(intro _;try dsimp only))
 all_goals(try simp only[KH] at*)
 all_goals(try(have hB:=b3B (show It _ _ _ _ _ _ _ by assumption)))
 all_goals(try(have hB:=b3O (show Hh _ _ _ _ _ _ _ by assumption)))
 all_goals(try(have hT:=b3L ‹_› ‹_› (show z.text=[61,61] by assumption)))
 all_goals(try(have hT:=b3M ‹_› ‹_› (show z.text=[60] by assumption)))
 all_goals first
  |rfl
  |exact hx
  |exact()
  |exact b3A hx ‹_›
  |exact a3T (KJ hx ‹_› ‹_›) (.inl ‹_›)
  |exact a3T (KJ hx ‹_› ‹_›) (.inr ‹_›)
  |exact b3C hx ‹_› ‹_›
  |exact WN ‹_› (.inl ‹_›)
  |exact WN ‹_› (.inr (.inl ‹_›))
  |exact WN ‹_› (.inr (.inr ‹_›))
  |exact b3E ‹_› ‹_› ‹_› ‹_› ‹_›
  |exact b3F (KJ hx ‹_› ‹_›) hT ‹_›
  |exact b3G hx (KJ hx (show z.kids[0]? =some _ by assumption) ‹_›) ‹_›
  |exact(b3K ‹_› ‹_›).elim
  |exact absurd (show z.text=[61,61] by assumption) ‹_›
  |exact absurd (show z.text=[60] by assumption) ‹_›
  |exact b3H (KJ hx (show z.kids[0]? =some _ by assumption) ‹_›) hT ‹_› (show z.kids[1]? =some _ by assumption) ‹_› ‹_› ‹_›
  |exact b3I (KJ hx (show z.kids[0]? =some _ by assumption) ‹_›) hT ‹_› (show z.kids[1]? =some _ by assumption) ‹_› ‹_› ‹_›
  |exact b3J (KJ hx (show z.kids[0]? =some _ by assumption) ‹_›) hT ‹_› (show z.kids[1]? =some _ by assumption) ‹_› ‹_›
  |exact b3N (KJ hx ‹_› ‹_›) ‹_› ‹_› ‹_› ‹_›
  |exact b3P hx ‹_› ‹_›
  |exact a3V ‹_› (.inl ‹_›)
  |exact a3V ‹_› (.inr ‹_›)
  |exact b3Q ‹_› ‹_› ‹_› ‹_› ‹_›
  |exact b3T ‹_› ‹_› ‹_› ‹_› ‹_›
  |exact hB.2
  |exact b3U ‹_›
  |((try simp only[AQ]);omega)
  |skip)
end Go.My
end
section
namespace Go.My
open Go.Eng Go.Proofs
variable {G:GInv}
def naU(s:ZS)(x:Nd)(az:List Int)(i:Int)(cs:Cls):Prop:=
 (((0≤i∧i≤az.length)∧az.length≤12)∧(x.kids.length:Int)=az.length+1)∧(((∀p∈cs,bdd p.2)∧(cs.length:Int)≤i)∧Hb s.ns (x.kids.take az.length) az []=Hb s.ns ((x.kids.take az.length).drop i.toNat) (az.drop i.toNat) cs)
def kU(s:ZS)(k:Int):Prop:=(((0≤k∧k<s.ns.length)∧Bz s.ns k≤13)∧(Aa s.ns k).kind=20)
def mPu(n:Nat)(s:ZS)(m:Ms)(k:Int)(az:List Int):Prop:=((zB s∧uOk m)∧((∀a∈az,bdd a)∧az.length≤12))∧(kU s k∧(21-m.deep)*((s.ns.length:Int)+1)+s.ns.length<n)
abbrev mQu (n:Nat) (s:ZS) (m:Ms) (k:Int) (az:List Int) (y:Int×Ms):Prop:=cQu (meU s.ns (eu s.ns n).blk k az) s m 0 y
theorem a3X{s:ZS}{t:List UInt8}(hz:zB s)(h:¬Bl s.ns t (Bf s.ns).kids<0):kU s (Bl s.ns t (Bf s.ns).kids):=by
 rcases @Wk s.ns t (Bf s.ns).kids with e|e
 ·omega
 ·exact⟨a1U hz.1 e.1,e.2⟩
theorem b3W{s:ZS}{k:Int}(hz:zB s)(h:kU s k):1≤(Aa s.ns k).kids.length∧(Aa s.ns k).kids.length≤12:=by
 obtain⟨⟨h1,h2⟩,h3⟩:=h
 have p:=DZ (PJ hz.1 h1)
 refine⟨?_,p.2.1⟩
 have hk:=p.2.2.2.2.2.1
 rw[h3] at hk
 match hm:(Aa s.ns k).kids with
 |[]=>rw[hm] at hk;simp [Ci,EO] at hk
 |a::l=>simp
theorem b3X{n:Nat}{s:ZS}{m:Ms}{k:Int}{az:List Int}(hp:mPu n s m k az)(h:¬((Aa s.ns k).kids.length:Int)-1=az.length):mQu n s m k az (0,AU m):=by
 refine⟨⟨?_,Hf⟩,Mp hp.1.1.2⟩
 rw[meU,if_pos (by omega)];rfl
theorem b3Y{n:Nat}{s:ZS}{m:Ms}{k:Int}{az:List Int}(hp:mPu n s m k az)(h:((Aa s.ns k).kids.length:Int)-1=az.length):naU s (Aa s.ns k) az 0 []:=⟨⟨⟨by omega,hp.1.2.2⟩,by omega⟩,⟨by simp,by simp⟩,rfl⟩
theorem a3Y{s:ZS}{x:Nd}{az:List Int}{i:Int}{cs:Cls}(h:naU s x az i cs):(((0≤i∧i≤az.length)∧az.length≤12)∧(cs.length:Int)≤i)∧(x.kids.length:Int)=az.length+1:=⟨⟨h.1.1,h.2.1.2⟩,h.1.2⟩
theorem WR{t:List UInt8}{n:Int}:∀ {l:Cls},(Cs l t n).length≤l.length+1
 |[]=>by simp [Cs]
 |p::l=>by
  rw[Cs];split
  ·simp
  ·have:= @WR t n l;simp;omega
theorem WS{t:List UInt8}{n:Int}(hn:bdd n):∀ {l:Cls},(∀p∈l,bdd p.2)→∀p∈Cs l t n,bdd p.2
 |[],_,p,h=>by simp [Cs] at h;subst h;exact hn
 |q::l,hl,p,h=>by
  rw[Cs] at h;split at h
  ·rcases List.mem_cons.1 h with rfl|h
   ·exact hn
   ·exact hl p (by simp [h])
  ·rcases List.mem_cons.1 h with rfl|h
   ·exact hl p (by simp)
   ·exact WS hn (fun p hp=>hl p (by simp [hp])) p h
theorem b3Z{n:Nat}{s:ZS}{m:Ms}{k:Int}{az:List Int}{i c a:Int}{e:Nd}{cs:Cls}(hp:mPu n s m k az)(h:naU s (Aa s.ns k) az i cs)(hc:(Aa s.ns k).kids[i.toNat]? =some c)(ha:az[i.toNat]? =some a)(he:s.ns[c.toNat]? =some e):naU s (Aa s.ns k) az (i+1) (Cs cs e.text a):=by
 have hl:=(List.getElem?_eq_some_iff.1 ha).1
 have hb:=h.1.1
 refine⟨⟨⟨by omega,hb.2⟩,h.1.2⟩,⟨WS (hp.1.2.1 a (BJ ha)) h.2.1.1,by have:= @WR e.text a cs;have:=h.2.1.2;omega⟩,?_⟩
 have hc2:((Aa s.ns k).kids.take az.length)[i.toNat]? =some c:=by rw[List.getElem?_take,if_pos (by omega)];exact hc
 rw[h.2.2,GA hb.1.1 hc2,GA hb.1.1 ha,Hb,Bo he]
theorem SD{n:Nat}{s:ZS}{m:Ms}{k:Int}{az:List Int}{i:Nat}{c:Int}(hp:mPu n s m k az)(hc:(Aa s.ns k).kids[i]? =some c):(0≤c∧c<s.ns.length)∧Bz s.ns c≤12:=by
 have h1:=(HG hp.1.1.1.1 hp.2.1.1.1).2 c (BJ hc)
 have:=hp.2.1.1;omega
theorem b4a{n:Nat}{s:ZS}{m:Ms}{k b i:Int}{az:List Int}{cs:Cls}{j:Nat}(hp:mPu n s m k az)(hb:(Aa s.ns k).kids[j]? =some b)(h:naU s (Aa s.ns k) az i cs):bPu n s ⟨m.out,m.code,m.steps,m.deep,cs,false,0⟩ b:=by
 have hm:=hp.1.1.2
 refine⟨⟨hp.1.1.1,hm.1,⟨h.2.1.1,?_⟩,Hf⟩,SD hp hb,?_⟩
 ·have:=h.2.1.2;have:=h.1.1;have:=hm.1.1.1;simp only[mc] at*;omega
 ·have h1:=hp.2.2;have h2:=(SD hp hb).1;unfold Ct;simp only[mc];omega
theorem b4b{n:Nat}{s:ZS}{m y:Ms}{k b i:Int}{az:List Int}{cs:Cls}(hp:mPu n s m k az)(hl:((Aa s.ns k).kids.length:Int)-1=az.length)
 (hb:(Aa s.ns k).kids[(((Aa s.ns k).kids.length:Int)-1).toNat]? =some b) (h:naU s (Aa s.ns k) az i cs) (hi:¬i<(az.length:Int)) (hy:bQu n s ⟨m.out,m.code,m.steps,m.deep,cs,false,0⟩ b y):mQu n s m k az (y.ret,⟨y.out,y.code,y.steps,y.deep,y.cells,m.done,m.ret⟩):=by
 have e1:cs=Hb s.ns ((Aa s.ns k).kids.take az.length) az []:=by
  rw[h.2.2,List.drop_eq_nil_of_le (by simp only[List.length_take];omega)];rfl
 have e2:Bu (Aa s.ns k) az.length=b:=by
  rw[show(((Aa s.ns k).kids.length:Int)-1).toNat=az.length by omega] at hb
  exact EV hb
 have g:=hy.2
 refine⟨⟨?_,g.2.2.2⟩,g.1,g.2.1,g.2.2.1,hp.1.1.2.2.2⟩
 rw[meU,if_neg (by omega),e2,←e1,hy.1];rfl
attribute [local irreducible] bQu bPu cQu naU
def Mt(n:Nat):Sig:= {X:=ZX (Int×List Int),args:=fun x=>[usA x.1 (uh x),.int .i64 (zl x).1,Ag (zl x).2],pre:=fun x=>mPu n x.1 (uh x) (zl x).1 (zl x).2,Y:=Int×UY,post:=fun x y=>mQu n x.1 (uh x) (zl x).1 (zl x).2 (yw y),res:=fun x y=> .int .i64 y.1,outs:=fun x y=>[usA x.1 (yu y.2),.top,.top],keep:=true}
def WT(n:Nat)(x:ZX (Int×List Int)):LS:= {ι:=Int×Cls,inv:=fun i=>naU x.1 (Aa x.1.ns (zl x).1) (zl x).2 i.1 i.2,regs:=fun i=>[(0,usA x.1 ⟨(uh x).out,(uh x).code,(uh x).steps,(uh x).deep,i.2,(uh x).done,(uh x).ret⟩),(2,Ag (zl x).2),(7,.box 0 (ndA false (Aa x.1.ns (zl x).1))),(8,.int .i64 (((Aa x.1.ns (zl x).1).kids.length:Int)-1)),(9,.int .i64 i.1)],als:=[],meas:=fun i=>(zl x).2.length-i.1.toNat,sub:=fun j=>[(100009,{ι:=Cls,inv:=fun i=>naU x.1 (Aa x.1.ns (zl x).1) (zl x).2 (j.1+1) i,regs:=fun i=>[(0,usA x.1 ⟨(uh x).out,(uh x).code,(uh x).steps,(uh x).deep,i,(uh x).done,(uh x).ret⟩),(2,Ag (zl x).2),(7,.box 0 (ndA false (Aa x.1.ns (zl x).1))),(8,.int .i64 (((Aa x.1.ns (zl x).1).kids.length:Int)-1)),(9,.int .i64 j.1)],als:=[],meas:=fun _=>0})]}
theorem a3Z(n:Nat)(h:uAll G n):Al G Tryz.prog 44 (Mt n):=
 vcFun_okP [(43,0,Db),(26,0,DU),(74,0,(HM n))] [(42,⟨List UInt8×Int,Ai⟩)] false (fun x=>[(7,WT n x)]) Tryz.func44 rfl (by decide) ⟨Mq,a3E,h.blk,trivial⟩ (fun(x:ZX (Int×List Int))=>True∧((0:Int)≤(zl x).1∧(zl x).1<(↑(List.length x.1.ns):Int))∧∀(e:Nd),x.1.ns[Int.toNat (zl x).1]? =some e→inR IntKind.i64 ((↑(List.length e.kids):Int)-(1:Int))∧Ab ((↑(List.length e.kids):Int)-(1:Int) != (↑(List.length (zl x).2):Int)) (cA Db [.box 0 [nds x.1.ns,AV.sl false 0 2 (List UInt8×Int) Ai (uh x).cells,Ad (uh x).out,.int .i64 (uh x).code,.int .i64 (uh x).steps,.int .i64 x.1.L,.int .i64 (uh x).deep,.bool (uh x).done,.int .i64 (uh x).ret]] fun x_1 y=>rA (Mt n) x [.int .i64 (0:Int),.box 0 [nds x_1.1.ns,AV.sl false 0 2 (List UInt8×Int) Ai (AU (uh x_1)).cells,Ad (AU (uh x_1)).out,.int .i64 (AU (uh x_1)).code,.int .i64 (AU (uh x_1)).steps,.int .i64 x_1.1.L,.int .i64 (AU (uh x_1)).deep,.bool (AU (uh x_1)).done,.int .i64 (AU (uh x_1)).ret],.top,.top]) ((∃(i:Int×Cls),naU x.1 (Aa x.1.ns (zl x).1) (zl x).2 i.1 i.2∧(nds x.1.ns=nds x.1.ns∧AV.sl false 0 2 (List UInt8×Int) (fun(x:List UInt8×Int)=>fzL (Ai x)) []=AV.sl false 0 2 (List UInt8×Int) Ai i.2∧Ad (uh x).out=Ad (uh x).out∧(uh x).code=(uh x).code∧(uh x).steps=(uh x).steps∧x.1.L=x.1.L∧(uh x).deep=(uh x).deep∧(uh x).done=(uh x).done∧(uh x).ret=(uh x).ret∧Ag (zl x).2=Ag (zl x).2∧e.kind=(Aa x.1.ns (zl x).1).kind∧e.text=(Aa x.1.ns (zl x).1).text∧Ag e.kids=Ag (Aa x.1.ns (zl x).1).kids∧e.blank=(Aa x.1.ns (zl x).1).blank∧(↑(List.length e.kids):Int)-(1:Int)=(↑(List.length (Aa x.1.ns (zl x).1).kids):Int)-(1:Int)∧(0:Int)=i.1∧True)∧True)∧∀(i:Int×Cls),naU x.1 (Aa x.1.ns (zl x).1) (zl x).2 i.1 i.2→Ab (decide (i.1<(↑(List.length (Aa x.1.ns (zl x).1).kids):Int)-(1:Int))) (true=true∧(((0:Int)≤i.1∧i.1<(↑(List.length (zl x).2):Int))∧∀(e:Int),(zl x).2[Int.toNat i.1]? =some e→((((0:Int)≤i.1∧i.1<(↑(List.length (Aa x.1.ns (zl x).1).kids):Int))∧∀(e_1:Int),(Aa x.1.ns (zl x).1).kids[Int.toNat i.1]? =some e_1→((0:Int)≤e_1∧e_1<(↑(List.length x.1.ns):Int))∧∀(e_2:Nd),x.1.ns[Int.toNat e_1]? =some e_2→cA DU [AV.sl false 0 2 (List UInt8×Int) Ai i.2,.str e_2.text,.int .i64 e] fun x_1 y=>true=true∧∃(i_1:Cls),naU x.1 (Aa x.1.ns (zl x).1) (zl x).2 (i.1+(1:Int)) i_1∧(nds x.1.ns=nds x.1.ns∧AV.sl false 0 2 (List UInt8×Int) Ai (Cs x_1.1 x_1.2.1 x_1.2.2)=AV.sl false 0 2 (List UInt8×Int) Ai i_1∧Ad (uh x).out=Ad (uh x).out∧(uh x).code=(uh x).code∧(uh x).steps=(uh x).steps∧x.1.L=x.1.L∧(uh x).deep=(uh x).deep∧(uh x).done=(uh x).done∧(uh x).ret=(uh x).ret∧Ag (zl x).2=Ag (zl x).2∧(Aa x.1.ns (zl x).1).kind=(Aa x.1.ns (zl x).1).kind∧(Aa x.1.ns (zl x).1).text=(Aa x.1.ns (zl x).1).text∧Ag (Aa x.1.ns (zl x).1).kids=Ag (Aa x.1.ns (zl x).1).kids∧(Aa x.1.ns (zl x).1).blank=(Aa x.1.ns (zl x).1).blank∧(↑(List.length (Aa x.1.ns (zl x).1).kids):Int)-(1:Int)=(↑(List.length (Aa x.1.ns (zl x).1).kids):Int)-(1:Int)∧i.1=i.1∧True)∧True)∧((0:Int)≤i.1∧i.1<(↑(List.length (Aa x.1.ns (zl x).1).kids):Int))∧∀(e_1:Int),(Aa x.1.ns (zl x).1).kids[Int.toNat i.1]? =some e_1→((0:Int)≤e_1∧e_1<(↑(List.length x.1.ns):Int))∧∀(e_2:Nd),x.1.ns[Int.toNat e_1]? =some e_2→cA DU [AV.sl false 0 2 (List UInt8×Int) Ai i.2,.str e_2.text,.int .i64 e] fun x_1 y=>true=true∧∃(i_1:Cls),naU x.1 (Aa x.1.ns (zl x).1) (zl x).2 (i.1+(1:Int)) i_1∧(nds x.1.ns=nds x.1.ns∧AV.sl false 0 2 (List UInt8×Int) Ai (Cs x_1.1 x_1.2.1 x_1.2.2)=AV.sl false 0 2 (List UInt8×Int) Ai i_1∧Ad (uh x).out=Ad (uh x).out∧(uh x).code=(uh x).code∧(uh x).steps=(uh x).steps∧x.1.L=x.1.L∧(uh x).deep=(uh x).deep∧(uh x).done=(uh x).done∧(uh x).ret=(uh x).ret∧Ag (zl x).2=Ag (zl x).2∧(Aa x.1.ns (zl x).1).kind=(Aa x.1.ns (zl x).1).kind∧(Aa x.1.ns (zl x).1).text=(Aa x.1.ns (zl x).1).text∧Ag (Aa x.1.ns (zl x).1).kids=Ag (Aa x.1.ns (zl x).1).kids∧(Aa x.1.ns (zl x).1).blank=(Aa x.1.ns (zl x).1).blank∧(↑(List.length (Aa x.1.ns (zl x).1).kids):Int)-(1:Int)=(↑(List.length (Aa x.1.ns (zl x).1).kids):Int)-(1:Int)∧i.1=i.1∧True)∧True)∧((((0:Int)≤i.1∧i.1<(↑(List.length (Aa x.1.ns (zl x).1).kids):Int))∧∀(e_1:Int),(Aa x.1.ns (zl x).1).kids[Int.toNat i.1]? =some e_1→((0:Int)≤e_1∧e_1<(↑(List.length x.1.ns):Int))∧∀(e_2:Nd),x.1.ns[Int.toNat e_1]? =some e_2→cA DU [AV.sl false 0 2 (List UInt8×Int) Ai i.2,.str e_2.text,.int .i64 e] fun x_1 y=>true=true∧∃(i_1:Cls),naU x.1 (Aa x.1.ns (zl x).1) (zl x).2 (i.1+(1:Int)) i_1∧(nds x.1.ns=nds x.1.ns∧AV.sl false 0 2 (List UInt8×Int) Ai (Cs x_1.1 x_1.2.1 x_1.2.2)=AV.sl false 0 2 (List UInt8×Int) Ai i_1∧Ad (uh x).out=Ad (uh x).out∧(uh x).code=(uh x).code∧(uh x).steps=(uh x).steps∧x.1.L=x.1.L∧(uh x).deep=(uh x).deep∧(uh x).done=(uh x).done∧(uh x).ret=(uh x).ret∧Ag (zl x).2=Ag (zl x).2∧(Aa x.1.ns (zl x).1).kind=(Aa x.1.ns (zl x).1).kind∧(Aa x.1.ns (zl x).1).text=(Aa x.1.ns (zl x).1).text∧Ag (Aa x.1.ns (zl x).1).kids=Ag (Aa x.1.ns (zl x).1).kids∧(Aa x.1.ns (zl x).1).blank=(Aa x.1.ns (zl x).1).blank∧(↑(List.length (Aa x.1.ns (zl x).1).kids):Int)-(1:Int)=(↑(List.length (Aa x.1.ns (zl x).1).kids):Int)-(1:Int)∧i.1=i.1∧True)∧True)∧((0:Int)≤i.1∧i.1<(↑(List.length (Aa x.1.ns (zl x).1).kids):Int))∧∀(e_1:Int),(Aa x.1.ns (zl x).1).kids[Int.toNat i.1]? =some e_1→((0:Int)≤e_1∧e_1<(↑(List.length x.1.ns):Int))∧∀(e_2:Nd),x.1.ns[Int.toNat e_1]? =some e_2→cA DU [AV.sl false 0 2 (List UInt8×Int) Ai i.2,.str e_2.text,.int .i64 e] fun x_1 y=>true=true∧∃(i_1:Cls),naU x.1 (Aa x.1.ns (zl x).1) (zl x).2 (i.1+(1:Int)) i_1∧(nds x.1.ns=nds x.1.ns∧AV.sl false 0 2 (List UInt8×Int) Ai (Cs x_1.1 x_1.2.1 x_1.2.2)=AV.sl false 0 2 (List UInt8×Int) Ai i_1∧Ad (uh x).out=Ad (uh x).out∧(uh x).code=(uh x).code∧(uh x).steps=(uh x).steps∧x.1.L=x.1.L∧(uh x).deep=(uh x).deep∧(uh x).done=(uh x).done∧(uh x).ret=(uh x).ret∧Ag (zl x).2=Ag (zl x).2∧(Aa x.1.ns (zl x).1).kind=(Aa x.1.ns (zl x).1).kind∧(Aa x.1.ns (zl x).1).text=(Aa x.1.ns (zl x).1).text∧Ag (Aa x.1.ns (zl x).1).kids=Ag (Aa x.1.ns (zl x).1).kids∧(Aa x.1.ns (zl x).1).blank=(Aa x.1.ns (zl x).1).blank∧(↑(List.length (Aa x.1.ns (zl x).1).kids):Int)-(1:Int)=(↑(List.length (Aa x.1.ns (zl x).1).kids):Int)-(1:Int)∧i.1=i.1∧True)∧True)∧((0:Int)≤i.1∧i.1<(↑(List.length (Aa x.1.ns (zl x).1).kids):Int))∧∀(e_1:Int),(Aa x.1.ns (zl x).1).kids[Int.toNat i.1]? =some e_1→(((0:Int)≤e_1∧e_1<(↑(List.length x.1.ns):Int))∧∀(e_2:Nd),x.1.ns[Int.toNat e_1]? =some e_2→cA DU [AV.sl false 0 2 (List UInt8×Int) Ai i.2,.str e_2.text,.int .i64 e] fun x_1 y=>true=true∧∃(i_1:Cls),naU x.1 (Aa x.1.ns (zl x).1) (zl x).2 (i.1+(1:Int)) i_1∧(nds x.1.ns=nds x.1.ns∧AV.sl false 0 2 (List UInt8×Int) Ai (Cs x_1.1 x_1.2.1 x_1.2.2)=AV.sl false 0 2 (List UInt8×Int) Ai i_1∧Ad (uh x).out=Ad (uh x).out∧(uh x).code=(uh x).code∧(uh x).steps=(uh x).steps∧x.1.L=x.1.L∧(uh x).deep=(uh x).deep∧(uh x).done=(uh x).done∧(uh x).ret=(uh x).ret∧Ag (zl x).2=Ag (zl x).2∧(Aa x.1.ns (zl x).1).kind=(Aa x.1.ns (zl x).1).kind∧(Aa x.1.ns (zl x).1).text=(Aa x.1.ns (zl x).1).text∧Ag (Aa x.1.ns (zl x).1).kids=Ag (Aa x.1.ns (zl x).1).kids∧(Aa x.1.ns (zl x).1).blank=(Aa x.1.ns (zl x).1).blank∧(↑(List.length (Aa x.1.ns (zl x).1).kids):Int)-(1:Int)=(↑(List.length (Aa x.1.ns (zl x).1).kids):Int)-(1:Int)∧i.1=i.1∧True)∧True)∧((0:Int)≤e_1∧e_1<(↑(List.length x.1.ns):Int))∧∀(e_2:Nd),x.1.ns[Int.toNat e_1]? =some e_2→cA DU [AV.sl false 0 2 (List UInt8×Int) Ai i.2,.str e_2.text,.int .i64 e] fun x_1 y=>true=true∧∃(i_1:Cls),naU x.1 (Aa x.1.ns (zl x).1) (zl x).2 (i.1+(1:Int)) i_1∧(nds x.1.ns=nds x.1.ns∧AV.sl false 0 2 (List UInt8×Int) Ai (Cs x_1.1 x_1.2.1 x_1.2.2)=AV.sl false 0 2 (List UInt8×Int) Ai i_1∧Ad (uh x).out=Ad (uh x).out∧(uh x).code=(uh x).code∧(uh x).steps=(uh x).steps∧x.1.L=x.1.L∧(uh x).deep=(uh x).deep∧(uh x).done=(uh x).done∧(uh x).ret=(uh x).ret∧Ag (zl x).2=Ag (zl x).2∧(Aa x.1.ns (zl x).1).kind=(Aa x.1.ns (zl x).1).kind∧(Aa x.1.ns (zl x).1).text=(Aa x.1.ns (zl x).1).text∧Ag (Aa x.1.ns (zl x).1).kids=Ag (Aa x.1.ns (zl x).1).kids∧(Aa x.1.ns (zl x).1).blank=(Aa x.1.ns (zl x).1).blank∧(↑(List.length (Aa x.1.ns (zl x).1).kids):Int)-(1:Int)=(↑(List.length (Aa x.1.ns (zl x).1).kids):Int)-(1:Int)∧i.1=i.1∧True)∧True)∧∀(i_1:Cls),naU x.1 (Aa x.1.ns (zl x).1) (zl x).2 (i.1+(1:Int)) i_1→inR IntKind.i64 (i.1+(1:Int))∧eN (WT n x) i [.box 0 [nds x.1.ns,AV.sl false 0 2 (List UInt8×Int) Ai i_1,Ad (uh x).out,.int .i64 (uh x).code,.int .i64 (uh x).steps,.int .i64 x.1.L,.int .i64 (uh x).deep,.bool (uh x).done,.int .i64 (uh x).ret],Ag (zl x).2,.box 0 [.int .i64 (Aa x.1.ns (zl x).1).kind,.str (Aa x.1.ns (zl x).1).text,Ag (Aa x.1.ns (zl x).1).kids,.bool (Aa x.1.ns (zl x).1).blank],.int .i64 ((↑(List.length (Aa x.1.ns (zl x).1).kids):Int)-(1:Int)),.int .i64 (i.1+(1:Int))]) (((0:Int)≤(↑(List.length (Aa x.1.ns (zl x).1).kids):Int)-(1:Int)∧(↑(List.length (Aa x.1.ns (zl x).1).kids):Int)-(1:Int)<(↑(List.length (Aa x.1.ns (zl x).1).kids):Int))∧∀(e:Int),(Aa x.1.ns (zl x).1).kids[Int.toNat ((↑(List.length (Aa x.1.ns (zl x).1).kids):Int)-(1:Int))]? =some e→cA (HM n) [.box 0 [nds x.1.ns,AV.sl false 0 2 (List UInt8×Int) Ai i.2,Ad (uh x).out,.int .i64 (uh x).code,.int .i64 (uh x).steps,.int .i64 x.1.L,.int .i64 (uh x).deep,.bool false,.int .i64 (0:Int)],.int .i64 e] fun x_1 y=>rA (Mt n) x [.int .i64 (yu y).ret,.box 0 [nds x_1.1.ns,AV.sl false 0 2 (List UInt8×Int) Ai (yu y).cells,Ad (yu y).out,.int .i64 (yu y).code,.int .i64 (yu y).steps,.int .i64 x_1.1.L,.int .i64 (yu y).deep,.bool (uh x).done,.int .i64 (uh x).ret],.top,.top]))) (fun x=>by kernel_rfl) fun(x:ZX (Int×List Int)) (hx:mPu n x.1 (uh x) (zl x).1 (zl x).2)=>(by
 dsimp only[cA,Ai,cls,eN,WT,Ag,Bx,nds,KG,Ad,rA,DU,HM,Db,Mt,usA,Aw,Az,mvL,lnL,mvE,lnE,Bv]
 obtain⟨s,o,c,t,d,cs,en,re,k,az⟩:=x;dsimp only[uh,zl] at hx ⊢
 have hx:mPu n s ⟨o,c,t,d,cs,en,re⟩ k az:=hx
 have hk:=hx.2.1
 have hE:=b3W hx.1.1.1 hk
 (repeat' first|(apply WP<;>try dsimp only)|(with_reducible first|rfl|exact True.intro|apply AK|apply And.intro|((first|apply AA|apply AI|apply AB|apply AJ)<;>intro _))|(apply Ax<;>intro _)|apply AH|refine Af () ?_ ?_|((first|apply AO|apply AN|apply AM|apply AL|apply AG|apply AF|apply AE|apply AD|apply AC)<;>try dsimp only)|apply Af|(refine Prod.forall.2 ?_;intro _;try dsimp only)|(intro _;try dsimp only))
 all_goals(try simp only[KH] at*)
 all_goals(try(have hB:=a3Y (show naU _ _ _ _ _ by assumption)))
 all_goals(repeat(rename s.ns[Int.toNat k]? =some _=>hq;have hqe:=(Bo hq).symm;clear hq;subst hqe))
 all_goals(try(repeat(rename(_:List Int)[_]? =some _=>hq;revert hq;rename(_:List Int)[_]? =some _=>hr;intro hq;rw[hr] at hq;cases hq)))
 all_goals first
  |rfl
  |exact hx
  |exact()
  |exact hk.1.1.1
  |exact hk.1.1.2
  |exact b3X hx ‹_›
  |exact b3Y hx ‹_›
  |exact(SD hx ‹_›).1.1
  |exact(SD hx ‹_›).1.2
  |exact b3Z hx ‹_› ‹_› ‹_› ‹_›
  |exact b4a hx ‹_› ‹_›
  |exact b4b hx ‹_› ‹_› ‹_› (by omega) ‹_›
  |((try simp only[AQ]);omega)
  |(rename naU _ _ _ (_+1) _=>hq;clear hq;have hB2:=a3Y (show naU _ _ _ _ _ by assumption);omega)
  |skip)
end Go.My
end
section
namespace Go.My
open Go.Eng Go.Proofs
variable {G:GInv}
def Hi(n:Nat)(s:ZS)(m:Ms)(x:Nd):Prop:=cPu n s m x∧(wS s.ns (x.kids.drop 1)+1≤pot (mc m)∧(21-m.deep)*((s.ns.length:Int)+1)≤n)
abbrev Fq (n:Nat) (s:ZS) (m:Ms) (x:Nd) (y:Int×Ms):Prop:=cQu (caU s.ns (eu s.ns n).val (eu s.ns n).blk x) s m (wS s.ns (x.kids.drop 1)+1) y
def caN(s:ZS)(x:Nd):Nd:=Aa s.ns (Bu x 0)
def auI(n:Nat)(s:ZS)(m0:Ms)(x:Nd)(i:Int)(m:Ms)(az:List Int):Prop:=
 (((lpI s (mc m0) (mc m) x.kids i (wS s.ns (x.kids.drop 1))∧uOk m)∧x.kids.length≤12)∧(((caN s x).kind=1∧(az.length:Int)+1=i)∧(∀a∈az,bdd a)))∧
   Ik (eu s.ns n).val (x.kids.drop 1) [] s.L m0=Ik (eu s.ns n).val (x.kids.drop i.toNat) az s.L m
theorem b4c{n:Nat}{s:ZS}{m:Ms}{x:Nd}(hp:Hi n s m x)(h:¬(caN s x).kind=1):Fq n s m x (0,AU m):=by
 refine⟨⟨?_,Hf⟩,EB (Mp hp.1.1.2) (by have:= @PH s.ns (x.kids.drop 1);omega)⟩
 have h2:AS s.ns (Bu x 0)≠1:=h
 rw[caU,if_pos h2];rfl
theorem a4a{n:Nat}{s:ZS}{m:Ms}{x:Nd}{c:Int}(hp:Hi n s m x)(hc:x.kids[0]? =some c):0≤c∧c<s.ns.length:=(hp.1.2.1 c (BJ hc)).1.1
theorem b4d{n:Nat}{s:ZS}{m:Ms}{x:Nd}(hp:Hi n s m x):x.kids.length≤12∧1≤x.kids.length:=hp.1.2.2.1
theorem b4e{n:Nat}{s:ZS}{m:Ms}{x:Nd}(hp:Hi n s m x):tOk s.ns:=hp.1.1.1.1
theorem b4f{s:ZS}{x e:Nd}{c:Int}(hc:x.kids[0]? =some c)(he:s.ns[c.toNat]? =some e):e=caN s x:=by
 rw[caN,EV hc,Bo he]
theorem b4g{s:ZS}{m:Mc}{ks:List Int}(h:mOk m)(hl:1≤ks.length):lpI s m m ks 1 (wS s.ns (ks.drop 1)):=⟨⟨by omega,h,rfl⟩,Int.le_refl _,by show _≤_-wS s.ns (ks.drop 1);omega⟩
theorem b4h{n:Nat}{s:ZS}{m:Ms}{x:Nd}(hp:Hi n s m x)(h:(caN s x).kind=1):auI n s m x 1 m []:=
 ⟨⟨⟨⟨b4g hp.1.1.2.1 hp.1.2.2.1.2,hp.1.1.2⟩,hp.1.2.2.1.1⟩,⟨h,rfl⟩,by simp⟩,rfl⟩
theorem WU{n:Nat}{s:ZS}{m0 m:Ms}{x:Nd}{i:Int}{az:List Int}(h:auI n s m0 x i m az):((0≤i∧i≤x.kids.length)∧x.kids.length≤12)∧((az.length:Int)+1=i∧(m.out.length:Int)≤5159780352000):=by
 refine⟨⟨h.1.1.1.1.1.1,h.1.1.2⟩,h.1.2.1.2,?_⟩
 have h2:=h.1.1.1.2.1
 have h3:=h2.2;have:=h2.1.1;unfold pot at h3;simp only[mc] at*;omega
theorem b4i{n:Nat}{s:ZS}{m0 m:Ms}{x:Nd}{i c:Int}{az:List Int}(hp:Hi n s m0 x)(h:auI n s m0 x i m az)(hc:x.kids[i.toNat]? =some c):vPu n s m c:=
 ⟨⟨hp.1.1.1,h.1.1.1.2⟩,NP (hp.1.2.1 c (BJ hc)) h.1.1.1.1.1.2.2,a3L h.1.1.1.1 hc (by have:=hp.2.1;omega)⟩
theorem b4j{n:Nat}{s:ZS}{m0 m:Ms}{x:Nd}{i c:Int}{az:List Int}{y:Int×Ms}(h:auI n s m0 x i m az)(hq:m.code=0)(hc:x.kids[i.toNat]? =some c)(hv:vQu n s m c y):auI n s m0 x (i+1) y.2 (az++[y.1]):=by
 refine⟨⟨⟨⟨Mn h.1.1.1.1 hc hv.2.1,hv.2.2⟩,h.1.1.2⟩,⟨h.1.2.1.1,by have:=h.1.2.1.2;simp;omega⟩,?_⟩,?_⟩
 ·intro a ha
  rcases List.mem_append.1 ha with ha|ha
  ·exact h.1.2.2 a ha
  ·simp at ha;subst ha;exact hv.1.2
 ·rw[h.2,GA h.1.1.1.1.1.1.1 hc,Ik,Cu,if_pos hq,Ce,hv.1.1];rfl
theorem b4k{V:Int→Be Int}{l az:List Int}{L:Int}{m:Ms}(h:l=[]∨¬m.code=0):Ik V l az L m=some (az,m):=by
 cases l with
 |nil=>rfl
 |cons k l=>
  rw[Ik,Cu]
  rcases h with h|h
  ·cases h
  ·rw[if_neg h]
def auX(n:Nat)(s:ZS)(m0:Ms)(x:Nd)(i:Int)(m:Ms)(az:List Int):Prop:=auI n s m0 x i m az∧(¬i<(x.kids.length:Int)∨¬m.code=0)
theorem WV{n:Nat}{s:ZS}{m0 m:Ms}{x:Nd}{i:Int}{az:List Int}(h:auX n s m0 x i m az):
 caU s.ns (eu s.ns n).val (eu s.ns n).blk x s.L m0=Fk 0 (if(caN s x).text=[112,114,105,110,116]∧az.length=1 then prU (az.headD 0) else mcU s.ns (eu s.ns n).blk (caN s x).text az) s.L m:=by
 have h2:¬AS s.ns (Bu x 0)≠1:=fun e=>e h.1.1.2.1.1
 have h3:Ik (eu s.ns n).val (x.kids.drop 1) [] s.L m0=some (az,m):=by
  rw[h.1.2,b4k]
  rcases h.2 with hx|hx
  ·exact .inl (List.drop_eq_nil_of_le (by have:=h.1.1.1.1.1.1.1;omega))
  ·exact .inr hx
 rw[caU,if_neg h2,Ce,h3];rfl
theorem NZ{n:Nat}{s:ZS}{m0 m:Ms}{x:Nd}{i:Int}{az:List Int}(h:auX n s m0 x i m az):Dq m0 m (wS s.ns (x.kids.drop 1)):=⟨PY h.1.1.1.1.1,h.1.1.1.1.2⟩
theorem b4l{n:Nat}{s:ZS}{m0 m:Ms}{x:Nd}{i:Int}{az:List Int}(h:auX n s m0 x i m az)(hq:¬m.code=0):Fq n s m0 x (0,m):=by
 refine⟨⟨?_,Hf⟩,EB (NZ h) (by omega)⟩
 rw[WV h,Cu,if_neg hq]
theorem b4m{n:Nat}{s:ZS}{m0 m:Ms}{x:Nd}{i a:Int}{az:List Int}(hp:Hi n s m0 x)(h:auX n s m0 x i m az)(hq:m.code=0)(ht:(caN s x).text=[112,114,105,110,116])(h1:(az.length:Int)=1)(ha:az[0]? =some a):
 Fq n s m0 x (0,⟨m.out++[a],m.code,m.steps,m.deep,m.cells,m.done,m.ret⟩):=by
 have g:=NZ h
 have hw:=hp.2.1
 have e:pot (mc ⟨m.out++[a],m.code,m.steps,m.deep,m.cells,m.done,m.ret⟩)=pot (mc m)-1:=by simp only[pot,mc,List.length_append,List.length_cons,List.length_nil];omega
 have hm:mOk (mc ⟨m.out++[a],m.code,m.steps,m.deep,m.cells,m.done,m.ret⟩):=⟨g.2.1.1,by rw[e];have:=g.1.2.2;omega⟩
 refine⟨⟨?_,Hf⟩,⟨⟨hm,g.1.1.2⟩,g.1.2.1,?_⟩,hm,g.2.2⟩
 ·have hh:az.headD 0=a:=by cases az with
   |nil=>cases ha
   |cons b l=>simp at ha;simpa using ha
  rw[WV h,Cu,if_pos hq,if_pos ⟨ht,by omega⟩,prU,hh]
 ·have:=g.1.2.2;dsimp only at e ⊢;omega
theorem a4b{n:Nat}{s:ZS}{m0 m:Ms}{x:Nd}{i:Int}{az:List Int}(h:auX n s m0 x i m az)(hq:m.code=0)(hn:¬((caN s x).text=[112,114,105,110,116]∧(az.length:Int)=1)):caU s.ns (eu s.ns n).val (eu s.ns n).blk x s.L m0=mcU s.ns (eu s.ns n).blk (caN s x).text az s.L m:=by
 rw[WV h,Cu,if_pos hq,if_neg (fun e=>hn ⟨e.1,by omega⟩)]
theorem SE{n:Nat}{s:ZS}{m0 m:Ms}{x:Nd}{i:Int}{az:List Int}(h:auX n s m0 x i m az)(hq:m.code=0)(hn:¬((caN s x).text=[112,114,105,110,116]∧(az.length:Int)=1))(hk:Bl s.ns (caN s x).text (Bf s.ns).kids<0∨20≤m.deep):Fq n s m0 x (0,AU m):=by
 have g:=GC (NZ h) (Mp (NZ h).2)
 refine⟨⟨?_,Hf⟩,EB g (by omega)⟩
 rw[a4b h hq hn,mcU,if_pos hk];rfl
theorem b4n{n:Nat}{s:ZS}{m0 m:Ms}{x:Nd}{i:Int}{az:List Int}(hp:Hi n s m0 x)(h:auX n s m0 x i m az)(hk:¬Bl s.ns (caN s x).text (Bf s.ns).kids<0)(hd:¬20≤m.deep):mPu n s ⟨m.out,m.code,m.steps,m.deep+1,m.cells,m.done,m.ret⟩ (Bl s.ns (caN s x).text (Bf s.ns).kids) az:=by
 have g:=NZ h
 have hb:=WU h.1
 have hd2:m.deep=m0.deep:=g.1.1.2
 refine⟨⟨⟨hp.1.1.1,⟨⟨g.2.1.1.1,by have:=g.2.1.1.2;simp only[mc] at*;omega⟩,g.2.1.2⟩,g.2.2⟩,h.1.1.2.2,by omega⟩,a3X hp.1.1.1 hk,?_⟩
 have h1:=hp.2.2
 show(21-(m.deep+1))*((s.ns.length:Int)+1)+s.ns.length<n
 rw[hd2,show 21-(m0.deep+1)=(21-m0.deep)-1 by omega,Int.sub_mul,Int.one_mul];omega
theorem a4c{n:Nat}{s:ZS}{m0 m:Ms}{x:Nd}{i:Int}{az:List Int}{y:Int×Ms}(h:auX n s m0 x i m az)(hq:m.code=0)(hn:¬((caN s x).text=[112,114,105,110,116]∧(az.length:Int)=1))(hk:¬Bl s.ns (caN s x).text (Bf s.ns).kids<0)(hd:¬20≤m.deep)
 (hy:mQu n s ⟨m.out,m.code,m.steps,m.deep+1,m.cells,m.done,m.ret⟩ (Bl s.ns (caN s x).text (Bf s.ns).kids) az y):Fq n s m0 x (y.1,⟨y.2.out,y.2.code,y.2.steps,y.2.deep-1,m.cells,y.2.done,y.2.ret⟩):=by
 have g:=NZ h
 have g2:=hy.2
 have hd2:y.2.deep=m.deep+1:=g2.1.1.2
 have hm:mOk (mc ⟨y.2.out,y.2.code,y.2.steps,y.2.deep-1,m.cells,y.2.done,y.2.ret⟩):=⟨⟨g2.2.1.1.1,by have:=g.2.1.1.2;simp only[mc] at*;omega⟩,g2.2.1.2⟩
 have hs:m.steps≤y.2.steps:=g2.1.2.1
 have hpot:pot (mc m)-0≤pot (mc y.2):=g2.1.2.2
 refine⟨⟨?_,hy.1.2⟩,⟨⟨hm,?_⟩,?_,?_⟩,hm,WK g.2.2.1 hs,g2.2.2.2⟩
 ·rw[a4b h hq hn,mcU,if_neg (by omega),hy.1.1];rfl
 ·show y.2.deep-1=m0.deep
  have:m.deep=m0.deep:=g.1.1.2
  omega
 ·have:m0.steps≤m.steps:=g.1.2.1
  show m0.steps≤y.2.steps;omega
 ·have:=g.1.2.2
  show _≤pot (mc y.2);omega
theorem b4o{n:Nat}{s:ZS}{m0 m:Ms}{x:Nd}{i:Int}{az:List Int}(h:auX n s m0 x i m az):(((0≤i∧i≤x.kids.length)∧x.kids.length≤12)∧((az.length:Int)+1=i∧(m.out.length:Int)≤5159780352000))∧(0≤m.deep∧m.deep≤21):=⟨WU h.1,h.1.1.1.1.2.1.1.2⟩
theorem a4d{n:Nat}{s:ZS}{m0 m:Ms}{x:Nd}{i:Int}{az:List Int}(h:auI n s m0 x i m az)(hx:¬i<(x.kids.length:Int)∨¬m.code=0):auX n s m0 x i m az:=⟨h,hx⟩
theorem b4p{n:Nat}{s:ZS}{m:Ms}{k:Int}{az:List Int}{y:Int×Ms}(hy:mQu n s m k az y):y.2.deep=m.deep:=hy.2.1.1.2
theorem WW{n:Nat}{s:ZS}{m:Ms}{k:Int}(hp:vPu (n+1) s m k):(zB s∧uOk m)∧((∀c∈(Aa s.ns k).kids,kOk s.ns (mc m) n c)∧((Aa s.ns k).kids.length≤12∧wS s.ns (Aa s.ns k).kids≤pot (mc m))):=by
 have h:=hp.2.1
 refine⟨hp.1,a1W hp.1.1.1 h.1.1 (by have:=h.1.2.2;omega) h.2,(HG hp.1.1.1 h.1.1).1,?_⟩
 have:=RZ hp.1.1.1 h.1.1;have:=hp.2.2;omega
theorem WX{n:Nat}{s:ZS}{m:Ms}{k:Int}(hp:vPu (n+1) s m k):(0≤k∧k<s.ns.length)∧Ci (Aa s.ns k).kind ((Aa s.ns k).kids.map (AS s.ns))=true:=
 ⟨hp.2.1.1.1,(DZ (PJ hp.1.1.1 hp.2.1.1.1)).2.2.2.2.2.1⟩
theorem SF{n:Nat}{s:ZS}{m:Ms}{k:Int}(hp:vPu (n+1) s m k)(hk:(Aa s.ns k).kind=5∨(Aa s.ns k).kind=7∨(Aa s.ns k).kind=11):1≤(Aa s.ns k).kids.length:=by
 have:=Me (WX hp).2 (by omega);simpa using this
theorem b4q{n:Nat}{s:ZS}{m:Ms}{k:Int}(hp:vPu (n+1) s m k)(hk:(Aa s.ns k).kind=8):(Aa s.ns k).kids.length=3:=by
 have h:=(WX hp).2;rw[hk] at h
 have:=a2k h;simpa using this
theorem SG{n:Nat}{s:ZS}{m:Ms}{k:Int}(hp:vPu (n+1) s m k)(hk:(Aa s.ns k).kind=2):(Aa s.ns k).text.all Bg=true∧1≤(Aa s.ns k).text.length∧(Aa s.ns k).text.length≤12:=
 VZ (ns:=s.ns) (k:=k) ⟨BX.2 hp.2.1.1.1,fun i hi=>PJ hp.1.1.1 (by have:=hp.2.1.1.1;omega)⟩ hk
theorem a4e{n:Nat}{s:ZS}{m:Ms}{k:Int}(hp:vPu (n+1) s m k)(hk:(Aa s.ns k).kind=5∨(Aa s.ns k).kind=7∨(Aa s.ns k).kind=11):cPu n s m (Aa s.ns k):=by
 have h:=WW hp
 exact⟨h.1,h.2.1,⟨h.2.2.1,SF hp hk⟩,h.2.2.2⟩
theorem b4r{n:Nat}{s:ZS}{m:Ms}{k:Int}(hp:vPu (n+1) s m k)(hk:(Aa s.ns k).kind=5):Hi n s m (Aa s.ns k):=by
 refine⟨a4e hp (.inl hk),?_,?_⟩
 ·have:=a1Y hp.1.1.1 hp.2.1.1.1 (SF hp (.inl hk));have:=hp.2.2;omega
 ·have h1:=hp.2.1.2;have h2:=hp.2.1.1.1;unfold Ct at h1;simp only[mc] at h1;omega
theorem Jg{n:Nat}{s:ZS}{m:Ms}{k:Int}:(eu s.ns (n+1)).val k s.L m=vaU s.ns (eu s.ns n).val (eu s.ns n).blk k s.L m:=rfl
theorem JP{n:Nat}{s:ZS}{m:Ms}{k e:Int}{c:Be Int}{y:Int×Ms}(hc:(eu s.ns (n+1)).val k s.L m=c s.L m)(h:cQu c s m e y)(he:e≤wK s.ns k):vQu (n+1) s m k y:=⟨⟨by rw[hc];exact h.1.1,h.1.2⟩,EB h.2 he⟩
theorem Oa{ns:List Nd}{k:Int}:0≤wK ns k:=by have:= @NO (Bz ns k);unfold wK;omega
theorem WY{s:ZS}{m:Ms}(h:uOk m):cQu IZ s m 0 (0,AU m):=⟨⟨rfl,Hf⟩,Mp h⟩
theorem WZ{s:ZS}{m:Ms}{v:Int}(h:uOk m)(hv:bdd v):cQu (Fj v) s m 0 (v,m):=⟨⟨rfl,hv⟩,Mo h⟩
theorem b4s{n:Nat}{s:ZS}{m:Ms}{k:Int}(hp:vPu (n+1) s m k)(hq:¬m.code=0):vQu (n+1) s m k (0,m):=by
 refine JP ?_ (WZ hp.1.2 Hf) Oa
 rw[Jg,vaU,Cu,if_neg hq];rfl
theorem b4t{n:Nat}{s:ZS}{m:Ms}{k:Int}(hp:vPu (n+1) s m k)(hq:m.code=0)(hk:(Aa s.ns k).kind=2)(hl:(Aa s.ns k).text.length≤9):vQu (n+1) s m k (if 9<(Aa s.ns k).text.length then 0 else Cd (Aa s.ns k).text,m):=by
 rw[if_neg (by omega)]
 refine JP ?_ (WZ hp.1.2 (v:=Cd (Aa s.ns k).text) ?_) Oa
 ·rw[Jg,vaU,Cu,if_pos hq,if_pos (show AS s.ns k=2 from hk),if_neg (by omega)]
 ·have:=RR (SG hp hk).1 (by omega);unfold bdd;omega
theorem b4u{n:Nat}{s:ZS}{m:Ms}{k:Int}(hp:vPu (n+1) s m k)(hq:m.code=0)(hk:(Aa s.ns k).kind=2)(hl:¬(Aa s.ns k).text.length≤9):vQu (n+1) s m k (0,AU m):=by
 refine JP ?_ (WY hp.1.2) Oa
 rw[Jg,vaU,Cu,if_pos hq,if_pos (show AS s.ns k=2 from hk),if_pos (by omega)]
theorem b4v{m:Mc}{cs:Cls}{t:List UInt8}(h:Mb cs m):bdd (nOf (Cy cs t)):=by
 have key:∀ {l:Cls},(∀p∈l,bdd p.2)→bdd (nOf (Cy l t)):=by
  intro l
  induction l with
  |nil=>intro _;exact Hf
  |cons p l ih=>
   intro h
   rw[Cy];split
   ·exact h p (by simp)
   ·exact ih fun q hq=>h q (by simp [hq])
 exact key h.1
theorem b4w{n:Nat}{s:ZS}{m:Ms}{k:Int}(hp:vPu (n+1) s m k)(hq:m.code=0)(hk:(Aa s.ns k).kind=1)(hs:(Cy m.cells (Aa s.ns k).text).isSome=true):vQu (n+1) s m k (nOf (Cy m.cells (Aa s.ns k).text),m):=by
 have hb:=b4v (t:=(Aa s.ns k).text) hp.1.2.2.1
 refine JP ?_ (WZ hp.1.2 hb) Oa
 have hk1:AS s.ns k=1:=hk
 rw[Jg,vaU,Cu,if_pos hq,if_neg (by omega),if_pos hk1,nmU]
 cases hc:Cy m.cells (Aa s.ns k).text with
 |none=>rw[hc] at hs;cases hs
 |some v=>rfl
theorem b4x{n:Nat}{s:ZS}{m:Ms}{k:Int}(hp:vPu (n+1) s m k)(hq:m.code=0)(hk:(Aa s.ns k).kind=1)(hs:(Cy m.cells (Aa s.ns k).text).isSome=false):vQu (n+1) s m k (0,AU m):=by
 refine JP ?_ (WY hp.1.2) Oa
 have hk1:AS s.ns k=1:=hk
 rw[Jg,vaU,Cu,if_pos hq,if_neg (by omega),if_pos hk1,nmU]
 cases hc:Cy m.cells (Aa s.ns k).text with
 |none=>rfl
 |some v=>rw[hc] at hs;cases hs
theorem b4y{n:Nat}{s:ZS}{m:Ms}{k c:Int}{i:Nat}(hp:vPu (n+1) s m k)(hc:(Aa s.ns k).kids[i]? =some c):vPu n s m c:=by
 have h:=WW hp
 refine⟨hp.1,h.2.1 c (BJ hc),?_⟩
 have:=PI (ns:=s.ns) (BJ hc);have:=h.2.2.2;omega
theorem b4z{n:Nat}{s:ZS}{m:Ms}{k c:Int}{i:Nat}(hp:vPu (n+1) s m k)(hc:(Aa s.ns k).kids[i]? =some c):wK s.ns c≤wK s.ns k:=by
 have:=PI (ns:=s.ns) (BJ hc);have:=RZ hp.1.1.1 hp.2.1.1.1;omega
theorem b4A{n:Nat}{s:ZS}{m:Ms}{k c:Int}{y:Int×Ms}(hp:vPu (n+1) s m k)(hq:m.code=0)(hk:(Aa s.ns k).kind=11)(hc:(Aa s.ns k).kids[0]? =some c)(h:vQu n s m c y):vQu (n+1) s m k y:=by
 have hk1:AS s.ns k=11:=hk
 refine JP (c:=(eu s.ns n).val c) ?_ h (b4z hp hc)
 rw[Jg,vaU,Cu,if_pos hq,if_neg (by omega),if_neg (by omega),if_pos hk1,EV hc]
theorem b4B{n:Nat}{s:ZS}{m:Ms}{k:Int}{y:Int×Ms}(hp:vPu (n+1) s m k)(hq:m.code=0)(hk:(Aa s.ns k).kind=7)(h:JO n s m (Aa s.ns k) y):vQu (n+1) s m k y:=by
 have hk1:AS s.ns k=7:=hk
 refine JP ?_ h (RZ hp.1.1.1 hp.2.1.1.1)
 rw[Jg,vaU,Cu,if_pos hq,if_neg (by omega),if_neg (by omega),if_neg (by omega),if_pos hk1]
theorem b4C{n:Nat}{s:ZS}{m:Ms}{k:Int}{y:Int×Ms}(hp:vPu (n+1) s m k)(hq:m.code=0)(hk:(Aa s.ns k).kind=5)(h:Fq n s m (Aa s.ns k) y):vQu (n+1) s m k y:=by
 have hk1:AS s.ns k=5:=hk
 refine JP ?_ h (a1Y hp.1.1.1 hp.2.1.1.1 (SF hp (.inl hk)))
 rw[Jg,vaU,Cu,if_pos hq,if_neg (by omega),if_neg (by omega),if_neg (by omega),if_neg (by omega),if_neg (by omega),if_pos hk1]
theorem b4D{n:Nat}{s:ZS}{m:Ms}{k:Int}(hp:vPu (n+1) s m k)(hq:m.code=0)(h2:¬(Aa s.ns k).kind=2)(h1:¬(Aa s.ns k).kind=1)(h11:¬(Aa s.ns k).kind=11)(h7:¬(Aa s.ns k).kind=7)(h8:¬(Aa s.ns k).kind=8)(h5:¬(Aa s.ns k).kind=5):vQu (n+1) s m k (0,AU m):=by
 refine JP ?_ (WY hp.1.2) Oa
 have e:AS s.ns k=(Aa s.ns k).kind:=rfl
 rw[Jg,vaU,Cu,if_pos hq,e,if_neg h2,if_neg h1,if_neg h11,if_neg h7,if_neg h8,if_neg h5]
theorem a4f{n:Nat}{s:ZS}{m:Ms}{k c:Int}{y:Int×Ms}(hq:m.code=0)(hk:(Aa s.ns k).kind=8)(hc:(Aa s.ns k).kids[0]? =some c)(h:vQu n s m c y):
 (eu s.ns (n+1)).val k s.L m=(if y.1≠0 then(eu s.ns n).val (Bu (Aa s.ns k) 1) else(eu s.ns n).val (Bu (Aa s.ns k) 2)) s.L y.2:=by
 have hk1:AS s.ns k=8:=hk
 rw[Jg,vaU,Cu,if_pos hq,if_neg (by omega),if_neg (by omega),if_neg (by omega),if_neg (by omega),if_pos hk1,Ce,EV hc,h.1.1];rfl
theorem a4g{n:Nat}{s:ZS}{k d:Int}{i:Nat}(hd:(Aa s.ns k).kids[i]? =some d)(hi:1≤i):d∈(Aa s.ns k).kids.drop 1:=by
 obtain⟨j,rfl⟩:∃j,i=1+j:=⟨i-1,by omega⟩
 exact List.mem_of_getElem? (i:=j) (by rw[List.getElem?_drop];exact hd)
theorem b4E{n:Nat}{s:ZS}{m:Ms}{k c d:Int}{i:Nat}{y:Int×Ms}(hp:vPu (n+1) s m k)(hc:(Aa s.ns k).kids[0]? =some c)(h:vQu n s m c y)(hd:(Aa s.ns k).kids[i]? =some d)(hi:1≤i):vPu n s y.2 d:=by
 have hcp:=WW hp
 have hl:lpI s (mc m) (mc y.2) (Aa s.ns k).kids 1 (wS s.ns (Aa s.ns k).kids):=Mn (i:=0) (WJ hp.1.2.1) hc h.2.1
 refine⟨⟨hp.1.1,h.2.2⟩,NP (hcp.2.1 d (BJ hd)) h.2.1.1.2,?_⟩
 have h1:=PI (ns:=s.ns) (a4g (n:=n) hd hi)
 have h2:=hl.2.2;have h3:=hcp.2.2.2
 have e:(Aa s.ns k).kids.drop (1:Int).toNat=(Aa s.ns k).kids.drop 1:=rfl
 rw[e] at h2;omega
theorem a4h{n:Nat}{s:ZS}{m:Ms}{k c d:Int}{i:Nat}{y z:Int×Ms}(hp:vPu (n+1) s m k)(hc:(Aa s.ns k).kids[0]? =some c)(h:vQu n s m c y)(hd:(Aa s.ns k).kids[i]? =some d)(hi:1≤i)(hz:vQu n s y.2 d z):Dq m z.2 (wK s.ns k):=by
 refine EB (GC h.2 hz.2) ?_
 have h1:=PI (ns:=s.ns) (a4g (n:=n) hd hi)
 have h2:=RZ hp.1.1.1 hp.2.1.1.1
 have e:(Aa s.ns k).kids=c::(Aa s.ns k).kids.drop 1:=by
  cases hk:(Aa s.ns k).kids with
  |nil=>rw[hk] at hc;cases hc
  |cons a l=>rw[hk] at hc;simp at hc;simp [hc]
 rw[e,wS] at h2;omega
theorem b4F{n:Nat}{s:ZS}{m:Ms}{k c d:Int}{y z:Int×Ms}(hp:vPu (n+1) s m k)(hq:m.code=0)(hk:(Aa s.ns k).kind=8)(hc:(Aa s.ns k).kids[0]? =some c)(h:vQu n s m c y)(hn:¬y.1=0)(hd:(Aa s.ns k).kids[1]? =some d)(hz:vQu n s y.2 d z):vQu (n+1) s m k z:=by
 refine⟨⟨?_,hz.1.2⟩,a4h hp hc h hd (by omega) hz⟩
 rw[a4f hq hk hc h,if_pos hn,EV hd];exact hz.1.1
theorem b4G{n:Nat}{s:ZS}{m:Ms}{k c d:Int}{y z:Int×Ms}(hp:vPu (n+1) s m k)(hq:m.code=0)(hk:(Aa s.ns k).kind=8)(hc:(Aa s.ns k).kids[0]? =some c)(h:vQu n s m c y)(hn:y.1=0)(hd:(Aa s.ns k).kids[2]? =some d)(hz:vQu n s y.2 d z):vQu (n+1) s m k z:=by
 refine⟨⟨?_,hz.1.2⟩,a4h hp hc h hd (by omega) hz⟩
 rw[a4f hq hk hc h,if_neg (by simp [hn]),EV hd];exact hz.1.1
theorem b4H{n:Nat}{s:ZS}{m:Ms}{k:Int}(hp:vPu n s m k):m.cells.length<2^62:=by
 have h1:=hp.1.2.2.1.2;have h2:=hp.1.2.1.1.1;simp only[mc] at*;omega
attribute [local irreducible] auI auX caN mPu vQu vPu cQu Hi cPu
def Jh(n:Nat):Sig:= {X:=ZX Nd,args:=fun x=>[usA x.1 (uh x),.agg (ndA false (zl x))],pre:=fun x=>Hi n x.1 (uh x) (zl x),Y:=Int×UY,post:=fun x y=>Fq n x.1 (uh x) (zl x) (yw y),res:=fun x y=> .int .i64 y.1,outs:=fun x y=>[usA x.1 (yu y.2),.top],keep:=true}
def Mu(n:Nat)(x:ZX Nd):LS:= {ι:=Unit,inv:=fun _=>True,regs:=fun _=>[(0,usA x.1 (uh x)),(3,.box 0 (ndA false (zl x))),(5,.box 0 (ndA false (caN x.1 (zl x))))],als:=[],meas:=fun _=>0}
def SH(n:Nat)(x:ZX Nd):LS:= {ι:=Int×List Int×UY,inv:=fun i=>auI n x.1 (uh x) (zl x) i.1 (yu i.2.2) i.2.1,regs:=fun i=>[(0,usA x.1 (yu i.2.2)),(3,.box 0 (ndA false (zl x))),(5,.box 0 (ndA false (caN x.1 (zl x)))),(6,Ad i.2.1),(7,.int .i64 i.1)],als:=[],meas:=fun i=>(zl x).kids.length-i.1.toNat}
def SI(n:Nat)(x:ZX Nd):LS:= {ι:=Int×List Int×UY,inv:=fun i=>auX n x.1 (uh x) (zl x) i.1 (yu i.2.2) i.2.1,regs:=fun i=>[(0,usA x.1 (yu i.2.2)),(3,.box 0 (ndA false (zl x))),(5,.box 0 (ndA false (caN x.1 (zl x)))),(6,Ad i.2.1),(7,.int .i64 i.1)],als:=[],meas:=fun _=>0}
def b4I(n:Nat)(x:ZX Nd):LS:= {ι:=UY,inv:=fun i=>Fq n x.1 (uh x) (zl x) (0,yu i),regs:=fun i=>[(0,usA x.1 (yu i))],als:=[],meas:=fun _=>0}
def Xa(n:Nat)(x:ZX Nd)(i:Int×List Int×UY)(x_1:Int):Prop:=∃(zs:List Int),Ad (yu i.2.2).out=Ad zs∧Br Bc∧Ba ((0:Nat)+List.length zs) (8:Nat)∧∃(x_2:Int),x_1=x_2∧∃(CC:List Int),Ad [x_2]=Ad CC∧Br Bc∧Ba (List.length ([]++zs)+List.length CC) (8:Nat)∧true=true∧∃(i_1:UY),Fq n x.1 (uh x) (zl x) ((0:Int),yu i_1)∧(nds x.1.ns=nds x.1.ns∧AV.sl false 0 2 (List UInt8×Int) Ai (yu i.2.2).cells=AV.sl false 0 2 (List UInt8×Int) Ai (yu i_1).cells∧Ad ([]++zs++CC)=Ad (yu i_1).out∧(yu i.2.2).code=(yu i_1).code∧(yu i.2.2).steps=(yu i_1).steps∧x.1.L=x.1.L∧(yu i.2.2).deep=(yu i_1).deep∧(yu i.2.2).done=(yu i_1).done∧(yu i.2.2).ret=(yu i_1).ret∧True)∧True
def Xb(n:Nat)(x:ZX Nd)(i:Int×List Int×UY)(x_1:Int):Prop:=(Xa n x i x_1)∧∃(x_2:Int),x_1=x_2∧∃(zs:List Int),Ad (yu i.2.2).out=Ad zs∧Br Bc∧Ba ((0:Nat)+List.length zs) (8:Nat)∧∃(CC:List Int),Ad [x_2]=Ad CC∧Br Bc∧Ba (List.length ([]++zs)+List.length CC) (8:Nat)∧true=true∧∃(i_1:UY),Fq n x.1 (uh x) (zl x) ((0:Int),yu i_1)∧(nds x.1.ns=nds x.1.ns∧AV.sl false 0 2 (List UInt8×Int) Ai (yu i.2.2).cells=AV.sl false 0 2 (List UInt8×Int) Ai (yu i_1).cells∧Ad ([]++zs++CC)=Ad (yu i_1).out∧(yu i.2.2).code=(yu i_1).code∧(yu i.2.2).steps=(yu i_1).steps∧x.1.L=x.1.L∧(yu i.2.2).deep=(yu i_1).deep∧(yu i.2.2).done=(yu i_1).done∧(yu i.2.2).ret=(yu i_1).ret∧True)∧True
def Xc(n:Nat)(x:ZX Nd)(i:Int×List Int×UY):Prop:=((∃(zs:List Int),Ad (yu i.2.2).out=Ad zs∧Br Bc∧Ba ((0:Nat)+List.length zs) (8:Nat)∧(0:Nat)<List.length i.2.1∧∀(x_1:Int),i.2.1[(0:Nat)]? =some x_1→∃(x_2:Int),x_1=x_2∧∃(CC:List Int),Ad [x_2]=Ad CC∧Br Bc∧Ba (List.length ([]++zs)+List.length CC) (8:Nat)∧true=true∧∃(i_1:UY),Fq n x.1 (uh x) (zl x) ((0:Int),yu i_1)∧(nds x.1.ns=nds x.1.ns∧AV.sl false 0 2 (List UInt8×Int) Ai (yu i.2.2).cells=AV.sl false 0 2 (List UInt8×Int) Ai (yu i_1).cells∧Ad ([]++zs++CC)=Ad (yu i_1).out∧(yu i.2.2).code=(yu i_1).code∧(yu i.2.2).steps=(yu i_1).steps∧x.1.L=x.1.L∧(yu i.2.2).deep=(yu i_1).deep∧(yu i.2.2).done=(yu i_1).done∧(yu i.2.2).ret=(yu i_1).ret∧True)∧True)∧(0:Nat)<List.length i.2.1∧∀(x_1:Int),i.2.1[(0:Nat)]? =some x_1→(Xa n x i x_1)∧∃(x_2:Int),x_1=x_2∧∃(zs:List Int),Ad (yu i.2.2).out=Ad zs∧Br Bc∧Ba ((0:Nat)+List.length zs) (8:Nat)∧∃(CC:List Int),Ad [x_2]=Ad CC∧Br Bc∧Ba (List.length ([]++zs)+List.length CC) (8:Nat)∧true=true∧∃(i_1:UY),Fq n x.1 (uh x) (zl x) ((0:Int),yu i_1)∧(nds x.1.ns=nds x.1.ns∧AV.sl false 0 2 (List UInt8×Int) Ai (yu i.2.2).cells=AV.sl false 0 2 (List UInt8×Int) Ai (yu i_1).cells∧Ad ([]++zs++CC)=Ad (yu i_1).out∧(yu i.2.2).code=(yu i_1).code∧(yu i.2.2).steps=(yu i_1).steps∧x.1.L=x.1.L∧(yu i.2.2).deep=(yu i_1).deep∧(yu i.2.2).done=(yu i_1).done∧(yu i.2.2).ret=(yu i_1).ret∧True)∧True)∧(0:Nat)<List.length i.2.1∧∀(x_1:Int),i.2.1[(0:Nat)]? =some x_1→(Xb n x i x_1)∧∃(x_2:Int),x_1=x_2∧∃(zs:List Int),Ad (yu i.2.2).out=Ad zs∧Br Bc∧Ba ((0:Nat)+List.length zs) (8:Nat)∧∃(CC:List Int),Ad [x_2]=Ad CC∧Br Bc∧Ba (List.length ([]++zs)+List.length CC) (8:Nat)∧true=true∧∃(i_1:UY),Fq n x.1 (uh x) (zl x) ((0:Int),yu i_1)∧(nds x.1.ns=nds x.1.ns∧AV.sl false 0 2 (List UInt8×Int) Ai (yu i.2.2).cells=AV.sl false 0 2 (List UInt8×Int) Ai (yu i_1).cells∧Ad ([]++zs++CC)=Ad (yu i_1).out∧(yu i.2.2).code=(yu i_1).code∧(yu i.2.2).steps=(yu i_1).steps∧x.1.L=x.1.L∧(yu i.2.2).deep=(yu i_1).deep∧(yu i.2.2).done=(yu i_1).done∧(yu i.2.2).ret=(yu i_1).ret∧True)∧True
def Xd(n:Nat)(x:ZX Nd)(i:Int×List Int×UY)(x_1:Int):Prop:=(Xb n x i x_1)∧∃(x_2:Int),x_1=x_2∧∃(zs:List Int),Ad (yu i.2.2).out=Ad zs∧Br Bc∧Ba ((0:Nat)+List.length zs) (8:Nat)∧∃(CC:List Int),Ad [x_2]=Ad CC∧Br Bc∧Ba (List.length ([]++zs)+List.length CC) (8:Nat)∧true=true∧∃(i_1:UY),Fq n x.1 (uh x) (zl x) ((0:Int),yu i_1)∧(nds x.1.ns=nds x.1.ns∧AV.sl false 0 2 (List UInt8×Int) Ai (yu i.2.2).cells=AV.sl false 0 2 (List UInt8×Int) Ai (yu i_1).cells∧Ad ([]++zs++CC)=Ad (yu i_1).out∧(yu i.2.2).code=(yu i_1).code∧(yu i.2.2).steps=(yu i_1).steps∧x.1.L=x.1.L∧(yu i.2.2).deep=(yu i_1).deep∧(yu i.2.2).done=(yu i_1).done∧(yu i.2.2).ret=(yu i_1).ret∧True)∧True
def Xe(n:Nat)(x:ZX Nd):Prop:=((0:Int)≤(0:Int)∧(0:Int)<(↑(List.length (zl x).kids):Int))∧∀(e:Int),(zl x).kids[(0:Nat)]? =some e→((0:Int)≤e∧e<(↑(List.length x.1.ns):Int))∧∀(e_1:Nd),x.1.ns[Int.toNat e]? =some e_1→true=true∧eA (Mu n x) [.box 0 [nds x.1.ns,AV.sl false 0 2 (List UInt8×Int) Ai (uh x).cells,Ad (uh x).out,.int .i64 (uh x).code,.int .i64 (uh x).steps,.int .i64 x.1.L,.int .i64 (uh x).deep,.bool (uh x).done,.int .i64 (uh x).ret],.box 0 [.int .i64 (zl x).kind,.str (zl x).text,Ag (zl x).kids,.bool (zl x).blank],.box 0 [.int .i64 e_1.kind,.str e_1.text,Ag e_1.kids,.bool e_1.blank]]
def Xf(n:Nat)(x:ZX Nd)(i:Int×List Int×UY):Prop:=cA Db [.box 0 [nds x.1.ns,AV.sl false 0 2 (List UInt8×Int) Ai (yu i.2.2).cells,Ad (yu i.2.2).out,.int .i64 (yu i.2.2).code,.int .i64 (yu i.2.2).steps,.int .i64 x.1.L,.int .i64 (yu i.2.2).deep,.bool (yu i.2.2).done,.int .i64 (yu i.2.2).ret]] fun x_2 y=>rA (Jh n) x [.int .i64 (0:Int),.box 0 [nds x_2.1.ns,AV.sl false 0 2 (List UInt8×Int) Ai (AU (uh x_2)).cells,Ad (AU (uh x_2)).out,.int .i64 (AU (uh x_2)).code,.int .i64 (AU (uh x_2)).steps,.int .i64 x_2.1.L,.int .i64 (AU (uh x_2)).deep,.bool (AU (uh x_2)).done,.int .i64 (AU (uh x_2)).ret],.top]
def Xg(n:Nat)(x:ZX Nd)(i:Int×List Int×UY):Prop:=true=true∧true=true∧∃(x_1:List Nd×List UInt8),tOk x_1.1∧nds x.1.ns=nds x_1.1∧(caN x.1 (zl x)).text=x_1.2∧∃(y0:Unit),(∀(y:Unit),True→AV.int IntKind.i64 (Bl x_1.1 x_1.2 (Bf x_1.1).kids)=AV.int IntKind.i64 (Bl x_1.1 x_1.2 (Bf x_1.1).kids))∧true=true∧Ab (decide (Bl x_1.1 x_1.2 (Bf x_1.1).kids<(0:Int))) (Xf n x i) (Ab (decide ((yu i.2.2).deep≥(20:Int))) (Xf n x i) (inR IntKind.i64 ((yu i.2.2).deep+(1:Int))∧cA (Mt n) [.box 0 [nds x.1.ns,AV.sl false 0 2 (List UInt8×Int) Ai (yu i.2.2).cells,Ad (yu i.2.2).out,.int .i64 (yu i.2.2).code,.int .i64 (yu i.2.2).steps,.int .i64 x.1.L,.int .i64 ((yu i.2.2).deep+(1:Int)),.bool (yu i.2.2).done,.int .i64 (yu i.2.2).ret],.int .i64 (Bl x_1.1 x_1.2 (Bf x_1.1).kids),Ad i.2.1] fun x_2 y=>inR IntKind.i64 ((yu y.2).deep-(1:Int))∧rA (Jh n) x [.int .i64 y.1,.box 0 [nds x_2.1.ns,AV.sl false 0 2 (List UInt8×Int) Ai (yu i.2.2).cells,Ad (yu y.2).out,.int .i64 (yu y.2).code,.int .i64 (yu y.2).steps,.int .i64 x_2.1.L,.int .i64 ((yu y.2).deep-(1:Int)),.bool (yu y.2).done,.int .i64 (yu y.2).ret],.top]))
theorem b4J(n:Nat)(h:uAll G n):Al G Tryz.prog 151 (Jh n):=
 vcFun_okP [(43,0,Db),(122,0,(Di n)),(14,0,JN),(44,0,(Mt n))] [(25,⟨Int,Bc⟩)] false (fun x=>[(100001,Mu n x),(6,SH n x),(200009,SI n x),(100012,b4I n x)]) Tryz.func151 rfl (by decide) ⟨Mq,h.val,a3S,(a3Z n h),trivial⟩ (fun(x:ZX Nd)=>True∧true=true∧(((Xe n x)∧((0:Int)≤(0:Int)∧(0:Int)<(↑(List.length (zl x).kids):Int))∧∀(e:Int),(zl x).kids[(0:Nat)]? =some e→((0:Int)≤e∧e<(↑(List.length x.1.ns):Int))∧∀(e_1:Nd),x.1.ns[Int.toNat e]? =some e_1→true=true∧eA (Mu n x) [.box 0 [nds x.1.ns,AV.sl false 0 2 (List UInt8×Int) Ai (uh x).cells,Ad (uh x).out,.int .i64 (uh x).code,.int .i64 (uh x).steps,.int .i64 x.1.L,.int .i64 (uh x).deep,.bool (uh x).done,.int .i64 (uh x).ret],.box 0 [.int .i64 (zl x).kind,.str (zl x).text,Ag (zl x).kids,.bool (zl x).blank],.box 0 [.int .i64 e_1.kind,.str e_1.text,Ag e_1.kids,.bool e_1.blank]])∧(((0:Int)≤(0:Int)∧(0:Int)<(↑(List.length (zl x).kids):Int))∧∀(e:Int),(zl x).kids[(0:Nat)]? =some e→(((0:Int)≤e∧e<(↑(List.length x.1.ns):Int))∧∀(e_1:Nd),x.1.ns[Int.toNat e]? =some e_1→true=true∧eA (Mu n x) [.box 0 [nds x.1.ns,AV.sl false 0 2 (List UInt8×Int) Ai (uh x).cells,Ad (uh x).out,.int .i64 (uh x).code,.int .i64 (uh x).steps,.int .i64 x.1.L,.int .i64 (uh x).deep,.bool (uh x).done,.int .i64 (uh x).ret],.box 0 [.int .i64 (zl x).kind,.str (zl x).text,Ag (zl x).kids,.bool (zl x).blank],.box 0 [.int .i64 e_1.kind,.str e_1.text,Ag e_1.kids,.bool e_1.blank]])∧((0:Int)≤e∧e<(↑(List.length x.1.ns):Int))∧∀(e_1:Nd),x.1.ns[Int.toNat e]? =some e_1→true=true∧eA (Mu n x) [.box 0 [nds x.1.ns,AV.sl false 0 2 (List UInt8×Int) Ai (uh x).cells,Ad (uh x).out,.int .i64 (uh x).code,.int .i64 (uh x).steps,.int .i64 x.1.L,.int .i64 (uh x).deep,.bool (uh x).done,.int .i64 (uh x).ret],.box 0 [.int .i64 (zl x).kind,.str (zl x).text,Ag (zl x).kids,.bool (zl x).blank],.box 0 [.int .i64 e_1.kind,.str e_1.text,Ag e_1.kids,.bool e_1.blank]])∧(Xe n x)∧((0:Int)≤(0:Int)∧(0:Int)<(↑(List.length (zl x).kids):Int))∧∀(e:Int),(zl x).kids[(0:Nat)]? =some e→((0:Int)≤e∧e<(↑(List.length x.1.ns):Int))∧∀(e_1:Nd),x.1.ns[Int.toNat e]? =some e_1→true=true∧eA (Mu n x) [.box 0 [nds x.1.ns,AV.sl false 0 2 (List UInt8×Int) Ai (uh x).cells,Ad (uh x).out,.int .i64 (uh x).code,.int .i64 (uh x).steps,.int .i64 x.1.L,.int .i64 (uh x).deep,.bool (uh x).done,.int .i64 (uh x).ret],.box 0 [.int .i64 (zl x).kind,.str (zl x).text,Ag (zl x).kids,.bool (zl x).blank],.box 0 [.int .i64 e_1.kind,.str e_1.text,Ag e_1.kids,.bool e_1.blank]])∧∀(i:Unit),True→Ab ((caN x.1 (zl x)).kind != (1:Int)) (cA Db [.box 0 [nds x.1.ns,AV.sl false 0 2 (List UInt8×Int) Ai (uh x).cells,Ad (uh x).out,.int .i64 (uh x).code,.int .i64 (uh x).steps,.int .i64 x.1.L,.int .i64 (uh x).deep,.bool (uh x).done,.int .i64 (uh x).ret]] fun x_1 y=>rA (Jh n) x [.int .i64 (0:Int),.box 0 [nds x_1.1.ns,AV.sl false 0 2 (List UInt8×Int) Ai (AU (uh x_1)).cells,Ad (AU (uh x_1)).out,.int .i64 (AU (uh x_1)).code,.int .i64 (AU (uh x_1)).steps,.int .i64 x_1.1.L,.int .i64 (AU (uh x_1)).deep,.bool (AU (uh x_1)).done,.int .i64 (AU (uh x_1)).ret],.top]) ((eA (SH n x) [.box 0 [nds x.1.ns,AV.sl false 0 2 (List UInt8×Int) Ai (uh x).cells,Ad (uh x).out,.int .i64 (uh x).code,.int .i64 (uh x).steps,.int .i64 x.1.L,.int .i64 (uh x).deep,.bool (uh x).done,.int .i64 (uh x).ret],.box 0 [.int .i64 (zl x).kind,.str (zl x).text,Ag (zl x).kids,.bool (zl x).blank],.box 0 [.int .i64 (caN x.1 (zl x)).kind,.str (caN x.1 (zl x)).text,Ag (caN x.1 (zl x)).kids,.bool (caN x.1 (zl x)).blank],Ad [],.int .i64 (1:Int)]∧∀(i:Int×List Int×UY),auI n x.1 (uh x) (zl x) i.1 (yu i.2.2) i.2.1→Ab (decide (i.1<(↑(List.length (zl x).kids):Int))) (Ab ((yu i.2.2).code==(0:Int)) (((0:Int)≤i.1∧i.1<(↑(List.length (zl x).kids):Int))∧∀(e:Int),(zl x).kids[Int.toNat i.1]? =some e→cA (Di n) [.box 0 [nds x.1.ns,AV.sl false 0 2 (List UInt8×Int) Ai (yu i.2.2).cells,Ad (yu i.2.2).out,.int .i64 (yu i.2.2).code,.int .i64 (yu i.2.2).steps,.int .i64 x.1.L,.int .i64 (yu i.2.2).deep,.bool (yu i.2.2).done,.int .i64 (yu i.2.2).ret],.int .i64 e] fun x_1 y=>∃(x_2:Int),y.1=x_2∧∃(zs:List Int),Ad [x_2]=Ad zs∧Br Bc∧Ba (List.length i.2.1+List.length zs) (8:Nat)∧inR IntKind.i64 (i.1+(1:Int))∧eN (SH n x) i [.box 0 [nds x_1.1.ns,AV.sl false 0 2 (List UInt8×Int) Ai (yu y.2).cells,Ad (yu y.2).out,.int .i64 (yu y.2).code,.int .i64 (yu y.2).steps,.int .i64 x_1.1.L,.int .i64 (yu y.2).deep,.bool (yu y.2).done,.int .i64 (yu y.2).ret],.box 0 [.int .i64 (zl x).kind,.str (zl x).text,Ag (zl x).kids,.bool (zl x).blank],.box 0 [.int .i64 (caN x.1 (zl x)).kind,.str (caN x.1 (zl x)).text,Ag (caN x.1 (zl x)).kids,.bool (caN x.1 (zl x)).blank],Ad (i.2.1++zs),.int .i64 (i.1+(1:Int))]) (eA (SI n x) [.box 0 [nds x.1.ns,AV.sl false 0 2 (List UInt8×Int) Ai (yu i.2.2).cells,Ad (yu i.2.2).out,.int .i64 (yu i.2.2).code,.int .i64 (yu i.2.2).steps,.int .i64 x.1.L,.int .i64 (yu i.2.2).deep,.bool (yu i.2.2).done,.int .i64 (yu i.2.2).ret],.box 0 [.int .i64 (zl x).kind,.str (zl x).text,Ag (zl x).kids,.bool (zl x).blank],.box 0 [.int .i64 (caN x.1 (zl x)).kind,.str (caN x.1 (zl x)).text,Ag (caN x.1 (zl x)).kids,.bool (caN x.1 (zl x)).blank],Ad i.2.1,.int .i64 i.1])) (eA (SI n x) [.box 0 [nds x.1.ns,AV.sl false 0 2 (List UInt8×Int) Ai (yu i.2.2).cells,Ad (yu i.2.2).out,.int .i64 (yu i.2.2).code,.int .i64 (yu i.2.2).steps,.int .i64 x.1.L,.int .i64 (yu i.2.2).deep,.bool (yu i.2.2).done,.int .i64 (yu i.2.2).ret],.box 0 [.int .i64 (zl x).kind,.str (zl x).text,Ag (zl x).kids,.bool (zl x).blank],.box 0 [.int .i64 (caN x.1 (zl x)).kind,.str (caN x.1 (zl x)).text,Ag (caN x.1 (zl x)).kids,.bool (caN x.1 (zl x)).blank],Ad i.2.1,.int .i64 i.1]))∧∀(i:Int×List Int×UY),auX n x.1 (uh x) (zl x) i.1 (yu i.2.2) i.2.1→Ab ((yu i.2.2).code != (0:Int)) (rA (Jh n) x [.int .i64 (0:Int),.box 0 [nds x.1.ns,AV.sl false 0 2 (List UInt8×Int) Ai (yu i.2.2).cells,Ad (yu i.2.2).out,.int .i64 (yu i.2.2).code,.int .i64 (yu i.2.2).steps,.int .i64 x.1.L,.int .i64 (yu i.2.2).deep,.bool (yu i.2.2).done,.int .i64 (yu i.2.2).ret],.top]) (Ab ((caN x.1 (zl x)).text== #[(112:UInt8),(114:UInt8),(105:UInt8),(110:UInt8),(116:UInt8)].toList) (Ab ((↑(List.length i.2.1):Int)==(1:Int)) (true=true∧(((0:Int)≤(0:Int)∧(0:Int)<(↑(List.length i.2.1):Int))∧(Xc n x i)∧(Xc n x i)∧(0:Nat)<List.length i.2.1∧∀(x_1:Int),i.2.1[(0:Nat)]? =some x_1→(Xd n x i x_1)∧(Xd n x i x_1)∧∃(x_2:Int),x_1=x_2∧(∃(zs:List Int),Ad (yu i.2.2).out=Ad zs∧Br Bc∧Ba ((0:Nat)+List.length zs) (8:Nat)∧∃(CC:List Int),Ad [x_2]=Ad CC∧Br Bc∧Ba (List.length ([]++zs)+List.length CC) (8:Nat)∧true=true∧∃(i_1:UY),Fq n x.1 (uh x) (zl x) ((0:Int),yu i_1)∧(nds x.1.ns=nds x.1.ns∧AV.sl false 0 2 (List UInt8×Int) Ai (yu i.2.2).cells=AV.sl false 0 2 (List UInt8×Int) Ai (yu i_1).cells∧Ad ([]++zs++CC)=Ad (yu i_1).out∧(yu i.2.2).code=(yu i_1).code∧(yu i.2.2).steps=(yu i_1).steps∧x.1.L=x.1.L∧(yu i.2.2).deep=(yu i_1).deep∧(yu i.2.2).done=(yu i_1).done∧(yu i.2.2).ret=(yu i_1).ret∧True)∧True)∧∃(zs:List Int),Ad (yu i.2.2).out=Ad zs∧Br Bc∧Ba ((0:Nat)+List.length zs) (8:Nat)∧∃(CC:List Int),Ad [x_2]=Ad CC∧Br Bc∧Ba (List.length ([]++zs)+List.length CC) (8:Nat)∧true=true∧∃(i_1:UY),Fq n x.1 (uh x) (zl x) ((0:Int),yu i_1)∧(nds x.1.ns=nds x.1.ns∧AV.sl false 0 2 (List UInt8×Int) Ai (yu i.2.2).cells=AV.sl false 0 2 (List UInt8×Int) Ai (yu i_1).cells∧Ad ([]++zs++CC)=Ad (yu i_1).out∧(yu i.2.2).code=(yu i_1).code∧(yu i.2.2).steps=(yu i_1).steps∧x.1.L=x.1.L∧(yu i.2.2).deep=(yu i_1).deep∧(yu i.2.2).done=(yu i_1).done∧(yu i.2.2).ret=(yu i_1).ret∧True)∧True)∧∀(i:UY),Fq n x.1 (uh x) (zl x) ((0:Int),yu i)→rA (Jh n) x [.int .i64 (0:Int),.box 0 [nds x.1.ns,AV.sl false 0 2 (List UInt8×Int) Ai (yu i).cells,Ad (yu i).out,.int .i64 (yu i).code,.int .i64 (yu i).steps,.int .i64 x.1.L,.int .i64 (yu i).deep,.bool (yu i).done,.int .i64 (yu i).ret],.top]) (Xg n x i)) (Xg n x i)))) (fun x=>by kernel_rfl) fun(x:ZX Nd) (hx:Hi n x.1 (uh x) (zl x))=>(by
 dsimp only[Xg,Xf,Xe,Xd,Xc,Xb,Xa,cA,Ai,cls,eA,eN,SH,SI,Mu,Ag,Bx,nds,Ad,rA,Jh,Db,Mt,Di,usA,Aw,Az,mvL,lnL,mvE,lnE,Bv]
 obtain⟨s,o,c,t,d,cs,en,re,z⟩:=x;dsimp only[uh,zl] at hx ⊢
 have hx:Hi n s ⟨o,c,t,d,cs,en,re⟩ z:=hx
 have h1:=b4d hx
 (repeat' first|(apply WP<;>try dsimp only)|(with_reducible first|rfl|exact True.intro|apply AK|apply And.intro|((first|apply AA|apply AI|apply AB|apply AJ)<;>intro _))|(apply Ax<;>intro _)|apply AH|refine Af () ?_ ?_|((first|apply AO|apply AN|apply AM|apply AL|apply AG|apply AF|apply AE|apply AD|apply AC)<;>try dsimp only)|apply Af|(refine Prod.forall.2 ?_;intro _;try dsimp only)|(intro _;try dsimp only))
 all_goals(try simp only[KH] at*)
 all_goals(try(have hB:=WU (show auI _ _ _ _ _ _ _ by assumption);dsimp only[yu] at hB))
 all_goals(try(have hB:=b4o (show auX _ _ _ _ _ _ _ by assumption);dsimp only[yu] at hB))
 all_goals(try(rename s.ns[_]? =some _=>hq;have hN:=b4f ‹_› hq))
 all_goals(try(have hD:=b4p (show mQu _ _ _ _ _ _ by assumption);dsimp only[yu] at hD))
 all_goals first
  |rfl
  |exact hx
  |exact()
  |exact True.intro
  |exact b4e hx
  |(rw[hN];done)
  |(exact(a4a hx ‹_›).1)
  |(exact(a4a hx ‹_›).2)
  |exact b4c hx ‹_›
  |exact b4h hx (by omega)
  |exact b4i hx ‹_› ‹_›
  |exact b4j ‹_› ‹_› ‹_› ‹_›
  |exact a4d ‹_› (.inl ‹_›)
  |exact a4d ‹_› (.inr ‹_›)
  |exact b4l ‹_› ‹_›
  |exact b4m hx ‹_› (by omega) ‹_› ‹_› ‹_›
  |exact b4n hx ‹_› ‹_› (by omega)
  |exact SE ‹_› (by omega) (fun h=>absurd h.1 ‹_›) (.inl ‹_›)
  |exact SE ‹_› (by omega) (fun h=>absurd h.2 ‹_›) (.inl ‹_›)
  |exact SE ‹_› (by omega) (fun h=>absurd h.1 ‹_›) (.inr (by omega))
  |exact SE ‹_› (by omega) (fun h=>absurd h.2 ‹_›) (.inr (by omega))
  |exact a4c ‹_› (by omega) (fun h=>absurd h.1 ‹_›) ‹_› (by omega) ‹_›
  |exact a4c ‹_› (by omega) (fun h=>absurd h.2 ‹_›) ‹_› (by omega) ‹_›
  |((try simp only[AQ,Ba,List.length_append,List.length_cons,List.length_nil]);omega)
  |skip)
def Hj(n:Nat):Sig:= {X:=ZX Int,args:=fun x=>[usA x.1 (uh x),.int .i64 (zl x)],pre:=fun x=>vPu (n+1) x.1 (uh x) (zl x),Y:=Int×UY,post:=fun x y=>vQu (n+1) x.1 (uh x) (zl x) (yw y),res:=fun x y=> .int .i64 y.1,outs:=fun x y=>[usA x.1 (yu y.2),.top],keep:=true}
theorem b4K(n:Nat)(h:uAll G n):Al G Tryz.prog 122 (Hj n):=
 vcFun_okP [(43,0,Db),(149,0,KC),(123,0,NY),(122,0,(Di n)),(150,0,(Ep n)),(151,0,(Jh n))] [] false (fun x=>[]) Tryz.func122 rfl (by decide) ⟨Mq,b2G,a3P,h.val,(b3V n h),(b4J n h),trivial⟩ (fun(x:ZX Int)=>True∧Ab ((uh x).code != (0:Int)) (rA (Hj n) x [.int .i64 (0:Int),.box 0 [nds x.1.ns,AV.sl false 0 2 (List UInt8×Int) Ai (uh x).cells,Ad (uh x).out,.int .i64 (uh x).code,.int .i64 (uh x).steps,.int .i64 x.1.L,.int .i64 (uh x).deep,.bool (uh x).done,.int .i64 (uh x).ret],.top]) (((0:Int)≤zl x∧zl x<(↑(List.length x.1.ns):Int))∧∀(e:Nd),x.1.ns[Int.toNat (zl x)]? =some e→Ab (e.kind==(2:Int)) (cA KC [.str e.text] fun x_1 y=>Ab (decide (List.length x_1≤(9:Nat))) (rA (Hj n) x [.int .i64 (if(9:Nat)<List.length x_1 then(0:Int) else Cd x_1),.box 0 [nds x.1.ns,AV.sl false 0 2 (List UInt8×Int) Ai (uh x).cells,Ad (uh x).out,.int .i64 (uh x).code,.int .i64 (uh x).steps,.int .i64 x.1.L,.int .i64 (uh x).deep,.bool (uh x).done,.int .i64 (uh x).ret],.top]) (cA Db [.box 0 [nds x.1.ns,AV.sl false 0 2 (List UInt8×Int) Ai (uh x).cells,Ad (uh x).out,.int .i64 (uh x).code,.int .i64 (uh x).steps,.int .i64 x.1.L,.int .i64 (uh x).deep,.bool (uh x).done,.int .i64 (uh x).ret]] fun x_2 y=>rA (Hj n) x [.int .i64 (0:Int),.box 0 [nds x_2.1.ns,AV.sl false 0 2 (List UInt8×Int) Ai (AU (uh x_2)).cells,Ad (AU (uh x_2)).out,.int .i64 (AU (uh x_2)).code,.int .i64 (AU (uh x_2)).steps,.int .i64 x_2.1.L,.int .i64 (AU (uh x_2)).deep,.bool (AU (uh x_2)).done,.int .i64 (AU (uh x_2)).ret],.top])) (Ab (e.kind==(1:Int)) (true=true∧true=true∧∃(x_1:Cls×List UInt8),List.length x_1.1<(4611686018427387904:Nat)∧AV.sl false 0 2 (List UInt8×Int) Ai (uh x).cells=AV.sl false 0 2 (List UInt8×Int) Ai x_1.1∧e.text=x_1.2∧∃(y0:Unit),(∀(y:Unit),True→AV.tup [.int .i64 (nOf (Cy x_1.1 x_1.2)),.bool (Option.isSome (Cy x_1.1 x_1.2))]=AV.tup [.int .i64 (nOf (Cy x_1.1 x_1.2)),.bool (Option.isSome (Cy x_1.1 x_1.2))])∧true=true∧Ab (Option.isSome (Cy x_1.1 x_1.2)) (rA (Hj n) x [.int .i64 (nOf (Cy x_1.1 x_1.2)),.box 0 [nds x.1.ns,AV.sl false 0 2 (List UInt8×Int) Ai (uh x).cells,Ad (uh x).out,.int .i64 (uh x).code,.int .i64 (uh x).steps,.int .i64 x.1.L,.int .i64 (uh x).deep,.bool (uh x).done,.int .i64 (uh x).ret],.top]) (cA Db [.box 0 [nds x.1.ns,AV.sl false 0 2 (List UInt8×Int) Ai (uh x).cells,Ad (uh x).out,.int .i64 (uh x).code,.int .i64 (uh x).steps,.int .i64 x.1.L,.int .i64 (uh x).deep,.bool (uh x).done,.int .i64 (uh x).ret]] fun x_2 y=>rA (Hj n) x [.int .i64 (0:Int),.box 0 [nds x_2.1.ns,AV.sl false 0 2 (List UInt8×Int) Ai (AU (uh x_2)).cells,Ad (AU (uh x_2)).out,.int .i64 (AU (uh x_2)).code,.int .i64 (AU (uh x_2)).steps,.int .i64 x_2.1.L,.int .i64 (AU (uh x_2)).deep,.bool (AU (uh x_2)).done,.int .i64 (AU (uh x_2)).ret],.top])) (Ab (e.kind==(11:Int)) (((0:Int)≤(0:Int)∧(0:Int)<(↑(List.length e.kids):Int))∧∀(e_1:Int),e.kids[(0:Nat)]? =some e_1→cA (Di n) [.box 0 [nds x.1.ns,AV.sl false 0 2 (List UInt8×Int) Ai (uh x).cells,Ad (uh x).out,.int .i64 (uh x).code,.int .i64 (uh x).steps,.int .i64 x.1.L,.int .i64 (uh x).deep,.bool (uh x).done,.int .i64 (uh x).ret],.int .i64 e_1] fun x_1 y=>rA (Hj n) x [.int .i64 y.1,.box 0 [nds x_1.1.ns,AV.sl false 0 2 (List UInt8×Int) Ai (yu y.2).cells,Ad (yu y.2).out,.int .i64 (yu y.2).code,.int .i64 (yu y.2).steps,.int .i64 x_1.1.L,.int .i64 (yu y.2).deep,.bool (yu y.2).done,.int .i64 (yu y.2).ret],.top]) (Ab (e.kind==(7:Int)) (cA (Ep n) [.box 0 [nds x.1.ns,AV.sl false 0 2 (List UInt8×Int) Ai (uh x).cells,Ad (uh x).out,.int .i64 (uh x).code,.int .i64 (uh x).steps,.int .i64 x.1.L,.int .i64 (uh x).deep,.bool (uh x).done,.int .i64 (uh x).ret],.agg [.int .i64 e.kind,.str e.text,Ag e.kids,.bool e.blank]] fun x_1 y=>rA (Hj n) x [.int .i64 y.1,.box 0 [nds x_1.1.ns,AV.sl false 0 2 (List UInt8×Int) Ai (yu y.2).cells,Ad (yu y.2).out,.int .i64 (yu y.2).code,.int .i64 (yu y.2).steps,.int .i64 x_1.1.L,.int .i64 (yu y.2).deep,.bool (yu y.2).done,.int .i64 (yu y.2).ret],.top]) (Ab (e.kind==(8:Int)) (((0:Int)≤(0:Int)∧(0:Int)<(↑(List.length e.kids):Int))∧∀(e_1:Int),e.kids[(0:Nat)]? =some e_1→cA (Di n) [.box 0 [nds x.1.ns,AV.sl false 0 2 (List UInt8×Int) Ai (uh x).cells,Ad (uh x).out,.int .i64 (uh x).code,.int .i64 (uh x).steps,.int .i64 x.1.L,.int .i64 (uh x).deep,.bool (uh x).done,.int .i64 (uh x).ret],.int .i64 e_1] fun x_1 y=>Ab (y.1 != (0:Int)) (((0:Int)≤(1:Int)∧(1:Int)<(↑(List.length e.kids):Int))∧∀(e_2:Int),e.kids[(1:Nat)]? =some e_2→cA (Di n) [.box 0 [nds x_1.1.ns,AV.sl false 0 2 (List UInt8×Int) Ai (yu y.2).cells,Ad (yu y.2).out,.int .i64 (yu y.2).code,.int .i64 (yu y.2).steps,.int .i64 x_1.1.L,.int .i64 (yu y.2).deep,.bool (yu y.2).done,.int .i64 (yu y.2).ret],.int .i64 e_2] fun x_2 y=>rA (Hj n) x [.int .i64 y.1,.box 0 [nds x_2.1.ns,AV.sl false 0 2 (List UInt8×Int) Ai (yu y.2).cells,Ad (yu y.2).out,.int .i64 (yu y.2).code,.int .i64 (yu y.2).steps,.int .i64 x_2.1.L,.int .i64 (yu y.2).deep,.bool (yu y.2).done,.int .i64 (yu y.2).ret],.top]) (((0:Int)≤(2:Int)∧(2:Int)<(↑(List.length e.kids):Int))∧∀(e_2:Int),e.kids[(2:Nat)]? =some e_2→cA (Di n) [.box 0 [nds x_1.1.ns,AV.sl false 0 2 (List UInt8×Int) Ai (yu y.2).cells,Ad (yu y.2).out,.int .i64 (yu y.2).code,.int .i64 (yu y.2).steps,.int .i64 x_1.1.L,.int .i64 (yu y.2).deep,.bool (yu y.2).done,.int .i64 (yu y.2).ret],.int .i64 e_2] fun x_2 y=>rA (Hj n) x [.int .i64 y.1,.box 0 [nds x_2.1.ns,AV.sl false 0 2 (List UInt8×Int) Ai (yu y.2).cells,Ad (yu y.2).out,.int .i64 (yu y.2).code,.int .i64 (yu y.2).steps,.int .i64 x_2.1.L,.int .i64 (yu y.2).deep,.bool (yu y.2).done,.int .i64 (yu y.2).ret],.top])) (Ab (e.kind==(5:Int)) (cA (Jh n) [.box 0 [nds x.1.ns,AV.sl false 0 2 (List UInt8×Int) Ai (uh x).cells,Ad (uh x).out,.int .i64 (uh x).code,.int .i64 (uh x).steps,.int .i64 x.1.L,.int .i64 (uh x).deep,.bool (uh x).done,.int .i64 (uh x).ret],.agg [.int .i64 e.kind,.str e.text,Ag e.kids,.bool e.blank]] fun x_1 y=>rA (Hj n) x [.int .i64 y.1,.box 0 [nds x_1.1.ns,AV.sl false 0 2 (List UInt8×Int) Ai (yu y.2).cells,Ad (yu y.2).out,.int .i64 (yu y.2).code,.int .i64 (yu y.2).steps,.int .i64 x_1.1.L,.int .i64 (yu y.2).deep,.bool (yu y.2).done,.int .i64 (yu y.2).ret],.top]) (cA Db [.box 0 [nds x.1.ns,AV.sl false 0 2 (List UInt8×Int) Ai (uh x).cells,Ad (uh x).out,.int .i64 (uh x).code,.int .i64 (uh x).steps,.int .i64 x.1.L,.int .i64 (uh x).deep,.bool (uh x).done,.int .i64 (uh x).ret]] fun x_1 y=>rA (Hj n) x [.int .i64 (0:Int),.box 0 [nds x_1.1.ns,AV.sl false 0 2 (List UInt8×Int) Ai (AU (uh x_1)).cells,Ad (AU (uh x_1)).out,.int .i64 (AU (uh x_1)).code,.int .i64 (AU (uh x_1)).steps,.int .i64 x_1.1.L,.int .i64 (AU (uh x_1)).deep,.bool (AU (uh x_1)).done,.int .i64 (AU (uh x_1)).ret],.top])))))))) (fun x=>by kernel_rfl) fun(x:ZX Int) (hx:vPu (n+1) x.1 (uh x) (zl x))=>(by
 dsimp only[cA,Ai,cls,Ag,Bx,nds,Ad,rA,KC,Jh,Ep,Db,Di,Hj,usA,Aw,Az,mvL,lnL,mvE,lnE]
 obtain⟨s,o,c,t,d,cs,en,re,k⟩:=x;dsimp only[uh,zl] at hx ⊢
 have hx:vPu (n+1) s ⟨o,c,t,d,cs,en,re⟩ k:=hx
 have hv:=WX hx
 (repeat' first|(with_reducible first|rfl|exact True.intro|apply AK|apply And.intro|((first|apply AA|apply AI|apply AB|apply AJ)<;>intro _))|(apply Ax<;>intro _)|apply AH|refine Af () ?_ ?_|((first|apply AO|apply AN|apply AM|apply AL|apply AG|apply AF|apply AE|apply AD|apply AC)<;>try dsimp only)|apply Af|(refine Prod.forall.2 ?_;intro _;try dsimp only)|(intro _;try dsimp only))
 all_goals(try simp only[KH,decide_eq_true_eq,decide_eq_false_iff_not] at*)
 all_goals(repeat(rename s.ns[_]? =some _=>hq;have hqe:=(Bo hq).symm;clear hq;subst hqe))
 all_goals(try(have hl:=b4q hx ‹_›))
 all_goals(try(have hl:=SF hx (.inr (.inr ‹_›))))
 all_goals first
  |rfl
  |exact hx
  |exact()
  |exact hv.1.1
  |exact hv.1.2
  |exact b4H hx
  |exact(SG hx ‹_›).1
  |exact(SG hx ‹_›).2.1
  |exact(SG hx ‹_›).2.2
  |exact b4s hx ‹_›
  |exact b4t hx (by omega) ‹_› ‹_›
  |exact b4u hx (by omega) ‹_› ‹_›
  |exact b4w hx (by omega) ‹_› ‹_›
  |exact b4x hx (by omega) ‹_› ‹_›
  |exact b4y hx ‹_›
  |exact b4A hx (by omega) ‹_› ‹_› ‹_›
  |exact a4e hx (.inr (.inl ‹_›))
  |exact b4B hx (by omega) ‹_› ‹_›
  |exact b4r hx ‹_›
  |exact b4C hx (by omega) ‹_› ‹_›
  |exact b4D hx (by omega) ‹_› ‹_› ‹_› ‹_› ‹_› ‹_›
  |exact b4E hx ‹_› ‹_› ‹_› (by omega)
  |exact b4F hx (by omega) ‹_› (show(Aa s.ns k).kids[0]? =some _ by assumption) ‹_› ‹_› (show(Aa s.ns k).kids[1]? =some _ by assumption) ‹_›
  |exact b4G hx (by omega) ‹_› (show(Aa s.ns k).kids[0]? =some _ by assumption) ‹_› ‹_› (show(Aa s.ns k).kids[2]? =some _ by assumption) ‹_›
  |((try simp only[AQ]);omega)
  |skip)
end Go.My
end
