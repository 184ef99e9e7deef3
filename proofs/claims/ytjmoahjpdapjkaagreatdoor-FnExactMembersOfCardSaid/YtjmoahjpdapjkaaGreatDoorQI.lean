/- A part of the proof: the engine and the contracts, joined. -/
import Derived.Test.YtjmoahjpdapjkaaGreatDoorQH
section
set_option linter.unusedVariables false
set_option linter.unusedSimpArgs false
namespace Go.My
open Go.Eng Go.Proofs
variable {G:GInv}
theorem b0x(n:Nat):Aj G Go.Proofs.Tryz.prog 170 (Kg n):=by
 induction n with
 |zero=>exact Gf Tryz.func170 rfl (by decide) (fun x h=>by have h1:=h.1.1.2;have h2:=h.2;omega)
 |succ n ih=>exact b0w n ih
def Ls:Sig:= {X:=ST×Int×Int×Bool×List Nd,args:=fun x=>[rdG x.1 (xg x)],pre:=fun x=>okD x.1 (xg x),Y:=Int×Int×Int×Bool×List Nd,post:=fun x y=>Af x.1.sg (xg x) (EH x.1.sg) (yS y),res:=fun x y=> .int .i64 y.1,outs:=fun x y=>[rdG x.1 (yG y.2)],keep:=true}
theorem a1x{s:ST}{g:Gs}(h:okD s g):okD s g∧20-g.deep≤(stN:Int):=by
 have h1:=h.1.2.2.1.1
 exact⟨h,by unfold stN;omega⟩
theorem a1y:Aj G Go.Proofs.Tryz.prog 140 Ls:=
 have c:=UP (G:=G) stN (b0x stN)
 ⟨⟨c.1.1,fun x y hx hy=>c.1.2 x y (a1x hx) hy⟩,fun x hx=>c.2 x (a1x hx)⟩
theorem Om{s:ST}{x:Gs}(h:rOk s x):rOk s (BQ s.sg x)∧rOk s (Al s.sg (BQ s.sg x) [40]):=⟨HG h,(Ef (HG h)).1⟩
theorem QP{s:ST}{x:Gs}{one:Ps→PR}{m:List UInt8}{l:List Int×Gs}(h:okD s x)(hl:Bm s.sg (Al s.sg (BQ s.sg x) [40]) (Bl s.sg one m (s.sg.length+1) []) l∧l.1.length≤3001):okD s l.2∧okD s (Al s.sg l.2 [41]):=by
 have a:okD s (Al s.sg (BQ s.sg x) [40]):=⟨(Om h.1).2,a1v h⟩
 have b:=Lo a hl.1
 have c:=Ef (m:=[41]) b.1
 exact⟨b,c.1,by rw[c.2];exact b.2⟩
theorem a1z{s:ST}{x:Gs}{b:Bool}{l:List Int×Gs}{q:Int×Gs}(h:okD s x)(hl:Bm s.sg (Al s.sg (BQ s.sg x) [40]) (Bl s.sg (Bz s.sg) [41] (s.sg.length+1) []) l∧l.1.length≤3001)
 (hq:Af s.sg (Al s.sg l.2 [41]) (EH s.sg) q):Af s.sg x (EX s.sg b) (Ax q.2,Ag q.2 ⟨20,BR s.sg x,l.1++[q.1],b⟩):=a1c h.1.1 h.1.2 hl.1 hl.2 hq
def clJ(sg:List Sg)(x y:Gs)(ks:List Int)(N:Nat):Prop:=Iv sg (CS sg) [125] (Al sg (BQ sg (Ai x)) [123]) y ks N∧y.deep=x.deep
theorem b0y{s:ST}{x:Gs}(h:okN s x):clJ s.sg x (Al s.sg (BQ s.sg (Ai x)) [123]) [] (s.sg.length+1):=by
 have a:=Kf h
 refine⟨QH (Ef (HG a.1)).1.2,?_⟩
 rw[(Ef (HG a.1)).2,(UJ a.1).1];rfl
theorem a1A{s:ST}{x y:Gs}{ks:List Int}{N:Nat}(h:okN s x)(hj:clJ s.sg x y ks N):okD s y:=⟨⟨h.1.1.1,hj.1.1.1⟩,by have:=hj.2;have:=h.1.2;omega⟩
theorem UQ{s:ST}{x y:Gs}{ks:List Int}{N:Nat}(h:okN s x)(hj:clJ s.sg x y ks N):ks.length≤3001:=by
 have:=hj.1.2.2.1;have:=hj.1.1.1.1;have:=h.1.1.1.1;omega
theorem QQ{s:ST}{x y:Gs}{ks:List Int}{N:Nat}{b:Bool}{z:Int×Gs}(hj:clJ s.sg x y ks N)(hb:y.bad=false)(hq:isG s.sg y 4 [125]=false)(hz:Af s.sg y (CS s.sg b) z)(e:b=((pkG s.sg y 0).blank&&decide (0<(ks.length:Int)))):
 clJ s.sg x z.2 (ks++[z.1]) (N-1)∧N-1<N:=by
 subst e
 obtain⟨a,b⟩:=Hd (QK hj.1 hb hq (z:=z) (by
  have:decide (0<ks.length)=decide (0<(ks.length:Int)):=by simp
  rw[this];exact hz))
 have:=(CC hz).1
 exact⟨⟨a,by have:=hj.2;omega⟩,b⟩
theorem b0z{s:ST}{x y:Gs}{ks:List Int}{N:Nat}{b:Bool}(h:okN s x)(hj:clJ s.sg x y ks N):Cv ⟨21,BR s.sg (Ai x),ks,b⟩:=DF (Hg h.1.1.1) (by have:=UQ h hj;omega)
theorem a1B{s:ST}{x y:Gs}{ks:List Int}{N:Nat}{b:Bool}(h:okN s x)(hj:clJ s.sg x y ks N)(hy:y.bad=true∨isG s.sg y 4 [125]=true):
 Af s.sg (Ai x) (Fk s.sg b) (BB s.sg y [125],Bs s.sg y [125] ⟨21,BR s.sg (Ai x),ks,b⟩):=by
 refine a1d (l:=(ks,y)) h.1.1.1 (Kf h).1.2 ?_ (UQ h hj)
 rcases hy with hy|hy
 ·exact QI hj.1 hy
 ·exact QJ hj.1 hy
def a1C:Sig:= {X:=ST×Int×Int×Bool×List Nd×Bool,args:=fun x=>[rdG x.1 (xh x),.bool x.2.2.2.2.2],pre:=fun x=>False,Y:=Int×Int×Int×Bool×List Nd,post:=fun x y=>True,res:=fun x y=> .int .i64 y.1,outs:=fun x y=>[rdG x.1 (yG y.2),.top],keep:=true}
theorem b0A:Aj G Go.Proofs.Tryz.prog 135 a1C:=Gf Tryz.func135 rfl (by decide) (fun x h=>h)
attribute [local irreducible] pE Bl CP fnR Af Bm gsOk Al Bs Ag BX CY Ah Cz Dj Ax BB pkG isG nmG BQ BR Dm Gd Di Ca BH stR CK EH EX CS Dn Fk Bz
def Jh:Sig:= {X:=ST×Int×Int×Bool×List Nd×Bool,args:=fun x=>[rdG x.1 (xh x),.bool x.2.2.2.2.2,.bool false],pre:=fun x=>okD x.1 (xh x)∧(xh x).bad=false,Y:=Int×Int×Int×Bool×List Nd,post:=fun x y=>Af x.1.sg (xh x) (CS x.1.sg x.2.2.2.2.2) (yS y),res:=fun x y=> .int .i64 y.1,outs:=fun x y=>[rdG x.1 (yG y.2),.top,.top],keep:=true}
theorem b0B:Aj G Tryz.prog 102 Jh:=
 vcFun_okP [(103,0,Cq),(132,0,Hh),(133,0,Ee),(134,0,GF),(135,0,a1C),(136,0,Es),(137,0,CA),(138,139+1,Gc),(140,0,Ls),(104,0,BS)] [(45,⟨Int,Bb⟩)] false (fun x=>[]) Tryz.func102 rfl (by decide) ⟨GZ,UN,Qk,UO,b0A,Ob,Jb,Ux,a1y,GB,trivial⟩ (fun(x:ST×Int×Int×Bool×List Nd×Bool)=>True∧cA Cq [rdG x.1 (xh x)] fun x_1 y=>Aa ((pkG x_1.1.sg (xg x_1) (0:Int)).kind==(5:Int)) (cA Hh [rdG x_1.1 (xg x_1),.bool x.2.2.2.2.2] fun x_2 y=>rA Jh x [.int .i64 (Ax (xh x_2)),rdG x_2.1 (CY x_2.1.sg (xh x_2) (19:Int) x_2.2.2.2.2.2),.top,.top]) (cA Ee [rdG x_1.1 (xg x_1),.str #[(118:UInt8),(97:UInt8),(114:UInt8)].toList] fun x_2 y=>Aa (isG x_2.1.sg (xh x_2) (1:Int) x_2.2.2.2.2.2) (cA GF [rdG x_2.1 (xh x_2),.bool x.2.2.2.2.2] fun x_3 y=>rA Jh x [.int .i64 y.1,rdG x_3.1 (yG y.2),.top,.top]) (cA Es [rdG x_2.1 (xh x_2)] fun x_3 y=>cA CA [rdG x_3.1 (BQ x_3.1.sg (xg x_3)),.str #[(40:UInt8)].toList] fun x_4 y=>(True∧True)∧cA Gc [rdG x_4.1 (Al x_4.1.sg (xh x_4) x_4.2.2.2.2.2),.str #[(41:UInt8)].toList,AV.clo (Fn.yield (139:Nat)) [AV.al (0:Nat)]] fun x_5 y=>cA CA [rdG x_5.1 (yG y.2),.str #[(41:UInt8)].toList] fun x_6 y_1=>cA Ls [rdG x_6.1 (Al x_6.1.sg (xh x_6) x_6.2.2.2.2.2)] fun x_7 y_2=>∃(x_8:Int),y_2.1=x_8∧∃(zs:List Int),Ab [x_8]=Ab zs∧Be Bb∧AS (List.length y.1+List.length zs) (8:Nat)∧cA BS [rdG x_7.1 (yG y_2.2),.agg [.int .i64 (20:Int),.str (BR x_3.1.sg (xg x_3)),Ab (y.1++zs),.bool x.2.2.2.2.2]] fun x_9 y=>rA Jh x [.int .i64 (Ax (xh x_9)),rdG x_9.1 (Ag (xh x_9) {kind:=x_9.2.2.2.2.2.1,text:=x_9.2.2.2.2.2.2.1,kids:=x_9.2.2.2.2.2.2.2.1,blank:=x_9.2.2.2.2.2.2.2.2}),.top,.top]))) (fun x=>by kernel_rfl) fun(x:ST×Int×Int×Bool×List Nd×Bool) (hx:okD x.1 (xh x)∧(xh x).bad=false)=>(by
 dsimp only[cA,mbs,Bg,Ab,Au,rA,rdG,BS,Ls,Ee,Gc,Jh,Es,Cq,Hh,CA,GF,Bj,sgs,Av,AB,mvL,lnL,mvE,lnE]
 obtain⟨s,p,d,b,ns,e⟩:=x;dsimp only[xg,xh] at hx ⊢
 obtain⟨hx,hb⟩:=hx
 have hx:okD s ⟨p,d,b,ns⟩:=hx
 (repeat' first|(with_reducible first|rfl|exact True.intro|apply AK|apply And.intro|((first|apply Az|apply AI|apply AA|apply AJ)<;>intro _))|(apply Aw<;>intro _)|apply AH|refine Ae () ?_ ?_|((first|apply AO|apply AN|apply AM|apply AL|apply AG|apply AF|apply AE|apply AD|apply AC)<;>try dsimp only)|apply Ae|(refine Prod.forall.2 ?_;intro _;try dsimp only)|(intro _;try dsimp only))
 all_goals(try dsimp only[xg,xh,yG,yS,iG] at*)
 all_goals(try simp only[CM] at*)
 all_goals first
  |rfl
  |exact hx.1
  |(exfalso;assumption)
  |assumption
  |contradiction
  |exact Oj hx ‹_›
  |exact a1e hx.1.1 hx.1.2 ‹_›
  |exact a1f hx.1.2 ‹_› ‹_› ‹_›
  |exact(Om hx.1).1
  |exact(Om hx.1).2
  |exact(QP hx ‹_›).1.1
  |exact(QP hx ‹_›).2
  |exact Dq hx.1 ‹_›
  |exact a1g hx.1.2 ‹_› ‹_› (a1z hx ‹_› ‹_›)
  |(have hq2:=And.right (show Bm _ _ _ _∧_ by assumption);(try simp only[AS,List.length_append,List.length_cons,List.length_nil]);omega)
  |skip)
def Lt:Sig:= {X:=ST×Int×Int×Bool×List Nd×Bool,args:=fun x=>[rdG x.1 (xh x),.bool x.2.2.2.2.2],pre:=fun x=>okN x.1 (xh x),Y:=Int×Int×Int×Bool×List Nd,post:=fun x y=>Af x.1.sg (Ai (xh x)) (Fk x.1.sg x.2.2.2.2.2) (yS y),res:=fun x y=> .int .i64 y.1,outs:=fun x y=>[rdG x.1 (yG y.2),.top],keep:=true}
def On(x:ST×Int×Int×Bool×List Nd×Bool):LS:= {ι:=Int×Int×Bool×List Nd×List Int×Nat,inv:=fun i=>clJ x.1.sg (xh x) (iG i) i.2.2.2.2.1 i.2.2.2.2.2,regs:=fun i=>[(0,rdG x.1 (iG i)),(1,.bool x.2.2.2.2.2),(5,.str (BR x.1.sg (Ai (xh x)))),(6,Ab i.2.2.2.2.1)],als:=[],meas:=fun i=>i.2.2.2.2.2}
theorem b0C:Aj G Tryz.prog 135 Lt:=
 vcFun_okP [(162,0,CN),(136,0,Es),(137,0,CA),(166,0,Cw),(103,0,Cq),(102,0,Jh),(165,0,CE)] [(45,⟨Int,Bb⟩)] false (fun x=>[(5,On x)]) Tryz.func135 rfl (by decide) ⟨Jc,Ob,Jb,HB,GZ,b0B,Lj,trivial⟩ (fun(x:ST×Int×Int×Bool×List Nd×Bool)=>True∧cA CN [rdG x.1 (xh x)] fun x_1 y=>cA Es [rdG x_1.1 (BX (xg x_1))] fun x_2 y=>cA CA [rdG x_2.1 (BQ x_2.1.sg (xg x_2)),.str #[(123:UInt8)].toList] fun x_3 y=>eA (On x) [rdG x_3.1 (Al x_3.1.sg (xh x_3) x_3.2.2.2.2.2),.bool x.2.2.2.2.2,.str (BR x_2.1.sg (xg x_2)),.nil]∧∀(i:Int×Int×Bool×List Nd×List Int×Nat),clJ x.1.sg (xh x) (iG i) i.2.2.2.2.1 i.2.2.2.2.2→Aa (!(iG i).bad) (cA Cw [rdG x.1 (iG i),.str #[(125:UInt8)].toList] fun x_4 y=>Aa (!isG x_4.1.sg (xh x_4) (4:Int) x_4.2.2.2.2.2) (cA Cq [rdG x_4.1 (xh x_4)] fun x_5 y=>Aa (pkG x_5.1.sg (xg x_5) (0:Int)).blank (cA Jh [rdG x_5.1 (xg x_5),.bool (decide ((↑(List.length i.2.2.2.2.1):Int)>(0:Int))),.bool false] fun x_6 y=>∃(x_7:Int),y.1=x_7∧∃(zs:List Int),Ab [x_7]=Ab zs∧Be Bb∧AS (List.length i.2.2.2.2.1+List.length zs) (8:Nat)∧eN (On x) i [rdG x_6.1 (yG y.2),.bool x.2.2.2.2.2,.str (BR x.1.sg (Ai (xh x))),Ab (i.2.2.2.2.1++zs)]) (cA Jh [rdG x_5.1 (xg x_5),.bool false,.bool false] fun x_6 y=>∃(x_7:Int),y.1=x_7∧∃(zs:List Int),Ab [x_7]=Ab zs∧Be Bb∧AS (List.length i.2.2.2.2.1+List.length zs) (8:Nat)∧eN (On x) i [rdG x_6.1 (yG y.2),.bool x.2.2.2.2.2,.str (BR x.1.sg (Ai (xh x))),Ab (i.2.2.2.2.1++zs)])) (cA CE [rdG x_4.1 (xh x_4),.str #[(125:UInt8)].toList,.agg [.int .i64 (21:Int),.str (BR x.1.sg (Ai (xh x))),Ab i.2.2.2.2.1,.bool x.2.2.2.2.2]] fun x_5 y=>rA Lt x [.int .i64 (BB x_5.1.sg (xh x_5) x_5.2.2.2.2.2.1),rdG x_5.1 (Bs x_5.1.sg (xh x_5) x_5.2.2.2.2.2.1 {kind:=x_5.2.2.2.2.2.2.1,text:=x_5.2.2.2.2.2.2.2.1,kids:=x_5.2.2.2.2.2.2.2.2.1,blank:=x_5.2.2.2.2.2.2.2.2.2}),.top])) (cA CE [rdG x.1 (iG i),.str #[(125:UInt8)].toList,.agg [.int .i64 (21:Int),.str (BR x.1.sg (Ai (xh x))),Ab i.2.2.2.2.1,.bool x.2.2.2.2.2]] fun x_4 y=>rA Lt x [.int .i64 (BB x_4.1.sg (xh x_4) x_4.2.2.2.2.2.1),rdG x_4.1 (Bs x_4.1.sg (xh x_4) x_4.2.2.2.2.2.1 {kind:=x_4.2.2.2.2.2.2.1,text:=x_4.2.2.2.2.2.2.2.1,kids:=x_4.2.2.2.2.2.2.2.2.1,blank:=x_4.2.2.2.2.2.2.2.2.2}),.top])) (fun x=>by kernel_rfl) fun(x:ST×Int×Int×Bool×List Nd×Bool) (hx:okN x.1 (xh x))=>(by
 dsimp only[cA,eA,eN,On,mbs,Bg,Ab,Au,rA,rdG,Lt,CE,Cw,Jh,Es,Cq,CN,CA,Bj,sgs,Av,AB,mvL,lnL,mvE,lnE,Bw]
 obtain⟨s,p,d,b,ns,e⟩:=x;dsimp only[xg,xh] at hx ⊢
 have hx:okN s ⟨p,d,b,ns⟩:=hx
 have hp:=MH hx.2.1
 obtain⟨h1,h2⟩:=Kf hx
 (repeat' first|(with_reducible first|rfl|exact True.intro|apply AK|apply And.intro|((first|apply Az|apply AI|apply AA|apply AJ)<;>intro _))|(apply Aw<;>intro _)|apply AH|refine Ae () ?_ ?_|((first|apply AO|apply AN|apply AM|apply AL|apply AG|apply AF|apply AE|apply AD|apply AC)<;>try dsimp only)|apply Ae|(refine Prod.forall.2 ?_;intro _;try dsimp only)|(intro _;try dsimp only))
 all_goals(try dsimp only[xg,xh,yG,yS,iG] at*)
 all_goals(try simp only[CM,hp] at*)
 all_goals first
  |(show Nat;skip)
  |rfl
  |exact hx.1.1
  |exact h1
  |exact HG h1
  |exact b0y hx
  |assumption
  |exact a1A hx ‹_›
  |exact(a1A hx ‹_›).1
  |exact b0z hx ‹_›
  |exact(QQ ‹_› ‹_› ‹_› ‹_› (GD ‹_›)).1
  |exact(QQ ‹_› ‹_› ‹_› ‹_› (GE ‹_›)).1
  |exact a1B hx ‹_› (.inl ‹_›)
  |exact a1B hx ‹_› (.inr ‹_›)
  |(have hq:=UQ hx (show clJ _ _ _ _ _ by assumption);(try simp only[AS,List.length_append,List.length_cons,List.length_nil]);omega)
  |skip
 all_goals first
  |exact(QQ ‹_› ‹_› ‹_› ‹_› (GD ‹_›)).2
  |exact(QQ ‹_› ‹_› ‹_› ‹_› (GE ‹_›)).2
  |skip)
def Iw:Sig:= {X:=ST×Int×Int×Bool×List Nd×Bool,args:=fun x=>[rdG x.1 (xh x),.bool x.2.2.2.2.2,.bool true],pre:=fun x=>okD x.1 (xh x)∧(xh x).bad=false,Y:=Int×Int×Int×Bool×List Nd,post:=fun x y=>Af x.1.sg (xh x) (Dn x.1.sg x.2.2.2.2.2) (yS y),res:=fun x y=> .int .i64 y.1,outs:=fun x y=>[rdG x.1 (yG y.2),.top,.top],keep:=true}
theorem b0D:Aj G Tryz.prog 102 Iw:=
 vcFun_okP [(103,0,Cq),(132,0,Hh),(133,0,Ee),(134,0,GF),(135,0,Lt),(136,0,Es),(137,0,CA),(138,139+1,Gc),(140,0,Ls),(104,0,BS)] [(45,⟨Int,Bb⟩)] false (fun x=>[]) Tryz.func102 rfl (by decide) ⟨GZ,UN,Qk,UO,b0C,Ob,Jb,Ux,a1y,GB,trivial⟩ (fun(x:ST×Int×Int×Bool×List Nd×Bool)=>True∧cA Cq [rdG x.1 (xh x)] fun x_1 y=>Aa ((pkG x_1.1.sg (xg x_1) (0:Int)).kind==(5:Int)) (cA Hh [rdG x_1.1 (xg x_1),.bool x.2.2.2.2.2] fun x_2 y=>rA Iw x [.int .i64 (Ax (xh x_2)),rdG x_2.1 (CY x_2.1.sg (xh x_2) (19:Int) x_2.2.2.2.2.2),.top,.top]) (cA Ee [rdG x_1.1 (xg x_1),.str #[(118:UInt8),(97:UInt8),(114:UInt8)].toList] fun x_2 y=>Aa (isG x_2.1.sg (xh x_2) (1:Int) x_2.2.2.2.2.2) (cA GF [rdG x_2.1 (xh x_2),.bool x.2.2.2.2.2] fun x_3 y=>rA Iw x [.int .i64 y.1,rdG x_3.1 (yG y.2),.top,.top]) (cA Ee [rdG x_2.1 (xh x_2),.str #[(99:UInt8),(108:UInt8),(97:UInt8),(115:UInt8),(115:UInt8)].toList] fun x_3 y=>Aa (isG x_3.1.sg (xh x_3) (1:Int) x_3.2.2.2.2.2) (cA Lt [rdG x_3.1 (xh x_3),.bool x.2.2.2.2.2] fun x_4 y=>rA Iw x [.int .i64 y.1,rdG x_4.1 (yG y.2),.top,.top]) (cA Es [rdG x_3.1 (xh x_3)] fun x_4 y=>cA CA [rdG x_4.1 (BQ x_4.1.sg (xg x_4)),.str #[(40:UInt8)].toList] fun x_5 y=>(True∧True)∧cA Gc [rdG x_5.1 (Al x_5.1.sg (xh x_5) x_5.2.2.2.2.2),.str #[(41:UInt8)].toList,AV.clo (Fn.yield (139:Nat)) [AV.al (0:Nat)]] fun x_6 y=>cA CA [rdG x_6.1 (yG y.2),.str #[(41:UInt8)].toList] fun x_7 y_1=>cA Ls [rdG x_7.1 (Al x_7.1.sg (xh x_7) x_7.2.2.2.2.2)] fun x_8 y_2=>∃(x_9:Int),y_2.1=x_9∧∃(zs:List Int),Ab [x_9]=Ab zs∧Be Bb∧AS (List.length y.1+List.length zs) (8:Nat)∧cA BS [rdG x_8.1 (yG y_2.2),.agg [.int .i64 (20:Int),.str (BR x_4.1.sg (xg x_4)),Ab (y.1++zs),.bool x.2.2.2.2.2]] fun x_10 y=>rA Iw x [.int .i64 (Ax (xh x_10)),rdG x_10.1 (Ag (xh x_10) {kind:=x_10.2.2.2.2.2.1,text:=x_10.2.2.2.2.2.2.1,kids:=x_10.2.2.2.2.2.2.2.1,blank:=x_10.2.2.2.2.2.2.2.2}),.top,.top])))) (fun x=>by kernel_rfl) fun(x:ST×Int×Int×Bool×List Nd×Bool) (hx:okD x.1 (xh x)∧(xh x).bad=false)=>(by
 dsimp only[cA,mbs,Bg,Ab,Au,rA,rdG,BS,Ls,Lt,Ee,Gc,Iw,Es,Cq,Hh,CA,GF,Bj,sgs,Av,AB,mvL,lnL,mvE,lnE]
 obtain⟨s,p,d,b,ns,e⟩:=x;dsimp only[xg,xh] at hx ⊢
 obtain⟨hx,hb⟩:=hx
 have hx:okD s ⟨p,d,b,ns⟩:=hx
 (repeat' first|(with_reducible first|rfl|exact True.intro|apply AK|apply And.intro|((first|apply Az|apply AI|apply AA|apply AJ)<;>intro _))|(apply Aw<;>intro _)|apply AH|refine Ae () ?_ ?_|((first|apply AO|apply AN|apply AM|apply AL|apply AG|apply AF|apply AE|apply AD|apply AC)<;>try dsimp only)|apply Ae|(refine Prod.forall.2 ?_;intro _;try dsimp only)|(intro _;try dsimp only))
 all_goals(try dsimp only[xg,xh,yG,yS,iG] at*)
 all_goals(try simp only[CM] at*)
 all_goals first
  |rfl
  |exact hx.1
  |(exfalso;assumption)
  |assumption
  |contradiction
  |exact Oj hx ‹_›
  |exact a1h hx.1.1 hx.1.2 ‹_›
  |exact a1i hx.1.2 ‹_› ‹_› ‹_›
  |exact a1j hx.1.2 ‹_› ‹_› ‹_› ‹_›
  |exact(Om hx.1).1
  |exact(Om hx.1).2
  |exact(QP hx ‹_›).1.1
  |exact(QP hx ‹_›).2
  |exact Dq hx.1 ‹_›
  |exact a1k hx.1.2 ‹_› ‹_› ‹_› (a1z hx ‹_› ‹_›)
  |(have hq2:=And.right (show Bm _ _ _ _∧_ by assumption);(try simp only[AS,List.length_append,List.length_cons,List.length_nil]);omega)
  |skip)
end Go.My
end
section
set_option linter.unusedVariables false
set_option linter.unusedSimpArgs false
namespace Go.My
open Go.Eng
def HJ(t:List UInt8)(i br:Int)(l:List Sg)(n:Nat):Prop:=
 (0≤i∧i≤t.length)∧(0≤br∧br≤i)∧(l.length:Int)≤i∧(t.length:Int)-i<n∧EG t (t.length+1) 0 0=(EG t n i br).map (l++ ·)
theorem b0E{t:List UInt8}:HJ t 0 0 [] (t.length+1):=by
 refine⟨by omega,by omega,by simp,by simp;omega,?_⟩
 cases EG t (t.length+1) 0 0<;>simp
theorem QR{t:List UInt8}{n:Nat}{i br:Int}{c:UInt8}(hc:t[i.toNat]? =some c):EG t (n+1) i br=if c.toNat=32 then EG t n (i+1) br
 else if c.toNat=10 then EG t n (i+1) (br+1)
 else if(Bc (t.drop i.toNat)).ok then(EG t n (i+(Bc (t.drop i.toNat)).size) 0).map (⟨(Bc (t.drop i.toNat)).kind,(Bc (t.drop i.toNat)).text,i,decide (br>1)⟩:: ·)
 else none:=by rw[EG,hc]
theorem QS{t:List UInt8}{i br:Int}{l:List Sg}{n:Nat}(h:HJ t i br l n)(hi:i<t.length):∃m,n=m+1:=by
 obtain⟨h1,h2,h3,h4,h5⟩:=h
 match n with
 |0=>omega
 |m+1=>exact⟨m,rfl⟩
theorem b0F{t:List UInt8}{i br:Int}{l:List Sg}{n:Nat}{c:UInt8}(hc:t[i.toNat]? =some c)(h:HJ t i br l (n+1))(hi:i<t.length)(h32:c.toNat=32):HJ t (i+1) br l n:=by
 obtain⟨h1,h2,h3,h4,h5⟩:=h
 refine⟨by omega,by omega,by omega,by omega,?_⟩
 rw[h5,QR hc,if_pos h32]
theorem b0G{t:List UInt8}{i br:Int}{l:List Sg}{n:Nat}{c:UInt8}(hc:t[i.toNat]? =some c)(h:HJ t i br l (n+1))(hi:i<t.length)(h32:c.toNat=10):HJ t (i+1) (br+1) l n:=by
 obtain⟨h1,h2,h3,h4,h5⟩:=h
 refine⟨by omega,by omega,by omega,by omega,?_⟩
 rw[h5,QR hc,if_neg (by omega),if_pos h32]
theorem b0H{t:List UInt8}{i br:Int}{l:List Sg}{n:Nat}{c:UInt8}(hc:t[i.toNat]? =some c)(h:HJ t i br l (n+1))(hi:i<t.length)(h32:c.toNat≠32)(h10:c.toNat≠10)
 (hok:(Bc (t.drop i.toNat)).ok=true) (hz:1≤(Bc (t.drop i.toNat)).size∧(Bc (t.drop i.toNat)).size≤t.length-i):
 HJ t (i+(Bc (t.drop i.toNat)).size) 0 (l++[⟨(Bc (t.drop i.toNat)).kind,(Bc (t.drop i.toNat)).text,i,decide (br>1)⟩]) n:=by
 obtain⟨h1,h2,h3,h4,h5⟩:=h
 refine⟨by omega,by omega,by simp;omega,by omega,?_⟩
 rw[h5,QR hc,if_neg h32,if_neg h10,if_pos hok]
 cases EG t n (i+(Bc (t.drop i.toNat)).size) 0<;>simp
theorem b0I{t:List UInt8}{i br:Int}{l:List Sg}{n:Nat}{c:UInt8}(hc:t[i.toNat]? =some c)(h:HJ t i br l (n+1))(hi:i<t.length)(h32:c.toNat≠32)(h10:c.toNat≠10)
 (hok:(Bc (t.drop i.toNat)).ok=false) (hl:¬3000<t.length):Br t=none:=by
 rw[Br,if_neg hl,h.2.2.2.2,QR hc,if_neg h32,if_neg h10,if_neg (by simp [hok])];rfl
theorem b0J{t:List UInt8}{i br:Int}{l:List Sg}{n:Nat}(h:HJ t i br l n)(hi:¬i<t.length)(hl:¬3000<t.length):Br t=some l:=by
 obtain⟨h1,h2,h3,h4,h5⟩:=h
 rw[Br,if_neg hl,h5]
 match n with
 |0=>omega
 |n+1=>rw[EG,List.getElem?_eq_none (by omega)];simp
theorem b0K{t:List UInt8}(h:3000<t.length):Br t=none:=if_pos h
end Go.My
end
section
set_option linter.unusedVariables false
set_option linter.unusedSimpArgs false
namespace Go.My
open Go.Eng Go.Proofs
variable {G:GInv}
theorem UR{p:UInt8→Bool}{b:UInt8}{s:List UInt8}(h:p b=true):1≤((b::s).takeWhile p).length:=by
 rw[List.takeWhile_cons,if_pos h];simp
theorem QT{p:UInt8→Bool}{s:List UInt8}:(s.takeWhile p).length≤s.length:=(List.takeWhile_prefix p).length_le
theorem b0L{s:List UInt8}:(CH s).length≤s.length:=by
 unfold CH
 have:=(List.dropWhile_suffix (fun c:UInt8=>decide (c.toNat=32)) (l:=s.reverse)).length_le
 simpa using this
theorem a1D{s:List UInt8}(h:(Bc s).ok=true):1≤(Bc s).size∧(Bc s).size≤s.length∧(Bc s).text.length≤s.length:=by
 match s with
 |[]=>cases h
 |b::s=>
  unfold Bc at h ⊢
  simp only at h ⊢
  split
  ·rename_i hb
   have:=UR (s:=s) (p:=BO) (b:=b) (by simp [BO,hb]);have:=QT (p:=BO) (s:=b::s);simp only;omega
  ·rename_i hb
   rw[if_neg hb] at h
   split
   ·rename_i hb2
    have:=UR (s:=s) (p:=Bt) (b:=b) hb2;have:=QT (p:=Bt) (s:=b::s);simp only;omega
   ·rename_i hb2
    rw[if_neg hb2] at h
    split
    ·rename_i hb3
     rw[if_pos hb3] at h
     simp only at h ⊢
     unfold Dw at h ⊢
     split at h
     ·cases h
     ·simp only[List.length_take,List.length_cons] at*;omega
    ·rename_i hb3
     rw[if_neg hb3] at h
     split
     ·rename_i hb4
      have hb5:b=47:=by
       cases s with
       |nil=>simp at hb4
       |cons c s=>simp at hb4;exact hb4.1
      have h1:=UR (s:=s) (p:=Cf) (b:=b) (by subst hb5;rfl);have h2:=QT (p:=Cf) (s:=b::s);have h3:= @b0L ((b::s).takeWhile Cf)
      simp only;omega
     ·rename_i hb4
      rw[if_neg hb4] at h
      split
      ·simp only[List.length_take,List.length_cons];omega
      ·rename_i hb5
       rw[if_neg hb5] at h
       split
       ·simp only[List.length_take,List.length_cons];omega
       ·rename_i hb6
        rw[if_neg hb6] at h
        cases h
def sgJ(t:List UInt8)(i br:Int)(l:List Sg)(n:Nat):Prop:=(HJ t i br l n∧¬3000<t.length)∧∀e∈l,e.text.length≤3000
theorem a1E{t:List UInt8}(h:¬(t.length:Int)>3000):sgJ t 0 0 [] (t.length+1):=⟨⟨b0E,by omega⟩,by simp⟩
theorem Ji{t:List UInt8}{i br:Int}{l:List Sg}{n:Nat}(h:sgJ t i br l n):((0≤i∧i≤t.length)∧(0≤br∧br≤i)∧(l.length:Int)≤i)∧t.length≤3000:=by
 have:=h.1.1;have:=h.1.2;exact⟨⟨h.1.1.1,h.1.1.2.1,h.1.1.2.2.1⟩,by omega⟩
theorem QU{t:List UInt8}{i br:Int}{l:List Sg}{n:Nat}{c:UInt8}(hc:t[i.toNat]? =some c)(h:sgJ t i br l n)(hi:i<t.length)(h32:c.toNat=32):sgJ t (i+1) br l (n-1)∧n-1<n:=by
 obtain⟨m,rfl⟩:=QS h.1.1 hi
 exact⟨⟨⟨b0F hc h.1.1 hi h32,h.1.2⟩,h.2⟩,by omega⟩
theorem QV{t:List UInt8}{i br:Int}{l:List Sg}{n:Nat}{c:UInt8}(hc:t[i.toNat]? =some c)(h:sgJ t i br l n)(hi:i<t.length)(h32:c.toNat=10):sgJ t (i+1) (br+1) l (n-1)∧n-1<n:=by
 obtain⟨m,rfl⟩:=QS h.1.1 hi
 exact⟨⟨⟨b0G hc h.1.1 hi h32,h.1.2⟩,h.2⟩,by omega⟩
theorem US{t:List UInt8}{i br:Int}{l:List Sg}{n:Nat}(h:sgJ t i br l n)(hok:(Bc (t.drop i.toNat)).ok=true):1≤(Bc (t.drop i.toNat)).size∧(Bc (t.drop i.toNat)).size≤t.length-i∧(Bc (t.drop i.toNat)).text.length≤3000:=by
 have a:=a1D hok
 have b:=(Ji h)
 simp only[List.length_drop] at a
 omega
theorem UT{t:List UInt8}{i br:Int}{l:List Sg}{n:Nat}{c:UInt8}(hc:t[i.toNat]? =some c)(h:sgJ t i br l n)(hi:i<t.length)(h32:c.toNat≠32)(h10:c.toNat≠10)
 (hok:(Bc (t.drop i.toNat)).ok=true):
 sgJ t (i+(Bc (t.drop i.toNat)).size) 0 (l++[⟨(Bc (t.drop i.toNat)).kind,(Bc (t.drop i.toNat)).text,i,decide (br>1)⟩]) (n-1)∧n-1<n:=by
 obtain⟨m,rfl⟩:=QS h.1.1 hi
 have hz:=US h hok
 refine⟨⟨⟨b0H hc h.1.1 hi h32 h10 hok ⟨hz.1,hz.2.1⟩,h.1.2⟩,?_⟩,by omega⟩
 intro e he
 rcases List.mem_append.1 he with he|he
 ·exact h.2 e he
 ·simp at he;subst he;exact hz.2.2
theorem UU{t:List UInt8}{i br:Int}{l:List Sg}{n:Nat}{c:UInt8}(hc:t[i.toNat]? =some c)(h:sgJ t i br l n)(hi:i<t.length)(h32:c.toNat≠32)(h10:c.toNat≠10)
 (hok:(Bc (t.drop i.toNat)).ok=false):Br t=none:=by
 obtain⟨m,rfl⟩:=QS h.1.1 hi
 exact b0I hc h.1.1 hi h32 h10 hok h.1.2
def sgQ(t:List UInt8)(l:List Sg):Prop:=(Br t=some l∧sgB l)∨(Br t=none∧l=[])
theorem QW{t:List UInt8}{i br:Int}{l:List Sg}{n:Nat}(h:sgJ t i br l n)(hi:¬i<t.length):(Br t).isSome=true∧sgQ t l:=by
 have a:=b0J h.1.1 hi h.1.2
 have b:=Ji h
 exact⟨by rw[a];rfl,.inl ⟨a,by omega,h.2⟩⟩
theorem Kh{t:List UInt8}(h:Br t=none):(Br t).isSome=false∧sgQ t []:=⟨by rw[h];rfl,.inr ⟨h,rfl⟩⟩
theorem QX{t:List UInt8}(h:(t.length:Int)>3000):Br t=none:=b0K (by omega)
theorem a1F{T0 T1 T2 T3:Type}{p q:ST×T0×T1×T2×T3→Prop}(a:List Sg)(b:Int)(c:List (Int×Int))(v0:T0)(v1:T1)(v2:T2)(v3:T3)(h2:q (⟨a,b,c⟩,v0,v1,v2,v3))(h1:p (⟨a,b,c⟩,v0,v1,v2,v3)):∃x,p x∧q x:=⟨_,h1,h2⟩
theorem b0M{T0 T1 T2 T3 T4:Type}{p q:ST×T0×T1×T2×T3×T4→Prop}(a:List Sg)(b:Int)(c:List (Int×Int))(v0:T0)(v1:T1)(v2:T2)(v3:T3)(v4:T4)(h2:q (⟨a,b,c⟩,v0,v1,v2,v3,v4))(h1:p (⟨a,b,c⟩,v0,v1,v2,v3,v4)):∃x,p x∧q x:=⟨_,h1,h2⟩
theorem b0N{T0 T1 T2 T3 T4 T5:Type}{p q:ST×T0×T1×T2×T3×T4×T5→Prop}(a:List Sg)(b:Int)(c:List (Int×Int))(v0:T0)(v1:T1)(v2:T2)(v3:T3)(v4:T4)(v5:T5)(h2:q (⟨a,b,c⟩,v0,v1,v2,v3,v4,v5))(h1:p (⟨a,b,c⟩,v0,v1,v2,v3,v4,v5)):∃x,p x∧q x:=⟨_,h1,h2⟩
theorem b0O{T0 T1 T2 T3 T4 T5 T6:Type}{p q:ST×T0×T1×T2×T3×T4×T5×T6→Prop}(a:List Sg)(b:Int)(c:List (Int×Int))(v0:T0)(v1:T1)(v2:T2)(v3:T3)(v4:T4)(v5:T5)(v6:T6)(h2:q (⟨a,b,c⟩,v0,v1,v2,v3,v4,v5,v6))(h1:p (⟨a,b,c⟩,v0,v1,v2,v3,v4,v5,v6)):∃x,p x∧q x:=⟨_,h1,h2⟩
theorem b0P{T0 T1 T2 T3 T4 T5 T6 T7:Type}{p q:ST×T0×T1×T2×T3×T4×T5×T6×T7→Prop}(a:List Sg)(b:Int)(c:List (Int×Int))(v0:T0)(v1:T1)(v2:T2)(v3:T3)(v4:T4)(v5:T5)(v6:T6)(v7:T7)(h2:q (⟨a,b,c⟩,v0,v1,v2,v3,v4,v5,v6,v7))(h1:p (⟨a,b,c⟩,v0,v1,v2,v3,v4,v5,v6,v7)):∃x,p x∧q x:=⟨_,h1,h2⟩
abbrev iF {α β:Type} (i:Int×Int×Bool×List Nd×α×β):Gs:=⟨i.1,i.2.1,i.2.2.1,i.2.2.2.1⟩
theorem a1G{sg:List Sg}:Du sg ⟨0,0,false,[]⟩ [] [] (sg.length+1):=b0l
theorem UV{sg:List Sg}{y:Gs}{ks:List Int}{ms:List (Int×Int)}{N:Nat}{b:Bool}{z:Int×Gs}(h:Du sg y ks ms N)(hb:y.bad=false)(hl:y.pos<sg.length)(hz:Af sg y (Dn sg b) z)(e:b=((pkG sg y 0).blank&&decide (0<(ks.length:Int)))):
 Du sg z.2 (ks++[z.1]) (ms++[(y.pos,z.2.pos)]) (N-1)∧N-1<N:=by
 subst e
 exact Hd (b0m h hb hl (z:=z) (by
  have:decide (0<ks.length)=decide (0<(ks.length:Int)):=by simp
  rw[this];exact hz))
theorem UW{s:ST}{y:Gs}{ks:List Int}{ms:List (Int×Int)}{N:Nat}(hs:sgB s.sg)(h:Du s.sg y ks ms N):okD s y:=⟨⟨hs,h.1⟩,by have:=h.2.1;omega⟩
theorem UX{sg:List Sg}{y:Gs}{ks:List Int}{ms:List (Int×Int)}{N:Nat}(hs:sgB sg)(h:Du sg y ks ms N):ks.length≤3001∧ms.length=ks.length∧0≤y.pos∧y.pos≤sg.length:=by
 have h1:=h.1.1;have h2:=hs.1;have h3:=h.2.2.2.2.1;have h4:=h.2.2.2.2.2.2
 omega
def flJ(sg:List Sg)(y:Gs)(ks:List Int)(ms:List (Int×Int))(N M:Nat):Prop:=Du sg y ks ms N∧N<M
theorem a1H{sg:List Sg}{y:Gs}{ks:List Int}{ms:List (Int×Int)}{N M:Nat}(h:Du sg y ks ms N∧N<M):flJ sg y ks ms N M:=h
def Oo(x:List Sg×Int):LS:= {
 ι:=Int×Int×Bool×List Nd×List Int×List (Int×Int)×Nat,inv:=fun i=>Du x.1 (iF i) i.2.2.2.2.1 i.2.2.2.2.2.1 i.2.2.2.2.2.2,regs:=fun i=>[(0,rdG ⟨x.1,x.2,i.2.2.2.2.2.1⟩ (iF i)),(2,Ab i.2.2.2.2.1)],als:=[],meas:=fun i=>i.2.2.2.2.2.2,
 sub:=fun j=>[(100005,{ι:=Int×Int×Bool×List Nd×List Int×List (Int×Int)×Nat,inv:=fun i=>flJ x.1 (iF i) i.2.2.2.2.1 i.2.2.2.2.2.1 i.2.2.2.2.2.2 j.2.2.2.2.2.2,regs:=fun i=>[(0,rdG ⟨x.1,x.2,i.2.2.2.2.2.1⟩ (iF i)),(2,Ab i.2.2.2.2.1)],als:=[],meas:=fun _=>0})]}
attribute [local irreducible] pE Bl CP fnR Af Bm gsOk Al Bs Ag BX CY Ah Cz Dj Ax BB pkG isG nmG BQ BR Dm Gd Di Ca BH stR CK EH EX CS Dn Fk Bz Du sgJ
def Lu:Sig:= {X:=List Sg×Int,args:=fun x=>[rdG ⟨x.1,x.2,[]⟩ ⟨0,0,false,[]⟩],pre:=fun x=>sgB x.1,Y:=Int×Int×Bool×List Nd×List Int×List (Int×Int)×Nat,post:=fun x y=>Du x.1 (iF y) y.2.2.2.2.1 y.2.2.2.2.2.1 y.2.2.2.2.2.2∧((iF y).bad=true∨¬(iF y).pos<x.1.length),res:=fun x y=> .tup [],outs:=fun x y=>[rdG ⟨x.1,x.2,y.2.2.2.2.2.1⟩ (BK x.1 (iF y) y.2.2.2.2.1)],keep:=true}
theorem b0Q:Aj G Tryz.prog 66 Lu:=
 vcFun_okP [(103,0,Cq),(102,0,Iw),(104,0,BS)] [(45,⟨Int,Bb⟩),(62,⟨Int×Int,fun p=>[.int .i64 p.1,.int .i64 p.2]⟩)] false (fun x=>[(1,Oo x)]) Tryz.func66 rfl (by decide) ⟨GZ,b0D,GB,trivial⟩ (fun(x:List Sg×Int)=>True∧eA (Oo x) [.box 0 [sgs x.1,.int .i64 x.2,.int .i64 (0:Int),.int .i64 (0:Int),.bool false,Au [],mbs []],.nil]∧∀(i:Int×Int×Bool×List Nd×List Int×List (Int×Int)×Nat),Du x.1 (iF i) i.2.2.2.2.1 i.2.2.2.2.2.1 i.2.2.2.2.2.2→true=true∧true=true∧Aa (!(iF i).bad) (Aa (decide ((iF i).pos<(↑(List.length x.1):Int))) (cA Cq [.box 0 [sgs x.1,.int .i64 x.2,.int .i64 (iF i).pos,.int .i64 (iF i).deep,.bool (iF i).bad,Au (iF i).nodes,mbs i.2.2.2.2.2.1]] fun x_1 y=>Aa (pkG x_1.1.sg (xg x_1) (0:Int)).blank (cA Iw [rdG x_1.1 (xg x_1),.bool (decide ((↑(List.length i.2.2.2.2.1):Int)>(0:Int))),.bool true] fun x_2 y=>∃(x_3:Int),y.1=x_3∧∃(zs:List Int),Ab [x_3]=Ab zs∧Be Bb∧AS (List.length i.2.2.2.2.1+List.length zs) (8:Nat)∧true=true∧((∃(x_4:Int×Int),(iF i).pos=x_4.1∧(yG y.2).pos=x_4.2∧∃(zs_1:List (Int×Int)),mbs [x_4]=mbs zs_1∧(Be fun(p:Int×Int)=>[.int .i64 p.1,.int .i64 p.2])∧AS (List.length x_2.1.ms+List.length zs_1) (16:Nat)∧true=true∧∃(i_1:Int×Int×Bool×List Nd×List Int×List (Int×Int)×Nat),flJ x.1 (iF i_1) i_1.2.2.2.2.1 i_1.2.2.2.2.2.1 i_1.2.2.2.2.2.2 i.2.2.2.2.2.2∧(sgs x_2.1.sg=sgs x.1∧x_2.1.z=x.2∧(yG y.2).pos=(iF i_1).pos∧(yG y.2).deep=(iF i_1).deep∧(yG y.2).bad=(iF i_1).bad∧Au (yG y.2).nodes=Au (iF i_1).nodes∧mbs (x_2.1.ms++zs_1)=mbs i_1.2.2.2.2.2.1∧Ab (i.2.2.2.2.1++zs)=Ab i_1.2.2.2.2.1∧True)∧True)∧(∃(x_4:Int×Int),(iF i).pos=x_4.1∧(yG y.2).pos=x_4.2∧∃(zs_1:List (Int×Int)),mbs [x_4]=mbs zs_1∧(Be fun(p:Int×Int)=>[.int .i64 p.1,.int .i64 p.2])∧AS (List.length x_2.1.ms+List.length zs_1) (16:Nat)∧true=true∧∃(i_1:Int×Int×Bool×List Nd×List Int×List (Int×Int)×Nat),flJ x.1 (iF i_1) i_1.2.2.2.2.1 i_1.2.2.2.2.2.1 i_1.2.2.2.2.2.2 i.2.2.2.2.2.2∧(sgs x_2.1.sg=sgs x.1∧x_2.1.z=x.2∧(yG y.2).pos=(iF i_1).pos∧(yG y.2).deep=(iF i_1).deep∧(yG y.2).bad=(iF i_1).bad∧Au (yG y.2).nodes=Au (iF i_1).nodes∧mbs (x_2.1.ms++zs_1)=mbs i_1.2.2.2.2.2.1∧Ab (i.2.2.2.2.1++zs)=Ab i_1.2.2.2.2.1∧True)∧True)∧(∃(x_4:Int×Int),(iF i).pos=x_4.1∧(yG y.2).pos=x_4.2∧∃(zs_1:List (Int×Int)),mbs [x_4]=mbs zs_1∧(Be fun(p:Int×Int)=>[.int .i64 p.1,.int .i64 p.2])∧AS (List.length x_2.1.ms+List.length zs_1) (16:Nat)∧true=true∧∃(i_1:Int×Int×Bool×List Nd×List Int×List (Int×Int)×Nat),flJ x.1 (iF i_1) i_1.2.2.2.2.1 i_1.2.2.2.2.2.1 i_1.2.2.2.2.2.2 i.2.2.2.2.2.2∧(sgs x_2.1.sg=sgs x.1∧x_2.1.z=x.2∧(yG y.2).pos=(iF i_1).pos∧(yG y.2).deep=(iF i_1).deep∧(yG y.2).bad=(iF i_1).bad∧Au (yG y.2).nodes=Au (iF i_1).nodes∧mbs (x_2.1.ms++zs_1)=mbs i_1.2.2.2.2.2.1∧Ab (i.2.2.2.2.1++zs)=Ab i_1.2.2.2.2.1∧True)∧True)∧∃(x_4:Int×Int),(iF i).pos=x_4.1∧(yG y.2).pos=x_4.2∧∃(zs_1:List (Int×Int)),mbs [x_4]=mbs zs_1∧(Be fun(p:Int×Int)=>[.int .i64 p.1,.int .i64 p.2])∧AS (List.length x_2.1.ms+List.length zs_1) (16:Nat)∧true=true∧∃(i_1:Int×Int×Bool×List Nd×List Int×List (Int×Int)×Nat),flJ x.1 (iF i_1) i_1.2.2.2.2.1 i_1.2.2.2.2.2.1 i_1.2.2.2.2.2.2 i.2.2.2.2.2.2∧(sgs x_2.1.sg=sgs x.1∧x_2.1.z=x.2∧(yG y.2).pos=(iF i_1).pos∧(yG y.2).deep=(iF i_1).deep∧(yG y.2).bad=(iF i_1).bad∧Au (yG y.2).nodes=Au (iF i_1).nodes∧mbs (x_2.1.ms++zs_1)=mbs i_1.2.2.2.2.2.1∧Ab (i.2.2.2.2.1++zs)=Ab i_1.2.2.2.2.1∧True)∧True)∧∀(i_1:Int×Int×Bool×List Nd×List Int×List (Int×Int)×Nat),flJ x.1 (iF i_1) i_1.2.2.2.2.1 i_1.2.2.2.2.2.1 i_1.2.2.2.2.2.2 i.2.2.2.2.2.2→eN (Oo x) i [.box 0 [sgs x.1,.int .i64 x.2,.int .i64 (iF i_1).pos,.int .i64 (iF i_1).deep,.bool (iF i_1).bad,Au (iF i_1).nodes,mbs i_1.2.2.2.2.2.1],Ab i_1.2.2.2.2.1]) (cA Iw [rdG x_1.1 (xg x_1),.bool false,.bool true] fun x_2 y=>∃(x_3:Int),y.1=x_3∧∃(zs:List Int),Ab [x_3]=Ab zs∧Be Bb∧AS (List.length i.2.2.2.2.1+List.length zs) (8:Nat)∧true=true∧((∃(x_4:Int×Int),(iF i).pos=x_4.1∧(yG y.2).pos=x_4.2∧∃(zs_1:List (Int×Int)),mbs [x_4]=mbs zs_1∧(Be fun(p:Int×Int)=>[.int .i64 p.1,.int .i64 p.2])∧AS (List.length x_2.1.ms+List.length zs_1) (16:Nat)∧true=true∧∃(i_1:Int×Int×Bool×List Nd×List Int×List (Int×Int)×Nat),flJ x.1 (iF i_1) i_1.2.2.2.2.1 i_1.2.2.2.2.2.1 i_1.2.2.2.2.2.2 i.2.2.2.2.2.2∧(sgs x_2.1.sg=sgs x.1∧x_2.1.z=x.2∧(yG y.2).pos=(iF i_1).pos∧(yG y.2).deep=(iF i_1).deep∧(yG y.2).bad=(iF i_1).bad∧Au (yG y.2).nodes=Au (iF i_1).nodes∧mbs (x_2.1.ms++zs_1)=mbs i_1.2.2.2.2.2.1∧Ab (i.2.2.2.2.1++zs)=Ab i_1.2.2.2.2.1∧True)∧True)∧(∃(x_4:Int×Int),(iF i).pos=x_4.1∧(yG y.2).pos=x_4.2∧∃(zs_1:List (Int×Int)),mbs [x_4]=mbs zs_1∧(Be fun(p:Int×Int)=>[.int .i64 p.1,.int .i64 p.2])∧AS (List.length x_2.1.ms+List.length zs_1) (16:Nat)∧true=true∧∃(i_1:Int×Int×Bool×List Nd×List Int×List (Int×Int)×Nat),flJ x.1 (iF i_1) i_1.2.2.2.2.1 i_1.2.2.2.2.2.1 i_1.2.2.2.2.2.2 i.2.2.2.2.2.2∧(sgs x_2.1.sg=sgs x.1∧x_2.1.z=x.2∧(yG y.2).pos=(iF i_1).pos∧(yG y.2).deep=(iF i_1).deep∧(yG y.2).bad=(iF i_1).bad∧Au (yG y.2).nodes=Au (iF i_1).nodes∧mbs (x_2.1.ms++zs_1)=mbs i_1.2.2.2.2.2.1∧Ab (i.2.2.2.2.1++zs)=Ab i_1.2.2.2.2.1∧True)∧True)∧(∃(x_4:Int×Int),(iF i).pos=x_4.1∧(yG y.2).pos=x_4.2∧∃(zs_1:List (Int×Int)),mbs [x_4]=mbs zs_1∧(Be fun(p:Int×Int)=>[.int .i64 p.1,.int .i64 p.2])∧AS (List.length x_2.1.ms+List.length zs_1) (16:Nat)∧true=true∧∃(i_1:Int×Int×Bool×List Nd×List Int×List (Int×Int)×Nat),flJ x.1 (iF i_1) i_1.2.2.2.2.1 i_1.2.2.2.2.2.1 i_1.2.2.2.2.2.2 i.2.2.2.2.2.2∧(sgs x_2.1.sg=sgs x.1∧x_2.1.z=x.2∧(yG y.2).pos=(iF i_1).pos∧(yG y.2).deep=(iF i_1).deep∧(yG y.2).bad=(iF i_1).bad∧Au (yG y.2).nodes=Au (iF i_1).nodes∧mbs (x_2.1.ms++zs_1)=mbs i_1.2.2.2.2.2.1∧Ab (i.2.2.2.2.1++zs)=Ab i_1.2.2.2.2.1∧True)∧True)∧∃(x_4:Int×Int),(iF i).pos=x_4.1∧(yG y.2).pos=x_4.2∧∃(zs_1:List (Int×Int)),mbs [x_4]=mbs zs_1∧(Be fun(p:Int×Int)=>[.int .i64 p.1,.int .i64 p.2])∧AS (List.length x_2.1.ms+List.length zs_1) (16:Nat)∧true=true∧∃(i_1:Int×Int×Bool×List Nd×List Int×List (Int×Int)×Nat),flJ x.1 (iF i_1) i_1.2.2.2.2.1 i_1.2.2.2.2.2.1 i_1.2.2.2.2.2.2 i.2.2.2.2.2.2∧(sgs x_2.1.sg=sgs x.1∧x_2.1.z=x.2∧(yG y.2).pos=(iF i_1).pos∧(yG y.2).deep=(iF i_1).deep∧(yG y.2).bad=(iF i_1).bad∧Au (yG y.2).nodes=Au (iF i_1).nodes∧mbs (x_2.1.ms++zs_1)=mbs i_1.2.2.2.2.2.1∧Ab (i.2.2.2.2.1++zs)=Ab i_1.2.2.2.2.1∧True)∧True)∧∀(i_1:Int×Int×Bool×List Nd×List Int×List (Int×Int)×Nat),flJ x.1 (iF i_1) i_1.2.2.2.2.1 i_1.2.2.2.2.2.1 i_1.2.2.2.2.2.2 i.2.2.2.2.2.2→eN (Oo x) i [.box 0 [sgs x.1,.int .i64 x.2,.int .i64 (iF i_1).pos,.int .i64 (iF i_1).deep,.bool (iF i_1).bad,Au (iF i_1).nodes,mbs i_1.2.2.2.2.2.1],Ab i_1.2.2.2.2.1])) (cA BS [.box 0 [sgs x.1,.int .i64 x.2,.int .i64 (iF i).pos,.int .i64 (iF i).deep,.bool (iF i).bad,Au (iF i).nodes,mbs i.2.2.2.2.2.1],.agg [.int .i64 (22:Int),.str #[].toList,Ab i.2.2.2.2.1,.bool false]] fun x_1 y=>rA Lu x [.tup [],rdG x_1.1 (Ag (xh x_1) {kind:=x_1.2.2.2.2.2.1,text:=x_1.2.2.2.2.2.2.1,kids:=x_1.2.2.2.2.2.2.2.1,blank:=x_1.2.2.2.2.2.2.2.2})])) (cA BS [.box 0 [sgs x.1,.int .i64 x.2,.int .i64 (iF i).pos,.int .i64 (iF i).deep,.bool (iF i).bad,Au (iF i).nodes,mbs i.2.2.2.2.2.1],.agg [.int .i64 (22:Int),.str #[].toList,Ab i.2.2.2.2.1,.bool false]] fun x_1 y=>rA Lu x [.tup [],rdG x_1.1 (Ag (xh x_1) {kind:=x_1.2.2.2.2.2.1,text:=x_1.2.2.2.2.2.2.1,kids:=x_1.2.2.2.2.2.2.2.1,blank:=x_1.2.2.2.2.2.2.2.2})])) (fun x=>by kernel_rfl) fun(x:List Sg×Int) (hx:sgB x.1)=>(by
 dsimp only[cA,eA,eN,Oo,mbs,Bg,Ab,Au,rA,rdG,BS,Lu,Iw,Cq,Bj,sgs,Av,AB,mvL,lnL,mvE,lnE,Bw]
 obtain⟨sg,z⟩:=x;dsimp only[iF] at hx ⊢
 have hx:sgB sg:=hx
 (repeat' first|(apply b0P<;>try dsimp only)|(apply b0O<;>try dsimp only)|(apply b0N<;>try dsimp only)|(apply b0M<;>try dsimp only)|(apply a1F<;>try dsimp only)|(with_reducible first|rfl|exact True.intro|apply AK|apply And.intro|((first|apply Az|apply AI|apply AA|apply AJ)<;>intro _))|(apply Aw<;>intro _)|apply AH|refine Ae () ?_ ?_|((first|apply AO|apply AN|apply AM|apply AL|apply AG|apply AF|apply AE|apply AD|apply AC)<;>try dsimp only)|apply Ae|(refine Prod.forall.2 ?_;intro _;try dsimp only)|(intro _;try dsimp only))
 all_goals(try dsimp only[xg,xh,yG,yS,iG,iF] at*)
 all_goals(try simp only[CM] at*)
 all_goals first
  |(show Nat;skip)
  |rfl
  |exact hx
  |exact a1G
  |assumption
  |exact UW (s:=⟨sg,z,_⟩) hx ‹_›
  |exact(UW (s:=⟨sg,z,_⟩) hx ‹_›).1
  |exact a1H (UV ‹_› ‹_› (by omega) ‹_› (GD ‹_›))
  |exact a1H (UV ‹_› ‹_› (by omega) ‹_› (GE ‹_›))
  |exact(show flJ _ _ _ _ _ _ by assumption).1
  |exact(show flJ _ _ _ _ _ _ by assumption).2
  |exact .inl ‹_›
  |exact .inr ‹_›
  |(have hq:=UX hx (show Du _ _ _ _ _ by assumption);(try simp only[AS,List.length_append,List.length_cons,List.length_nil]);omega)
  |skip)
def Ki:Sig:= {X:=List UInt8,args:=fun x=>[.str x],pre:=fun x=>x.length<2^62,Y:=List Sg×Int,post:=fun x y=>sgQ x y.1,res:=fun x y=> .tup [sgs y.1,.int .i64 y.2,.bool (Br x).isSome],outs:=fun x y=>[.top],keep:=true}
def MI(x:List UInt8):LS:= {ι:=Int×Int×List Sg×Nat,inv:=fun i=>sgJ x i.1 i.2.1 i.2.2.1 i.2.2.2,regs:=fun i=>[(0,.str x),(5,As i.2.2.1),(6,.int .i64 i.2.1),(7,.int .i64 i.1)],als:=[],meas:=fun i=>i.2.2.2}
theorem b0R:Aj G Tryz.prog 24 Ki:=
 vcFun_okP [(50,0,FV)] [(36,⟨Sg,sgA⟩)] false (fun x=>[(6,MI x)]) Tryz.func24 rfl (by decide) ⟨Yq,trivial⟩ (fun(x:List UInt8)=>True∧Aa (decide ((↑(List.length x):Int)>(3000:Int))) (rA Ki x [.tup [.nil,.int .i64 (3000:Int),.bool false],.top]) (eA (MI x) [.str x,.nil,.int .i64 (0:Int),.int .i64 (0:Int)]∧∀(i:Int×Int×List Sg×Nat),sgJ x i.1 i.2.1 i.2.2.1 i.2.2.2→Aa (decide (i.1<(↑(List.length x):Int))) (((0:Int)≤i.1∧i.1<(↑(List.length x):Int))∧∀(c:UInt8),x[Int.toNat i.1]? =some c→Aa ((↑(UInt8.toNat c):Int)==(32:Int)) (inR IntKind.i64 (i.1+(1:Int))∧eN (MI x) i [.str x,As i.2.2.1,.int .i64 i.2.1,.int .i64 (i.1+(1:Int))]) (Aa ((↑(UInt8.toNat c):Int)==(10:Int)) (inR IntKind.i64 (i.1+(1:Int))∧inR IntKind.i64 (i.2.1+(1:Int))∧eN (MI x) i [.str x,As i.2.2.1,.int .i64 (i.2.1+(1:Int)),.int .i64 (i.1+(1:Int))]) (((0:Int)≤i.1∧i.1≤(↑(List.length x):Int)∧(↑(List.length x):Int)≤(↑(List.length x):Int))∧cA FV [.str (List.drop (Int.toNat i.1) x)] fun x_1 y=>Aa (!(Bc x_1).ok) (rA Ki x [.tup [.nil,.int .i64 i.1,.bool false],.top]) (∃(x_2:Sg),(Bc x_1).kind=x_2.kind∧(Bc x_1).text=x_2.text∧i.1=x_2.pos∧decide (i.2.1>(1:Int))=x_2.blank∧∃(zs:List Sg),As [x_2]=As zs∧Be sgA∧AS (List.length i.2.2.1+List.length zs) (40:Nat)∧inR IntKind.i64 (i.1+(Bc x_1).size)∧eN (MI x) i [.str x,As (i.2.2.1++zs),.int .i64 (0:Int),.int .i64 (i.1+(Bc x_1).size)])))) (rA Ki x [.tup [As i.2.2.1,.int .i64 (0:Int),.bool true],.top]))) (fun x=>by kernel_rfl) fun(x:List UInt8) (hx:x.length<2^62)=>(by
 dsimp only[cA,eA,eN,MI,As,rA,Ki,FV,Bj,sgs,Av,AB,mvL,lnL,mvE,lnE,Bw]
 have hx:x.length<2^62:=hx
 (repeat' first|(with_reducible first|rfl|exact True.intro|apply AK|apply And.intro|((first|apply Az|apply AI|apply AA|apply AJ)<;>intro _))|(apply Aw<;>intro _)|apply AH|refine Ae () ?_ ?_|((first|apply AO|apply AN|apply AM|apply AL|apply AG|apply AF|apply AE|apply AD|apply AC)<;>try dsimp only)|apply Ae|(refine Prod.forall.2 ?_;intro _;try dsimp only)|(intro _;try dsimp only))
 all_goals first
  |(show Nat;skip)
  |rfl
  |exact a1E ‹_›
  |exact(Kh (QX ‹_›)).2
  |exact(Kh (QX ‹_›)).1.symm
  |exact(QU ‹_› ‹_› ‹_› (by omega)).1
  |exact(QV ‹_› ‹_› ‹_› (by omega)).1
  |exact(UT ‹_› ‹_› ‹_› (by omega) (by omega) ‹_›).1
  |exact(Kh (UU ‹_› ‹_› ‹_› (by omega) (by omega) ‹_›)).2
  |exact(Kh (UU ‹_› ‹_› ‹_› (by omega) (by omega) ‹_›)).1.symm
  |exact(QW ‹_› ‹_›).2
  |exact(QW ‹_› ‹_›).1.symm
  |(have hq:=Ji (show sgJ _ _ _ _ _ by assumption);(try simp only[AR,List.length_drop]);omega)
  |(have hj:=(show sgJ _ _ _ _ _ by assumption);have hq:=Ji hj;have hz:=US hj ‹_›;(try simp only[AR,List.length_drop]);omega)
  |(have hq:=Ji (show sgJ _ _ _ _ _ by assumption);(try simp only[AS,List.length_append,List.length_cons,List.length_nil]);omega)
  |skip
 all_goals first
  |exact(QU ‹_› ‹_› ‹_› (by omega)).2
  |exact(QV ‹_› ‹_› ‹_› (by omega)).2
  |exact(UT ‹_› ‹_› ‹_› (by omega) (by omega) ‹_›).2
  |rfl
  |skip)
end Go.My
end
section
set_option linter.unusedVariables false
set_option linter.unusedSimpArgs false
namespace Go.My
open Go.Eng Go.Proofs
variable {G:GInv}
def rsQ(t:List UInt8)(sg:List Sg)(ms:List (Int×Int))(g:Gs):Prop:=(g.bad=true∧CB t=none)∨((g.bad=false∧sgB sg∧Br t=some sg)∧FZ sg=some (ms,g.nodes)∧BE g.nodes)
theorem UY{sg:List Sg}{g:Gs}(h:gsOk sg g):BE g.nodes∧g.nodes.length≤300:=by
 refine⟨⟨by have:=h.2.2.1;omega,fun x hx=> ?_⟩,h.2.2.1⟩
 have:=h.2.2.2 x hx
 exact⟨by have:=this.1;omega,by have:=this.2;omega⟩
theorem b0S{t:List UInt8}{l:List Sg}(h:sgQ t l)(hn:(Br t).isSome=false):rsQ t l [] ⟨0,0,!(Br t).isSome,[]⟩:=by
 refine .inl ⟨by simp [hn],?_⟩
 rw[CB]
 cases hs:Br t with
 |none=>rfl
 |some l=>rw[hs] at hn;cases hn
theorem Kj{t:List UInt8}{l:List Sg}(h:sgQ t l)(hn:(Br t).isSome=true):Br t=some l∧sgB l:=by
 rcases h with h|h
 ·exact h
 ·rw[h.1] at hn;cases hn
theorem a1I{t:List UInt8}{l:List Sg}{y:Gs}{ks:List Int}{ms:List (Int×Int)}{N:Nat}(h:sgQ t l)(hn:(Br t).isSome=true)(hf:Du l y ks ms N∧(y.bad=true∨¬y.pos<l.length))(hb:(BK l y ks).bad=true):rsQ t l ms (BK l y ks):=by
 refine .inl ⟨hb,?_⟩
 rw[CB,(Kj h hn).1]
 simp only[Option.bind_some,b0n hf.1 hb hf.2];rfl
theorem QY{l:List Sg}{y:Gs}{ks:List Int}{ms:List (Int×Int)}{N:Nat}(hs:sgB l)(h:Du l y ks ms N):Cv ⟨22,[],ks,false⟩:=⟨by simp,by have:=(UX hs h).1;simp only;omega⟩
theorem a1J{t:List UInt8}{l:List Sg}{y:Gs}{ks:List Int}{ms:List (Int×Int)}{N:Nat}(h:sgQ t l)(hn:(Br t).isSome=true)(hf:Du l y ks ms N∧(y.bad=true∨¬y.pos<l.length))(hb:(BK l y ks).bad=false):
 rsQ t l ms ⟨(BK l y ks).pos,(BK l y ks).deep,!De (BK l y ks).nodes,(BK l y ks).nodes⟩:=by
 have hk:=QY (Kj h hn).2 hf.1
 have e:=b0o hf.1 hb hf.2
 cases htr:De (BK l y ks).nodes with
 |false=>
  rw[htr] at e
  refine .inl ⟨rfl,?_⟩
  rw[CB,(Kj h hn).1]
  simp only[Option.bind_some,e];rfl
 |true=>
  rw[htr] at e
  exact .inr ⟨⟨rfl,(Kj h hn).2,(Kj h hn).1⟩,e,(UY (Ir hf.1.1 hk)).1⟩
theorem a1K{t:List UInt8}{l:List Sg}{y:Gs}{ks:List Int}{ms:List (Int×Int)}{N:Nat}(h:sgQ t l)(hn:(Br t).isSome=true)(hf:Du l y ks ms N∧(y.bad=true∨¬y.pos<l.length)):gsOk l (BK l y ks)∧Cv ⟨22,[],ks,false⟩:=
 have hs:=(Kj h hn).2
 ⟨Ir hf.1.1 (QY hs hf.1),QY hs hf.1⟩
theorem a1L{t:List UInt8}{l:List Sg}{y:Gs}{ks:List Int}{ms:List (Int×Int)}{N:Nat}(h:sgQ t l)(hn:(Br t).isSome=true)(hf:Du l y ks ms N∧(y.bad=true∨¬y.pos<l.length)):BE (BK l y ks).nodes∧(BK l y ks).nodes.length≤1073741824:=by
 have a:=UY (a1K h hn hf).1
 exact⟨a.1,by omega⟩
theorem b0T{t:List UInt8}{l:List Sg}{y:Gs}{ks:List Int}{ms:List (Int×Int)}{N:Nat}(h:sgQ t l)(hn:(Br t).isSome=true)(hf:Du l y ks ms N∧(y.bad=true∨¬y.pos<l.length)):0≤(BK l y ks).pos:=(a1K h hn hf).1.1.1
theorem UZ{t:List UInt8}{l:List Sg}{ms:List (Int×Int)}{g:Gs}(h:rsQ t l ms g)(hb:g.bad=true):CB t=none:=by
 rcases h with h|h
 ·exact h.2
 ·rw[h.1.1] at hb;cases hb
theorem b0U{t:List UInt8}{l:List Sg}{ms:List (Int×Int)}{g:Gs}(h:rsQ t l ms g)(hb:g.bad=false):CB t=some g.nodes∧BE g.nodes:=by
 rcases h with h|h
 ·rw[h.1] at hb;cases hb
 ·refine⟨?_,h.2.2⟩
  rw[CB,h.1.2.2];simp only[Option.bind_some,h.2.1];rfl
attribute [local irreducible] gsOk Du BK CB FZ Br De
def HK:Sig:= {X:=List UInt8,args:=fun x=>[.str x],pre:=fun x=>x.length<2^62,Y:=List Sg×List (Int×Int)×Int×Int×Bool×List Nd×Int,post:=fun x y=>rsQ x y.1 y.2.1 ⟨y.2.2.1,y.2.2.2.1,y.2.2.2.2.1,y.2.2.2.2.2.1⟩,res:=fun x y=> .tup [rdG ⟨y.1,x.length,y.2.1⟩ ⟨y.2.2.1,y.2.2.2.1,y.2.2.2.2.1,y.2.2.2.2.2.1⟩,.int .i64 y.2.2.2.2.2.2],outs:=fun x y=>[.top],keep:=true}
theorem b0V:Aj G Tryz.prog 37 HK:=
 vcFun_okP [(24,0,Ki),(66,0,Lu),(67,0,Hx)] [(36,⟨Sg,sgA⟩),(45,⟨Int,Bb⟩),(62,⟨Int×Int,fun p=>[.int .i64 p.1,.int .i64 p.2]⟩),(32,⟨Nd,ndA true⟩)] false (fun x=>[]) Tryz.func37 rfl (by decide) ⟨b0R,b0Q,a7Q,trivial⟩ (fun(x:List UInt8)=>True∧cA Ki [.str x] fun x_1 y=>Aa (!Option.isSome (Br x_1)) (rA HK x [.tup [.box 0 [sgs y.1,.int .i64 (↑(List.length x):Int),.int .i64 (0:Int),.int .i64 (0:Int),.bool !Option.isSome (Br x_1),.nil,.nil],.int .i64 y.2],.top]) (cA Lu [.box 0 [sgs y.1,.int .i64 (↑(List.length x):Int),.int .i64 (0:Int),.int .i64 (0:Int),.bool !Option.isSome (Br x_1),.nil,.nil]] fun x_2 y_1=>Aa (BK x_2.1 (iF y_1) y_1.2.2.2.2.1).bad (Aa (decide ((BK x_2.1 (iF y_1) y_1.2.2.2.2.1).pos<(↑(List.length y.1):Int))) (true=true∧true=true∧((0:Int)≤(BK x_2.1 (iF y_1) y_1.2.2.2.2.1).pos∧(BK x_2.1 (iF y_1) y_1.2.2.2.2.1).pos<(↑(List.length y.1):Int))∧∀(e:Sg),y.1[Int.toNat (BK x_2.1 (iF y_1) y_1.2.2.2.2.1).pos]? =some e→rA HK x [.tup [.box 0 [sgs x_2.1,.int .i64 x_2.2,.int .i64 (BK x_2.1 (iF y_1) y_1.2.2.2.2.1).pos,.int .i64 (BK x_2.1 (iF y_1) y_1.2.2.2.2.1).deep,.bool (BK x_2.1 (iF y_1) y_1.2.2.2.2.1).bad,Au (BK x_2.1 (iF y_1) y_1.2.2.2.2.1).nodes,mbs y_1.2.2.2.2.2.1],.int .i64 e.pos],.top]) (Aa (BK x_2.1 (iF y_1) y_1.2.2.2.2.1).bad (rA HK x [.tup [.box 0 [sgs x_2.1,.int .i64 x_2.2,.int .i64 (BK x_2.1 (iF y_1) y_1.2.2.2.2.1).pos,.int .i64 (BK x_2.1 (iF y_1) y_1.2.2.2.2.1).deep,.bool (BK x_2.1 (iF y_1) y_1.2.2.2.2.1).bad,Au (BK x_2.1 (iF y_1) y_1.2.2.2.2.1).nodes,mbs y_1.2.2.2.2.2.1],.int .i64 (↑(List.length x):Int)],.top]) (cA Hx [Au (BK x_2.1 (iF y_1) y_1.2.2.2.2.1).nodes] fun x_3 y=>rA HK x [.tup [.box 0 [sgs x_2.1,.int .i64 x_2.2,.int .i64 (BK x_2.1 (iF y_1) y_1.2.2.2.2.1).pos,.int .i64 (BK x_2.1 (iF y_1) y_1.2.2.2.2.1).deep,.bool !De x_3,Au (BK x_2.1 (iF y_1) y_1.2.2.2.2.1).nodes,mbs y_1.2.2.2.2.2.1],.int .i64 (0:Int)],.top]))) (Aa (BK x_2.1 (iF y_1) y_1.2.2.2.2.1).bad (rA HK x [.tup [.box 0 [sgs x_2.1,.int .i64 x_2.2,.int .i64 (BK x_2.1 (iF y_1) y_1.2.2.2.2.1).pos,.int .i64 (BK x_2.1 (iF y_1) y_1.2.2.2.2.1).deep,.bool (BK x_2.1 (iF y_1) y_1.2.2.2.2.1).bad,Au (BK x_2.1 (iF y_1) y_1.2.2.2.2.1).nodes,mbs y_1.2.2.2.2.2.1],.int .i64 (↑(List.length x):Int)],.top]) (cA Hx [Au (BK x_2.1 (iF y_1) y_1.2.2.2.2.1).nodes] fun x_3 y=>rA HK x [.tup [.box 0 [sgs x_2.1,.int .i64 x_2.2,.int .i64 (BK x_2.1 (iF y_1) y_1.2.2.2.2.1).pos,.int .i64 (BK x_2.1 (iF y_1) y_1.2.2.2.2.1).deep,.bool !De x_3,Au (BK x_2.1 (iF y_1) y_1.2.2.2.2.1).nodes,mbs y_1.2.2.2.2.2.1],.int .i64 (0:Int)],.top])))) (fun x=>by kernel_rfl) fun(x:List UInt8) (hx:x.length<2^62)=>(by
 dsimp only[cA,mbs,Bg,nds,Au,As,rA,rdG,Ki,Hx,Lu,HK,Bj,sgs,Av,AB,mvL,lnL,mvE,lnE]
 have hx:x.length<2^62:=hx
 (repeat' first|(with_reducible first|rfl|exact True.intro|apply AK|apply And.intro|((first|apply Az|apply AI|apply AA|apply AJ)<;>intro _))|(apply Aw<;>intro _)|apply AH|refine Ae () ?_ ?_|((first|apply AO|apply AN|apply AM|apply AL|apply AG|apply AF|apply AE|apply AD|apply AC)<;>try dsimp only)|apply Ae|(refine Prod.forall.2 ?_;intro _;try dsimp only)|(intro _;try dsimp only))
 all_goals(try dsimp only[iF] at*)
 all_goals first
  |rfl
  |exact hx
  |exact b0S ‹_› ‹_›
  |exact(Kj ‹_› ‹_›).2
  |exact a1I ‹_› ‹_› ‹_› ‹_›
  |exact a1J ‹_› ‹_› ‹_› ‹_›
  |(simp [*];done)
  |exact(a1L ‹_› ‹_› ‹_›).1
  |exact(a1L ‹_› ‹_› ‹_›).2
  |(have hq:=(b0T ‹_› ‹_› (show Du _ _ _ _ _∧_ by assumption));(try dsimp only at hq);omega)
  |skip)
end Go.My
end
section
set_option linter.unusedVariables false
set_option linter.unusedSimpArgs false
namespace Go.My
open Go.Eng Go.Proofs
variable {G:GInv}
def Oq:List (List UInt8):=[[38,38],[124,124],[61,61],[61,62],[46,46]]
def Lv:List (List UInt8):=[[40],[41],[123],[125],[91],[93],[59],[44],[46],[61],[43],[45],[42],[60],[63],[58]]
def mks:List (List UInt8):=[[38,38],[124,124],[61,61],[61,62],[46,46],[40],[41],[123],[125],[91],[93],[59],[44],[46],[61],[43],[45],[42],[60],[63],[58]]
def FF(s:List UInt8):List UInt8:=(mks.find? fun m=>s.take m.length==m).getD []
theorem Va{s:List UInt8}{k:Nat}:∀ {l:List (List UInt8)},(∀m∈l,m.length=k)→l.find? (fun m=>s.take m.length==m)=if l.elem (s.take k) then some (s.take k) else none
 |[],_=>rfl
 |m::l,h=>by
  have hm:=h m (by simp)
  rw[List.find?_cons,List.elem_cons,hm]
  cases he:(s.take k==m) with
  |true=>
   have:s.take k=m:=by simpa using he
   simp [this]
  |false=>
   rw[Va (l:=l) (fun m hm=>h m (by simp [hm]))]
theorem a1M{s:List UInt8}:FF s=if Oq.elem (s.take 2) then s.take 2 else if Lv.elem (s.take 1) then s.take 1 else []:=by
 have e:mks=Oq++Lv:=rfl
 rw[FF,e,List.find?_append,Va (k:=2) (l:=Oq) (by decide),Va (k:=1) (l:=Lv) (by decide)]
 split
 ·rfl
 ·split<;>rfl
theorem b0W{s:List UInt8}:Oq.elem s=mk2 s:=by
 rw[Bool.eq_iff_iff];simp [Oq,mk2]
theorem b0X{c:UInt8}:Lv.elem [c]=mk1.elem c:=by
 simp [Lv,mk1,List.elem_cons,List.elem_nil]
theorem a1N{c:UInt8}{s:List UInt8}:FF (c::s)=if CG ((c::s).take 2) then(c::s).take 2 else if CG ((c::s).take 1) then(c::s).take 1 else []:=by
 rw[a1M,b0W]
 have h1:Lv.elem ((c::s).take 1)=CG ((c::s).take 1):=by
  show Lv.elem [c]=CG [c]
  rw[b0X]
  simp [CG,mk2]
 rw[h1]
 cases s with
 |nil=>
  show(if mk2 [c]=true then [c] else if CG [c]=true then [c] else [])=if CG [c]=true then [c] else if CG [c]=true then [c] else []
  have:mk2 [c]=false:=by simp [mk2]
  rw[this];simp
 |cons d r=>
  have:CG ((c::d::r).take 2)=mk2 ((c::d::r).take 2):=by
   show CG [c,d]=mk2 [c,d]
   simp [CG]
  rw[this]
def HL(x:List UInt8×Int)(i:Int):Prop:=(0≤i∧i≤21)∧FF (x.1.drop x.2.toNat)=((mks.drop i.toNat).find? fun m=>(x.1.drop x.2.toNat).take m.length==m).getD []
theorem b0Y{x:List UInt8×Int}:HL x 0:=⟨by omega,rfl⟩
theorem a1O{x:List UInt8×Int}{i:Int}{m:List UInt8}(h:HL x i)(ha:mks[i.toNat]? =some m)(hg:((x.1.drop x.2.toNat).take m.length==m)=false):HL x (i+1):=by
 have hlt:=(List.getElem?_eq_some_iff.1 ha).1
 have h21:mks.length=21:=rfl
 obtain⟨h1,h2⟩:=h
 refine⟨by omega,?_⟩
 rw[h2,List.drop_eq_getElem_cons hlt,(List.getElem?_eq_some_iff.1 ha).2,List.find?_cons_of_neg (by simpa using hg),show(i+1).toNat=i.toNat+1 by omega]
theorem b0Z{x:List UInt8×Int}{i:Int}{m:List UInt8}(h:HL x i)(ha:mks[i.toNat]? =some m)(hg:((x.1.drop x.2.toNat).take m.length==m)=true):m=FF (x.1.drop x.2.toNat):=by
 have hlt:=(List.getElem?_eq_some_iff.1 ha).1
 rw[h.2,List.drop_eq_getElem_cons hlt,(List.getElem?_eq_some_iff.1 ha).2,List.find?_cons_of_pos (by simpa using hg)];rfl
theorem b1a{x:List UInt8×Int}{i:Int}(h:HL x i)(hi:¬i<21):[]=FF (x.1.drop x.2.toNat):=by
 have e:mks.drop i.toNat=[]:=List.drop_eq_nil_of_le (by have h21:mks.length=21:=rfl;rw[h21];omega)
 rw[h.2,e];rfl
theorem QZ{t:List UInt8}{a n:Int}(h0:0≤a)(hn:0≤n):List.drop a.toNat (List.take (a+n).toNat t)=(t.drop a.toNat).take n.toNat:=by
 rw[List.drop_take,show(a+n).toNat-a.toNat=n.toNat by omega]
theorem b1b{x:List UInt8×Int}{m:List UInt8}(h0:0≤x.2)(h2:x.2≤x.1.length)(hl:¬x.2+(m.length:Int)≤x.1.length):((x.1.drop x.2.toNat).take m.length==m)=false:=by
 have:((x.1.drop x.2.toNat).take m.length)≠m:=by
  intro e
  have:=congrArg List.length e
  simp at this;omega
 simpa using this
theorem b1c{x:List UInt8×Int}{m:List UInt8}(h0:0≤x.2)(h:List.drop (Int.toNat x.2) (List.take (Int.toNat (x.2+(m.length:Int))) x.1)=m):((x.1.drop x.2.toNat).take m.length==m)=true:=by
 rw[QZ h0 (by omega)] at h;simpa using h
theorem b1d{x:List UInt8×Int}{m:List UInt8}(h0:0≤x.2)(h:List.drop (Int.toNat x.2) (List.take (Int.toNat (x.2+(m.length:Int))) x.1)≠m):((x.1.drop x.2.toNat).take m.length==m)=false:=by
 rw[QZ h0 (by omega)] at h;simpa using h
theorem b1e{i:Int}{m:List UInt8}(ha:mks[i.toNat]? =some m):m.length≤2:=by
 have:∀m∈mks,m.length≤2:=by decide
 exact this m (List.mem_of_getElem? ha)
theorem a1P{x:List UInt8×Int}{i:Int}(h:HL x i):0≤i∧i≤21:=h.1
attribute [local irreducible] HL FF
def MJ:Sig:= {X:=Unit,args:=fun x=>[],pre:=fun x=>True,Y:=Unit,post:=fun x y=>True,res:=fun x y=> .sl false 0 1 (List UInt8) BW mks,outs:=fun x y=>[],keep:=true}
theorem b1f:Aj G Tryz.prog 110 MJ:=
 vcFun_okP [] [(41,⟨List UInt8,BW⟩)] false (fun x=>[]) Tryz.func110 rfl (by decide) trivial (fun(x:Unit)=>True∧∃(x_1:List UInt8),#[(38:UInt8),(38:UInt8)].toList=x_1∧∃(x_2:List UInt8),#[(124:UInt8),(124:UInt8)].toList=x_2∧∃(x_3:List UInt8),#[(61:UInt8),(61:UInt8)].toList=x_3∧∃(x_4:List UInt8),#[(61:UInt8),(62:UInt8)].toList=x_4∧∃(x_5:List UInt8),#[(46:UInt8),(46:UInt8)].toList=x_5∧∃(x_6:List UInt8),#[(40:UInt8)].toList=x_6∧∃(x_7:List UInt8),#[(41:UInt8)].toList=x_7∧∃(x_8:List UInt8),#[(123:UInt8)].toList=x_8∧∃(x_9:List UInt8),#[(125:UInt8)].toList=x_9∧∃(x_10:List UInt8),#[(91:UInt8)].toList=x_10∧∃(x_11:List UInt8),#[(93:UInt8)].toList=x_11∧∃(x_12:List UInt8),#[(59:UInt8)].toList=x_12∧∃(x_13:List UInt8),#[(44:UInt8)].toList=x_13∧∃(x_14:List UInt8),#[(46:UInt8)].toList=x_14∧∃(x_15:List UInt8),#[(61:UInt8)].toList=x_15∧∃(x_16:List UInt8),#[(43:UInt8)].toList=x_16∧∃(x_17:List UInt8),#[(45:UInt8)].toList=x_17∧∃(x_18:List UInt8),#[(42:UInt8)].toList=x_18∧∃(x_19:List UInt8),#[(60:UInt8)].toList=x_19∧∃(x_20:List UInt8),#[(63:UInt8)].toList=x_20∧∃(x_21:List UInt8),#[(58:UInt8)].toList=x_21∧rA MJ x [AV.sl true (0:Nat) (1:Nat) (List UInt8) BW [x_1,x_2,x_3,x_4,x_5,x_6,x_7,x_8,x_9,x_10,x_11,x_12,x_13,x_14,x_15,x_16,x_17,x_18,x_19,x_20,x_21]]) (fun x=>by kernel_rfl) fun(x:Unit) (hx:True)=>(by
 dsimp only[rA,MJ,Av,AB]
 (repeat' first|(with_reducible first|rfl|exact True.intro|apply AK|apply And.intro|((first|apply Az|apply AI|apply AA|apply AJ)<;>intro _))|(apply Aw<;>intro _)|apply AH|refine Ae () ?_ ?_|((first|apply AO|apply AN|apply AM|apply AL|apply AG|apply AF|apply AE|apply AD|apply AC)<;>try dsimp only)|apply Ae|(refine Prod.forall.2 ?_;intro _;try dsimp only)|(intro _;try dsimp only))
 all_goals first
  |rfl
  |(simp [AS];done)
  |skip)
def Lw:Sig:= {X:=List UInt8×Int,args:=fun x=>[.str x.1,.int .i64 x.2],pre:=fun x=>0≤x.2∧x.2≤x.1.length∧x.1.length<2^62,Y:=Unit,post:=fun x y=>True,res:=fun x y=> .str (FF (x.1.drop x.2.toNat)),outs:=fun x y=>[.top,.top],keep:=false}
def Ot(x:List UInt8×Int):LS:= {ι:=Int,inv:=fun i=>HL x i,regs:=fun i=>[(0,.str x.1),(1,.int .i64 x.2),(5,.sl false 0 1 (List UInt8) BW mks),(6,.int .i64 i)],als:=[],meas:=fun i=>21-i.toNat}
theorem b1g:Aj G Tryz.prog 81 Lw:=
 vcFun_okP [(110,0,MJ)] [(41,⟨List UInt8,BW⟩)] false (fun x=>[(3,Ot x)]) Tryz.func81 rfl (by decide) ⟨b1f,trivial⟩ (fun(x:List UInt8×Int)=>(∀(y:Unit),True→True∧True∧True∧True)∧cA MJ [] fun x_1 y=>eA (Ot x) [.str x.1,.int .i64 x.2,AV.sl false (0:Nat) (1:Nat) (List UInt8) BW mks,.int .i64 (0:Int)]∧∀(i:Int),HL x i→Aa (decide (i<(↑(21:Nat):Int))) (((0:Int)≤i∧i<(↑(21:Nat):Int))∧∀(e:List UInt8),mks[Int.toNat i]? =some e→true=true∧true=true∧inR IntKind.i64 (x.2+(↑(List.length e):Int))∧Aa (decide (x.2+(↑(List.length e):Int)≤(↑(List.length x.1):Int))) (inR IntKind.i64 (x.2+(↑(List.length e):Int))∧((0:Int)≤x.2∧x.2≤x.2+(↑(List.length e):Int)∧x.2+(↑(List.length e):Int)≤(↑(List.length x.1):Int))∧((0:Int)≤i∧i<(↑(21:Nat):Int))∧∀(e_1:List UInt8),mks[Int.toNat i]? =some e_1→Aa (List.drop (Int.toNat x.2) (List.take (Int.toNat (x.2+(↑(List.length e):Int))) x.1)==e_1) (((0:Int)≤i∧i<(↑(21:Nat):Int))∧∀(e:List UInt8),mks[Int.toNat i]? =some e→rA Lw x [.str e,.top,.top]) (inR IntKind.i64 (i+(1:Int))∧eN (Ot x) i [.str x.1,.int .i64 x.2,AV.sl false (0:Nat) (1:Nat) (List UInt8) BW mks,.int .i64 (i+(1:Int))])) (inR IntKind.i64 (i+(1:Int))∧eN (Ot x) i [.str x.1,.int .i64 x.2,AV.sl false (0:Nat) (1:Nat) (List UInt8) BW mks,.int .i64 (i+(1:Int))])) (rA Lw x [.str #[].toList,.top,.top])) (fun x=>by kernel_rfl) fun(x:List UInt8×Int) (hx:0≤x.2∧x.2≤x.1.length∧x.1.length<2^62)=>(by
 dsimp only[cA,eA,eN,Ot,rA,Lw,MJ,Av,AB,mvL,lnL,mvE,lnE,Bw]
 obtain⟨h1,h2,h3⟩:=hx
 (repeat' first|(with_reducible first|rfl|exact True.intro|apply AK|apply And.intro|((first|apply Az|apply AI|apply AA|apply AJ)<;>intro _))|(apply Aw<;>intro _)|apply AH|refine Ae () ?_ ?_|((first|apply AO|apply AN|apply AM|apply AL|apply AG|apply AF|apply AE|apply AD|apply AC)<;>try dsimp only)|apply Ae|(refine Prod.forall.2 ?_;intro _;try dsimp only)|(intro _;try dsimp only))
 all_goals(try(repeat(rename mks[_]? =some _=>hq;revert hq;rename mks[_]? =some _=>hr;intro hq;rw[hr] at hq;cases hq)))
 all_goals first
  |rfl
  |exact b0Y
  |exact a1O ‹_› ‹_› (b1b h1 h2 ‹_›)
  |exact a1O ‹_› ‹_› (b1d h1 ‹_›)
  |exact b0Z ‹_› ‹_› (b1c h1 ‹_›)
  |exact b1a ‹_› (by omega)
  |(have hq:=a1P (show HL _ _ by assumption);(try simp only[AR]);omega)
  |(have hq:=a1P (show HL _ _ by assumption);have hm:=b1e ‹_›;(try simp only[AR]);omega)
  |skip)
def rwI(p:UInt8→Bool)(x:List UInt8×Int)(i:Int):Prop:=(x.2≤i∧i≤x.1.length)∧∀e∈(x.1.drop x.2.toNat).take (i-x.2).toNat,p e=true
theorem b1h{p:UInt8→Bool}{x:List UInt8×Int}(h:x.2≤x.1.length):rwI p x x.2:=by
 refine⟨⟨by omega,h⟩,fun e he=> ?_⟩
 rw[show(x.2-x.2).toNat=0 by omega] at he;simp at he
theorem Vb{p:UInt8→Bool}{x:List UInt8×Int}{i:Int}{c:UInt8}(h0:0≤x.2)(h:rwI p x i)(hi:i<x.1.length)(hc:x.1[i.toNat]? =some c)(hp:p c=true):rwI p x (i+1):=by
 obtain⟨⟨a,b⟩,h2⟩:=h
 exact⟨by omega,PE h2 (by rw[NM h0 a];exact hc) hp (by omega)⟩
theorem a1Q{p:UInt8→Bool}{x:List UInt8×Int}{i:Int}(h0:0≤x.2)(h:rwI p x i)(he:¬i<x.1.length∨∃c,x.1[i.toNat]? =some c∧p c=false):((x.1.drop x.2.toNat).takeWhile p)=List.drop (Int.toNat x.2) (List.take (Int.toNat i) x.1)∧((((x.1.drop x.2.toNat).takeWhile p).length:Nat):Int)=i-x.2:=by
 obtain⟨⟨a,b⟩,h2⟩:=h
 have e:=IR h2 (by
  rcases he with he|⟨c,hc,hp⟩
  ·left;simp;omega
  ·right;exact⟨c,by rw[NM h0 a];exact hc,hp⟩)
 rw[←e,List.drop_take]
 refine⟨by congr 1;omega,?_⟩
 simp;omega
theorem b1i{p:UInt8→Bool}{x:List UInt8×Int}{i:Int}(h:rwI p x i):x.2≤i∧i≤x.1.length:=h.1
def sgR(x:List UInt8×Int)(k:Int)(t:List UInt8)(p:Int)(b:Bool)(n:Int):Prop:=
 ((Bc (x.1.drop x.2.toNat)).ok=true∧(k=(Bc (x.1.drop x.2.toNat)).kind∧t=(Bc (x.1.drop x.2.toNat)).text∧p=x.2∧b=false)∧n=(Bc (x.1.drop x.2.toNat)).size)∨((Bc (x.1.drop x.2.toNat)).ok=false∧n=0)
theorem Ra{x:List UInt8×Int}{c:UInt8}(hc:x.1[x.2.toNat]? =some c):x.1.drop x.2.toNat=c::x.1.drop (x.2.toNat+1):=by
 have hlt:=(List.getElem?_eq_some_iff.1 hc).1
 rw[List.drop_eq_getElem_cons hlt,(List.getElem?_eq_some_iff.1 hc).2]
theorem b1j{x:List UInt8×Int}(h0:0≤x.2)(h:(Cs (x.1.drop x.2.toNat):Int)>0):sgR x 5 (CH (List.drop (Int.toNat x.2) (List.take (Int.toNat (x.2+(Cs (x.1.drop x.2.toNat):Int))) x.1))) x.2 false (Cs (x.1.drop x.2.toNat)):=by
 rw[QZ h0 (by omega)]
 unfold sgR
 generalize x.1.drop x.2.toNat=s at*
 unfold Cs at h ⊢
 split at h
 ·rename_i h2
  split at h
  ·rename_i hp
   rw[if_pos h2,if_pos hp]
   match s with
   |[]=>simp at h2
   |[_]=>simp at h2
   |b::c::r=>
    simp at h2
    obtain⟨rfl,rfl⟩:=h2
    left
    simp only[Bc,show Cu 47=false by decide,show Bt 47=false by decide,Bool.false_eq_true,if_false,show(47:UInt8).toNat≠39 by decide,List.take_succ_cons,List.take_zero,if_true]
    refine⟨hp,⟨trivial,?_,trivial,trivial⟩,trivial⟩
    congr 1
    have:=List.takeWhile_prefix Cf (l:=47::47::r)
    rw[Int.toNat_natCast]
    exact(List.prefix_iff_eq_take.1 this).symm
  ·simp at h
 ·simp at h
theorem b1k{s:List UInt8}{c:UInt8}(h:¬(Cs (c::s):Int)>0)(h2:(c::s).take 2=[47,47]):((c::s).takeWhile Cf).all Ck=false:=by
 cases hp:((c::s).takeWhile Cf).all Ck with
 |false=>rfl
 |true=>
  exfalso
  apply h
  rw[Cs,if_pos h2,if_pos hp]
  match s with
  |[]=>simp at h2
  |d::r=>
   simp at h2
   obtain⟨rfl,rfl⟩:=h2
   have:Cf 47=true:=by decide
   simp [List.takeWhile_cons,this];omega
theorem Rb{x:List UInt8×Int}{i:Int}{c:UInt8}(h0:0≤x.2)(hc:x.1[x.2.toNat]? =some c)(hf:Cu c=true)(h:rwI BO x i)(he:¬i<x.1.length∨∃c,x.1[i.toNat]? =some c∧BO c=false):
 (i-x.2>30→sgR x 0 [] 0 false 0)∧(¬i-x.2>30→sgR x 1 (List.drop (Int.toNat x.2) (List.take (Int.toNat i) x.1)) x.2 false (i-x.2)):=by
 obtain⟨e1,e2⟩:=a1Q h0 h he
 have e:=Ra hc
 have es:Bc (x.1.drop x.2.toNat)=⟨1,(x.1.drop x.2.toNat).takeWhile BO,((x.1.drop x.2.toNat).takeWhile BO).length,decide (((x.1.drop x.2.toNat).takeWhile BO).length≤30)⟩:=by
  rw[e];simp only[Bc,hf,if_true]
 unfold sgR
 rw[es]
 refine⟨fun h3=> .inr ⟨by simp;omega,rfl⟩,fun h3=> .inl ⟨by simp;omega,⟨rfl,e1.symm,rfl,rfl⟩,by simp only;omega⟩⟩
theorem Ou{x:List UInt8×Int}{i:Int}{c:UInt8}(h0:0≤x.2)(hc:x.1[x.2.toNat]? =some c)(hf:Cu c=false)(hg:Bt c=true)(h:rwI Bt x i)(he:¬i<x.1.length∨∃c,x.1[i.toNat]? =some c∧Bt c=false):
 (i-x.2>12→sgR x 0 [] 0 false 0)∧(¬i-x.2>12→sgR x 2 (List.drop (Int.toNat x.2) (List.take (Int.toNat i) x.1)) x.2 false (i-x.2)):=by
 obtain⟨e1,e2⟩:=a1Q h0 h he
 have e:=Ra hc
 have es:Bc (x.1.drop x.2.toNat)=⟨2,(x.1.drop x.2.toNat).takeWhile Bt,((x.1.drop x.2.toNat).takeWhile Bt).length,decide (((x.1.drop x.2.toNat).takeWhile Bt).length≤12)⟩:=by
  rw[e];simp only[Bc,hf,hg,Bool.false_eq_true,if_false,if_true]
 unfold sgR
 rw[es]
 refine⟨fun h3=> .inr ⟨by simp;omega,rfl⟩,fun h3=> .inl ⟨by simp;omega,⟨rfl,e1.symm,rfl,rfl⟩,by simp only;omega⟩⟩
theorem b1l{x:List UInt8×Int}{c:UInt8}(h0:0≤x.2)(hc:x.1[x.2.toNat]? =some c)(hf:Cu c=false)(hg:Bt c=false)(hq:(c.toNat:Int)=39):
 sgR x 3 (List.drop (Int.toNat x.2) (List.take (Int.toNat (x.2+(CD (x.1.drop x.2.toNat):Int))) x.1)) x.2 false (CD (x.1.drop x.2.toNat)):=by
 rw[QZ h0 (by omega)]
 have e:=Ra hc
 have hq2:isQ c=true:=by simp [isQ];omega
 unfold sgR
 rw[e]
 have es:Bc (c::x.1.drop (x.2.toNat+1))=⟨3,(Dw (c::x.1.drop (x.2.toNat+1))).1,(Dw (c::x.1.drop (x.2.toNat+1))).1.length,(Dw (c::x.1.drop (x.2.toNat+1))).2⟩:=by
  simp only[Bc,hf,hg,Bool.false_eq_true,if_false,show c.toNat=39 by omega,if_true]
 rw[es]
 by_cases hz:CD (c::x.1.drop (x.2.toNat+1))=0
 ·right
  refine⟨?_,by rw[hz];rfl⟩
  cases hb:(Dw (c::x.1.drop (x.2.toNat+1))).2 with
  |false=>rfl
  |true=>exact((PD hq2).1 hb hz).elim
 ·left
  obtain⟨l1,l2⟩:=Yg hq2 hz
  refine⟨(PD hq2).2 hz,⟨rfl,?_,rfl,rfl⟩,?_⟩
  ·simp only[l1,Int.toNat_natCast]
  ·simp only[l1,List.length_take];omega
theorem b1m{x:List UInt8×Int}{c:UInt8}(h0:0≤x.2)(hc:x.1[x.2.toNat]? =some c)(hn:¬(Cs (x.1.drop x.2.toNat):Int)>0)(hf:Cu c=false)(hg:Bt c=false)(hq:(c.toNat:Int)≠39):
 sgR x 4 (FF (x.1.drop x.2.toNat)) x.2 false (FF (x.1.drop x.2.toNat)).length:=by
 have e:=Ra hc
 unfold sgR
 rw[e] at hn ⊢
 generalize x.1.drop (x.2.toNat+1)=s at*
 by_cases h2:(c::s).take 2=[47,47]
 ·right
  have e0:FF (c::s)=[]:=by
   rw[a1N,h2,if_neg (by decide)]
   have:(c::s).take 1=[47]:=by
    have:=congrArg (List.take 1) h2
    simpa using this
   rw[this,if_neg (by decide)]
  have hp:=b1k hn h2
  refine⟨?_,by rw[e0];rfl⟩
  simp only[Bc,hf,hg,Bool.false_eq_true,if_false,if_neg (show¬c.toNat=39 by omega),h2,if_true]
  exact hp
 ·have es:Bc (c::s)=if CG ((c::s).take 2) then⟨4,(c::s).take 2,((c::s).take 2).length,true⟩ else if CG ((c::s).take 1) then⟨4,(c::s).take 1,1,true⟩ else⟨0,[],0,false⟩:=by
   simp only[Bc,hf,hg,Bool.false_eq_true,if_false,if_neg (show¬c.toNat=39 by omega),if_neg h2]
  rw[es,a1N]
  split
  ·left;exact⟨rfl,⟨rfl,rfl,rfl,rfl⟩,rfl⟩
  ·split
   ·left;exact⟨rfl,⟨rfl,rfl,rfl,rfl⟩,by simp⟩
   ·right;exact⟨rfl,rfl⟩
end Go.My
end
section
set_option linter.unusedVariables false
set_option linter.unusedSimpArgs false
namespace Go.My
open Go.Eng Go.Proofs
variable {G:GInv}
def srd(s:ST)(g:Gs):AV:= .box 0 [sgs s.sg,.int .i64 g.pos,.bool g.bad,.int .i64 g.deep,Au g.nodes]
theorem a1R{sg:List Sg}{g:Gs}(h:g.bad=true∨(sg.length:Int)≤g.pos):pkG sg g 0=Ec:=Uj (by simpa using h)
theorem Vc{sg:List Sg}{g:Gs}{e:Sg}(he:sg[g.pos.toNat]? =some e)(hb:g.bad=false)(hl:g.pos<sg.length):pkG sg g 0=e:=Uk (by simpa using he) hb (by omega)
theorem a1S{sg:List Sg}{g:Gs}{k:Int}{t:List UInt8}(hk:k≠0)(h:g.bad=true∨(sg.length:Int)≤g.pos):isG sg g k t=false:=by
 simp [isG,a1R h,Ec,Ne.symm hk]
theorem b1n{sg:List Sg}{g:Gs}{e:Sg}{k:Int}{t:List UInt8}(he:sg[g.pos.toNat]? =some e)(hb:g.bad=false)(hl:g.pos<sg.length):isG sg g k t=(decide (e.kind=k)&&(e.text==t)):=by
 rw[isG,Vc he hb hl]
def kdG(sg:List Sg)(g:Gs)(k:Int):Bool:=decide ((pkG sg g 0).kind=k)&&(decide (k≠1)|| !kw (pkG sg g 0).text)
theorem MK{sg:List Sg}{g:Gs}{k:Int}(hk:k≠0)(h:g.bad=true∨(sg.length:Int)≤g.pos):kdG sg g k=false:=by
 simp [kdG,a1R h,Ec,Ne.symm hk]
theorem a1T{sg:List Sg}{g:Gs}{e:Sg}{k:Int}(he:sg[g.pos.toNat]? =some e)(hb:g.bad=false)(hl:g.pos<sg.length):kdG sg g k=(decide (e.kind=k)&&(decide (k≠1)|| !kw e.text)):=by
 rw[kdG,Vc he hb hl]
theorem Ix{sg:List Sg}{g:Gs}:kdG sg g 1=nmG sg g 0:=by simp [kdG,nmG]
theorem Rc{sg:List Sg}{g:Gs}{k:Int}(hk:k≠0)(h:kdG sg g k=true):g.bad=false∧g.pos<sg.length:=by
 cases hb:g.bad with
 |true=>rw[MK hk (.inl hb)] at h;cases h
 |false=>
  refine⟨rfl,?_⟩
  rcases Int.lt_or_le g.pos sg.length with hh|hh
  ·exact hh
  ·rw[MK hk (.inr hh)] at h;cases h
theorem b1o{e:Nd}{b:Bool}{q:Nd→Prop}(h:q ⟨e.kind,e.text,e.kids,b⟩):
 ∃x':Nd,([AV.int IntKind.i64 x'.kind,AV.str x'.text,AV.sl true 0 1 Int Bb x'.kids]=[AV.int IntKind.i64 e.kind,AV.str e.text,AV.sl true 0 1 Int Bb e.kids]∧(@List.nil AV)=[])∧b=x'.blank∧q x':=
 ⟨⟨e.kind,e.text,e.kids,b⟩,⟨rfl,rfl⟩,rfl,h⟩
def BI(sg:List Sg)(g:Gs)(m:List UInt8):Gs:=if isG sg g 1 m then Ai g else g
def Bf(sg:List Sg)(g:Gs)(k:Int):Gs:=if kdG sg g k then Ai g else Bd g
def BA(sg:List Sg)(g:Gs)(k:Int):List UInt8:=if kdG sg g k then(pkG sg g 0).text else []
def gBl(g:Gs)(k:Int)(b:Bool):Gs:=if g.bad=false∧k<g.nodes.length then⟨g.pos,g.deep,g.bad,g.nodes.set k.toNat ⟨(An g.nodes k).kind,(An g.nodes k).text,(An g.nodes k).kids,b⟩⟩ else g
theorem b1p{g:Gs}{k:Int}{b:Bool}{e:Nd}(he:g.nodes[k.toNat]? =some e)(hb:g.bad=false)(hk:k<g.nodes.length):g.nodes.set k.toNat ⟨e.kind,e.text,e.kids,b⟩=(gBl g k b).nodes:=by
 rw[gBl,if_pos ⟨hb,hk⟩,BG he]
def blG(sg:List Sg)(g:Gs):Bool:=decide (g.pos<sg.length)&&(sgO sg g.pos).blank
theorem b1q{sg:List Sg}{g:Gs}{e:Sg}{k:Int}(he:sg[(g.pos+1-1).toNat]? =some e)(hk:k≠0)(h:kdG sg g k=true):e.text=BA sg g k:=by
 obtain⟨hb,hl⟩:=Rc hk h
 rw[BA,if_pos h,Vc (by rw[show g.pos=g.pos+1-1 by omega];exact he) hb hl]
def DV:Sig:= {X:=ST×Int×Int×Bool×List Nd×Int×List UInt8,args:=fun x=>[srd x.1 (xh x),.int .i64 x.2.2.2.2.2.1,.str x.2.2.2.2.2.2],pre:=fun x=>rOk x.1 (xh x)∧x.2.2.2.2.2.1≠0,Y:=Unit,post:=fun x y=>True,res:=fun x y=> .bool (isG x.1.sg (xh x) x.2.2.2.2.2.1 x.2.2.2.2.2.2),outs:=fun x y=>[srd x.1 (xh x),.top,.top],keep:=true}
theorem Ov:Aj G Tryz.prog 106 DV:=
 vcFun_okP [] [] false (fun x=>[]) Tryz.func106 rfl (by decide) trivial (fun(x:ST×Int×Int×Bool×List Nd×Int×List UInt8)=>True∧true=true∧true=true∧Aa (!(xh x).bad) (Aa (decide ((xh x).pos<(↑(List.length x.1.sg):Int))) (((0:Int)≤(xh x).pos∧(xh x).pos<(↑(List.length x.1.sg):Int))∧∀(e:Sg),x.1.sg[Int.toNat (xh x).pos]? =some e→Aa (e.kind==x.2.2.2.2.2.1) (((0:Int)≤(xh x).pos∧(xh x).pos<(↑(List.length x.1.sg):Int))∧∀(e:Sg),x.1.sg[Int.toNat (xh x).pos]? =some e→rA DV x [.bool (e.text==x.2.2.2.2.2.2),srd x.1 (xh x),.top,.top]) (rA DV x [.bool false,srd x.1 (xh x),.top,.top])) (rA DV x [.bool false,srd x.1 (xh x),.top,.top])) (rA DV x [.bool false,srd x.1 (xh x),.top,.top])) (fun x=>by kernel_rfl) fun(x:ST×Int×Int×Bool×List Nd×Int×List UInt8) (hx:rOk x.1 (xh x)∧x.2.2.2.2.2.1≠0)=>(by
 dsimp only[Bg,Au,rA,DV,Bj,sgs,srd,Av,AB]
 obtain⟨s,p,d,b,ns,k,m⟩:=x;dsimp only[xg,xh] at hx ⊢
 obtain⟨h1,h2⟩:=hx;have hs:=DK h1;dsimp only at hs
 (repeat' first|(with_reducible first|rfl|exact True.intro|apply AK|apply And.intro|((first|apply Az|apply AI|apply AA|apply AJ)<;>intro _))|(apply Aw<;>intro _)|apply AH|refine Ae () ?_ ?_|((first|apply AO|apply AN|apply AM|apply AL|apply AG|apply AF|apply AE|apply AD|apply AC)<;>try dsimp only)|apply Ae|(refine Prod.forall.2 ?_;intro _;try dsimp only)|(intro _;try dsimp only))
 all_goals(try(repeat(rename s.sg[_]? =some _=>hq;revert hq;rename s.sg[_]? =some _=>hr;intro hq;rw[hr] at hq;cases hq)))
 all_goals first
  |rfl
  |exact(a1S h2 (.inl ‹_›)).symm
  |exact(a1S h2 (.inr (by simp only;omega))).symm
  |(rw[b1n ‹_› ‹_› (by simp only;omega)];simp [*];done)
  |((try simp only[AR]);omega)
  |skip)
def Cb:Sig:= {X:=ST×Int×Int×Bool×List Nd×List UInt8,args:=fun x=>[srd x.1 (xh x),.str x.2.2.2.2.2],pre:=fun x=>rOk x.1 (xh x),Y:=Unit,post:=fun x y=>True,res:=fun x y=> .bool (isG x.1.sg (xh x) 4 x.2.2.2.2.2),outs:=fun x y=>[srd x.1 (Ah x.1.sg (xh x) x.2.2.2.2.2),.top],keep:=true}
theorem Hi:Aj G Tryz.prog 73 Cb:=
 vcFun_okP [(106,0,DV)] [] false (fun x=>[]) Tryz.func73 rfl (by decide) ⟨Ov,trivial⟩ (fun(x:ST×Int×Int×Bool×List Nd×List UInt8)=>True∧cA DV [srd x.1 (xh x),.int .i64 (4:Int),.str x.2.2.2.2.2] fun x_1 y=>Aa (isG x_1.1.sg (xh x_1) x_1.2.2.2.2.2.1 x_1.2.2.2.2.2.2) (inR IntKind.i64 ((xh x_1).pos+(1:Int))∧rA Cb x [.bool true,.box 0 [sgs x_1.1.sg,.int .i64 ((xh x_1).pos+(1:Int)),.bool (xh x_1).bad,.int .i64 (xh x_1).deep,Au (xh x_1).nodes],.top]) (rA Cb x [.bool false,srd x_1.1 (xh x_1),.top])) (fun x=>by kernel_rfl) fun(x:ST×Int×Int×Bool×List Nd×List UInt8) (hx:rOk x.1 (xh x))=>(by
 dsimp only[cA,Bg,Au,rA,DV,Cb,Bj,sgs,srd,Av,AB,mvL,lnL,mvE,lnE]
 obtain⟨s,p,d,b,ns,m⟩:=x;dsimp only[xg,xh] at hx ⊢
 have hx:rOk s ⟨p,d,b,ns⟩:=hx;have hs:=DK hx;dsimp only at hs
 (repeat' first|(with_reducible first|rfl|exact True.intro|apply AK|apply And.intro|((first|apply Az|apply AI|apply AA|apply AJ)<;>intro _))|(apply Aw<;>intro _)|apply AH|refine Ae () ?_ ?_|((first|apply AO|apply AN|apply AM|apply AL|apply AG|apply AF|apply AE|apply AD|apply AC)<;>try dsimp only)|apply Ae|(refine Prod.forall.2 ?_;intro _;try dsimp only)|(intro _;try dsimp only))
 all_goals first
  |rfl
  |exact hx
  |omega
  |(simp [Ah,Ai, *];done)
  |((try simp only[AR]);omega)
  |skip)
def EK:Sig:= {X:=ST×Int×Int×Bool×List Nd×List UInt8,args:=fun x=>[srd x.1 (xh x),.str x.2.2.2.2.2],pre:=fun x=>rOk x.1 (xh x),Y:=Unit,post:=fun x y=>True,res:=fun x y=> .bool (isG x.1.sg (xh x) 1 x.2.2.2.2.2),outs:=fun x y=>[srd x.1 (BI x.1.sg (xh x) x.2.2.2.2.2),.top],keep:=true}
theorem Vd:Aj G Tryz.prog 70 EK:=
 vcFun_okP [(106,0,DV)] [] false (fun x=>[]) Tryz.func70 rfl (by decide) ⟨Ov,trivial⟩ (fun(x:ST×Int×Int×Bool×List Nd×List UInt8)=>True∧cA DV [srd x.1 (xh x),.int .i64 (1:Int),.str x.2.2.2.2.2] fun x_1 y=>Aa (isG x_1.1.sg (xh x_1) x_1.2.2.2.2.2.1 x_1.2.2.2.2.2.2) (inR IntKind.i64 ((xh x_1).pos+(1:Int))∧rA EK x [.bool true,.box 0 [sgs x_1.1.sg,.int .i64 ((xh x_1).pos+(1:Int)),.bool (xh x_1).bad,.int .i64 (xh x_1).deep,Au (xh x_1).nodes],.top]) (rA EK x [.bool false,srd x_1.1 (xh x_1),.top])) (fun x=>by kernel_rfl) fun(x:ST×Int×Int×Bool×List Nd×List UInt8) (hx:rOk x.1 (xh x))=>(by
 dsimp only[cA,Bg,Au,rA,DV,EK,Bj,sgs,srd,Av,AB,mvL,lnL,mvE,lnE]
 obtain⟨s,p,d,b,ns,m⟩:=x;dsimp only[xg,xh] at hx ⊢
 have hx:rOk s ⟨p,d,b,ns⟩:=hx;have hs:=DK hx;dsimp only at hs
 (repeat' first|(with_reducible first|rfl|exact True.intro|apply AK|apply And.intro|((first|apply Az|apply AI|apply AA|apply AJ)<;>intro _))|(apply Aw<;>intro _)|apply AH|refine Ae () ?_ ?_|((first|apply AO|apply AN|apply AM|apply AL|apply AG|apply AF|apply AE|apply AD|apply AC)<;>try dsimp only)|apply Ae|(refine Prod.forall.2 ?_;intro _;try dsimp only)|(intro _;try dsimp only))
 all_goals first
  |rfl
  |exact hx
  |omega
  |(simp [BI,Ai, *];done)
  |((try simp only[AR]);omega)
  |skip)
def BN:Sig:= {X:=ST×Int×Int×Bool×List Nd×List UInt8,args:=fun x=>[srd x.1 (xh x),.str x.2.2.2.2.2],pre:=fun x=>rOk x.1 (xh x),Y:=Unit,post:=fun x y=>True,res:=fun x y=> .tup [],outs:=fun x y=>[srd x.1 (Al x.1.sg (xh x) x.2.2.2.2.2),.top],keep:=true}
theorem HM:Aj G Tryz.prog 72 BN:=
 vcFun_okP [(73,0,Cb)] [] false (fun x=>[]) Tryz.func72 rfl (by decide) ⟨Hi,trivial⟩ (fun(x:ST×Int×Int×Bool×List Nd×List UInt8)=>True∧cA Cb [srd x.1 (xh x),.str x.2.2.2.2.2] fun x_1 y=>Aa (!isG x_1.1.sg (xh x_1) (4:Int) x_1.2.2.2.2.2) (rA BN x [.tup [],.box 0 [sgs x_1.1.sg,.int .i64 (Ah x_1.1.sg (xh x_1) x_1.2.2.2.2.2).pos,.bool true,.int .i64 (Ah x_1.1.sg (xh x_1) x_1.2.2.2.2.2).deep,Au (Ah x_1.1.sg (xh x_1) x_1.2.2.2.2.2).nodes],.top]) (rA BN x [.tup [],srd x_1.1 (Ah x_1.1.sg (xh x_1) x_1.2.2.2.2.2),.top])) (fun x=>by kernel_rfl) fun(x:ST×Int×Int×Bool×List Nd×List UInt8) (hx:rOk x.1 (xh x))=>(by
 dsimp only[cA,Bg,Au,rA,Cb,BN,Bj,sgs,srd,Av,AB,mvL,lnL,mvE,lnE]
 obtain⟨s,p,d,b,ns,m⟩:=x;dsimp only[xg,xh] at hx ⊢
 have hx:rOk s ⟨p,d,b,ns⟩:=hx;have hs:=DK hx;dsimp only at hs
 (repeat' first|(with_reducible first|rfl|exact True.intro|apply AK|apply And.intro|((first|apply Az|apply AI|apply AA|apply AJ)<;>intro _))|(apply Aw<;>intro _)|apply AH|refine Ae () ?_ ?_|((first|apply AO|apply AN|apply AM|apply AL|apply AG|apply AF|apply AE|apply AD|apply AC)<;>try dsimp only)|apply Ae|(refine Prod.forall.2 ?_;intro _;try dsimp only)|(intro _;try dsimp only))
 all_goals first
  |rfl
  |exact hx
  |(simp [Al,Ah,Ai,Bd, *];done)
  |((try simp only[AR]);omega)
  |skip)
def DW:Sig:= {X:=ST×Int×Int×Bool×List Nd×Int,args:=fun x=>[srd x.1 (xh x),.int .i64 x.2.2.2.2.2],pre:=fun x=>rOk x.1 (xh x)∧x.2.2.2.2.2≠0,Y:=Unit,post:=fun x y=>True,res:=fun x y=> .bool (kdG x.1.sg (xh x) x.2.2.2.2.2),outs:=fun x y=>[srd x.1 (xh x),.top],keep:=true}
theorem Rd:Aj G Tryz.prog 68 DW:=
 vcFun_okP [(105,0,FU)] [] false (fun x=>[]) Tryz.func68 rfl (by decide) ⟨TM,trivial⟩ (fun(x:ST×Int×Int×Bool×List Nd×Int)=>True∧true=true∧true=true∧Aa (!(xh x).bad) (Aa (decide ((xh x).pos<(↑(List.length x.1.sg):Int))) (((0:Int)≤(xh x).pos∧(xh x).pos<(↑(List.length x.1.sg):Int))∧∀(e:Sg),x.1.sg[Int.toNat (xh x).pos]? =some e→Aa (e.kind==x.2.2.2.2.2) (Aa (x.2.2.2.2.2 != (1:Int)) (rA DW x [.bool true,srd x.1 (xh x),.top]) (((0:Int)≤(xh x).pos∧(xh x).pos<(↑(List.length x.1.sg):Int))∧∀(e:Sg),x.1.sg[Int.toNat (xh x).pos]? =some e→∃(x_1:List UInt8),True∧e.text=x_1∧∃(y0:Unit),(∀(y:Unit),True→AV.bool (kw x_1)=AV.bool (kw x_1))∧true=true∧rA DW x [.bool !kw x_1,srd x.1 (xh x),.top])) (rA DW x [.bool false,srd x.1 (xh x),.top])) (rA DW x [.bool false,srd x.1 (xh x),.top])) (rA DW x [.bool false,srd x.1 (xh x),.top])) (fun x=>by kernel_rfl) fun(x:ST×Int×Int×Bool×List Nd×Int) (hx:rOk x.1 (xh x)∧x.2.2.2.2.2≠0)=>(by
 dsimp only[Bg,Au,rA,DW,Bj,sgs,srd,Av,AB]
 obtain⟨s,p,d,b,ns,k⟩:=x;dsimp only[xg,xh] at hx ⊢
 obtain⟨h1,h2⟩:=hx;have hs:=DK h1;dsimp only at hs
 (repeat' first|(with_reducible first|rfl|exact True.intro|apply AK|apply And.intro|((first|apply Az|apply AI|apply AA|apply AJ)<;>intro _))|(apply Aw<;>intro _)|apply AH|refine Ae () ?_ ?_|((first|apply AO|apply AN|apply AM|apply AL|apply AG|apply AF|apply AE|apply AD|apply AC)<;>try dsimp only)|apply Ae|(refine Prod.forall.2 ?_;intro _;try dsimp only)|(intro _;try dsimp only))
 all_goals(try(repeat(rename s.sg[_]? =some _=>hq;revert hq;rename s.sg[_]? =some _=>hr;intro hq;rw[hr] at hq;cases hq)))
 all_goals first
  |rfl
  |exact(MK h2 (.inl ‹_›)).symm
  |exact(MK h2 (.inr (by simp only;omega))).symm
  |(rw[a1T ‹_› ‹_› (by simp only;omega)];simp [*];done)
  |((try simp only[AR]);omega)
  |skip)
def CF:Sig:= {X:=ST×Int×Int×Bool×List Nd×Int,args:=fun x=>[srd x.1 (xh x),.int .i64 x.2.2.2.2.2],pre:=fun x=>rOk x.1 (xh x)∧x.2.2.2.2.2≠0,Y:=Unit,post:=fun x y=>True,res:=fun x y=> .str (BA x.1.sg (xh x) x.2.2.2.2.2),outs:=fun x y=>[srd x.1 (Bf x.1.sg (xh x) x.2.2.2.2.2),.top],keep:=true}
theorem Kk:Aj G Tryz.prog 69 CF:=
 vcFun_okP [(68,0,DW)] [] false (fun x=>[]) Tryz.func69 rfl (by decide) ⟨Rd,trivial⟩ (fun(x:ST×Int×Int×Bool×List Nd×Int)=>True∧cA DW [srd x.1 (xh x),.int .i64 x.2.2.2.2.2] fun x_1 y=>Aa (!kdG x_1.1.sg (xh x_1) x_1.2.2.2.2.2) (rA CF x [.str #[].toList,.box 0 [sgs x_1.1.sg,.int .i64 (xh x_1).pos,.bool true,.int .i64 (xh x_1).deep,Au (xh x_1).nodes],.top]) (inR IntKind.i64 ((xh x_1).pos+(1:Int))∧true=true∧true=true∧inR IntKind.i64 ((xh x_1).pos+(1:Int)-(1:Int))∧((0:Int)≤(xh x_1).pos+(1:Int)-(1:Int)∧(xh x_1).pos+(1:Int)-(1:Int)<(↑(List.length x_1.1.sg):Int))∧∀(e:Sg),x_1.1.sg[Int.toNat ((xh x_1).pos+(1:Int)-(1:Int))]? =some e→rA CF x [.str e.text,.box 0 [sgs x_1.1.sg,.int .i64 ((xh x_1).pos+(1:Int)),.bool (xh x_1).bad,.int .i64 (xh x_1).deep,Au (xh x_1).nodes],.top])) (fun x=>by kernel_rfl) fun(x:ST×Int×Int×Bool×List Nd×Int) (hx:rOk x.1 (xh x)∧x.2.2.2.2.2≠0)=>(by
 dsimp only[cA,Bg,Au,rA,DW,CF,Bj,sgs,srd,Av,AB,mvL,lnL,mvE,lnE]
 obtain⟨s,p,d,b,ns,k⟩:=x;dsimp only[xg,xh] at hx ⊢
 obtain⟨h1,h2⟩:=hx;have hs:=DK h1;dsimp only at hs
 (repeat' first|(with_reducible first|rfl|exact True.intro|apply AK|apply And.intro|((first|apply Az|apply AI|apply AA|apply AJ)<;>intro _))|(apply Aw<;>intro _)|apply AH|refine Ae () ?_ ?_|((first|apply AO|apply AN|apply AM|apply AL|apply AG|apply AF|apply AE|apply AD|apply AC)<;>try dsimp only)|apply Ae|(refine Prod.forall.2 ?_;intro _;try dsimp only)|(intro _;try dsimp only))
 all_goals first
  |rfl
  |exact h1
  |exact h2
  |(simp [Bf,BA,Ai,Bd, *];done)
  |exact b1q ‹_› h2 ‹_›
  |(have hl:=Rc h2 (show kdG _ _ _=true by assumption);dsimp only at hl;(try simp only[AR]);omega)
  |((try simp only[AR]);omega)
  |skip)
def Bq:Sig:= {X:=ST×Int×Int×Bool×List Nd×Int×List UInt8×List Int,args:=fun x=>[srd x.1 (xh x),.int .i64 x.2.2.2.2.2.1,.str x.2.2.2.2.2.2.1,Ab x.2.2.2.2.2.2.2],pre:=fun x=>rOk x.1 (xh x),Y:=Unit,post:=fun x y=>True,res:=fun x y=> .int .i64 (Ax (xh x)),outs:=fun x y=>[srd x.1 (Ag (xh x) ⟨x.2.2.2.2.2.1,x.2.2.2.2.2.2.1,x.2.2.2.2.2.2.2,false⟩),.top,.top,.top],keep:=true}
theorem Hj:Aj G Tryz.prog 43 Bq:=
 vcFun_okP [] [(32,⟨Nd,ndA true⟩)] false (fun x=>[]) Tryz.func43 rfl (by decide) trivial (fun(x:ST×Int×Int×Bool×List Nd×Int×List UInt8×List Int)=>True∧Aa (xh x).bad (rA Bq x [.int .i64 (0:Int),.box 0 [sgs x.1.sg,.int .i64 (xh x).pos,.bool true,.int .i64 (xh x).deep,Au (xh x).nodes],.top,.top,.top]) (Aa (decide ((↑(List.length (xh x).nodes):Int)≥(300:Int))) (rA Bq x [.int .i64 (0:Int),.box 0 [sgs x.1.sg,.int .i64 (xh x).pos,.bool true,.int .i64 (xh x).deep,Au (xh x).nodes],.top,.top,.top]) (∃(x_1:Nd),x.2.2.2.2.2.1=x_1.kind∧x.2.2.2.2.2.2.1=x_1.text∧Ab x.2.2.2.2.2.2.2=Ab x_1.kids∧false=x_1.blank∧∃(zs:List Nd),Au [x_1]=Au zs∧Be (ndA true)∧AS (List.length (xh x).nodes+List.length zs) (56:Nat)∧inR IntKind.i64 ((↑(List.length ((xh x).nodes++zs)):Int)-(1:Int))∧∃(y:Unit),True∧(↑(List.length ((xh x).nodes++zs)):Int)-(1:Int)=Ax (xh x)∧sgs x.1.sg=sgs x.1.sg∧(xh x).pos=(Ag (xh x) {kind:=x.2.2.2.2.2.1,text:=x.2.2.2.2.2.2.1,kids:=x.2.2.2.2.2.2.2,blank:=false}).pos∧(xh x).bad=(Ag (xh x) {kind:=x.2.2.2.2.2.1,text:=x.2.2.2.2.2.2.1,kids:=x.2.2.2.2.2.2.2,blank:=false}).bad∧(xh x).deep=(Ag (xh x) {kind:=x.2.2.2.2.2.1,text:=x.2.2.2.2.2.2.1,kids:=x.2.2.2.2.2.2.2,blank:=false}).deep∧Au ((xh x).nodes++zs)=Au (Ag (xh x) {kind:=x.2.2.2.2.2.1,text:=x.2.2.2.2.2.2.1,kids:=x.2.2.2.2.2.2.2,blank:=false}).nodes∧True))) (fun x=>by kernel_rfl) fun(x:ST×Int×Int×Bool×List Nd×Int×List UInt8×List Int) (hx:rOk x.1 (xh x))=>(by
 dsimp only[Bg,Ab,Au,rA,Bq,Bj,sgs,srd,Av,AB]
 obtain⟨s,p,d,b,ns,k,t,ks⟩:=x;dsimp only[xg,xh] at hx ⊢
 have hx:rOk s ⟨p,d,b,ns⟩:=hx;have hs:=DK hx;dsimp only at hs
 (repeat' first|refine ZG ?_|(with_reducible first|rfl|exact True.intro|apply AK|apply And.intro|((first|apply Az|apply AI|apply AA|apply AJ)<;>intro _))|(apply Aw<;>intro _)|apply AH|refine Ae () ?_ ?_|((first|apply AO|apply AN|apply AM|apply AL|apply AG|apply AF|apply AE|apply AD|apply AC)<;>try dsimp only)|apply Ae|(refine Prod.forall.2 ?_;intro _;try dsimp only)|(intro _;try dsimp only))
 all_goals first
  |rfl
  |(simp [Ag,Ax,CQ,Bd, *];done)
  |(have hn:ns.length=300:=by omega
    simp [Ag,Ax,CQ,Bd, *];done)
  |(have hn:ns.length≠300:=by omega
    simp [Ag,Ax,CQ,Bd, *];done)
  |((try simp only[AR,AS,List.length_append,List.length_cons,List.length_nil]);omega)
  |skip)
def FG:Sig:= {X:=ST×Int×Int×Bool×List Nd,args:=fun x=>[srd x.1 (xg x)],pre:=fun x=>rOk x.1 (xg x),Y:=Unit,post:=fun x y=>True,res:=fun x y=> .bool (blG x.1.sg (xg x)),outs:=fun x y=>[srd x.1 (xg x)],keep:=true}
theorem Re:Aj G Tryz.prog 40 FG:=
 vcFun_okP [] [] false (fun x=>[]) Tryz.func40 rfl (by decide) trivial (fun(x:ST×Int×Int×Bool×List Nd)=>True∧true=true∧true=true∧Aa (decide ((xg x).pos<(↑(List.length x.1.sg):Int))) (((0:Int)≤(xg x).pos∧(xg x).pos<(↑(List.length x.1.sg):Int))∧∀(e:Sg),x.1.sg[Int.toNat (xg x).pos]? =some e→rA FG x [.bool e.blank,srd x.1 (xg x)]) (rA FG x [.bool false,srd x.1 (xg x)])) (fun x=>by kernel_rfl) fun(x:ST×Int×Int×Bool×List Nd) (hx:rOk x.1 (xg x))=>(by
 dsimp only[Bg,Au,rA,FG,Bj,sgs,srd,Av,AB]
 obtain⟨s,p,d,b,ns⟩:=x;dsimp only[xg,xh] at hx ⊢
 have hx:rOk s ⟨p,d,b,ns⟩:=hx;have hs:=DK hx;dsimp only at hs
 (repeat' first|(with_reducible first|rfl|exact True.intro|apply AK|apply And.intro|((first|apply Az|apply AI|apply AA|apply AJ)<;>intro _))|(apply Aw<;>intro _)|apply AH|refine Ae () ?_ ?_|((first|apply AO|apply AN|apply AM|apply AL|apply AG|apply AF|apply AE|apply AD|apply AC)<;>try dsimp only)|apply Ae|(refine Prod.forall.2 ?_;intro _;try dsimp only)|(intro _;try dsimp only))
 all_goals first
  |rfl
  |(simp [blG,Ga (show s.sg[_]? =some _ by assumption), *];done)
  |(simp [blG, *];done)
  |((try simp only[AR]);omega)
  |skip)
def Eg:Sig:= {X:=ST×Int×Int×Bool×List Nd×Int×Bool,args:=fun x=>[srd x.1 (xh x),.int .i64 x.2.2.2.2.2.1,.bool x.2.2.2.2.2.2],pre:=fun x=>rOk x.1 (xh x)∧((xh x).bad=false→0≤x.2.2.2.2.2.1),Y:=Unit,post:=fun x y=>True,res:=fun x y=> .tup [],outs:=fun x y=>[srd x.1 (gBl (xh x) x.2.2.2.2.2.1 x.2.2.2.2.2.2),.top,.top],keep:=true}
theorem Rf:Aj G Tryz.prog 42 Eg:=
 vcFun_okP [] [(32,⟨Nd,ndA true⟩)] false (fun x=>[]) Tryz.func42 rfl (by decide) trivial (fun(x:ST×Int×Int×Bool×List Nd×Int×Bool)=>True∧Aa (!(xh x).bad) (Aa (decide (x.2.2.2.2.2.1<(↑(List.length (xh x).nodes):Int))) (((0:Int)≤x.2.2.2.2.2.1∧x.2.2.2.2.2.1<(↑(List.length (xh x).nodes):Int))∧Int.toNat x.2.2.2.2.2.1<List.length (xh x).nodes∧∀(x_1:Nd),(xh x).nodes[Int.toNat x.2.2.2.2.2.1]? =some x_1→∃(x':Nd),([.int .i64 x'.kind,.str x'.text,Ab x'.kids]=[.int .i64 x_1.kind,.str x_1.text,Ab x_1.kids]∧(@List.nil AV)=[])∧x.2.2.2.2.2.2=x'.blank∧rA Eg x [.tup [],.box 0 [sgs x.1.sg,.int .i64 (xh x).pos,.bool (xh x).bad,.int .i64 (xh x).deep,Au (List.set (xh x).nodes (Int.toNat x.2.2.2.2.2.1) x')],.top,.top]) (rA Eg x [.tup [],srd x.1 (xh x),.top,.top])) (rA Eg x [.tup [],srd x.1 (xh x),.top,.top])) (fun x=>by kernel_rfl) fun(x:ST×Int×Int×Bool×List Nd×Int×Bool) (hx:rOk x.1 (xh x)∧((xh x).bad=false→0≤x.2.2.2.2.2.1))=>(by
 dsimp only[Bg,Ab,Au,rA,Eg,Bj,sgs,srd,Av,AB]
 obtain⟨s,p,d,b,ns,k,bl⟩:=x;dsimp only[xg,xh] at hx ⊢
 obtain⟨hx,hk⟩:=hx
 have hx:rOk s ⟨p,d,b,ns⟩:=hx;have hs:=DK hx;dsimp only at hs
 (repeat' first|refine b1o ?_|(with_reducible first|rfl|exact True.intro|apply AK|apply And.intro|((first|apply Az|apply AI|apply AA|apply AJ)<;>intro _))|(apply Aw<;>intro _)|apply AH|refine Ae () ?_ ?_|((first|apply AO|apply AN|apply AM|apply AL|apply AG|apply AF|apply AE|apply AD|apply AC)<;>try dsimp only)|apply Ae|(refine Prod.forall.2 ?_;intro _;try dsimp only)|(intro _;try dsimp only))
 all_goals first
  |rfl
  |(simp [gBl, *];done)
  |exact b1p (g:=⟨p,d,b,ns⟩) ‹_› ‹_› ‹_›
  |(have hk2:=hk ‹_›;(try simp only[AR]);omega)
  |((try simp only[AR]);omega)
  |skip)
end Go.My
end
section
set_option linter.unusedVariables false
set_option linter.unusedSimpArgs false
namespace Go.My
open Go.Eng
theorem ML{sg:List Sg}{x:Gs}{f:Ps→PR}{k k':Int}{y y':Gs}(h:Af sg x f (k,y))(h1:gsOk sg y')(h2:y'.deep=y.deep)(h3:y.pos≤y'.pos)(h4:pur y'=pur y)(h5:y'.bad=false→k'=k):Af sg x f (k',y'):=by
 obtain⟨⟨a1,a2,a3,a4,a5⟩,b⟩:=h
 simp only at a1 a2 a3 a4 a5 b
 have hb:y'.bad=y.bad:=by
  cases hy:y.bad with
  |true=>exact ZC.1 (h4.trans (DJ hy))
  |false=>
   cases hy':y'.bad with
   |false=>rfl
   |true=>rw[DJ hy',CX hy] at h4;cases h4
 refine⟨⟨h1,by simp only;omega,by simp only;omega,by simp only;rw[h4];exact a4,fun p hp=> ?_⟩,fun hw=> ?_⟩
 ·simp only
  have:=a5 p hp
  rw[h5 ?_]
  ·exact this
  ·cases hy:y'.bad with
   |false=>rfl
   |true=>rw[←h4,DJ hy,hp] at a4;cases a4
 ·simp only at hw ⊢
  have:=b (by rw[←hb];exact hw);omega
theorem Ve{α:Type}{sg:List Sg}{x y y':Gs}{f g:Ps→Option (α×Ps)}{d:Int}(h:restP sg x f y g d)(h1:gsOk sg y')(h2:y'.deep=y.deep)(h3:y.pos≤y'.pos)(h4:pur y'=pur y):restP sg x f y' g d:=by
 obtain⟨a1,a2,a3,a4⟩:=h
 exact⟨h1,by omega,by omega,by rw[h4];exact a4⟩
theorem Vf{sg:List Sg}{g:Gs}{w:Nd}(h:gsOk sg g)(hl:g.pos<sg.length)(hw:Cv w):gsOk sg (Ag (Ai g) w)∧(Ag (Ai g) w).deep=(BX (Ag g w)).deep∧(BX (Ag g w)).pos≤(Ag (Ai g) w).pos∧pur (Ag (Ai g) w)=pur (BX (Ag g w))∧Ax (Ai g)=Ax g:=by
 refine⟨Ir (EY h hl) hw,?_⟩
 cases hf:CQ g with
 |true=>
  have hf2:CQ (Ai g)=true:=hf
  simp only[Ag,Ax,hf,hf2,if_true]
  simp [BX,Bd,Ai,pur];omega
 |false=>
  have hf2:CQ (Ai g)=false:=hf
  have:=(Qi hf).1
  simp only[Ag,Ax,hf,hf2,Bool.false_eq_true,if_false]
  simp [BX,Bd,Ai,pur,this]
theorem HN{sg:List Sg}{x g:Gs}{f:Ps→PR}{m:List UInt8}{w:Nd}(hg:gsOk sg g)(hw:Cv w)(h:Af sg x f (BB sg g m,Bs sg g m w)):Af sg x f (Ax (Al sg g m),Ag (Al sg g m) w):=by
 cases hq:isG sg g 4 m with
 |true=>
  obtain⟨a,b,c,d,e⟩:=Vf hg (Cy hq (by omega)).2 hw
  simp only[Bs,BB,Al,hq,if_true] at h ⊢
  exact ML h a b c d (fun _=>e)
 |false=>
  simp only[Bs,BB,Al,hq,Bool.false_eq_true,if_false] at h ⊢
  have hf:CQ (Bd g)=true:=by simp [CQ,Bd]
  simp only[Ag,Ax,hf,if_true]
  exact ML h hg rfl (Int.le_refl _) rfl (fun _=>rfl)
theorem Ow{sg:List Sg}{g:Gs}{k:Int}(hk:k≠1):kdG sg g k=decide ((pkG sg g 0).kind=k):=by simp [kdG,hk]
theorem MM{sg:List Sg}{x g:Gs}{f:Ps→PR}{k c:Int}(hs:sgB sg)(hg:gsOk sg g)(hk:k≠0)(hq:kdG sg g k=true)(h:Af sg x f (Ax g,CY sg g c false)):Af sg x f (Ax (Bf sg g k),Ag (Bf sg g k) ⟨c,BA sg g k,[],false⟩):=by
 have hl:=Rc hk hq
 have hw:Cv ⟨c,(pkG sg g 0).text,[],false⟩:=⟨JX hs,by simp⟩
 obtain⟨a1,a2,a3,a4,a5⟩:=Vf hg hl.2 hw
 simp only[Bf,BA,hq,if_true]
 exact ML h a1 a2 a3 a4 (fun _=>a5)
theorem b1r{sg:List Sg}{g:Gs}(hs:sgB sg)(hg:gsOk sg g):Af sg g (Bz sg) (Ax (Bf sg g 1),Ag (Bf sg g 1) ⟨1,BA sg g 1,[],false⟩):=by
 have h:=IZ hs hg
 cases hq:nmG sg g 0 with
 |true=>
  refine MM hs hg (by omega) (by rw[Ix];exact hq) ?_
  simp only[Cz,Dj,hq,if_true] at h;exact h
 |false=>
  have hq2:kdG sg g 1=false:=by rw[Ix];exact hq
  simp only[Cz,Dj,hq,Bool.false_eq_true,if_false] at h
  have hf:CQ (Bd g)=true:=by simp [CQ,Bd]
  simp only[Bf,BA,hq2,Bool.false_eq_true,if_false,Ag,Ax,hf,if_true]
  exact ML h hg rfl (Int.le_refl _) rfl (fun _=>rfl)
theorem HO{sg:List Sg}{g:Gs}:Bf sg g 1=BQ sg g∧BA sg g 1=BR sg g:=by
 simp only[Bf,BQ,BA,BR,Ix];exact⟨trivial,trivial⟩
theorem Rh{sg:List Sg}{g:Gs}{m:List UInt8}(h:g.bad=true):Al sg g m=g:=by
 have:isG sg g 4 m=false:=ZD (DJ h) (by omega)
 simp only[Al,this,Bool.false_eq_true,if_false,Bd]
 cases g;simp only at h;simp [h]
theorem Jj{sg:List Sg}{g:Gs}{m:List UInt8}(h:isG sg g 4 m=true):Al sg g m=Ai g:=by simp [Al,h]
theorem Ox{sg:List Sg}{g:Gs}{m:List UInt8}(h:isG sg g 4 m=false):Al sg g m=Bd g:=by simp [Al,h]
theorem Vg{w:Nd}{s:Ps}(h:¬300≤s.nodes.length):Ba w s=some ((s.nodes.length:Int),⟨s.pos,s.deep,s.nodes++[w]⟩):=if_neg h
theorem Vh{w:Nd}{s:Ps}(h:300≤s.nodes.length):Ba w s=none:=if_pos h
def chS(sg:List Sg)(n l:Nat)(x y:Gs)(t:List UInt8)(ks:List Int)(N:Nat):Prop:=
 restP sg x (pE sg (n+1) (.chain l)) y (chF sg n l N t ks) 0∧(2*((sg.length:Int)-y.pos)+4≤N∨(t=[]∧2*((sg.length:Int)-y.pos)+3≤N))∧(ks.length:Int)≤y.pos+1∧(y.bad=false→x.pos<y.pos)∧(t=[]→ks.length=1)∧(t≠[]→2≤ks.length∧t∈Bu l)
theorem b1s{sg:List Sg}{x:Gs}{n l:Nat}{z:Int×Gs}(h:gsOk sg x)(hl:l≠6)(h1:Af sg x (pE sg n (.chain (l+1))) z):chS sg n l x z.2 [] [z.1] (2*sg.length+4):=by
 obtain⟨a,b,c⟩:=ZW h hl h1
 have:=a.1.1
 exact⟨a,.inr ⟨rfl,b⟩,by simp;omega,c,fun _=>rfl,fun h=>(h rfl).elim⟩
theorem Vi{sg:List Sg}{l:Nat}{m:List UInt8}{ks:List Int}(hs:sgB sg)(hml:m∈Bu l)(hk:(ks.length:Int)≤sg.length+1):Cv ⟨7,m,ks,false⟩:=by
 refine⟨?_,by have:=hs.1;simp only;omega⟩
 simp only
 unfold Bu at hml
 split at hml<;>simp at hml<;>(first|(subst hml;simp)|(rcases hml with rfl|rfl<;>simp))
theorem b1t{sg:List Sg}{n l:Nat}{x y:Gs}{t:List UInt8}{ks:List Int}{N:Nat}{z:Int×Gs}(h:chS sg n l x y t ks N)(hm:BC sg l y≠[])(ht:t=[]∨BC sg l y=t)(hz:Af sg (Ai y) (pE sg n (.chain (l+1))) z):
 chS sg n l x z.2 (BC sg l y) (ks++[z.1]) (N-1)∧N-1<N:=by
 obtain⟨h1,hN,hk,hb,hk1,hk2⟩:=h
 have hq:=(Hc hm).1
 have hp:=h1.1.1
 have hl:=Cy hq (by omega)
 match N with
 |0=>omega
 |M+1=>
  refine⟨?_,by omega⟩
  have k1:=Gb (g':=fun s=>(pE sg n (.chain (l+1)) s).bind fun p=>chF sg n l M (BC sg l y) (ks++[p.1]) p.2) h1 (by omega) hq (fun s hs hts=>by
   rw[chF,Ed,if_neg ?_,if_neg (by rw[FD hs];exact hm),FD hs];rfl
   rw[FD hs];rintro⟨q1,q2⟩;rcases ht with ht|ht
   ·exact q1 ht
   ·exact q2 ht)
  have k2:=BJ (k:=fun k s=>chF sg n l M (BC sg l y) (ks++[k]) s) k1 hz.1 (fun _ _=>rfl)
  have e:=CC hz
  simp only[Ai] at e
  have:=h1.2.2.1
  simp only[Nat.add_sub_cancel]
  refine⟨k2,.inl (by omega),by simp;omega,fun hb2=>by omega,fun he=>(hm he).elim,fun _=>⟨?_,(Hc hm).2⟩⟩
  simp only[List.length_append,List.length_cons,List.length_nil]
  rcases Classical.em (t=[]) with e0|e0
  ·have:=hk1 e0;omega
  ·have:=(hk2 e0).1;omega
theorem b1u{sg:List Sg}{n l:Nat}{x y:Gs}{t:List UInt8}{ks:List Int}{N:Nat}{z:Int×Gs}(hs:sgB sg)(h:chS sg n l x y t ks N)(hm:BC sg l y≠[])(ht:t≠[])(hne:BC sg l y≠t)(hz:Af sg (Ag (Ai y) ⟨7,t,ks,false⟩) (pE sg n (.chain (l+1))) z):
 chS sg n l x z.2 (BC sg l y) ([Ax (Ai y)]++[z.1]) (N-2)∧N-2<N:=by
 obtain⟨h1,hN,hk,hb,hk1,hk2⟩:=h
 have hq:=(Hc hm).1
 have hp:=h1.1.1
 have hl:=Cy hq (by omega)
 have hN2:2*((sg.length:Int)-y.pos)+4≤N:=by
  rcases hN with h|h
  ·exact h
  ·exact(ht h.1).elim
 match N with
 |0=>omega
 |1=>omega
 |M+2=>
  refine⟨?_,by omega⟩
  have hw:Cv ⟨7,t,ks,false⟩:=Vi hs (hk2 ht).2 (by omega)
  have k1:=Gb (g':=fun s=>(Ba ⟨7,t,ks,false⟩ s).bind fun p=>(pE sg n (.chain (l+1)) p.2).bind fun q=>chF sg n l M (BC sg l y) ([p.1]++[q.1]) q.2) h1 (by omega) hq (fun s hs hts=>by
   rw[chF,Ed,if_pos ⟨ht,by rw[FD hs];exact hne⟩]
   by_cases h3:300≤s.nodes.length
   ·rw[Vh h3,Vh (s:=adv s) h3];rfl
   ·rw[Vg h3,Vg (s:=adv s) h3]
    simp only[Option.bind_some]
    have e:FB sg l ⟨s.pos,s.deep,s.nodes++[⟨7,t,ks,false⟩]⟩=BC sg l y:=by rw[←FD hs];rfl
    rw[Ed,if_neg (by simp),if_neg (by rw[e];exact hm),e];rfl)
  have k2:=BJ (k:=fun k s=>(pE sg n (.chain (l+1)) s).bind fun q=>chF sg n l M (BC sg l y) ([k]++[q.1]) q.2) k1 (NX k1.1 hw) (fun _ _=>rfl)
  have k3:=BJ (k:=fun k s=>chF sg n l M (BC sg l y) ([Ax (Ai y)]++[k]) s) k2 hz.1 (fun _ _=>rfl)
  have e:=CC hz
  obtain⟨d1,d2,d3⟩:= @Hb (Ai y) ⟨7,t,ks,false⟩
  rw[d2] at e;simp only[Ai] at e
  have:=h1.2.2.1
  simp only[Nat.add_sub_cancel]
  refine⟨k3,.inl (by omega),by simp;omega,fun hb2=>by omega,fun he=>(hm he).elim,fun _=>⟨by simp,(Hc hm).2⟩⟩
theorem a1U{sg:List Sg}{n l:Nat}{x y:Gs}{t:List UInt8}{ks:List Int}{N:Nat}{k:Int}(h:chS sg n l x y t ks N)(hm:y.bad=true∨BC sg l y=[])(hl:ks.length=1)(hk:ks[0]? =some k):Af sg x (pE sg (n+1) (.chain l)) (k,y):=by
 obtain⟨h1,hN,hk0,hb,hk1,hk2⟩:=h
 rcases hm with hm|hm
 ·exact⟨Oc h1 hm,fun hb2=>by simp only at hb2;rw[hm] at hb2;cases hb2⟩
 ·have ht:t=[]:=by
   rcases Classical.em (t=[]) with e0|e0
   ·exact e0
   ·have:=(hk2 e0).1;omega
  subst ht
  have hp:=h1.1.1
  match ks,hl with
  |[k0],_=>
   simp at hk;subst hk
   match N with
   |0=>omega
   |N+1=>exact⟨FC (Dy h1 (g':=fun s=>some (k0,s)) (fun s hs=>by rw[chF,Ed,if_neg (by simp),if_pos (by rw[FD hs,hm])];rfl)),hb⟩
theorem a1V{sg:List Sg}{n l:Nat}{x y:Gs}{t:List UInt8}{ks:List Int}{N:Nat}(hs:sgB sg)(h:chS sg n l x y t ks N)(hm:y.bad=true∨BC sg l y=[])(hl:ks.length≠1):Af sg x (pE sg (n+1) (.chain l)) (Ax y,Ag y ⟨7,t,ks,false⟩):=by
 obtain⟨h1,hN,hk0,hb,hk1,hk2⟩:=h
 have ht:t≠[]:=fun e=>hl (hk1 e)
 have hp:=h1.1.1
 have hw:Cv ⟨7,t,ks,false⟩:=Vi hs (hk2 ht).2 (by omega)
 obtain⟨d1,d2,d3⟩:= @Hb y ⟨7,t,ks,false⟩
 have hN2:2*((sg.length:Int)-y.pos)+4≤N:=by
  rcases hN with h|h
  ·exact h
  ·exact(ht h.1).elim
 match N with
 |0=>omega
 |1=>omega
 |M+2=>
  have k1:restP sg x (pE sg (n+1) (.chain l)) y (Ba ⟨7,t,ks,false⟩) 0:=by
   rcases hm with hm|hm
   ·exact Dy h1 (fun s hs=>by rw[DJ hm] at hs;cases hs)
   ·refine Dy h1 (fun s hs=> ?_)
    rw[chF,Ed,if_pos ⟨ht,by rw[FD hs,hm];exact Ne.symm ht⟩,Ba]
    split
    ·rfl
    ·simp only[Option.bind_some]
     have e:FB sg l ⟨s.pos,s.deep,s.nodes++[⟨7,t,ks,false⟩]⟩=[]:=by rw[←hm,←FD hs];rfl
     rw[Ed,if_neg (by simp),if_pos e];rfl
  exact⟨Qn k1 hw,fun hb2=>by simp only[d2];exact hb (d3 hb2)⟩
def gM(y:Gs)(m:List UInt8):Gs:=if m=[] then y else Ai y
theorem Vj{y:Gs}:gM y []=y:=rfl
theorem Ri{y:Gs}{m:List UInt8}(h:m≠[]):gM y m=Ai y:=if_neg h
def mkQ(sg:List Sg)(y:Gs)(l:Nat)(i:Int)(m:List UInt8):Prop:=(0≤i∧i≤(Bu l).length)∧((m=[]∧BC sg l y=(((Bu l).drop i.toNat).find? fun m=>isG sg y 4 m).getD [])∨(m≠[]∧m=BC sg l y))
theorem b1v{sg:List Sg}{y:Gs}{l:Nat}:mkQ sg y l 0 []:=⟨by omega,.inl ⟨rfl,rfl⟩⟩
theorem b1w{sg:List Sg}{y:Gs}{l:Nat}{i:Int}{m v:List UInt8}(h:mkQ sg y l i m)(hm:m=[])(ha:(Bu l)[i.toNat]? =some v)(hg:isG sg (gM y m) 4 v=false):mkQ sg y l (i+1) m:=by
 subst hm
 have hlt:=(List.getElem?_eq_some_iff.1 ha).1
 refine⟨by have:=h.1;omega,?_⟩
 rcases h.2 with h2|h2
 ·left;refine⟨rfl,?_⟩
  rw[h2.2,List.drop_eq_getElem_cons hlt,(List.getElem?_eq_some_iff.1 ha).2,List.find?_cons_of_neg (by simp;exact hg),show(i+1).toNat=i.toNat+1 by have:=h.1;omega]
 ·exact(h2.1 rfl).elim
theorem Vk{sg:List Sg}{y:Gs}{l:Nat}{i:Int}{m v:List UInt8}(h:mkQ sg y l i m)(hm:m=[])(ha:(Bu l)[i.toNat]? =some v)(hg:isG sg (gM y m) 4 v=true):mkQ sg y l (i+1) v∧Ah sg (gM y m) v=gM y v:=by
 subst hm
 have hlt:=(List.getElem?_eq_some_iff.1 ha).1
 have hv:=Qp (List.mem_of_getElem? ha)
 refine⟨⟨by have:=h.1;omega,.inr ⟨hv,?_⟩⟩,?_⟩
 ·exact(ZX (List.mem_of_getElem? ha) hg).symm
 ·rw[Vj] at hg ⊢;rw[Ri hv];exact Da hg
theorem b1x{sg:List Sg}{y:Gs}{l:Nat}{i:Int}{m:List UInt8}(h:mkQ sg y l i m)(hi:i<((Bu l).length:Int))(hm:m≠[]):mkQ sg y l (i+1) m:=by
 refine⟨by have:=h.1;omega,?_⟩
 rcases h.2 with h2|h2
 ·exact(hm h2.1).elim
 ·exact .inr h2
theorem Rj{sg:List Sg}{y:Gs}{l:Nat}{i:Int}{m:List UInt8}(h:mkQ sg y l i m)(hi:¬i<((Bu l).length:Int)):m=BC sg l y:=by
 rcases h.2 with h2|h2
 ·rw[h2.2,List.drop_eq_nil_of_le (by omega),h2.1];rfl
 ·exact h2.2
theorem a1W{sg:List Sg}{x:Gs}{f:Ps→PR}{a:Int}(h:gsOk sg x)(hb:x.bad=true):Af sg x f (a,x):=⟨Oc (Dp h) hb,fun hb2=>by simp only at hb2;rw[hb] at hb2;cases hb2⟩
theorem b1y{sg:List Sg}{n:Nat}{x y y':Gs}{k k':Int}{N:Nat}(h:enI sg n x y k N)(h1:gsOk sg y')(h2:y'.deep=y.deep)(h3:y.pos≤y'.pos)(h4:pur y'=pur y)(h5:y'.bad=false→k'=k):enI sg n x y' k' N:=by
 obtain⟨a,b,c⟩:=h
 cases hb:y'.bad with
 |false=>
  have hy:y.bad=false:=by
   cases hy:y.bad with
   |false=>rfl
   |true=>rw[DJ hy,CX hb] at h4;cases h4
  rw[h5 hb]
  exact⟨Ve a h1 h2 h3 h4,fun _=>by have:=b hy;omega,fun _=>by have:=c hy;omega⟩
 |true=>
  have hy:y.bad=true:=by
   cases hy:y.bad with
   |true=>rfl
   |false=>rw[DJ hb,CX hy] at h4;cases h4
  refine⟨Dy (Ve a h1 h2 h3 h4) (fun s hs=>by rw[DJ hb] at hs;cases hs),fun e=>(Bool.noConfusion (hb.symm.trans e)),fun e=>(Bool.noConfusion (hb.symm.trans e))⟩
theorem b1z{sg:List Sg}{n:Nat}{x y:Gs}{a k:Int}{N:Nat}(h:Af sg x (pE sg (n+1) .fin) (a,y))(hb:y.bad=true):enI sg n x y k N:=
 ⟨Dy (a8O h.1) (fun s hs=>by rw[DJ hb] at hs;cases hs),fun e=>(Bool.noConfusion (hb.symm.trans e)),fun e=>(Bool.noConfusion (hb.symm.trans e))⟩
theorem b1A{sg:List Sg}{n:Nat}{x y:Gs}{k:Int}{N:Nat}(hs:sgB sg)(h:enI sg n x y k N)(hp:isG sg y 4 [40]=false)(hq:isG sg y 4 [46]=true):
 enI sg n x (Ag (Bf sg (Ai y) 1) ⟨6,BA sg (Ai y) 1,[k],false⟩) (Ax (Bf sg (Ai y) 1)) (N-1)∧N-1<N:=by
 have hl:=Cy hq (by omega)
 obtain⟨M,rfl⟩:=Oe h hl.1
 refine⟨?_,by omega⟩
 have ho:=EY h.1.1 hl.2
 have hw:Cv ⟨6,(pkG sg (Ai y) 0).text,[k],false⟩:=⟨JX hs,by simp⟩
 cases hn:nmG sg (Ai y) 0 with
 |true=>
  obtain⟨M',e,h2⟩:=ZZ hs h hp hq hn
  have:M'=M:=by omega
  subst this
  obtain⟨a1,a2,a3,a4,a5⟩:=Vf ho (by have:=(Iq hn).2;omega) hw
  have e1:Bf sg (Ai y) 1=Ai (Ai y):=by rw[Bf,Ix,if_pos hn]
  have e2:BA sg (Ai y) 1=(pkG sg (Ai y) 0).text:=by rw[BA,Ix,if_pos hn]
  rw[e1,e2]
  exact b1y h2 a1 a2 a3 a4 (fun _=>a5)
 |false=>
  have h2:=a0a (a:=0) h hp hq hn
  have e1:Bf sg (Ai y) 1=Bd (Ai y):=by rw[Bf,Ix,if_neg (by simp [hn])]
  have hf:CQ (Bd (Ai y))=true:=by simp [CQ,Bd]
  rw[e1]
  have e3:Ag (Bd (Ai y)) ⟨6,BA sg (Ai y) 1,[k],false⟩=Bd (Bd (Ai y)):=if_pos hf
  rw[e3]
  exact b1z (a:=0) (ML h2 ho rfl (Int.le_refl _) rfl (fun _=>rfl)) rfl
def vlQ(sg:List Sg)(one:Ps→PR)(m:List UInt8)(ks0:List Int)(x:Gs)(y:List Int×Gs):Prop:=∃l:List Int×Gs,(Bm sg x (Bl sg one m (sg.length+1) []) l∧l.1.length≤3001)∧y=(ks0++l.1,Al sg l.2 m)
theorem Vl{s:ST}{one:Ps→PR}{m:List UInt8}{ks0:List Int}{x:Gs}{y:List Int×Gs}(hs:sgB s.sg)(h:vlQ s.sg one m ks0 x y):rOk s y.2∧y.1.length≤ks0.length+3001∧y.2.deep=x.deep∧x.pos≤y.2.pos:=by
 obtain⟨l,⟨h1,h2⟩,rfl⟩:=h
 have t:=FE (m:=m) h1.1
 have:=h1.2.1;have:=h1.2.2.1
 exact⟨⟨hs,t.1⟩,by simp;omega,by simp only;omega,by simp only;omega⟩
theorem a1X{sg:List Sg}{x:Gs}{one:Ps→PR}{k:Int}{y:List Int×Gs}(hx:gsOk sg x)(h:vlQ sg one [41] [k] (Al sg x [40]) y):Af sg x (CP sg one k) (Ax y.2,Ag y.2 ⟨5,[],y.1,false⟩):=by
 obtain⟨l,⟨h1,h2⟩,rfl⟩:=h
 exact HN h1.1 ⟨by simp,by simp;omega⟩ (a0i hx ⟨h1,h2⟩)
theorem b1B{sg:List Sg}{x y:Gs}{n N:Nat}{ks:List Int}{c w:Int×Gs}(h:Ka sg n x y ks N)(hq:isG sg y 4 [46,46]=true)(hc:Af sg (Ai y) (Bz sg) c)
 (h2:Af sg c.2 (CP sg (pE sg n .value) c.1) w):∃M,N=M+1∧Ka sg n x w.2 (ks++[w.1]) M:=by
 obtain⟨h1,hN,hk,hb⟩:=h
 obtain⟨hl1,hl⟩:=Cy hq (by omega)
 match N with
 |0=>omega
 |M+1=>
  refine⟨M,rfl,?_⟩
  have k1:=Gb (g':=fun s=>((Bz sg s).bind fun p=>(CP sg (pE sg n .value) p.1 p.2).bind fun q=>EW sg (pE sg n .value) M (ks++[q.1]) q.2).bind fun q=>Ba ⟨10,[],q.1,false⟩ q.2)
   h1 (by omega) hq (fun s hs ht=>by rw[EW,if_pos (show isM sg s [46,46]=true from ht)])
  have k2:=BJ (k:=fun k s=>((CP sg (pE sg n .value) k s).bind fun q=>EW sg (pE sg n .value) M (ks++[q.1]) q.2).bind fun q=>Ba ⟨10,[],q.1,false⟩ q.2) k1 hc.1 (fun s _=>by simp only[Option.bind_assoc])
  have k3:=BJ (k:=fun k s=>(EW sg (pE sg n .value) M (ks++[k]) s).bind fun q=>Ba ⟨10,[],q.1,false⟩ q.2) k2 h2.1 (fun s _=>by simp only[Option.bind_assoc])
  have e0:(Ai y).pos≤c.2.pos:=hc.1.2.2.1
  have e1:=CC h2
  have ea:(Ai y).pos=y.pos+1:=rfl
  refine⟨k3,by omega,by simp;omega,fun hb2=> ?_⟩
  have:=h1.2.2.1
  omega
theorem b1C{sg:List Sg}(hm:sgM sg){s:Ps}(h0:0≤s.pos)(h:Eo sg s=true):JZ sg s=true:=by
 have hp:∀(n:Nat) (i:Int),0≤i→0≤Dl sg n i:=by
  intro n
  induction n with
  |zero=>intro i hi;simpa [Dl] using hi
  |succ n ih=>
   intro i hi;rw[Dl];split
   ·split
    ·exact ih _ (by omega)
    ·omega
   ·exact hi
 exact ZP hm _ _ (by omega) (by rw[←Un hm (hp _ _ (by omega))];exact h)
theorem b1D{sg:List Sg}(hm:sgM sg){s:Ps}(h0:0≤s.pos)(h1:JZ sg s=true)(h2:Eo sg s=false)(N:Nat):Bl sg (Bz sg) [41] N [] (adv s)=none:=by
 have hp:∀(n:Nat) (i:Int),0≤i→0≤Dl sg n i:=by
  intro n
  induction n with
  |zero=>intro i hi;simpa [Dl] using hi
  |succ n ih=>
   intro i hi;rw[Dl];split
   ·split
    ·exact ih _ (by omega)
    ·omega
   ·exact hi
 exact ZQ hm (sg.length+1) (s.pos+1) (by omega) h1 (by rw[←Un hm (hp _ _ (by omega))];exact h2) N [] (adv s) rfl
theorem b1E{sg:List Sg}{x:Gs}{n:Nat}{z:Int×Gs}(hm:sgM sg)(hx:gsOk sg x)(h1:(pkG sg x 0).kind≠1)(h2:(pkG sg x 0).kind≠2)(h3:(pkG sg x 0).kind≠3)(hn:isG sg x 4 [91]=false)(hq:isG sg x 4 [40]=true)
 (ha:∀s,pur x=some s→JZ sg s=true) (hz:Af sg x (fnR sg n) z):Af sg x (pE sg (n+1) .base) z:=by
 refine Ke hz (fun s hs=> ?_)
 have h0:0≤s.pos:=by obtain⟨_,rfl⟩:=Ep.1 hs;exact hx.1.1
 cases har:Eo sg s with
 |true=>rw[MF hs h1 h2 h3,if_neg (by simp [Et hs hn]),if_pos (by simp [HC hs hq,har]),fnR,BF,if_pos (HC hs hq)];rfl
 |false=>
  rw[MF hs h1 h2 h3,if_neg (by simp [Et hs hn]),if_neg (by simp [har]),if_pos (HC hs hq),a8R (x:=⟨0,[],[],false⟩) hm h0 (ha s hs) har (fun k=>⟨11,[],[k],false⟩),fnR,BF,if_pos (HC hs hq)]
  simp only[Option.bind_some]
  rw[b1D hm h0 (ha s hs) har];rfl
theorem b1F{sg:List Sg}{x:Gs}{n:Nat}{z:Int×Gs}(hm:sgM sg)(h:gsOk sg x)(h1:(pkG sg x 0).kind≠1)(h2:(pkG sg x 0).kind≠2)(h3:(pkG sg x 0).kind≠3)(hn:isG sg x 4 [91]=false)(hq:isG sg x 4 [40]=true)
 (ha:∀s,pur x=some s→JZ sg s=false) (hz:Af sg (Ai x) (pE sg n .value) z):
 Af sg x (pE sg (n+1) .base) (Ax (Al sg z.2 [41]),Ag (Al sg z.2 [41]) ⟨11,[],[z.1],false⟩):=by
 refine HN (Ey hz) ⟨by simp,by simp⟩ (a0d h h1 h2 h3 hn hq (fun s hs=> ?_) hz)
 have h0:0≤s.pos:=by obtain⟨_,rfl⟩:=Ep.1 hs;exact h.1.1
 cases har:Eo sg s with
 |false=>rfl
 |true=>have:=b1C hm h0 har;rw[ha s hs] at this;cases this
end Go.My
end
