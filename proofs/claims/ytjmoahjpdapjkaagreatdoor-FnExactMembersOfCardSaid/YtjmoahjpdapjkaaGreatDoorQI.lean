/- A part of the proof: the engine and the contracts, joined. -/
import Derived.Test.YtjmoahjpdapjkaaGreatDoorQH
section
set_option linter.unusedVariables false
set_option linter.unusedSimpArgs false
namespace Go.My
open Go.Eng Go.Proofs
variable {G:GInv}
theorem b0y(n:Nat):Aj G Go.Proofs.Tryz.prog 170 (Kh n):=by
 induction n with
 |zero=>exact Gg Tryz.func170 rfl (by decide) (fun x h=>by have h1:=h.1.1.2;have h2:=h.2;omega)
 |succ n ih=>exact b0x n ih
def Lt:Sig:= {X:=ST×Int×Int×Bool×List Nd,args:=fun x=>[rdG x.1 (xg x)],pre:=fun x=>okD x.1 (xg x),Y:=Int×Int×Int×Bool×List Nd,post:=fun x y=>Af x.1.sg (xg x) (EI x.1.sg) (yS y),res:=fun x y=> .int .i64 y.1,outs:=fun x y=>[rdG x.1 (yG y.2)],keep:=true}
theorem a1y{s:ST}{g:Gs}(h:okD s g):okD s g∧20-g.deep≤(stN:Int):=by
 have h1:=h.1.2.2.1.1
 exact⟨h,by unfold stN;omega⟩
theorem a1z:Aj G Go.Proofs.Tryz.prog 140 Lt:=
 have c:=UQ (G:=G) stN (b0y stN)
 ⟨⟨c.1.1,fun x y hx hy=>c.1.2 x y (a1y hx) hy⟩,fun x hx=>c.2 x (a1y hx)⟩
theorem On{s:ST}{x:Gs}(h:rOk s x):rOk s (BR s.sg x)∧rOk s (Al s.sg (BR s.sg x) [40]):=⟨HH h,(Eg (HH h)).1⟩
theorem QQ{s:ST}{x:Gs}{one:Ps→PR}{m:List UInt8}{l:List Int×Gs}(h:okD s x)(hl:Bm s.sg (Al s.sg (BR s.sg x) [40]) (Bl s.sg one m (s.sg.length+1) []) l∧l.1.length≤3001):okD s l.2∧okD s (Al s.sg l.2 [41]):=by
 have a:okD s (Al s.sg (BR s.sg x) [40]):=⟨(On h.1).2,a1w h⟩
 have b:=Lp a hl.1
 have c:=Eg (m:=[41]) b.1
 exact⟨b,c.1,by rw[c.2];exact b.2⟩
theorem a1A{s:ST}{x:Gs}{b:Bool}{l:List Int×Gs}{q:Int×Gs}(h:okD s x)(hl:Bm s.sg (Al s.sg (BR s.sg x) [40]) (Bl s.sg (Bz s.sg) [41] (s.sg.length+1) []) l∧l.1.length≤3001)
 (hq:Af s.sg (Al s.sg l.2 [41]) (EI s.sg) q):Af s.sg x (EY s.sg b) (Ax q.2,Ag q.2 ⟨20,BS s.sg x,l.1++[q.1],b⟩):=a1d h.1.1 h.1.2 hl.1 hl.2 hq
def clJ(sg:List Sg)(x y:Gs)(ks:List Int)(N:Nat):Prop:=Iw sg (CT sg) [125] (Al sg (BR sg (Ai x)) [123]) y ks N∧y.deep=x.deep
theorem b0z{s:ST}{x:Gs}(h:okN s x):clJ s.sg x (Al s.sg (BR s.sg (Ai x)) [123]) [] (s.sg.length+1):=by
 have a:=Kg h
 refine⟨QI (Eg (HH a.1)).1.2,?_⟩
 rw[(Eg (HH a.1)).2,(UK a.1).1];rfl
theorem a1B{s:ST}{x y:Gs}{ks:List Int}{N:Nat}(h:okN s x)(hj:clJ s.sg x y ks N):okD s y:=⟨⟨h.1.1.1,hj.1.1.1⟩,by have:=hj.2;have:=h.1.2;omega⟩
theorem UR{s:ST}{x y:Gs}{ks:List Int}{N:Nat}(h:okN s x)(hj:clJ s.sg x y ks N):ks.length≤3001:=by
 have:=hj.1.2.2.1;have:=hj.1.1.1.1;have:=h.1.1.1.1;omega
theorem QR{s:ST}{x y:Gs}{ks:List Int}{N:Nat}{b:Bool}{z:Int×Gs}(hj:clJ s.sg x y ks N)(hb:y.bad=false)(hq:isG s.sg y 4 [125]=false)(hz:Af s.sg y (CT s.sg b) z)(e:b=((pkG s.sg y 0).blank&&decide (0<(ks.length:Int)))):
 clJ s.sg x z.2 (ks++[z.1]) (N-1)∧N-1<N:=by
 subst e
 obtain⟨a,b⟩:=He (QL hj.1 hb hq (z:=z) (by
  have:decide (0<ks.length)=decide (0<(ks.length:Int)):=by simp
  rw[this];exact hz))
 have:=(CD hz).1
 exact⟨⟨a,by have:=hj.2;omega⟩,b⟩
theorem b0A{s:ST}{x y:Gs}{ks:List Int}{N:Nat}{b:Bool}(h:okN s x)(hj:clJ s.sg x y ks N):Cw ⟨21,BS s.sg (Ai x),ks,b⟩:=DG (Hh h.1.1.1) (by have:=UR h hj;omega)
theorem a1C{s:ST}{x y:Gs}{ks:List Int}{N:Nat}{b:Bool}(h:okN s x)(hj:clJ s.sg x y ks N)(hy:y.bad=true∨isG s.sg y 4 [125]=true):
 Af s.sg (Ai x) (Fl s.sg b) (BB s.sg y [125],Bs s.sg y [125] ⟨21,BS s.sg (Ai x),ks,b⟩):=by
 refine a1e (l:=(ks,y)) h.1.1.1 (Kg h).1.2 ?_ (UR h hj)
 rcases hy with hy|hy
 ·exact QJ hj.1 hy
 ·exact QK hj.1 hy
def a1D:Sig:= {X:=ST×Int×Int×Bool×List Nd×Bool,args:=fun x=>[rdG x.1 (xh x),.bool x.2.2.2.2.2],pre:=fun x=>False,Y:=Int×Int×Int×Bool×List Nd,post:=fun x y=>True,res:=fun x y=> .int .i64 y.1,outs:=fun x y=>[rdG x.1 (yG y.2),.top],keep:=true}
theorem b0B:Aj G Go.Proofs.Tryz.prog 135 a1D:=Gg Tryz.func135 rfl (by decide) (fun x h=>h)
attribute [local irreducible] pE Bl CQ fnR Af Bm gsOk Al Bs Ag BZ CZ Ah CA Dk Ax BB pkG isG nmG BR BS Dn Ge Dj Cb BH stR CL EI EY CT Dp Fl Bz
def Ji:Sig:= {X:=ST×Int×Int×Bool×List Nd×Bool,args:=fun x=>[rdG x.1 (xh x),.bool x.2.2.2.2.2,.bool false],pre:=fun x=>okD x.1 (xh x)∧(xh x).bad=false,Y:=Int×Int×Int×Bool×List Nd,post:=fun x y=>Af x.1.sg (xh x) (CT x.1.sg x.2.2.2.2.2) (yS y),res:=fun x y=> .int .i64 y.1,outs:=fun x y=>[rdG x.1 (yG y.2),.top,.top],keep:=true}
theorem b0C:Aj G Tryz.prog 102 Ji:=
 vcFun_okP [(103,0,Cr),(132,0,Hi),(133,0,Ef),(134,0,GG),(135,0,a1D),(136,0,Et),(137,0,CB),(138,139+1,Gd),(140,0,Lt),(104,0,BT)] [(45,⟨Int,Bb⟩)] false (fun x=>[]) Tryz.func102 rfl (by decide) ⟨Ha,UO,Ql,UP,b0B,Oc,Jc,Uy,a1z,GC,trivial⟩ (fun(x:ST×Int×Int×Bool×List Nd×Bool)=>True∧cA Cr [rdG x.1 (xh x)] fun x_1 y=>Aa ((pkG x_1.1.sg (xg x_1) (0:Int)).kind==(5:Int)) (cA Hi [rdG x_1.1 (xg x_1),.bool x.2.2.2.2.2] fun x_2 y=>rA Ji x [.int .i64 (Ax (xh x_2)),rdG x_2.1 (CZ x_2.1.sg (xh x_2) (19:Int) x_2.2.2.2.2.2),.top,.top]) (cA Ef [rdG x_1.1 (xg x_1),.str #[(118:UInt8),(97:UInt8),(114:UInt8)].toList] fun x_2 y=>Aa (isG x_2.1.sg (xh x_2) (1:Int) x_2.2.2.2.2.2) (cA GG [rdG x_2.1 (xh x_2),.bool x.2.2.2.2.2] fun x_3 y=>rA Ji x [.int .i64 y.1,rdG x_3.1 (yG y.2),.top,.top]) (cA Et [rdG x_2.1 (xh x_2)] fun x_3 y=>cA CB [rdG x_3.1 (BR x_3.1.sg (xg x_3)),.str #[(40:UInt8)].toList] fun x_4 y=>(True∧True)∧cA Gd [rdG x_4.1 (Al x_4.1.sg (xh x_4) x_4.2.2.2.2.2),.str #[(41:UInt8)].toList,AV.clo (Fn.yield (139:Nat)) [AV.al (0:Nat)]] fun x_5 y=>cA CB [rdG x_5.1 (yG y.2),.str #[(41:UInt8)].toList] fun x_6 y_1=>cA Lt [rdG x_6.1 (Al x_6.1.sg (xh x_6) x_6.2.2.2.2.2)] fun x_7 y_2=>∃(x_8:Int),y_2.1=x_8∧∃(zs:List Int),Ab [x_8]=Ab zs∧Be Bb∧AS (List.length y.1+List.length zs) (8:Nat)∧cA BT [rdG x_7.1 (yG y_2.2),.agg [.int .i64 (20:Int),.str (BS x_3.1.sg (xg x_3)),Ab (y.1++zs),.bool x.2.2.2.2.2]] fun x_9 y=>rA Ji x [.int .i64 (Ax (xh x_9)),rdG x_9.1 (Ag (xh x_9) {kind:=x_9.2.2.2.2.2.1,text:=x_9.2.2.2.2.2.2.1,kids:=x_9.2.2.2.2.2.2.2.1,blank:=x_9.2.2.2.2.2.2.2.2}),.top,.top]))) (fun x=>by kernel_rfl) fun(x:ST×Int×Int×Bool×List Nd×Bool) (hx:okD x.1 (xh x)∧(xh x).bad=false)=>(by
 dsimp only[cA,mbs,Bg,Ab,Au,rA,rdG,BT,Lt,Ef,Gd,Ji,Et,Cr,Hi,CB,GG,Bj,sgs,Av,AB,mvL,lnL,mvE,lnE]
 obtain⟨s,p,d,b,ns,e⟩:=x;dsimp only[xg,xh] at hx ⊢
 obtain⟨hx,hb⟩:=hx
 have hx:okD s ⟨p,d,b,ns⟩:=hx
 (repeat' first|(with_reducible first|rfl|exact True.intro|apply AK|apply And.intro|((first|apply Az|apply AI|apply AA|apply AJ)<;>intro _))|(apply Aw<;>intro _)|apply AH|refine Ae () ?_ ?_|((first|apply AO|apply AN|apply AM|apply AL|apply AG|apply AF|apply AE|apply AD|apply AC)<;>try dsimp only)|apply Ae|(refine Prod.forall.2 ?_;intro _;try dsimp only)|(intro _;try dsimp only))
 all_goals(try dsimp only[xg,xh,yG,yS,iG] at*)
 all_goals(try simp only[CN] at*)
 all_goals first
  |rfl
  |exact hx.1
  |(exfalso;assumption)
  |assumption
  |contradiction
  |exact Ok hx ‹_›
  |exact a1f hx.1.1 hx.1.2 ‹_›
  |exact a1g hx.1.2 ‹_› ‹_› ‹_›
  |exact(On hx.1).1
  |exact(On hx.1).2
  |exact(QQ hx ‹_›).1.1
  |exact(QQ hx ‹_›).2
  |exact Dr hx.1 ‹_›
  |exact a1h hx.1.2 ‹_› ‹_› (a1A hx ‹_› ‹_›)
  |(have hq2:=And.right (show Bm _ _ _ _∧_ by assumption);(try simp only[AS,List.length_append,List.length_cons,List.length_nil]);omega)
  |skip)
def Lu:Sig:= {X:=ST×Int×Int×Bool×List Nd×Bool,args:=fun x=>[rdG x.1 (xh x),.bool x.2.2.2.2.2],pre:=fun x=>okN x.1 (xh x),Y:=Int×Int×Int×Bool×List Nd,post:=fun x y=>Af x.1.sg (Ai (xh x)) (Fl x.1.sg x.2.2.2.2.2) (yS y),res:=fun x y=> .int .i64 y.1,outs:=fun x y=>[rdG x.1 (yG y.2),.top],keep:=true}
def Oo(x:ST×Int×Int×Bool×List Nd×Bool):LS:= {ι:=Int×Int×Bool×List Nd×List Int×Nat,inv:=fun i=>clJ x.1.sg (xh x) (iG i) i.2.2.2.2.1 i.2.2.2.2.2,regs:=fun i=>[(0,rdG x.1 (iG i)),(1,.bool x.2.2.2.2.2),(5,.str (BS x.1.sg (Ai (xh x)))),(6,Ab i.2.2.2.2.1)],als:=[],meas:=fun i=>i.2.2.2.2.2}
theorem b0D:Aj G Tryz.prog 135 Lu:=
 vcFun_okP [(162,0,CO),(136,0,Et),(137,0,CB),(166,0,Cx),(103,0,Cr),(102,0,Ji),(165,0,CF)] [(45,⟨Int,Bb⟩)] false (fun x=>[(5,Oo x)]) Tryz.func135 rfl (by decide) ⟨Jd,Oc,Jc,HC,Ha,b0C,Lk,trivial⟩ (fun(x:ST×Int×Int×Bool×List Nd×Bool)=>True∧cA CO [rdG x.1 (xh x)] fun x_1 y=>cA Et [rdG x_1.1 (BZ (xg x_1))] fun x_2 y=>cA CB [rdG x_2.1 (BR x_2.1.sg (xg x_2)),.str #[(123:UInt8)].toList] fun x_3 y=>eA (Oo x) [rdG x_3.1 (Al x_3.1.sg (xh x_3) x_3.2.2.2.2.2),.bool x.2.2.2.2.2,.str (BS x_2.1.sg (xg x_2)),.nil]∧∀(i:Int×Int×Bool×List Nd×List Int×Nat),clJ x.1.sg (xh x) (iG i) i.2.2.2.2.1 i.2.2.2.2.2→Aa (!(iG i).bad) (cA Cx [rdG x.1 (iG i),.str #[(125:UInt8)].toList] fun x_4 y=>Aa (!isG x_4.1.sg (xh x_4) (4:Int) x_4.2.2.2.2.2) (cA Cr [rdG x_4.1 (xh x_4)] fun x_5 y=>Aa (pkG x_5.1.sg (xg x_5) (0:Int)).blank (cA Ji [rdG x_5.1 (xg x_5),.bool (decide ((↑(List.length i.2.2.2.2.1):Int)>(0:Int))),.bool false] fun x_6 y=>∃(x_7:Int),y.1=x_7∧∃(zs:List Int),Ab [x_7]=Ab zs∧Be Bb∧AS (List.length i.2.2.2.2.1+List.length zs) (8:Nat)∧eN (Oo x) i [rdG x_6.1 (yG y.2),.bool x.2.2.2.2.2,.str (BS x.1.sg (Ai (xh x))),Ab (i.2.2.2.2.1++zs)]) (cA Ji [rdG x_5.1 (xg x_5),.bool false,.bool false] fun x_6 y=>∃(x_7:Int),y.1=x_7∧∃(zs:List Int),Ab [x_7]=Ab zs∧Be Bb∧AS (List.length i.2.2.2.2.1+List.length zs) (8:Nat)∧eN (Oo x) i [rdG x_6.1 (yG y.2),.bool x.2.2.2.2.2,.str (BS x.1.sg (Ai (xh x))),Ab (i.2.2.2.2.1++zs)])) (cA CF [rdG x_4.1 (xh x_4),.str #[(125:UInt8)].toList,.agg [.int .i64 (21:Int),.str (BS x.1.sg (Ai (xh x))),Ab i.2.2.2.2.1,.bool x.2.2.2.2.2]] fun x_5 y=>rA Lu x [.int .i64 (BB x_5.1.sg (xh x_5) x_5.2.2.2.2.2.1),rdG x_5.1 (Bs x_5.1.sg (xh x_5) x_5.2.2.2.2.2.1 {kind:=x_5.2.2.2.2.2.2.1,text:=x_5.2.2.2.2.2.2.2.1,kids:=x_5.2.2.2.2.2.2.2.2.1,blank:=x_5.2.2.2.2.2.2.2.2.2}),.top])) (cA CF [rdG x.1 (iG i),.str #[(125:UInt8)].toList,.agg [.int .i64 (21:Int),.str (BS x.1.sg (Ai (xh x))),Ab i.2.2.2.2.1,.bool x.2.2.2.2.2]] fun x_4 y=>rA Lu x [.int .i64 (BB x_4.1.sg (xh x_4) x_4.2.2.2.2.2.1),rdG x_4.1 (Bs x_4.1.sg (xh x_4) x_4.2.2.2.2.2.1 {kind:=x_4.2.2.2.2.2.2.1,text:=x_4.2.2.2.2.2.2.2.1,kids:=x_4.2.2.2.2.2.2.2.2.1,blank:=x_4.2.2.2.2.2.2.2.2.2}),.top])) (fun x=>by kernel_rfl) fun(x:ST×Int×Int×Bool×List Nd×Bool) (hx:okN x.1 (xh x))=>(by
 dsimp only[cA,eA,eN,Oo,mbs,Bg,Ab,Au,rA,rdG,Lu,CF,Cx,Ji,Et,Cr,CO,CB,Bj,sgs,Av,AB,mvL,lnL,mvE,lnE,Bw]
 obtain⟨s,p,d,b,ns,e⟩:=x;dsimp only[xg,xh] at hx ⊢
 have hx:okN s ⟨p,d,b,ns⟩:=hx
 have hp:=MI hx.2.1
 obtain⟨h1,h2⟩:=Kg hx
 (repeat' first|(with_reducible first|rfl|exact True.intro|apply AK|apply And.intro|((first|apply Az|apply AI|apply AA|apply AJ)<;>intro _))|(apply Aw<;>intro _)|apply AH|refine Ae () ?_ ?_|((first|apply AO|apply AN|apply AM|apply AL|apply AG|apply AF|apply AE|apply AD|apply AC)<;>try dsimp only)|apply Ae|(refine Prod.forall.2 ?_;intro _;try dsimp only)|(intro _;try dsimp only))
 all_goals(try dsimp only[xg,xh,yG,yS,iG] at*)
 all_goals(try simp only[CN,hp] at*)
 all_goals first
  |(show Nat;skip)
  |rfl
  |exact hx.1.1
  |exact h1
  |exact HH h1
  |exact b0z hx
  |assumption
  |exact a1B hx ‹_›
  |exact(a1B hx ‹_›).1
  |exact b0A hx ‹_›
  |exact(QR ‹_› ‹_› ‹_› ‹_› (GE ‹_›)).1
  |exact(QR ‹_› ‹_› ‹_› ‹_› (GF ‹_›)).1
  |exact a1C hx ‹_› (.inl ‹_›)
  |exact a1C hx ‹_› (.inr ‹_›)
  |(have hq:=UR hx (show clJ _ _ _ _ _ by assumption);(try simp only[AS,List.length_append,List.length_cons,List.length_nil]);omega)
  |skip
 all_goals first
  |exact(QR ‹_› ‹_› ‹_› ‹_› (GE ‹_›)).2
  |exact(QR ‹_› ‹_› ‹_› ‹_› (GF ‹_›)).2
  |skip)
def Ix:Sig:= {X:=ST×Int×Int×Bool×List Nd×Bool,args:=fun x=>[rdG x.1 (xh x),.bool x.2.2.2.2.2,.bool true],pre:=fun x=>okD x.1 (xh x)∧(xh x).bad=false,Y:=Int×Int×Int×Bool×List Nd,post:=fun x y=>Af x.1.sg (xh x) (Dp x.1.sg x.2.2.2.2.2) (yS y),res:=fun x y=> .int .i64 y.1,outs:=fun x y=>[rdG x.1 (yG y.2),.top,.top],keep:=true}
theorem b0E:Aj G Tryz.prog 102 Ix:=
 vcFun_okP [(103,0,Cr),(132,0,Hi),(133,0,Ef),(134,0,GG),(135,0,Lu),(136,0,Et),(137,0,CB),(138,139+1,Gd),(140,0,Lt),(104,0,BT)] [(45,⟨Int,Bb⟩)] false (fun x=>[]) Tryz.func102 rfl (by decide) ⟨Ha,UO,Ql,UP,b0D,Oc,Jc,Uy,a1z,GC,trivial⟩ (fun(x:ST×Int×Int×Bool×List Nd×Bool)=>True∧cA Cr [rdG x.1 (xh x)] fun x_1 y=>Aa ((pkG x_1.1.sg (xg x_1) (0:Int)).kind==(5:Int)) (cA Hi [rdG x_1.1 (xg x_1),.bool x.2.2.2.2.2] fun x_2 y=>rA Ix x [.int .i64 (Ax (xh x_2)),rdG x_2.1 (CZ x_2.1.sg (xh x_2) (19:Int) x_2.2.2.2.2.2),.top,.top]) (cA Ef [rdG x_1.1 (xg x_1),.str #[(118:UInt8),(97:UInt8),(114:UInt8)].toList] fun x_2 y=>Aa (isG x_2.1.sg (xh x_2) (1:Int) x_2.2.2.2.2.2) (cA GG [rdG x_2.1 (xh x_2),.bool x.2.2.2.2.2] fun x_3 y=>rA Ix x [.int .i64 y.1,rdG x_3.1 (yG y.2),.top,.top]) (cA Ef [rdG x_2.1 (xh x_2),.str #[(99:UInt8),(108:UInt8),(97:UInt8),(115:UInt8),(115:UInt8)].toList] fun x_3 y=>Aa (isG x_3.1.sg (xh x_3) (1:Int) x_3.2.2.2.2.2) (cA Lu [rdG x_3.1 (xh x_3),.bool x.2.2.2.2.2] fun x_4 y=>rA Ix x [.int .i64 y.1,rdG x_4.1 (yG y.2),.top,.top]) (cA Et [rdG x_3.1 (xh x_3)] fun x_4 y=>cA CB [rdG x_4.1 (BR x_4.1.sg (xg x_4)),.str #[(40:UInt8)].toList] fun x_5 y=>(True∧True)∧cA Gd [rdG x_5.1 (Al x_5.1.sg (xh x_5) x_5.2.2.2.2.2),.str #[(41:UInt8)].toList,AV.clo (Fn.yield (139:Nat)) [AV.al (0:Nat)]] fun x_6 y=>cA CB [rdG x_6.1 (yG y.2),.str #[(41:UInt8)].toList] fun x_7 y_1=>cA Lt [rdG x_7.1 (Al x_7.1.sg (xh x_7) x_7.2.2.2.2.2)] fun x_8 y_2=>∃(x_9:Int),y_2.1=x_9∧∃(zs:List Int),Ab [x_9]=Ab zs∧Be Bb∧AS (List.length y.1+List.length zs) (8:Nat)∧cA BT [rdG x_8.1 (yG y_2.2),.agg [.int .i64 (20:Int),.str (BS x_4.1.sg (xg x_4)),Ab (y.1++zs),.bool x.2.2.2.2.2]] fun x_10 y=>rA Ix x [.int .i64 (Ax (xh x_10)),rdG x_10.1 (Ag (xh x_10) {kind:=x_10.2.2.2.2.2.1,text:=x_10.2.2.2.2.2.2.1,kids:=x_10.2.2.2.2.2.2.2.1,blank:=x_10.2.2.2.2.2.2.2.2}),.top,.top])))) (fun x=>by kernel_rfl) fun(x:ST×Int×Int×Bool×List Nd×Bool) (hx:okD x.1 (xh x)∧(xh x).bad=false)=>(by
 dsimp only[cA,mbs,Bg,Ab,Au,rA,rdG,BT,Lt,Lu,Ef,Gd,Ix,Et,Cr,Hi,CB,GG,Bj,sgs,Av,AB,mvL,lnL,mvE,lnE]
 obtain⟨s,p,d,b,ns,e⟩:=x;dsimp only[xg,xh] at hx ⊢
 obtain⟨hx,hb⟩:=hx
 have hx:okD s ⟨p,d,b,ns⟩:=hx
 (repeat' first|(with_reducible first|rfl|exact True.intro|apply AK|apply And.intro|((first|apply Az|apply AI|apply AA|apply AJ)<;>intro _))|(apply Aw<;>intro _)|apply AH|refine Ae () ?_ ?_|((first|apply AO|apply AN|apply AM|apply AL|apply AG|apply AF|apply AE|apply AD|apply AC)<;>try dsimp only)|apply Ae|(refine Prod.forall.2 ?_;intro _;try dsimp only)|(intro _;try dsimp only))
 all_goals(try dsimp only[xg,xh,yG,yS,iG] at*)
 all_goals(try simp only[CN] at*)
 all_goals first
  |rfl
  |exact hx.1
  |(exfalso;assumption)
  |assumption
  |contradiction
  |exact Ok hx ‹_›
  |exact a1i hx.1.1 hx.1.2 ‹_›
  |exact a1j hx.1.2 ‹_› ‹_› ‹_›
  |exact a1k hx.1.2 ‹_› ‹_› ‹_› ‹_›
  |exact(On hx.1).1
  |exact(On hx.1).2
  |exact(QQ hx ‹_›).1.1
  |exact(QQ hx ‹_›).2
  |exact Dr hx.1 ‹_›
  |exact a1l hx.1.2 ‹_› ‹_› ‹_› (a1A hx ‹_› ‹_›)
  |(have hq2:=And.right (show Bm _ _ _ _∧_ by assumption);(try simp only[AS,List.length_append,List.length_cons,List.length_nil]);omega)
  |skip)
end Go.My
end
section
set_option linter.unusedVariables false
set_option linter.unusedSimpArgs false
namespace Go.My
open Go.Eng
def HK(t:List UInt8)(i br:Int)(l:List Sg)(n:Nat):Prop:=
 (0≤i∧i≤t.length)∧(0≤br∧br≤i)∧(l.length:Int)≤i∧(t.length:Int)-i<n∧EH t (t.length+1) 0 0=(EH t n i br).map (l++ ·)
theorem b0F{t:List UInt8}:HK t 0 0 [] (t.length+1):=by
 refine⟨by omega,by omega,by simp,by simp;omega,?_⟩
 cases EH t (t.length+1) 0 0<;>simp
theorem QS{t:List UInt8}{n:Nat}{i br:Int}{c:UInt8}(hc:t[i.toNat]? =some c):EH t (n+1) i br=if c.toNat=32 then EH t n (i+1) br
 else if c.toNat=10 then EH t n (i+1) (br+1)
 else if(Bc (t.drop i.toNat)).ok then(EH t n (i+(Bc (t.drop i.toNat)).size) 0).map (⟨(Bc (t.drop i.toNat)).kind,(Bc (t.drop i.toNat)).text,i,decide (br>1)⟩:: ·)
 else none:=by rw[EH,hc]
theorem QT{t:List UInt8}{i br:Int}{l:List Sg}{n:Nat}(h:HK t i br l n)(hi:i<t.length):∃m,n=m+1:=by
 obtain⟨h1,h2,h3,h4,h5⟩:=h
 match n with
 |0=>omega
 |m+1=>exact⟨m,rfl⟩
theorem b0G{t:List UInt8}{i br:Int}{l:List Sg}{n:Nat}{c:UInt8}(hc:t[i.toNat]? =some c)(h:HK t i br l (n+1))(hi:i<t.length)(h32:c.toNat=32):HK t (i+1) br l n:=by
 obtain⟨h1,h2,h3,h4,h5⟩:=h
 refine⟨by omega,by omega,by omega,by omega,?_⟩
 rw[h5,QS hc,if_pos h32]
theorem b0H{t:List UInt8}{i br:Int}{l:List Sg}{n:Nat}{c:UInt8}(hc:t[i.toNat]? =some c)(h:HK t i br l (n+1))(hi:i<t.length)(h32:c.toNat=10):HK t (i+1) (br+1) l n:=by
 obtain⟨h1,h2,h3,h4,h5⟩:=h
 refine⟨by omega,by omega,by omega,by omega,?_⟩
 rw[h5,QS hc,if_neg (by omega),if_pos h32]
theorem b0I{t:List UInt8}{i br:Int}{l:List Sg}{n:Nat}{c:UInt8}(hc:t[i.toNat]? =some c)(h:HK t i br l (n+1))(hi:i<t.length)(h32:c.toNat≠32)(h10:c.toNat≠10)
 (hok:(Bc (t.drop i.toNat)).ok=true) (hz:1≤(Bc (t.drop i.toNat)).size∧(Bc (t.drop i.toNat)).size≤t.length-i):
 HK t (i+(Bc (t.drop i.toNat)).size) 0 (l++[⟨(Bc (t.drop i.toNat)).kind,(Bc (t.drop i.toNat)).text,i,decide (br>1)⟩]) n:=by
 obtain⟨h1,h2,h3,h4,h5⟩:=h
 refine⟨by omega,by omega,by simp;omega,by omega,?_⟩
 rw[h5,QS hc,if_neg h32,if_neg h10,if_pos hok]
 cases EH t n (i+(Bc (t.drop i.toNat)).size) 0<;>simp
theorem b0J{t:List UInt8}{i br:Int}{l:List Sg}{n:Nat}{c:UInt8}(hc:t[i.toNat]? =some c)(h:HK t i br l (n+1))(hi:i<t.length)(h32:c.toNat≠32)(h10:c.toNat≠10)
 (hok:(Bc (t.drop i.toNat)).ok=false) (hl:¬3000<t.length):Br t=none:=by
 rw[Br,if_neg hl,h.2.2.2.2,QS hc,if_neg h32,if_neg h10,if_neg (by simp [hok])];rfl
theorem b0K{t:List UInt8}{i br:Int}{l:List Sg}{n:Nat}(h:HK t i br l n)(hi:¬i<t.length)(hl:¬3000<t.length):Br t=some l:=by
 obtain⟨h1,h2,h3,h4,h5⟩:=h
 rw[Br,if_neg hl,h5]
 match n with
 |0=>omega
 |n+1=>rw[EH,List.getElem?_eq_none (by omega)];simp
theorem b0L{t:List UInt8}(h:3000<t.length):Br t=none:=if_pos h
end Go.My
end
section
set_option linter.unusedVariables false
set_option linter.unusedSimpArgs false
namespace Go.My
open Go.Eng Go.Proofs
variable {G:GInv}
theorem US{p:UInt8→Bool}{b:UInt8}{s:List UInt8}(h:p b=true):1≤((b::s).takeWhile p).length:=by
 rw[List.takeWhile_cons,if_pos h];simp
theorem QU{p:UInt8→Bool}{s:List UInt8}:(s.takeWhile p).length≤s.length:=(List.takeWhile_prefix p).length_le
theorem b0M{s:List UInt8}:(CI s).length≤s.length:=by
 unfold CI
 have:=(List.dropWhile_suffix (fun c:UInt8=>decide (c.toNat=32)) (l:=s.reverse)).length_le
 simpa using this
theorem a1E{s:List UInt8}(h:(Bc s).ok=true):1≤(Bc s).size∧(Bc s).size≤s.length∧(Bc s).text.length≤s.length:=by
 match s with
 |[]=>cases h
 |b::s=>
  unfold Bc at h ⊢
  simp only at h ⊢
  split
  ·rename_i hb
   have:=US (s:=s) (p:=BP) (b:=b) (by simp [BP,hb]);have:=QU (p:=BP) (s:=b::s);simp only;omega
  ·rename_i hb
   rw[if_neg hb] at h
   split
   ·rename_i hb2
    have:=US (s:=s) (p:=Bt) (b:=b) hb2;have:=QU (p:=Bt) (s:=b::s);simp only;omega
   ·rename_i hb2
    rw[if_neg hb2] at h
    split
    ·rename_i hb3
     rw[if_pos hb3] at h
     simp only at h ⊢
     unfold Dx at h ⊢
     split at h
     ·cases h
     ·simp only[List.length_take,List.length_cons] at*;omega
    ·rename_i hb3
     rw[if_neg hb3] at h
     split
     ·rename_i hb4
      have hb5:b=47:=by
       cases s with
       |nil=>simp at hb4
       |cons c s=>simp at hb4;exact hb4.1
      have h1:=US (s:=s) (p:=Cg) (b:=b) (by subst hb5;rfl);have h2:=QU (p:=Cg) (s:=b::s);have h3:= @b0M ((b::s).takeWhile Cg)
      simp only;omega
     ·rename_i hb4
      rw[if_neg hb4] at h
      split
      ·simp only[List.length_take,List.length_cons];omega
      ·rename_i hb5
       rw[if_neg hb5] at h
       split
       ·simp only[List.length_take,List.length_cons];omega
       ·rename_i hb6
        rw[if_neg hb6] at h
        cases h
def sgJ(t:List UInt8)(i br:Int)(l:List Sg)(n:Nat):Prop:=(HK t i br l n∧¬3000<t.length)∧∀e∈l,e.text.length≤3000
theorem a1F{t:List UInt8}(h:¬(t.length:Int)>3000):sgJ t 0 0 [] (t.length+1):=⟨⟨b0F,by omega⟩,by simp⟩
theorem Jj{t:List UInt8}{i br:Int}{l:List Sg}{n:Nat}(h:sgJ t i br l n):((0≤i∧i≤t.length)∧(0≤br∧br≤i)∧(l.length:Int)≤i)∧t.length≤3000:=by
 have:=h.1.1;have:=h.1.2;exact⟨⟨h.1.1.1,h.1.1.2.1,h.1.1.2.2.1⟩,by omega⟩
theorem QV{t:List UInt8}{i br:Int}{l:List Sg}{n:Nat}{c:UInt8}(hc:t[i.toNat]? =some c)(h:sgJ t i br l n)(hi:i<t.length)(h32:c.toNat=32):sgJ t (i+1) br l (n-1)∧n-1<n:=by
 obtain⟨m,rfl⟩:=QT h.1.1 hi
 exact⟨⟨⟨b0G hc h.1.1 hi h32,h.1.2⟩,h.2⟩,by omega⟩
theorem QW{t:List UInt8}{i br:Int}{l:List Sg}{n:Nat}{c:UInt8}(hc:t[i.toNat]? =some c)(h:sgJ t i br l n)(hi:i<t.length)(h32:c.toNat=10):sgJ t (i+1) (br+1) l (n-1)∧n-1<n:=by
 obtain⟨m,rfl⟩:=QT h.1.1 hi
 exact⟨⟨⟨b0H hc h.1.1 hi h32,h.1.2⟩,h.2⟩,by omega⟩
theorem UT{t:List UInt8}{i br:Int}{l:List Sg}{n:Nat}(h:sgJ t i br l n)(hok:(Bc (t.drop i.toNat)).ok=true):1≤(Bc (t.drop i.toNat)).size∧(Bc (t.drop i.toNat)).size≤t.length-i∧(Bc (t.drop i.toNat)).text.length≤3000:=by
 have a:=a1E hok
 have b:=(Jj h)
 simp only[List.length_drop] at a
 omega
theorem UU{t:List UInt8}{i br:Int}{l:List Sg}{n:Nat}{c:UInt8}(hc:t[i.toNat]? =some c)(h:sgJ t i br l n)(hi:i<t.length)(h32:c.toNat≠32)(h10:c.toNat≠10)
 (hok:(Bc (t.drop i.toNat)).ok=true):
 sgJ t (i+(Bc (t.drop i.toNat)).size) 0 (l++[⟨(Bc (t.drop i.toNat)).kind,(Bc (t.drop i.toNat)).text,i,decide (br>1)⟩]) (n-1)∧n-1<n:=by
 obtain⟨m,rfl⟩:=QT h.1.1 hi
 have hz:=UT h hok
 refine⟨⟨⟨b0I hc h.1.1 hi h32 h10 hok ⟨hz.1,hz.2.1⟩,h.1.2⟩,?_⟩,by omega⟩
 intro e he
 rcases List.mem_append.1 he with he|he
 ·exact h.2 e he
 ·simp at he;subst he;exact hz.2.2
theorem UV{t:List UInt8}{i br:Int}{l:List Sg}{n:Nat}{c:UInt8}(hc:t[i.toNat]? =some c)(h:sgJ t i br l n)(hi:i<t.length)(h32:c.toNat≠32)(h10:c.toNat≠10)
 (hok:(Bc (t.drop i.toNat)).ok=false):Br t=none:=by
 obtain⟨m,rfl⟩:=QT h.1.1 hi
 exact b0J hc h.1.1 hi h32 h10 hok h.1.2
def sgQ(t:List UInt8)(l:List Sg):Prop:=(Br t=some l∧sgB l)∨(Br t=none∧l=[])
theorem QX{t:List UInt8}{i br:Int}{l:List Sg}{n:Nat}(h:sgJ t i br l n)(hi:¬i<t.length):(Br t).isSome=true∧sgQ t l:=by
 have a:=b0K h.1.1 hi h.1.2
 have b:=Jj h
 exact⟨by rw[a];rfl,.inl ⟨a,by omega,h.2⟩⟩
theorem Ki{t:List UInt8}(h:Br t=none):(Br t).isSome=false∧sgQ t []:=⟨by rw[h];rfl,.inr ⟨h,rfl⟩⟩
theorem QY{t:List UInt8}(h:(t.length:Int)>3000):Br t=none:=b0L (by omega)
theorem a1G{T0 T1 T2 T3:Type}{p q:ST×T0×T1×T2×T3→Prop}(a:List Sg)(b:Int)(c:List (Int×Int))(v0:T0)(v1:T1)(v2:T2)(v3:T3)(h2:q (⟨a,b,c⟩,v0,v1,v2,v3))(h1:p (⟨a,b,c⟩,v0,v1,v2,v3)):∃x,p x∧q x:=⟨_,h1,h2⟩
theorem b0N{T0 T1 T2 T3 T4:Type}{p q:ST×T0×T1×T2×T3×T4→Prop}(a:List Sg)(b:Int)(c:List (Int×Int))(v0:T0)(v1:T1)(v2:T2)(v3:T3)(v4:T4)(h2:q (⟨a,b,c⟩,v0,v1,v2,v3,v4))(h1:p (⟨a,b,c⟩,v0,v1,v2,v3,v4)):∃x,p x∧q x:=⟨_,h1,h2⟩
theorem b0O{T0 T1 T2 T3 T4 T5:Type}{p q:ST×T0×T1×T2×T3×T4×T5→Prop}(a:List Sg)(b:Int)(c:List (Int×Int))(v0:T0)(v1:T1)(v2:T2)(v3:T3)(v4:T4)(v5:T5)(h2:q (⟨a,b,c⟩,v0,v1,v2,v3,v4,v5))(h1:p (⟨a,b,c⟩,v0,v1,v2,v3,v4,v5)):∃x,p x∧q x:=⟨_,h1,h2⟩
theorem b0P{T0 T1 T2 T3 T4 T5 T6:Type}{p q:ST×T0×T1×T2×T3×T4×T5×T6→Prop}(a:List Sg)(b:Int)(c:List (Int×Int))(v0:T0)(v1:T1)(v2:T2)(v3:T3)(v4:T4)(v5:T5)(v6:T6)(h2:q (⟨a,b,c⟩,v0,v1,v2,v3,v4,v5,v6))(h1:p (⟨a,b,c⟩,v0,v1,v2,v3,v4,v5,v6)):∃x,p x∧q x:=⟨_,h1,h2⟩
theorem b0Q{T0 T1 T2 T3 T4 T5 T6 T7:Type}{p q:ST×T0×T1×T2×T3×T4×T5×T6×T7→Prop}(a:List Sg)(b:Int)(c:List (Int×Int))(v0:T0)(v1:T1)(v2:T2)(v3:T3)(v4:T4)(v5:T5)(v6:T6)(v7:T7)(h2:q (⟨a,b,c⟩,v0,v1,v2,v3,v4,v5,v6,v7))(h1:p (⟨a,b,c⟩,v0,v1,v2,v3,v4,v5,v6,v7)):∃x,p x∧q x:=⟨_,h1,h2⟩
abbrev iF {α β:Type} (i:Int×Int×Bool×List Nd×α×β):Gs:=⟨i.1,i.2.1,i.2.2.1,i.2.2.2.1⟩
theorem a1H{sg:List Sg}:Dv sg ⟨0,0,false,[]⟩ [] [] (sg.length+1):=b0m
theorem UW{sg:List Sg}{y:Gs}{ks:List Int}{ms:List (Int×Int)}{N:Nat}{b:Bool}{z:Int×Gs}(h:Dv sg y ks ms N)(hb:y.bad=false)(hl:y.pos<sg.length)(hz:Af sg y (Dp sg b) z)(e:b=((pkG sg y 0).blank&&decide (0<(ks.length:Int)))):
 Dv sg z.2 (ks++[z.1]) (ms++[(y.pos,z.2.pos)]) (N-1)∧N-1<N:=by
 subst e
 exact He (b0n h hb hl (z:=z) (by
  have:decide (0<ks.length)=decide (0<(ks.length:Int)):=by simp
  rw[this];exact hz))
theorem UX{s:ST}{y:Gs}{ks:List Int}{ms:List (Int×Int)}{N:Nat}(hs:sgB s.sg)(h:Dv s.sg y ks ms N):okD s y:=⟨⟨hs,h.1⟩,by have:=h.2.1;omega⟩
theorem UY{sg:List Sg}{y:Gs}{ks:List Int}{ms:List (Int×Int)}{N:Nat}(hs:sgB sg)(h:Dv sg y ks ms N):ks.length≤3001∧ms.length=ks.length∧0≤y.pos∧y.pos≤sg.length:=by
 have h1:=h.1.1;have h2:=hs.1;have h3:=h.2.2.2.2.1;have h4:=h.2.2.2.2.2.2
 omega
def flJ(sg:List Sg)(y:Gs)(ks:List Int)(ms:List (Int×Int))(N M:Nat):Prop:=Dv sg y ks ms N∧N<M
theorem a1I{sg:List Sg}{y:Gs}{ks:List Int}{ms:List (Int×Int)}{N M:Nat}(h:Dv sg y ks ms N∧N<M):flJ sg y ks ms N M:=h
def Oq(x:List Sg×Int):LS:= {
 ι:=Int×Int×Bool×List Nd×List Int×List (Int×Int)×Nat,inv:=fun i=>Dv x.1 (iF i) i.2.2.2.2.1 i.2.2.2.2.2.1 i.2.2.2.2.2.2,regs:=fun i=>[(0,rdG ⟨x.1,x.2,i.2.2.2.2.2.1⟩ (iF i)),(2,Ab i.2.2.2.2.1)],als:=[],meas:=fun i=>i.2.2.2.2.2.2,
 sub:=fun j=>[(100005,{ι:=Int×Int×Bool×List Nd×List Int×List (Int×Int)×Nat,inv:=fun i=>flJ x.1 (iF i) i.2.2.2.2.1 i.2.2.2.2.2.1 i.2.2.2.2.2.2 j.2.2.2.2.2.2,regs:=fun i=>[(0,rdG ⟨x.1,x.2,i.2.2.2.2.2.1⟩ (iF i)),(2,Ab i.2.2.2.2.1)],als:=[],meas:=fun _=>0})]}
attribute [local irreducible] pE Bl CQ fnR Af Bm gsOk Al Bs Ag BZ CZ Ah CA Dk Ax BB pkG isG nmG BR BS Dn Ge Dj Cb BH stR CL EI EY CT Dp Fl Bz Dv sgJ
def Lv:Sig:= {X:=List Sg×Int,args:=fun x=>[rdG ⟨x.1,x.2,[]⟩ ⟨0,0,false,[]⟩],pre:=fun x=>sgB x.1,Y:=Int×Int×Bool×List Nd×List Int×List (Int×Int)×Nat,post:=fun x y=>Dv x.1 (iF y) y.2.2.2.2.1 y.2.2.2.2.2.1 y.2.2.2.2.2.2∧((iF y).bad=true∨¬(iF y).pos<x.1.length),res:=fun x y=> .tup [],outs:=fun x y=>[rdG ⟨x.1,x.2,y.2.2.2.2.2.1⟩ (BM x.1 (iF y) y.2.2.2.2.1)],keep:=true}
theorem b0R:Aj G Tryz.prog 66 Lv:=
 vcFun_okP [(103,0,Cr),(102,0,Ix),(104,0,BT)] [(45,⟨Int,Bb⟩),(62,⟨Int×Int,fun p=>[.int .i64 p.1,.int .i64 p.2]⟩)] false (fun x=>[(1,Oq x)]) Tryz.func66 rfl (by decide) ⟨Ha,b0E,GC,trivial⟩ (fun(x:List Sg×Int)=>True∧eA (Oq x) [.box 0 [sgs x.1,.int .i64 x.2,.int .i64 (0:Int),.int .i64 (0:Int),.bool false,Au [],mbs []],.nil]∧∀(i:Int×Int×Bool×List Nd×List Int×List (Int×Int)×Nat),Dv x.1 (iF i) i.2.2.2.2.1 i.2.2.2.2.2.1 i.2.2.2.2.2.2→true=true∧true=true∧Aa (!(iF i).bad) (Aa (decide ((iF i).pos<(↑(List.length x.1):Int))) (cA Cr [.box 0 [sgs x.1,.int .i64 x.2,.int .i64 (iF i).pos,.int .i64 (iF i).deep,.bool (iF i).bad,Au (iF i).nodes,mbs i.2.2.2.2.2.1]] fun x_1 y=>Aa (pkG x_1.1.sg (xg x_1) (0:Int)).blank (cA Ix [rdG x_1.1 (xg x_1),.bool (decide ((↑(List.length i.2.2.2.2.1):Int)>(0:Int))),.bool true] fun x_2 y=>∃(x_3:Int),y.1=x_3∧∃(zs:List Int),Ab [x_3]=Ab zs∧Be Bb∧AS (List.length i.2.2.2.2.1+List.length zs) (8:Nat)∧true=true∧((∃(x_4:Int×Int),(iF i).pos=x_4.1∧(yG y.2).pos=x_4.2∧∃(zs_1:List (Int×Int)),mbs [x_4]=mbs zs_1∧(Be fun(p:Int×Int)=>[.int .i64 p.1,.int .i64 p.2])∧AS (List.length x_2.1.ms+List.length zs_1) (16:Nat)∧true=true∧∃(i_1:Int×Int×Bool×List Nd×List Int×List (Int×Int)×Nat),flJ x.1 (iF i_1) i_1.2.2.2.2.1 i_1.2.2.2.2.2.1 i_1.2.2.2.2.2.2 i.2.2.2.2.2.2∧(sgs x_2.1.sg=sgs x.1∧x_2.1.z=x.2∧(yG y.2).pos=(iF i_1).pos∧(yG y.2).deep=(iF i_1).deep∧(yG y.2).bad=(iF i_1).bad∧Au (yG y.2).nodes=Au (iF i_1).nodes∧mbs (x_2.1.ms++zs_1)=mbs i_1.2.2.2.2.2.1∧Ab (i.2.2.2.2.1++zs)=Ab i_1.2.2.2.2.1∧True)∧True)∧(∃(x_4:Int×Int),(iF i).pos=x_4.1∧(yG y.2).pos=x_4.2∧∃(zs_1:List (Int×Int)),mbs [x_4]=mbs zs_1∧(Be fun(p:Int×Int)=>[.int .i64 p.1,.int .i64 p.2])∧AS (List.length x_2.1.ms+List.length zs_1) (16:Nat)∧true=true∧∃(i_1:Int×Int×Bool×List Nd×List Int×List (Int×Int)×Nat),flJ x.1 (iF i_1) i_1.2.2.2.2.1 i_1.2.2.2.2.2.1 i_1.2.2.2.2.2.2 i.2.2.2.2.2.2∧(sgs x_2.1.sg=sgs x.1∧x_2.1.z=x.2∧(yG y.2).pos=(iF i_1).pos∧(yG y.2).deep=(iF i_1).deep∧(yG y.2).bad=(iF i_1).bad∧Au (yG y.2).nodes=Au (iF i_1).nodes∧mbs (x_2.1.ms++zs_1)=mbs i_1.2.2.2.2.2.1∧Ab (i.2.2.2.2.1++zs)=Ab i_1.2.2.2.2.1∧True)∧True)∧(∃(x_4:Int×Int),(iF i).pos=x_4.1∧(yG y.2).pos=x_4.2∧∃(zs_1:List (Int×Int)),mbs [x_4]=mbs zs_1∧(Be fun(p:Int×Int)=>[.int .i64 p.1,.int .i64 p.2])∧AS (List.length x_2.1.ms+List.length zs_1) (16:Nat)∧true=true∧∃(i_1:Int×Int×Bool×List Nd×List Int×List (Int×Int)×Nat),flJ x.1 (iF i_1) i_1.2.2.2.2.1 i_1.2.2.2.2.2.1 i_1.2.2.2.2.2.2 i.2.2.2.2.2.2∧(sgs x_2.1.sg=sgs x.1∧x_2.1.z=x.2∧(yG y.2).pos=(iF i_1).pos∧(yG y.2).deep=(iF i_1).deep∧(yG y.2).bad=(iF i_1).bad∧Au (yG y.2).nodes=Au (iF i_1).nodes∧mbs (x_2.1.ms++zs_1)=mbs i_1.2.2.2.2.2.1∧Ab (i.2.2.2.2.1++zs)=Ab i_1.2.2.2.2.1∧True)∧True)∧∃(x_4:Int×Int),(iF i).pos=x_4.1∧(yG y.2).pos=x_4.2∧∃(zs_1:List (Int×Int)),mbs [x_4]=mbs zs_1∧(Be fun(p:Int×Int)=>[.int .i64 p.1,.int .i64 p.2])∧AS (List.length x_2.1.ms+List.length zs_1) (16:Nat)∧true=true∧∃(i_1:Int×Int×Bool×List Nd×List Int×List (Int×Int)×Nat),flJ x.1 (iF i_1) i_1.2.2.2.2.1 i_1.2.2.2.2.2.1 i_1.2.2.2.2.2.2 i.2.2.2.2.2.2∧(sgs x_2.1.sg=sgs x.1∧x_2.1.z=x.2∧(yG y.2).pos=(iF i_1).pos∧(yG y.2).deep=(iF i_1).deep∧(yG y.2).bad=(iF i_1).bad∧Au (yG y.2).nodes=Au (iF i_1).nodes∧mbs (x_2.1.ms++zs_1)=mbs i_1.2.2.2.2.2.1∧Ab (i.2.2.2.2.1++zs)=Ab i_1.2.2.2.2.1∧True)∧True)∧∀(i_1:Int×Int×Bool×List Nd×List Int×List (Int×Int)×Nat),flJ x.1 (iF i_1) i_1.2.2.2.2.1 i_1.2.2.2.2.2.1 i_1.2.2.2.2.2.2 i.2.2.2.2.2.2→eN (Oq x) i [.box 0 [sgs x.1,.int .i64 x.2,.int .i64 (iF i_1).pos,.int .i64 (iF i_1).deep,.bool (iF i_1).bad,Au (iF i_1).nodes,mbs i_1.2.2.2.2.2.1],Ab i_1.2.2.2.2.1]) (cA Ix [rdG x_1.1 (xg x_1),.bool false,.bool true] fun x_2 y=>∃(x_3:Int),y.1=x_3∧∃(zs:List Int),Ab [x_3]=Ab zs∧Be Bb∧AS (List.length i.2.2.2.2.1+List.length zs) (8:Nat)∧true=true∧((∃(x_4:Int×Int),(iF i).pos=x_4.1∧(yG y.2).pos=x_4.2∧∃(zs_1:List (Int×Int)),mbs [x_4]=mbs zs_1∧(Be fun(p:Int×Int)=>[.int .i64 p.1,.int .i64 p.2])∧AS (List.length x_2.1.ms+List.length zs_1) (16:Nat)∧true=true∧∃(i_1:Int×Int×Bool×List Nd×List Int×List (Int×Int)×Nat),flJ x.1 (iF i_1) i_1.2.2.2.2.1 i_1.2.2.2.2.2.1 i_1.2.2.2.2.2.2 i.2.2.2.2.2.2∧(sgs x_2.1.sg=sgs x.1∧x_2.1.z=x.2∧(yG y.2).pos=(iF i_1).pos∧(yG y.2).deep=(iF i_1).deep∧(yG y.2).bad=(iF i_1).bad∧Au (yG y.2).nodes=Au (iF i_1).nodes∧mbs (x_2.1.ms++zs_1)=mbs i_1.2.2.2.2.2.1∧Ab (i.2.2.2.2.1++zs)=Ab i_1.2.2.2.2.1∧True)∧True)∧(∃(x_4:Int×Int),(iF i).pos=x_4.1∧(yG y.2).pos=x_4.2∧∃(zs_1:List (Int×Int)),mbs [x_4]=mbs zs_1∧(Be fun(p:Int×Int)=>[.int .i64 p.1,.int .i64 p.2])∧AS (List.length x_2.1.ms+List.length zs_1) (16:Nat)∧true=true∧∃(i_1:Int×Int×Bool×List Nd×List Int×List (Int×Int)×Nat),flJ x.1 (iF i_1) i_1.2.2.2.2.1 i_1.2.2.2.2.2.1 i_1.2.2.2.2.2.2 i.2.2.2.2.2.2∧(sgs x_2.1.sg=sgs x.1∧x_2.1.z=x.2∧(yG y.2).pos=(iF i_1).pos∧(yG y.2).deep=(iF i_1).deep∧(yG y.2).bad=(iF i_1).bad∧Au (yG y.2).nodes=Au (iF i_1).nodes∧mbs (x_2.1.ms++zs_1)=mbs i_1.2.2.2.2.2.1∧Ab (i.2.2.2.2.1++zs)=Ab i_1.2.2.2.2.1∧True)∧True)∧(∃(x_4:Int×Int),(iF i).pos=x_4.1∧(yG y.2).pos=x_4.2∧∃(zs_1:List (Int×Int)),mbs [x_4]=mbs zs_1∧(Be fun(p:Int×Int)=>[.int .i64 p.1,.int .i64 p.2])∧AS (List.length x_2.1.ms+List.length zs_1) (16:Nat)∧true=true∧∃(i_1:Int×Int×Bool×List Nd×List Int×List (Int×Int)×Nat),flJ x.1 (iF i_1) i_1.2.2.2.2.1 i_1.2.2.2.2.2.1 i_1.2.2.2.2.2.2 i.2.2.2.2.2.2∧(sgs x_2.1.sg=sgs x.1∧x_2.1.z=x.2∧(yG y.2).pos=(iF i_1).pos∧(yG y.2).deep=(iF i_1).deep∧(yG y.2).bad=(iF i_1).bad∧Au (yG y.2).nodes=Au (iF i_1).nodes∧mbs (x_2.1.ms++zs_1)=mbs i_1.2.2.2.2.2.1∧Ab (i.2.2.2.2.1++zs)=Ab i_1.2.2.2.2.1∧True)∧True)∧∃(x_4:Int×Int),(iF i).pos=x_4.1∧(yG y.2).pos=x_4.2∧∃(zs_1:List (Int×Int)),mbs [x_4]=mbs zs_1∧(Be fun(p:Int×Int)=>[.int .i64 p.1,.int .i64 p.2])∧AS (List.length x_2.1.ms+List.length zs_1) (16:Nat)∧true=true∧∃(i_1:Int×Int×Bool×List Nd×List Int×List (Int×Int)×Nat),flJ x.1 (iF i_1) i_1.2.2.2.2.1 i_1.2.2.2.2.2.1 i_1.2.2.2.2.2.2 i.2.2.2.2.2.2∧(sgs x_2.1.sg=sgs x.1∧x_2.1.z=x.2∧(yG y.2).pos=(iF i_1).pos∧(yG y.2).deep=(iF i_1).deep∧(yG y.2).bad=(iF i_1).bad∧Au (yG y.2).nodes=Au (iF i_1).nodes∧mbs (x_2.1.ms++zs_1)=mbs i_1.2.2.2.2.2.1∧Ab (i.2.2.2.2.1++zs)=Ab i_1.2.2.2.2.1∧True)∧True)∧∀(i_1:Int×Int×Bool×List Nd×List Int×List (Int×Int)×Nat),flJ x.1 (iF i_1) i_1.2.2.2.2.1 i_1.2.2.2.2.2.1 i_1.2.2.2.2.2.2 i.2.2.2.2.2.2→eN (Oq x) i [.box 0 [sgs x.1,.int .i64 x.2,.int .i64 (iF i_1).pos,.int .i64 (iF i_1).deep,.bool (iF i_1).bad,Au (iF i_1).nodes,mbs i_1.2.2.2.2.2.1],Ab i_1.2.2.2.2.1])) (cA BT [.box 0 [sgs x.1,.int .i64 x.2,.int .i64 (iF i).pos,.int .i64 (iF i).deep,.bool (iF i).bad,Au (iF i).nodes,mbs i.2.2.2.2.2.1],.agg [.int .i64 (22:Int),.str #[].toList,Ab i.2.2.2.2.1,.bool false]] fun x_1 y=>rA Lv x [.tup [],rdG x_1.1 (Ag (xh x_1) {kind:=x_1.2.2.2.2.2.1,text:=x_1.2.2.2.2.2.2.1,kids:=x_1.2.2.2.2.2.2.2.1,blank:=x_1.2.2.2.2.2.2.2.2})])) (cA BT [.box 0 [sgs x.1,.int .i64 x.2,.int .i64 (iF i).pos,.int .i64 (iF i).deep,.bool (iF i).bad,Au (iF i).nodes,mbs i.2.2.2.2.2.1],.agg [.int .i64 (22:Int),.str #[].toList,Ab i.2.2.2.2.1,.bool false]] fun x_1 y=>rA Lv x [.tup [],rdG x_1.1 (Ag (xh x_1) {kind:=x_1.2.2.2.2.2.1,text:=x_1.2.2.2.2.2.2.1,kids:=x_1.2.2.2.2.2.2.2.1,blank:=x_1.2.2.2.2.2.2.2.2})])) (fun x=>by kernel_rfl) fun(x:List Sg×Int) (hx:sgB x.1)=>(by
 dsimp only[cA,eA,eN,Oq,mbs,Bg,Ab,Au,rA,rdG,BT,Lv,Ix,Cr,Bj,sgs,Av,AB,mvL,lnL,mvE,lnE,Bw]
 obtain⟨sg,z⟩:=x;dsimp only[iF] at hx ⊢
 have hx:sgB sg:=hx
 (repeat' first|(apply b0Q<;>try dsimp only)|(apply b0P<;>try dsimp only)|(apply b0O<;>try dsimp only)|(apply b0N<;>try dsimp only)|(apply a1G<;>try dsimp only)|(with_reducible first|rfl|exact True.intro|apply AK|apply And.intro|((first|apply Az|apply AI|apply AA|apply AJ)<;>intro _))|(apply Aw<;>intro _)|apply AH|refine Ae () ?_ ?_|((first|apply AO|apply AN|apply AM|apply AL|apply AG|apply AF|apply AE|apply AD|apply AC)<;>try dsimp only)|apply Ae|(refine Prod.forall.2 ?_;intro _;try dsimp only)|(intro _;try dsimp only))
 all_goals(try dsimp only[xg,xh,yG,yS,iG,iF] at*)
 all_goals(try simp only[CN] at*)
 all_goals first
  |(show Nat;skip)
  |rfl
  |exact hx
  |exact a1H
  |assumption
  |exact UX (s:=⟨sg,z,_⟩) hx ‹_›
  |exact(UX (s:=⟨sg,z,_⟩) hx ‹_›).1
  |exact a1I (UW ‹_› ‹_› (by omega) ‹_› (GE ‹_›))
  |exact a1I (UW ‹_› ‹_› (by omega) ‹_› (GF ‹_›))
  |exact(show flJ _ _ _ _ _ _ by assumption).1
  |exact(show flJ _ _ _ _ _ _ by assumption).2
  |exact .inl ‹_›
  |exact .inr ‹_›
  |(have hq:=UY hx (show Dv _ _ _ _ _ by assumption);(try simp only[AS,List.length_append,List.length_cons,List.length_nil]);omega)
  |skip)
def Kj:Sig:= {X:=List UInt8,args:=fun x=>[.str x],pre:=fun x=>x.length<2^62,Y:=List Sg×Int,post:=fun x y=>sgQ x y.1,res:=fun x y=> .tup [sgs y.1,.int .i64 y.2,.bool (Br x).isSome],outs:=fun x y=>[.top],keep:=true}
def MJ(x:List UInt8):LS:= {ι:=Int×Int×List Sg×Nat,inv:=fun i=>sgJ x i.1 i.2.1 i.2.2.1 i.2.2.2,regs:=fun i=>[(0,.str x),(5,As i.2.2.1),(6,.int .i64 i.2.1),(7,.int .i64 i.1)],als:=[],meas:=fun i=>i.2.2.2}
theorem b0S:Aj G Tryz.prog 24 Kj:=
 vcFun_okP [(50,0,FW)] [(36,⟨Sg,sgA⟩)] false (fun x=>[(6,MJ x)]) Tryz.func24 rfl (by decide) ⟨Yr,trivial⟩ (fun(x:List UInt8)=>True∧Aa (decide ((↑(List.length x):Int)>(3000:Int))) (rA Kj x [.tup [.nil,.int .i64 (3000:Int),.bool false],.top]) (eA (MJ x) [.str x,.nil,.int .i64 (0:Int),.int .i64 (0:Int)]∧∀(i:Int×Int×List Sg×Nat),sgJ x i.1 i.2.1 i.2.2.1 i.2.2.2→Aa (decide (i.1<(↑(List.length x):Int))) (((0:Int)≤i.1∧i.1<(↑(List.length x):Int))∧∀(c:UInt8),x[Int.toNat i.1]? =some c→Aa ((↑(UInt8.toNat c):Int)==(32:Int)) (inR IntKind.i64 (i.1+(1:Int))∧eN (MJ x) i [.str x,As i.2.2.1,.int .i64 i.2.1,.int .i64 (i.1+(1:Int))]) (Aa ((↑(UInt8.toNat c):Int)==(10:Int)) (inR IntKind.i64 (i.1+(1:Int))∧inR IntKind.i64 (i.2.1+(1:Int))∧eN (MJ x) i [.str x,As i.2.2.1,.int .i64 (i.2.1+(1:Int)),.int .i64 (i.1+(1:Int))]) (((0:Int)≤i.1∧i.1≤(↑(List.length x):Int)∧(↑(List.length x):Int)≤(↑(List.length x):Int))∧cA FW [.str (List.drop (Int.toNat i.1) x)] fun x_1 y=>Aa (!(Bc x_1).ok) (rA Kj x [.tup [.nil,.int .i64 i.1,.bool false],.top]) (∃(x_2:Sg),(Bc x_1).kind=x_2.kind∧(Bc x_1).text=x_2.text∧i.1=x_2.pos∧decide (i.2.1>(1:Int))=x_2.blank∧∃(zs:List Sg),As [x_2]=As zs∧Be sgA∧AS (List.length i.2.2.1+List.length zs) (40:Nat)∧inR IntKind.i64 (i.1+(Bc x_1).size)∧eN (MJ x) i [.str x,As (i.2.2.1++zs),.int .i64 (0:Int),.int .i64 (i.1+(Bc x_1).size)])))) (rA Kj x [.tup [As i.2.2.1,.int .i64 (0:Int),.bool true],.top]))) (fun x=>by kernel_rfl) fun(x:List UInt8) (hx:x.length<2^62)=>(by
 dsimp only[cA,eA,eN,MJ,As,rA,Kj,FW,Bj,sgs,Av,AB,mvL,lnL,mvE,lnE,Bw]
 have hx:x.length<2^62:=hx
 (repeat' first|(with_reducible first|rfl|exact True.intro|apply AK|apply And.intro|((first|apply Az|apply AI|apply AA|apply AJ)<;>intro _))|(apply Aw<;>intro _)|apply AH|refine Ae () ?_ ?_|((first|apply AO|apply AN|apply AM|apply AL|apply AG|apply AF|apply AE|apply AD|apply AC)<;>try dsimp only)|apply Ae|(refine Prod.forall.2 ?_;intro _;try dsimp only)|(intro _;try dsimp only))
 all_goals first
  |(show Nat;skip)
  |rfl
  |exact a1F ‹_›
  |exact(Ki (QY ‹_›)).2
  |exact(Ki (QY ‹_›)).1.symm
  |exact(QV ‹_› ‹_› ‹_› (by omega)).1
  |exact(QW ‹_› ‹_› ‹_› (by omega)).1
  |exact(UU ‹_› ‹_› ‹_› (by omega) (by omega) ‹_›).1
  |exact(Ki (UV ‹_› ‹_› ‹_› (by omega) (by omega) ‹_›)).2
  |exact(Ki (UV ‹_› ‹_› ‹_› (by omega) (by omega) ‹_›)).1.symm
  |exact(QX ‹_› ‹_›).2
  |exact(QX ‹_› ‹_›).1.symm
  |(have hq:=Jj (show sgJ _ _ _ _ _ by assumption);(try simp only[AR,List.length_drop]);omega)
  |(have hj:=(show sgJ _ _ _ _ _ by assumption);have hq:=Jj hj;have hz:=UT hj ‹_›;(try simp only[AR,List.length_drop]);omega)
  |(have hq:=Jj (show sgJ _ _ _ _ _ by assumption);(try simp only[AS,List.length_append,List.length_cons,List.length_nil]);omega)
  |skip
 all_goals first
  |exact(QV ‹_› ‹_› ‹_› (by omega)).2
  |exact(QW ‹_› ‹_› ‹_› (by omega)).2
  |exact(UU ‹_› ‹_› ‹_› (by omega) (by omega) ‹_›).2
  |rfl
  |skip)
end Go.My
end
section
set_option linter.unusedVariables false
set_option linter.unusedSimpArgs false
namespace Go.My
open Go.Eng Go.Proofs
variable {G:GInv}
def rsQ(t:List UInt8)(sg:List Sg)(ms:List (Int×Int))(g:Gs):Prop:=(g.bad=true∧CC t=none)∨((g.bad=false∧sgB sg∧Br t=some sg)∧Ga sg=some (ms,g.nodes)∧BE g.nodes)
theorem UZ{sg:List Sg}{g:Gs}(h:gsOk sg g):BE g.nodes∧g.nodes.length≤300:=by
 refine⟨⟨by have:=h.2.2.1;omega,fun x hx=> ?_⟩,h.2.2.1⟩
 have:=h.2.2.2 x hx
 exact⟨by have:=this.1;omega,by have:=this.2;omega⟩
theorem b0T{t:List UInt8}{l:List Sg}(h:sgQ t l)(hn:(Br t).isSome=false):rsQ t l [] ⟨0,0,!(Br t).isSome,[]⟩:=by
 refine .inl ⟨by simp [hn],?_⟩
 rw[CC]
 cases hs:Br t with
 |none=>rfl
 |some l=>rw[hs] at hn;cases hn
theorem Kk{t:List UInt8}{l:List Sg}(h:sgQ t l)(hn:(Br t).isSome=true):Br t=some l∧sgB l:=by
 rcases h with h|h
 ·exact h
 ·rw[h.1] at hn;cases hn
theorem a1J{t:List UInt8}{l:List Sg}{y:Gs}{ks:List Int}{ms:List (Int×Int)}{N:Nat}(h:sgQ t l)(hn:(Br t).isSome=true)(hf:Dv l y ks ms N∧(y.bad=true∨¬y.pos<l.length))(hb:(BM l y ks).bad=true):rsQ t l ms (BM l y ks):=by
 refine .inl ⟨hb,?_⟩
 rw[CC,(Kk h hn).1]
 simp only[Option.bind_some,b0o hf.1 hb hf.2];rfl
theorem QZ{l:List Sg}{y:Gs}{ks:List Int}{ms:List (Int×Int)}{N:Nat}(hs:sgB l)(h:Dv l y ks ms N):Cw ⟨22,[],ks,false⟩:=⟨by simp,by have:=(UY hs h).1;simp only;omega⟩
theorem a1K{t:List UInt8}{l:List Sg}{y:Gs}{ks:List Int}{ms:List (Int×Int)}{N:Nat}(h:sgQ t l)(hn:(Br t).isSome=true)(hf:Dv l y ks ms N∧(y.bad=true∨¬y.pos<l.length))(hb:(BM l y ks).bad=false):
 rsQ t l ms ⟨(BM l y ks).pos,(BM l y ks).deep,!Df (BM l y ks).nodes,(BM l y ks).nodes⟩:=by
 have hk:=QZ (Kk h hn).2 hf.1
 have e:=b0p hf.1 hb hf.2
 cases htr:Df (BM l y ks).nodes with
 |false=>
  rw[htr] at e
  refine .inl ⟨rfl,?_⟩
  rw[CC,(Kk h hn).1]
  simp only[Option.bind_some,e];rfl
 |true=>
  rw[htr] at e
  exact .inr ⟨⟨rfl,(Kk h hn).2,(Kk h hn).1⟩,e,(UZ (It hf.1.1 hk)).1⟩
theorem a1L{t:List UInt8}{l:List Sg}{y:Gs}{ks:List Int}{ms:List (Int×Int)}{N:Nat}(h:sgQ t l)(hn:(Br t).isSome=true)(hf:Dv l y ks ms N∧(y.bad=true∨¬y.pos<l.length)):gsOk l (BM l y ks)∧Cw ⟨22,[],ks,false⟩:=
 have hs:=(Kk h hn).2
 ⟨It hf.1.1 (QZ hs hf.1),QZ hs hf.1⟩
theorem a1M{t:List UInt8}{l:List Sg}{y:Gs}{ks:List Int}{ms:List (Int×Int)}{N:Nat}(h:sgQ t l)(hn:(Br t).isSome=true)(hf:Dv l y ks ms N∧(y.bad=true∨¬y.pos<l.length)):BE (BM l y ks).nodes∧(BM l y ks).nodes.length≤1073741824:=by
 have a:=UZ (a1L h hn hf).1
 exact⟨a.1,by omega⟩
theorem b0U{t:List UInt8}{l:List Sg}{y:Gs}{ks:List Int}{ms:List (Int×Int)}{N:Nat}(h:sgQ t l)(hn:(Br t).isSome=true)(hf:Dv l y ks ms N∧(y.bad=true∨¬y.pos<l.length)):0≤(BM l y ks).pos:=(a1L h hn hf).1.1.1
theorem Va{t:List UInt8}{l:List Sg}{ms:List (Int×Int)}{g:Gs}(h:rsQ t l ms g)(hb:g.bad=true):CC t=none:=by
 rcases h with h|h
 ·exact h.2
 ·rw[h.1.1] at hb;cases hb
theorem b0V{t:List UInt8}{l:List Sg}{ms:List (Int×Int)}{g:Gs}(h:rsQ t l ms g)(hb:g.bad=false):CC t=some g.nodes∧BE g.nodes:=by
 rcases h with h|h
 ·rw[h.1] at hb;cases hb
 ·refine⟨?_,h.2.2⟩
  rw[CC,h.1.2.2];simp only[Option.bind_some,h.2.1];rfl
attribute [local irreducible] gsOk Dv BM CC Ga Br Df
def HL:Sig:= {X:=List UInt8,args:=fun x=>[.str x],pre:=fun x=>x.length<2^62,Y:=List Sg×List (Int×Int)×Int×Int×Bool×List Nd×Int,post:=fun x y=>rsQ x y.1 y.2.1 ⟨y.2.2.1,y.2.2.2.1,y.2.2.2.2.1,y.2.2.2.2.2.1⟩,res:=fun x y=> .tup [rdG ⟨y.1,x.length,y.2.1⟩ ⟨y.2.2.1,y.2.2.2.1,y.2.2.2.2.1,y.2.2.2.2.2.1⟩,.int .i64 y.2.2.2.2.2.2],outs:=fun x y=>[.top],keep:=true}
theorem b0W:Aj G Tryz.prog 37 HL:=
 vcFun_okP [(24,0,Kj),(66,0,Lv),(67,0,Hy)] [(36,⟨Sg,sgA⟩),(45,⟨Int,Bb⟩),(62,⟨Int×Int,fun p=>[.int .i64 p.1,.int .i64 p.2]⟩),(32,⟨Nd,ndA true⟩)] false (fun x=>[]) Tryz.func37 rfl (by decide) ⟨b0S,b0R,a7R,trivial⟩ (fun(x:List UInt8)=>True∧cA Kj [.str x] fun x_1 y=>Aa (!Option.isSome (Br x_1)) (rA HL x [.tup [.box 0 [sgs y.1,.int .i64 (↑(List.length x):Int),.int .i64 (0:Int),.int .i64 (0:Int),.bool !Option.isSome (Br x_1),.nil,.nil],.int .i64 y.2],.top]) (cA Lv [.box 0 [sgs y.1,.int .i64 (↑(List.length x):Int),.int .i64 (0:Int),.int .i64 (0:Int),.bool !Option.isSome (Br x_1),.nil,.nil]] fun x_2 y_1=>Aa (BM x_2.1 (iF y_1) y_1.2.2.2.2.1).bad (Aa (decide ((BM x_2.1 (iF y_1) y_1.2.2.2.2.1).pos<(↑(List.length y.1):Int))) (true=true∧true=true∧((0:Int)≤(BM x_2.1 (iF y_1) y_1.2.2.2.2.1).pos∧(BM x_2.1 (iF y_1) y_1.2.2.2.2.1).pos<(↑(List.length y.1):Int))∧∀(e:Sg),y.1[Int.toNat (BM x_2.1 (iF y_1) y_1.2.2.2.2.1).pos]? =some e→rA HL x [.tup [.box 0 [sgs x_2.1,.int .i64 x_2.2,.int .i64 (BM x_2.1 (iF y_1) y_1.2.2.2.2.1).pos,.int .i64 (BM x_2.1 (iF y_1) y_1.2.2.2.2.1).deep,.bool (BM x_2.1 (iF y_1) y_1.2.2.2.2.1).bad,Au (BM x_2.1 (iF y_1) y_1.2.2.2.2.1).nodes,mbs y_1.2.2.2.2.2.1],.int .i64 e.pos],.top]) (Aa (BM x_2.1 (iF y_1) y_1.2.2.2.2.1).bad (rA HL x [.tup [.box 0 [sgs x_2.1,.int .i64 x_2.2,.int .i64 (BM x_2.1 (iF y_1) y_1.2.2.2.2.1).pos,.int .i64 (BM x_2.1 (iF y_1) y_1.2.2.2.2.1).deep,.bool (BM x_2.1 (iF y_1) y_1.2.2.2.2.1).bad,Au (BM x_2.1 (iF y_1) y_1.2.2.2.2.1).nodes,mbs y_1.2.2.2.2.2.1],.int .i64 (↑(List.length x):Int)],.top]) (cA Hy [Au (BM x_2.1 (iF y_1) y_1.2.2.2.2.1).nodes] fun x_3 y=>rA HL x [.tup [.box 0 [sgs x_2.1,.int .i64 x_2.2,.int .i64 (BM x_2.1 (iF y_1) y_1.2.2.2.2.1).pos,.int .i64 (BM x_2.1 (iF y_1) y_1.2.2.2.2.1).deep,.bool !Df x_3,Au (BM x_2.1 (iF y_1) y_1.2.2.2.2.1).nodes,mbs y_1.2.2.2.2.2.1],.int .i64 (0:Int)],.top]))) (Aa (BM x_2.1 (iF y_1) y_1.2.2.2.2.1).bad (rA HL x [.tup [.box 0 [sgs x_2.1,.int .i64 x_2.2,.int .i64 (BM x_2.1 (iF y_1) y_1.2.2.2.2.1).pos,.int .i64 (BM x_2.1 (iF y_1) y_1.2.2.2.2.1).deep,.bool (BM x_2.1 (iF y_1) y_1.2.2.2.2.1).bad,Au (BM x_2.1 (iF y_1) y_1.2.2.2.2.1).nodes,mbs y_1.2.2.2.2.2.1],.int .i64 (↑(List.length x):Int)],.top]) (cA Hy [Au (BM x_2.1 (iF y_1) y_1.2.2.2.2.1).nodes] fun x_3 y=>rA HL x [.tup [.box 0 [sgs x_2.1,.int .i64 x_2.2,.int .i64 (BM x_2.1 (iF y_1) y_1.2.2.2.2.1).pos,.int .i64 (BM x_2.1 (iF y_1) y_1.2.2.2.2.1).deep,.bool !Df x_3,Au (BM x_2.1 (iF y_1) y_1.2.2.2.2.1).nodes,mbs y_1.2.2.2.2.2.1],.int .i64 (0:Int)],.top])))) (fun x=>by kernel_rfl) fun(x:List UInt8) (hx:x.length<2^62)=>(by
 dsimp only[cA,mbs,Bg,nds,Au,As,rA,rdG,Kj,Hy,Lv,HL,Bj,sgs,Av,AB,mvL,lnL,mvE,lnE]
 have hx:x.length<2^62:=hx
 (repeat' first|(with_reducible first|rfl|exact True.intro|apply AK|apply And.intro|((first|apply Az|apply AI|apply AA|apply AJ)<;>intro _))|(apply Aw<;>intro _)|apply AH|refine Ae () ?_ ?_|((first|apply AO|apply AN|apply AM|apply AL|apply AG|apply AF|apply AE|apply AD|apply AC)<;>try dsimp only)|apply Ae|(refine Prod.forall.2 ?_;intro _;try dsimp only)|(intro _;try dsimp only))
 all_goals(try dsimp only[iF] at*)
 all_goals first
  |rfl
  |exact hx
  |exact b0T ‹_› ‹_›
  |exact(Kk ‹_› ‹_›).2
  |exact a1J ‹_› ‹_› ‹_› ‹_›
  |exact a1K ‹_› ‹_› ‹_› ‹_›
  |(simp [*];done)
  |exact(a1M ‹_› ‹_› ‹_›).1
  |exact(a1M ‹_› ‹_› ‹_›).2
  |(have hq:=(b0U ‹_› ‹_› (show Dv _ _ _ _ _∧_ by assumption));(try dsimp only at hq);omega)
  |skip)
end Go.My
end
section
set_option linter.unusedVariables false
set_option linter.unusedSimpArgs false
namespace Go.My
open Go.Eng Go.Proofs
variable {G:GInv}
def Ot:List (List UInt8):=[[38,38],[124,124],[61,61],[61,62],[46,46]]
def Lw:List (List UInt8):=[[40],[41],[123],[125],[91],[93],[59],[44],[46],[61],[43],[45],[42],[60],[63],[58]]
def mks:List (List UInt8):=[[38,38],[124,124],[61,61],[61,62],[46,46],[40],[41],[123],[125],[91],[93],[59],[44],[46],[61],[43],[45],[42],[60],[63],[58]]
def FG(s:List UInt8):List UInt8:=(mks.find? fun m=>s.take m.length==m).getD []
theorem Vb{s:List UInt8}{k:Nat}:∀ {l:List (List UInt8)},(∀m∈l,m.length=k)→l.find? (fun m=>s.take m.length==m)=if l.elem (s.take k) then some (s.take k) else none
 |[],_=>rfl
 |m::l,h=>by
  have hm:=h m (by simp)
  rw[List.find?_cons,List.elem_cons,hm]
  cases he:(s.take k==m) with
  |true=>
   have:s.take k=m:=by simpa using he
   simp [this]
  |false=>
   rw[Vb (l:=l) (fun m hm=>h m (by simp [hm]))]
theorem a1N{s:List UInt8}:FG s=if Ot.elem (s.take 2) then s.take 2 else if Lw.elem (s.take 1) then s.take 1 else []:=by
 have e:mks=Ot++Lw:=rfl
 rw[FG,e,List.find?_append,Vb (k:=2) (l:=Ot) (by decide),Vb (k:=1) (l:=Lw) (by decide)]
 split
 ·rfl
 ·split<;>rfl
theorem b0X{s:List UInt8}:Ot.elem s=mk2 s:=by
 rw[Bool.eq_iff_iff];simp [Ot,mk2]
theorem b0Y{c:UInt8}:Lw.elem [c]=mk1.elem c:=by
 simp [Lw,mk1,List.elem_cons,List.elem_nil]
theorem a1O{c:UInt8}{s:List UInt8}:FG (c::s)=if CH ((c::s).take 2) then(c::s).take 2 else if CH ((c::s).take 1) then(c::s).take 1 else []:=by
 rw[a1N,b0X]
 have h1:Lw.elem ((c::s).take 1)=CH ((c::s).take 1):=by
  show Lw.elem [c]=CH [c]
  rw[b0Y]
  simp [CH,mk2]
 rw[h1]
 cases s with
 |nil=>
  show(if mk2 [c]=true then [c] else if CH [c]=true then [c] else [])=if CH [c]=true then [c] else if CH [c]=true then [c] else []
  have:mk2 [c]=false:=by simp [mk2]
  rw[this];simp
 |cons d r=>
  have:CH ((c::d::r).take 2)=mk2 ((c::d::r).take 2):=by
   show CH [c,d]=mk2 [c,d]
   simp [CH]
  rw[this]
def HM(x:List UInt8×Int)(i:Int):Prop:=(0≤i∧i≤21)∧FG (x.1.drop x.2.toNat)=((mks.drop i.toNat).find? fun m=>(x.1.drop x.2.toNat).take m.length==m).getD []
theorem b0Z{x:List UInt8×Int}:HM x 0:=⟨by omega,rfl⟩
theorem a1P{x:List UInt8×Int}{i:Int}{m:List UInt8}(h:HM x i)(ha:mks[i.toNat]? =some m)(hg:((x.1.drop x.2.toNat).take m.length==m)=false):HM x (i+1):=by
 have hlt:=(List.getElem?_eq_some_iff.1 ha).1
 have h21:mks.length=21:=rfl
 obtain⟨h1,h2⟩:=h
 refine⟨by omega,?_⟩
 rw[h2,List.drop_eq_getElem_cons hlt,(List.getElem?_eq_some_iff.1 ha).2,List.find?_cons_of_neg (by simpa using hg),show(i+1).toNat=i.toNat+1 by omega]
theorem b1a{x:List UInt8×Int}{i:Int}{m:List UInt8}(h:HM x i)(ha:mks[i.toNat]? =some m)(hg:((x.1.drop x.2.toNat).take m.length==m)=true):m=FG (x.1.drop x.2.toNat):=by
 have hlt:=(List.getElem?_eq_some_iff.1 ha).1
 rw[h.2,List.drop_eq_getElem_cons hlt,(List.getElem?_eq_some_iff.1 ha).2,List.find?_cons_of_pos (by simpa using hg)];rfl
theorem b1b{x:List UInt8×Int}{i:Int}(h:HM x i)(hi:¬i<21):[]=FG (x.1.drop x.2.toNat):=by
 have e:mks.drop i.toNat=[]:=List.drop_eq_nil_of_le (by have h21:mks.length=21:=rfl;rw[h21];omega)
 rw[h.2,e];rfl
theorem Ra{t:List UInt8}{a n:Int}(h0:0≤a)(hn:0≤n):List.drop a.toNat (List.take (a+n).toNat t)=(t.drop a.toNat).take n.toNat:=by
 rw[List.drop_take,show(a+n).toNat-a.toNat=n.toNat by omega]
theorem b1c{x:List UInt8×Int}{m:List UInt8}(h0:0≤x.2)(h2:x.2≤x.1.length)(hl:¬x.2+(m.length:Int)≤x.1.length):((x.1.drop x.2.toNat).take m.length==m)=false:=by
 have:((x.1.drop x.2.toNat).take m.length)≠m:=by
  intro e
  have:=congrArg List.length e
  simp at this;omega
 simpa using this
theorem b1d{x:List UInt8×Int}{m:List UInt8}(h0:0≤x.2)(h:List.drop (Int.toNat x.2) (List.take (Int.toNat (x.2+(m.length:Int))) x.1)=m):((x.1.drop x.2.toNat).take m.length==m)=true:=by
 rw[Ra h0 (by omega)] at h;simpa using h
theorem b1e{x:List UInt8×Int}{m:List UInt8}(h0:0≤x.2)(h:List.drop (Int.toNat x.2) (List.take (Int.toNat (x.2+(m.length:Int))) x.1)≠m):((x.1.drop x.2.toNat).take m.length==m)=false:=by
 rw[Ra h0 (by omega)] at h;simpa using h
theorem b1f{i:Int}{m:List UInt8}(ha:mks[i.toNat]? =some m):m.length≤2:=by
 have:∀m∈mks,m.length≤2:=by decide
 exact this m (List.mem_of_getElem? ha)
theorem a1Q{x:List UInt8×Int}{i:Int}(h:HM x i):0≤i∧i≤21:=h.1
attribute [local irreducible] HM FG
def MK:Sig:= {X:=Unit,args:=fun x=>[],pre:=fun x=>True,Y:=Unit,post:=fun x y=>True,res:=fun x y=> .sl false 0 1 (List UInt8) BX mks,outs:=fun x y=>[],keep:=true}
theorem b1g:Aj G Tryz.prog 110 MK:=
 vcFun_okP [] [(41,⟨List UInt8,BX⟩)] false (fun x=>[]) Tryz.func110 rfl (by decide) trivial (fun(x:Unit)=>True∧∃(x_1:List UInt8),#[(38:UInt8),(38:UInt8)].toList=x_1∧∃(x_2:List UInt8),#[(124:UInt8),(124:UInt8)].toList=x_2∧∃(x_3:List UInt8),#[(61:UInt8),(61:UInt8)].toList=x_3∧∃(x_4:List UInt8),#[(61:UInt8),(62:UInt8)].toList=x_4∧∃(x_5:List UInt8),#[(46:UInt8),(46:UInt8)].toList=x_5∧∃(x_6:List UInt8),#[(40:UInt8)].toList=x_6∧∃(x_7:List UInt8),#[(41:UInt8)].toList=x_7∧∃(x_8:List UInt8),#[(123:UInt8)].toList=x_8∧∃(x_9:List UInt8),#[(125:UInt8)].toList=x_9∧∃(x_10:List UInt8),#[(91:UInt8)].toList=x_10∧∃(x_11:List UInt8),#[(93:UInt8)].toList=x_11∧∃(x_12:List UInt8),#[(59:UInt8)].toList=x_12∧∃(x_13:List UInt8),#[(44:UInt8)].toList=x_13∧∃(x_14:List UInt8),#[(46:UInt8)].toList=x_14∧∃(x_15:List UInt8),#[(61:UInt8)].toList=x_15∧∃(x_16:List UInt8),#[(43:UInt8)].toList=x_16∧∃(x_17:List UInt8),#[(45:UInt8)].toList=x_17∧∃(x_18:List UInt8),#[(42:UInt8)].toList=x_18∧∃(x_19:List UInt8),#[(60:UInt8)].toList=x_19∧∃(x_20:List UInt8),#[(63:UInt8)].toList=x_20∧∃(x_21:List UInt8),#[(58:UInt8)].toList=x_21∧rA MK x [AV.sl true (0:Nat) (1:Nat) (List UInt8) BX [x_1,x_2,x_3,x_4,x_5,x_6,x_7,x_8,x_9,x_10,x_11,x_12,x_13,x_14,x_15,x_16,x_17,x_18,x_19,x_20,x_21]]) (fun x=>by kernel_rfl) fun(x:Unit) (hx:True)=>(by
 dsimp only[rA,MK,Av,AB]
 (repeat' first|(with_reducible first|rfl|exact True.intro|apply AK|apply And.intro|((first|apply Az|apply AI|apply AA|apply AJ)<;>intro _))|(apply Aw<;>intro _)|apply AH|refine Ae () ?_ ?_|((first|apply AO|apply AN|apply AM|apply AL|apply AG|apply AF|apply AE|apply AD|apply AC)<;>try dsimp only)|apply Ae|(refine Prod.forall.2 ?_;intro _;try dsimp only)|(intro _;try dsimp only))
 all_goals first
  |rfl
  |(simp [AS];done)
  |skip)
def Lx:Sig:= {X:=List UInt8×Int,args:=fun x=>[.str x.1,.int .i64 x.2],pre:=fun x=>0≤x.2∧x.2≤x.1.length∧x.1.length<2^62,Y:=Unit,post:=fun x y=>True,res:=fun x y=> .str (FG (x.1.drop x.2.toNat)),outs:=fun x y=>[.top,.top],keep:=false}
def Ou(x:List UInt8×Int):LS:= {ι:=Int,inv:=fun i=>HM x i,regs:=fun i=>[(0,.str x.1),(1,.int .i64 x.2),(5,.sl false 0 1 (List UInt8) BX mks),(6,.int .i64 i)],als:=[],meas:=fun i=>21-i.toNat}
theorem b1h:Aj G Tryz.prog 81 Lx:=
 vcFun_okP [(110,0,MK)] [(41,⟨List UInt8,BX⟩)] false (fun x=>[(3,Ou x)]) Tryz.func81 rfl (by decide) ⟨b1g,trivial⟩ (fun(x:List UInt8×Int)=>(∀(y:Unit),True→True∧True∧True∧True)∧cA MK [] fun x_1 y=>eA (Ou x) [.str x.1,.int .i64 x.2,AV.sl false (0:Nat) (1:Nat) (List UInt8) BX mks,.int .i64 (0:Int)]∧∀(i:Int),HM x i→Aa (decide (i<(↑(21:Nat):Int))) (((0:Int)≤i∧i<(↑(21:Nat):Int))∧∀(e:List UInt8),mks[Int.toNat i]? =some e→true=true∧true=true∧inR IntKind.i64 (x.2+(↑(List.length e):Int))∧Aa (decide (x.2+(↑(List.length e):Int)≤(↑(List.length x.1):Int))) (inR IntKind.i64 (x.2+(↑(List.length e):Int))∧((0:Int)≤x.2∧x.2≤x.2+(↑(List.length e):Int)∧x.2+(↑(List.length e):Int)≤(↑(List.length x.1):Int))∧((0:Int)≤i∧i<(↑(21:Nat):Int))∧∀(e_1:List UInt8),mks[Int.toNat i]? =some e_1→Aa (List.drop (Int.toNat x.2) (List.take (Int.toNat (x.2+(↑(List.length e):Int))) x.1)==e_1) (((0:Int)≤i∧i<(↑(21:Nat):Int))∧∀(e:List UInt8),mks[Int.toNat i]? =some e→rA Lx x [.str e,.top,.top]) (inR IntKind.i64 (i+(1:Int))∧eN (Ou x) i [.str x.1,.int .i64 x.2,AV.sl false (0:Nat) (1:Nat) (List UInt8) BX mks,.int .i64 (i+(1:Int))])) (inR IntKind.i64 (i+(1:Int))∧eN (Ou x) i [.str x.1,.int .i64 x.2,AV.sl false (0:Nat) (1:Nat) (List UInt8) BX mks,.int .i64 (i+(1:Int))])) (rA Lx x [.str #[].toList,.top,.top])) (fun x=>by kernel_rfl) fun(x:List UInt8×Int) (hx:0≤x.2∧x.2≤x.1.length∧x.1.length<2^62)=>(by
 dsimp only[cA,eA,eN,Ou,rA,Lx,MK,Av,AB,mvL,lnL,mvE,lnE,Bw]
 obtain⟨h1,h2,h3⟩:=hx
 (repeat' first|(with_reducible first|rfl|exact True.intro|apply AK|apply And.intro|((first|apply Az|apply AI|apply AA|apply AJ)<;>intro _))|(apply Aw<;>intro _)|apply AH|refine Ae () ?_ ?_|((first|apply AO|apply AN|apply AM|apply AL|apply AG|apply AF|apply AE|apply AD|apply AC)<;>try dsimp only)|apply Ae|(refine Prod.forall.2 ?_;intro _;try dsimp only)|(intro _;try dsimp only))
 all_goals(try(repeat(rename mks[_]? =some _=>hq;revert hq;rename mks[_]? =some _=>hr;intro hq;rw[hr] at hq;cases hq)))
 all_goals first
  |rfl
  |exact b0Z
  |exact a1P ‹_› ‹_› (b1c h1 h2 ‹_›)
  |exact a1P ‹_› ‹_› (b1e h1 ‹_›)
  |exact b1a ‹_› ‹_› (b1d h1 ‹_›)
  |exact b1b ‹_› (by omega)
  |(have hq:=a1Q (show HM _ _ by assumption);(try simp only[AR]);omega)
  |(have hq:=a1Q (show HM _ _ by assumption);have hm:=b1f ‹_›;(try simp only[AR]);omega)
  |skip)
def rwI(p:UInt8→Bool)(x:List UInt8×Int)(i:Int):Prop:=(x.2≤i∧i≤x.1.length)∧∀e∈(x.1.drop x.2.toNat).take (i-x.2).toNat,p e=true
theorem b1i{p:UInt8→Bool}{x:List UInt8×Int}(h:x.2≤x.1.length):rwI p x x.2:=by
 refine⟨⟨by omega,h⟩,fun e he=> ?_⟩
 rw[show(x.2-x.2).toNat=0 by omega] at he;simp at he
theorem Vc{p:UInt8→Bool}{x:List UInt8×Int}{i:Int}{c:UInt8}(h0:0≤x.2)(h:rwI p x i)(hi:i<x.1.length)(hc:x.1[i.toNat]? =some c)(hp:p c=true):rwI p x (i+1):=by
 obtain⟨⟨a,b⟩,h2⟩:=h
 exact⟨by omega,PF h2 (by rw[NN h0 a];exact hc) hp (by omega)⟩
theorem a1R{p:UInt8→Bool}{x:List UInt8×Int}{i:Int}(h0:0≤x.2)(h:rwI p x i)(he:¬i<x.1.length∨∃c,x.1[i.toNat]? =some c∧p c=false):((x.1.drop x.2.toNat).takeWhile p)=List.drop (Int.toNat x.2) (List.take (Int.toNat i) x.1)∧((((x.1.drop x.2.toNat).takeWhile p).length:Nat):Int)=i-x.2:=by
 obtain⟨⟨a,b⟩,h2⟩:=h
 have e:=IT h2 (by
  rcases he with he|⟨c,hc,hp⟩
  ·left;simp;omega
  ·right;exact⟨c,by rw[NN h0 a];exact hc,hp⟩)
 rw[←e,List.drop_take]
 refine⟨by congr 1;omega,?_⟩
 simp;omega
theorem b1j{p:UInt8→Bool}{x:List UInt8×Int}{i:Int}(h:rwI p x i):x.2≤i∧i≤x.1.length:=h.1
def sgR(x:List UInt8×Int)(k:Int)(t:List UInt8)(p:Int)(b:Bool)(n:Int):Prop:=
 ((Bc (x.1.drop x.2.toNat)).ok=true∧(k=(Bc (x.1.drop x.2.toNat)).kind∧t=(Bc (x.1.drop x.2.toNat)).text∧p=x.2∧b=false)∧n=(Bc (x.1.drop x.2.toNat)).size)∨((Bc (x.1.drop x.2.toNat)).ok=false∧n=0)
theorem Rb{x:List UInt8×Int}{c:UInt8}(hc:x.1[x.2.toNat]? =some c):x.1.drop x.2.toNat=c::x.1.drop (x.2.toNat+1):=by
 have hlt:=(List.getElem?_eq_some_iff.1 hc).1
 rw[List.drop_eq_getElem_cons hlt,(List.getElem?_eq_some_iff.1 hc).2]
theorem b1k{x:List UInt8×Int}(h0:0≤x.2)(h:(Ct (x.1.drop x.2.toNat):Int)>0):sgR x 5 (CI (List.drop (Int.toNat x.2) (List.take (Int.toNat (x.2+(Ct (x.1.drop x.2.toNat):Int))) x.1))) x.2 false (Ct (x.1.drop x.2.toNat)):=by
 rw[Ra h0 (by omega)]
 unfold sgR
 generalize x.1.drop x.2.toNat=s at*
 unfold Ct at h ⊢
 split at h
 ·rename_i h2
  split at h
  ·rename_i hp
   rw[if_pos h2,if_pos hp]
   match s with
   |[]=>simp at h2
   |[_]=>simp at h2
   |b::c::r=>
    simp at h2
    obtain⟨rfl,rfl⟩:=h2
    left
    simp only[Bc,show Cv 47=false by decide,show Bt 47=false by decide,Bool.false_eq_true,if_false,show(47:UInt8).toNat≠39 by decide,List.take_succ_cons,List.take_zero,if_true]
    refine⟨hp,⟨trivial,?_,trivial,trivial⟩,trivial⟩
    congr 1
    have:=List.takeWhile_prefix Cg (l:=47::47::r)
    rw[Int.toNat_natCast]
    exact(List.prefix_iff_eq_take.1 this).symm
  ·simp at h
 ·simp at h
theorem b1l{s:List UInt8}{c:UInt8}(h:¬(Ct (c::s):Int)>0)(h2:(c::s).take 2=[47,47]):((c::s).takeWhile Cg).all Cl=false:=by
 cases hp:((c::s).takeWhile Cg).all Cl with
 |false=>rfl
 |true=>
  exfalso
  apply h
  rw[Ct,if_pos h2,if_pos hp]
  match s with
  |[]=>simp at h2
  |d::r=>
   simp at h2
   obtain⟨rfl,rfl⟩:=h2
   have:Cg 47=true:=by decide
   simp [List.takeWhile_cons,this];omega
theorem Rc{x:List UInt8×Int}{i:Int}{c:UInt8}(h0:0≤x.2)(hc:x.1[x.2.toNat]? =some c)(hf:Cv c=true)(h:rwI BP x i)(he:¬i<x.1.length∨∃c,x.1[i.toNat]? =some c∧BP c=false):
 (i-x.2>30→sgR x 0 [] 0 false 0)∧(¬i-x.2>30→sgR x 1 (List.drop (Int.toNat x.2) (List.take (Int.toNat i) x.1)) x.2 false (i-x.2)):=by
 obtain⟨e1,e2⟩:=a1R h0 h he
 have e:=Rb hc
 have es:Bc (x.1.drop x.2.toNat)=⟨1,(x.1.drop x.2.toNat).takeWhile BP,((x.1.drop x.2.toNat).takeWhile BP).length,decide (((x.1.drop x.2.toNat).takeWhile BP).length≤30)⟩:=by
  rw[e];simp only[Bc,hf,if_true]
 unfold sgR
 rw[es]
 refine⟨fun h3=> .inr ⟨by simp;omega,rfl⟩,fun h3=> .inl ⟨by simp;omega,⟨rfl,e1.symm,rfl,rfl⟩,by simp only;omega⟩⟩
theorem Ov{x:List UInt8×Int}{i:Int}{c:UInt8}(h0:0≤x.2)(hc:x.1[x.2.toNat]? =some c)(hf:Cv c=false)(hg:Bt c=true)(h:rwI Bt x i)(he:¬i<x.1.length∨∃c,x.1[i.toNat]? =some c∧Bt c=false):
 (i-x.2>12→sgR x 0 [] 0 false 0)∧(¬i-x.2>12→sgR x 2 (List.drop (Int.toNat x.2) (List.take (Int.toNat i) x.1)) x.2 false (i-x.2)):=by
 obtain⟨e1,e2⟩:=a1R h0 h he
 have e:=Rb hc
 have es:Bc (x.1.drop x.2.toNat)=⟨2,(x.1.drop x.2.toNat).takeWhile Bt,((x.1.drop x.2.toNat).takeWhile Bt).length,decide (((x.1.drop x.2.toNat).takeWhile Bt).length≤12)⟩:=by
  rw[e];simp only[Bc,hf,hg,Bool.false_eq_true,if_false,if_true]
 unfold sgR
 rw[es]
 refine⟨fun h3=> .inr ⟨by simp;omega,rfl⟩,fun h3=> .inl ⟨by simp;omega,⟨rfl,e1.symm,rfl,rfl⟩,by simp only;omega⟩⟩
theorem b1m{x:List UInt8×Int}{c:UInt8}(h0:0≤x.2)(hc:x.1[x.2.toNat]? =some c)(hf:Cv c=false)(hg:Bt c=false)(hq:(c.toNat:Int)=39):
 sgR x 3 (List.drop (Int.toNat x.2) (List.take (Int.toNat (x.2+(CE (x.1.drop x.2.toNat):Int))) x.1)) x.2 false (CE (x.1.drop x.2.toNat)):=by
 rw[Ra h0 (by omega)]
 have e:=Rb hc
 have hq2:isQ c=true:=by simp [isQ];omega
 unfold sgR
 rw[e]
 have es:Bc (c::x.1.drop (x.2.toNat+1))=⟨3,(Dx (c::x.1.drop (x.2.toNat+1))).1,(Dx (c::x.1.drop (x.2.toNat+1))).1.length,(Dx (c::x.1.drop (x.2.toNat+1))).2⟩:=by
  simp only[Bc,hf,hg,Bool.false_eq_true,if_false,show c.toNat=39 by omega,if_true]
 rw[es]
 by_cases hz:CE (c::x.1.drop (x.2.toNat+1))=0
 ·right
  refine⟨?_,by rw[hz];rfl⟩
  cases hb:(Dx (c::x.1.drop (x.2.toNat+1))).2 with
  |false=>rfl
  |true=>exact((PE hq2).1 hb hz).elim
 ·left
  obtain⟨l1,l2⟩:=Yh hq2 hz
  refine⟨(PE hq2).2 hz,⟨rfl,?_,rfl,rfl⟩,?_⟩
  ·simp only[l1,Int.toNat_natCast]
  ·simp only[l1,List.length_take];omega
theorem b1n{x:List UInt8×Int}{c:UInt8}(h0:0≤x.2)(hc:x.1[x.2.toNat]? =some c)(hn:¬(Ct (x.1.drop x.2.toNat):Int)>0)(hf:Cv c=false)(hg:Bt c=false)(hq:(c.toNat:Int)≠39):
 sgR x 4 (FG (x.1.drop x.2.toNat)) x.2 false (FG (x.1.drop x.2.toNat)).length:=by
 have e:=Rb hc
 unfold sgR
 rw[e] at hn ⊢
 generalize x.1.drop (x.2.toNat+1)=s at*
 by_cases h2:(c::s).take 2=[47,47]
 ·right
  have e0:FG (c::s)=[]:=by
   rw[a1O,h2,if_neg (by decide)]
   have:(c::s).take 1=[47]:=by
    have:=congrArg (List.take 1) h2
    simpa using this
   rw[this,if_neg (by decide)]
  have hp:=b1l hn h2
  refine⟨?_,by rw[e0];rfl⟩
  simp only[Bc,hf,hg,Bool.false_eq_true,if_false,if_neg (show¬c.toNat=39 by omega),h2,if_true]
  exact hp
 ·have es:Bc (c::s)=if CH ((c::s).take 2) then⟨4,(c::s).take 2,((c::s).take 2).length,true⟩ else if CH ((c::s).take 1) then⟨4,(c::s).take 1,1,true⟩ else⟨0,[],0,false⟩:=by
   simp only[Bc,hf,hg,Bool.false_eq_true,if_false,if_neg (show¬c.toNat=39 by omega),if_neg h2]
  rw[es,a1O]
  split
  ·left;exact⟨rfl,⟨rfl,rfl,rfl,rfl⟩,rfl⟩
  ·split
   ·left;exact⟨rfl,⟨rfl,rfl,rfl,rfl⟩,by simp⟩
   ·right;exact⟨rfl,rfl⟩
end Go.My
end
section
set_option linter.unusedVariables false
set_option linter.unusedSimpArgs false
namespace Go.My
open Go.Eng Go.Proofs
variable {G:GInv}
def srd(s:ST)(g:Gs):AV:= .box 0 [sgs s.sg,.int .i64 g.pos,.bool g.bad,.int .i64 g.deep,Au g.nodes]
theorem a1S{sg:List Sg}{g:Gs}(h:g.bad=true∨(sg.length:Int)≤g.pos):pkG sg g 0=Ed:=Uk (by simpa using h)
theorem Vd{sg:List Sg}{g:Gs}{e:Sg}(he:sg[g.pos.toNat]? =some e)(hb:g.bad=false)(hl:g.pos<sg.length):pkG sg g 0=e:=Ul (by simpa using he) hb (by omega)
theorem a1T{sg:List Sg}{g:Gs}{k:Int}{t:List UInt8}(hk:k≠0)(h:g.bad=true∨(sg.length:Int)≤g.pos):isG sg g k t=false:=by
 simp [isG,a1S h,Ed,Ne.symm hk]
theorem b1o{sg:List Sg}{g:Gs}{e:Sg}{k:Int}{t:List UInt8}(he:sg[g.pos.toNat]? =some e)(hb:g.bad=false)(hl:g.pos<sg.length):isG sg g k t=(decide (e.kind=k)&&(e.text==t)):=by
 rw[isG,Vd he hb hl]
def kdG(sg:List Sg)(g:Gs)(k:Int):Bool:=decide ((pkG sg g 0).kind=k)&&(decide (k≠1)|| !kw (pkG sg g 0).text)
theorem ML{sg:List Sg}{g:Gs}{k:Int}(hk:k≠0)(h:g.bad=true∨(sg.length:Int)≤g.pos):kdG sg g k=false:=by
 simp [kdG,a1S h,Ed,Ne.symm hk]
theorem a1U{sg:List Sg}{g:Gs}{e:Sg}{k:Int}(he:sg[g.pos.toNat]? =some e)(hb:g.bad=false)(hl:g.pos<sg.length):kdG sg g k=(decide (e.kind=k)&&(decide (k≠1)|| !kw e.text)):=by
 rw[kdG,Vd he hb hl]
theorem Iy{sg:List Sg}{g:Gs}:kdG sg g 1=nmG sg g 0:=by simp [kdG,nmG]
theorem Rd{sg:List Sg}{g:Gs}{k:Int}(hk:k≠0)(h:kdG sg g k=true):g.bad=false∧g.pos<sg.length:=by
 cases hb:g.bad with
 |true=>rw[ML hk (.inl hb)] at h;cases h
 |false=>
  refine⟨rfl,?_⟩
  rcases Int.lt_or_le g.pos sg.length with hh|hh
  ·exact hh
  ·rw[ML hk (.inr hh)] at h;cases h
theorem b1p{e:Nd}{b:Bool}{q:Nd→Prop}(h:q ⟨e.kind,e.text,e.kids,b⟩):
 ∃x':Nd,([AV.int IntKind.i64 x'.kind,AV.str x'.text,AV.sl true 0 1 Int Bb x'.kids]=[AV.int IntKind.i64 e.kind,AV.str e.text,AV.sl true 0 1 Int Bb e.kids]∧(@List.nil AV)=[])∧b=x'.blank∧q x':=
 ⟨⟨e.kind,e.text,e.kids,b⟩,⟨rfl,rfl⟩,rfl,h⟩
def BI(sg:List Sg)(g:Gs)(m:List UInt8):Gs:=if isG sg g 1 m then Ai g else g
def Bf(sg:List Sg)(g:Gs)(k:Int):Gs:=if kdG sg g k then Ai g else Bd g
def BA(sg:List Sg)(g:Gs)(k:Int):List UInt8:=if kdG sg g k then(pkG sg g 0).text else []
def gBl(g:Gs)(k:Int)(b:Bool):Gs:=if g.bad=false∧k<g.nodes.length then⟨g.pos,g.deep,g.bad,g.nodes.set k.toNat ⟨(An g.nodes k).kind,(An g.nodes k).text,(An g.nodes k).kids,b⟩⟩ else g
theorem b1q{g:Gs}{k:Int}{b:Bool}{e:Nd}(he:g.nodes[k.toNat]? =some e)(hb:g.bad=false)(hk:k<g.nodes.length):g.nodes.set k.toNat ⟨e.kind,e.text,e.kids,b⟩=(gBl g k b).nodes:=by
 rw[gBl,if_pos ⟨hb,hk⟩,BG he]
def blG(sg:List Sg)(g:Gs):Bool:=decide (g.pos<sg.length)&&(sgO sg g.pos).blank
theorem b1r{sg:List Sg}{g:Gs}{e:Sg}{k:Int}(he:sg[(g.pos+1-1).toNat]? =some e)(hk:k≠0)(h:kdG sg g k=true):e.text=BA sg g k:=by
 obtain⟨hb,hl⟩:=Rd hk h
 rw[BA,if_pos h,Vd (by rw[show g.pos=g.pos+1-1 by omega];exact he) hb hl]
def DW:Sig:= {X:=ST×Int×Int×Bool×List Nd×Int×List UInt8,args:=fun x=>[srd x.1 (xh x),.int .i64 x.2.2.2.2.2.1,.str x.2.2.2.2.2.2],pre:=fun x=>rOk x.1 (xh x)∧x.2.2.2.2.2.1≠0,Y:=Unit,post:=fun x y=>True,res:=fun x y=> .bool (isG x.1.sg (xh x) x.2.2.2.2.2.1 x.2.2.2.2.2.2),outs:=fun x y=>[srd x.1 (xh x),.top,.top],keep:=true}
theorem Ow:Aj G Tryz.prog 106 DW:=
 vcFun_okP [] [] false (fun x=>[]) Tryz.func106 rfl (by decide) trivial (fun(x:ST×Int×Int×Bool×List Nd×Int×List UInt8)=>True∧true=true∧true=true∧Aa (!(xh x).bad) (Aa (decide ((xh x).pos<(↑(List.length x.1.sg):Int))) (((0:Int)≤(xh x).pos∧(xh x).pos<(↑(List.length x.1.sg):Int))∧∀(e:Sg),x.1.sg[Int.toNat (xh x).pos]? =some e→Aa (e.kind==x.2.2.2.2.2.1) (((0:Int)≤(xh x).pos∧(xh x).pos<(↑(List.length x.1.sg):Int))∧∀(e:Sg),x.1.sg[Int.toNat (xh x).pos]? =some e→rA DW x [.bool (e.text==x.2.2.2.2.2.2),srd x.1 (xh x),.top,.top]) (rA DW x [.bool false,srd x.1 (xh x),.top,.top])) (rA DW x [.bool false,srd x.1 (xh x),.top,.top])) (rA DW x [.bool false,srd x.1 (xh x),.top,.top])) (fun x=>by kernel_rfl) fun(x:ST×Int×Int×Bool×List Nd×Int×List UInt8) (hx:rOk x.1 (xh x)∧x.2.2.2.2.2.1≠0)=>(by
 dsimp only[Bg,Au,rA,DW,Bj,sgs,srd,Av,AB]
 obtain⟨s,p,d,b,ns,k,m⟩:=x;dsimp only[xg,xh] at hx ⊢
 obtain⟨h1,h2⟩:=hx;have hs:=DL h1;dsimp only at hs
 (repeat' first|(with_reducible first|rfl|exact True.intro|apply AK|apply And.intro|((first|apply Az|apply AI|apply AA|apply AJ)<;>intro _))|(apply Aw<;>intro _)|apply AH|refine Ae () ?_ ?_|((first|apply AO|apply AN|apply AM|apply AL|apply AG|apply AF|apply AE|apply AD|apply AC)<;>try dsimp only)|apply Ae|(refine Prod.forall.2 ?_;intro _;try dsimp only)|(intro _;try dsimp only))
 all_goals(try(repeat(rename s.sg[_]? =some _=>hq;revert hq;rename s.sg[_]? =some _=>hr;intro hq;rw[hr] at hq;cases hq)))
 all_goals first
  |rfl
  |exact(a1T h2 (.inl ‹_›)).symm
  |exact(a1T h2 (.inr (by simp only;omega))).symm
  |(rw[b1o ‹_› ‹_› (by simp only;omega)];simp [*];done)
  |((try simp only[AR]);omega)
  |skip)
def Cc:Sig:= {X:=ST×Int×Int×Bool×List Nd×List UInt8,args:=fun x=>[srd x.1 (xh x),.str x.2.2.2.2.2],pre:=fun x=>rOk x.1 (xh x),Y:=Unit,post:=fun x y=>True,res:=fun x y=> .bool (isG x.1.sg (xh x) 4 x.2.2.2.2.2),outs:=fun x y=>[srd x.1 (Ah x.1.sg (xh x) x.2.2.2.2.2),.top],keep:=true}
theorem Hj:Aj G Tryz.prog 73 Cc:=
 vcFun_okP [(106,0,DW)] [] false (fun x=>[]) Tryz.func73 rfl (by decide) ⟨Ow,trivial⟩ (fun(x:ST×Int×Int×Bool×List Nd×List UInt8)=>True∧cA DW [srd x.1 (xh x),.int .i64 (4:Int),.str x.2.2.2.2.2] fun x_1 y=>Aa (isG x_1.1.sg (xh x_1) x_1.2.2.2.2.2.1 x_1.2.2.2.2.2.2) (inR IntKind.i64 ((xh x_1).pos+(1:Int))∧rA Cc x [.bool true,.box 0 [sgs x_1.1.sg,.int .i64 ((xh x_1).pos+(1:Int)),.bool (xh x_1).bad,.int .i64 (xh x_1).deep,Au (xh x_1).nodes],.top]) (rA Cc x [.bool false,srd x_1.1 (xh x_1),.top])) (fun x=>by kernel_rfl) fun(x:ST×Int×Int×Bool×List Nd×List UInt8) (hx:rOk x.1 (xh x))=>(by
 dsimp only[cA,Bg,Au,rA,DW,Cc,Bj,sgs,srd,Av,AB,mvL,lnL,mvE,lnE]
 obtain⟨s,p,d,b,ns,m⟩:=x;dsimp only[xg,xh] at hx ⊢
 have hx:rOk s ⟨p,d,b,ns⟩:=hx;have hs:=DL hx;dsimp only at hs
 (repeat' first|(with_reducible first|rfl|exact True.intro|apply AK|apply And.intro|((first|apply Az|apply AI|apply AA|apply AJ)<;>intro _))|(apply Aw<;>intro _)|apply AH|refine Ae () ?_ ?_|((first|apply AO|apply AN|apply AM|apply AL|apply AG|apply AF|apply AE|apply AD|apply AC)<;>try dsimp only)|apply Ae|(refine Prod.forall.2 ?_;intro _;try dsimp only)|(intro _;try dsimp only))
 all_goals first
  |rfl
  |exact hx
  |omega
  |(simp [Ah,Ai,*];done)
  |((try simp only[AR]);omega)
  |skip)
def EL:Sig:= {X:=ST×Int×Int×Bool×List Nd×List UInt8,args:=fun x=>[srd x.1 (xh x),.str x.2.2.2.2.2],pre:=fun x=>rOk x.1 (xh x),Y:=Unit,post:=fun x y=>True,res:=fun x y=> .bool (isG x.1.sg (xh x) 1 x.2.2.2.2.2),outs:=fun x y=>[srd x.1 (BI x.1.sg (xh x) x.2.2.2.2.2),.top],keep:=true}
theorem Ve:Aj G Tryz.prog 70 EL:=
 vcFun_okP [(106,0,DW)] [] false (fun x=>[]) Tryz.func70 rfl (by decide) ⟨Ow,trivial⟩ (fun(x:ST×Int×Int×Bool×List Nd×List UInt8)=>True∧cA DW [srd x.1 (xh x),.int .i64 (1:Int),.str x.2.2.2.2.2] fun x_1 y=>Aa (isG x_1.1.sg (xh x_1) x_1.2.2.2.2.2.1 x_1.2.2.2.2.2.2) (inR IntKind.i64 ((xh x_1).pos+(1:Int))∧rA EL x [.bool true,.box 0 [sgs x_1.1.sg,.int .i64 ((xh x_1).pos+(1:Int)),.bool (xh x_1).bad,.int .i64 (xh x_1).deep,Au (xh x_1).nodes],.top]) (rA EL x [.bool false,srd x_1.1 (xh x_1),.top])) (fun x=>by kernel_rfl) fun(x:ST×Int×Int×Bool×List Nd×List UInt8) (hx:rOk x.1 (xh x))=>(by
 dsimp only[cA,Bg,Au,rA,DW,EL,Bj,sgs,srd,Av,AB,mvL,lnL,mvE,lnE]
 obtain⟨s,p,d,b,ns,m⟩:=x;dsimp only[xg,xh] at hx ⊢
 have hx:rOk s ⟨p,d,b,ns⟩:=hx;have hs:=DL hx;dsimp only at hs
 (repeat' first|(with_reducible first|rfl|exact True.intro|apply AK|apply And.intro|((first|apply Az|apply AI|apply AA|apply AJ)<;>intro _))|(apply Aw<;>intro _)|apply AH|refine Ae () ?_ ?_|((first|apply AO|apply AN|apply AM|apply AL|apply AG|apply AF|apply AE|apply AD|apply AC)<;>try dsimp only)|apply Ae|(refine Prod.forall.2 ?_;intro _;try dsimp only)|(intro _;try dsimp only))
 all_goals first
  |rfl
  |exact hx
  |omega
  |(simp [BI,Ai,*];done)
  |((try simp only[AR]);omega)
  |skip)
def BO:Sig:= {X:=ST×Int×Int×Bool×List Nd×List UInt8,args:=fun x=>[srd x.1 (xh x),.str x.2.2.2.2.2],pre:=fun x=>rOk x.1 (xh x),Y:=Unit,post:=fun x y=>True,res:=fun x y=> .tup [],outs:=fun x y=>[srd x.1 (Al x.1.sg (xh x) x.2.2.2.2.2),.top],keep:=true}
theorem HN:Aj G Tryz.prog 72 BO:=
 vcFun_okP [(73,0,Cc)] [] false (fun x=>[]) Tryz.func72 rfl (by decide) ⟨Hj,trivial⟩ (fun(x:ST×Int×Int×Bool×List Nd×List UInt8)=>True∧cA Cc [srd x.1 (xh x),.str x.2.2.2.2.2] fun x_1 y=>Aa (!isG x_1.1.sg (xh x_1) (4:Int) x_1.2.2.2.2.2) (rA BO x [.tup [],.box 0 [sgs x_1.1.sg,.int .i64 (Ah x_1.1.sg (xh x_1) x_1.2.2.2.2.2).pos,.bool true,.int .i64 (Ah x_1.1.sg (xh x_1) x_1.2.2.2.2.2).deep,Au (Ah x_1.1.sg (xh x_1) x_1.2.2.2.2.2).nodes],.top]) (rA BO x [.tup [],srd x_1.1 (Ah x_1.1.sg (xh x_1) x_1.2.2.2.2.2),.top])) (fun x=>by kernel_rfl) fun(x:ST×Int×Int×Bool×List Nd×List UInt8) (hx:rOk x.1 (xh x))=>(by
 dsimp only[cA,Bg,Au,rA,Cc,BO,Bj,sgs,srd,Av,AB,mvL,lnL,mvE,lnE]
 obtain⟨s,p,d,b,ns,m⟩:=x;dsimp only[xg,xh] at hx ⊢
 have hx:rOk s ⟨p,d,b,ns⟩:=hx;have hs:=DL hx;dsimp only at hs
 (repeat' first|(with_reducible first|rfl|exact True.intro|apply AK|apply And.intro|((first|apply Az|apply AI|apply AA|apply AJ)<;>intro _))|(apply Aw<;>intro _)|apply AH|refine Ae () ?_ ?_|((first|apply AO|apply AN|apply AM|apply AL|apply AG|apply AF|apply AE|apply AD|apply AC)<;>try dsimp only)|apply Ae|(refine Prod.forall.2 ?_;intro _;try dsimp only)|(intro _;try dsimp only))
 all_goals first
  |rfl
  |exact hx
  |(simp [Al,Ah,Ai,Bd,*];done)
  |((try simp only[AR]);omega)
  |skip)
def DX:Sig:= {X:=ST×Int×Int×Bool×List Nd×Int,args:=fun x=>[srd x.1 (xh x),.int .i64 x.2.2.2.2.2],pre:=fun x=>rOk x.1 (xh x)∧x.2.2.2.2.2≠0,Y:=Unit,post:=fun x y=>True,res:=fun x y=> .bool (kdG x.1.sg (xh x) x.2.2.2.2.2),outs:=fun x y=>[srd x.1 (xh x),.top],keep:=true}
theorem Re:Aj G Tryz.prog 68 DX:=
 vcFun_okP [(105,0,FV)] [] false (fun x=>[]) Tryz.func68 rfl (by decide) ⟨TN,trivial⟩ (fun(x:ST×Int×Int×Bool×List Nd×Int)=>True∧true=true∧true=true∧Aa (!(xh x).bad) (Aa (decide ((xh x).pos<(↑(List.length x.1.sg):Int))) (((0:Int)≤(xh x).pos∧(xh x).pos<(↑(List.length x.1.sg):Int))∧∀(e:Sg),x.1.sg[Int.toNat (xh x).pos]? =some e→Aa (e.kind==x.2.2.2.2.2) (Aa (x.2.2.2.2.2 != (1:Int)) (rA DX x [.bool true,srd x.1 (xh x),.top]) (((0:Int)≤(xh x).pos∧(xh x).pos<(↑(List.length x.1.sg):Int))∧∀(e:Sg),x.1.sg[Int.toNat (xh x).pos]? =some e→∃(x_1:List UInt8),True∧e.text=x_1∧∃(y0:Unit),(∀(y:Unit),True→AV.bool (kw x_1)=AV.bool (kw x_1))∧true=true∧rA DX x [.bool !kw x_1,srd x.1 (xh x),.top])) (rA DX x [.bool false,srd x.1 (xh x),.top])) (rA DX x [.bool false,srd x.1 (xh x),.top])) (rA DX x [.bool false,srd x.1 (xh x),.top])) (fun x=>by kernel_rfl) fun(x:ST×Int×Int×Bool×List Nd×Int) (hx:rOk x.1 (xh x)∧x.2.2.2.2.2≠0)=>(by
 dsimp only[Bg,Au,rA,DX,Bj,sgs,srd,Av,AB]
 obtain⟨s,p,d,b,ns,k⟩:=x;dsimp only[xg,xh] at hx ⊢
 obtain⟨h1,h2⟩:=hx;have hs:=DL h1;dsimp only at hs
 (repeat' first|(with_reducible first|rfl|exact True.intro|apply AK|apply And.intro|((first|apply Az|apply AI|apply AA|apply AJ)<;>intro _))|(apply Aw<;>intro _)|apply AH|refine Ae () ?_ ?_|((first|apply AO|apply AN|apply AM|apply AL|apply AG|apply AF|apply AE|apply AD|apply AC)<;>try dsimp only)|apply Ae|(refine Prod.forall.2 ?_;intro _;try dsimp only)|(intro _;try dsimp only))
 all_goals(try(repeat(rename s.sg[_]? =some _=>hq;revert hq;rename s.sg[_]? =some _=>hr;intro hq;rw[hr] at hq;cases hq)))
 all_goals first
  |rfl
  |exact(ML h2 (.inl ‹_›)).symm
  |exact(ML h2 (.inr (by simp only;omega))).symm
  |(rw[a1U ‹_› ‹_› (by simp only;omega)];simp [*];done)
  |((try simp only[AR]);omega)
  |skip)
def CG:Sig:= {X:=ST×Int×Int×Bool×List Nd×Int,args:=fun x=>[srd x.1 (xh x),.int .i64 x.2.2.2.2.2],pre:=fun x=>rOk x.1 (xh x)∧x.2.2.2.2.2≠0,Y:=Unit,post:=fun x y=>True,res:=fun x y=> .str (BA x.1.sg (xh x) x.2.2.2.2.2),outs:=fun x y=>[srd x.1 (Bf x.1.sg (xh x) x.2.2.2.2.2),.top],keep:=true}
theorem Kl:Aj G Tryz.prog 69 CG:=
 vcFun_okP [(68,0,DX)] [] false (fun x=>[]) Tryz.func69 rfl (by decide) ⟨Re,trivial⟩ (fun(x:ST×Int×Int×Bool×List Nd×Int)=>True∧cA DX [srd x.1 (xh x),.int .i64 x.2.2.2.2.2] fun x_1 y=>Aa (!kdG x_1.1.sg (xh x_1) x_1.2.2.2.2.2) (rA CG x [.str #[].toList,.box 0 [sgs x_1.1.sg,.int .i64 (xh x_1).pos,.bool true,.int .i64 (xh x_1).deep,Au (xh x_1).nodes],.top]) (inR IntKind.i64 ((xh x_1).pos+(1:Int))∧true=true∧true=true∧inR IntKind.i64 ((xh x_1).pos+(1:Int)-(1:Int))∧((0:Int)≤(xh x_1).pos+(1:Int)-(1:Int)∧(xh x_1).pos+(1:Int)-(1:Int)<(↑(List.length x_1.1.sg):Int))∧∀(e:Sg),x_1.1.sg[Int.toNat ((xh x_1).pos+(1:Int)-(1:Int))]? =some e→rA CG x [.str e.text,.box 0 [sgs x_1.1.sg,.int .i64 ((xh x_1).pos+(1:Int)),.bool (xh x_1).bad,.int .i64 (xh x_1).deep,Au (xh x_1).nodes],.top])) (fun x=>by kernel_rfl) fun(x:ST×Int×Int×Bool×List Nd×Int) (hx:rOk x.1 (xh x)∧x.2.2.2.2.2≠0)=>(by
 dsimp only[cA,Bg,Au,rA,DX,CG,Bj,sgs,srd,Av,AB,mvL,lnL,mvE,lnE]
 obtain⟨s,p,d,b,ns,k⟩:=x;dsimp only[xg,xh] at hx ⊢
 obtain⟨h1,h2⟩:=hx;have hs:=DL h1;dsimp only at hs
 (repeat' first|(with_reducible first|rfl|exact True.intro|apply AK|apply And.intro|((first|apply Az|apply AI|apply AA|apply AJ)<;>intro _))|(apply Aw<;>intro _)|apply AH|refine Ae () ?_ ?_|((first|apply AO|apply AN|apply AM|apply AL|apply AG|apply AF|apply AE|apply AD|apply AC)<;>try dsimp only)|apply Ae|(refine Prod.forall.2 ?_;intro _;try dsimp only)|(intro _;try dsimp only))
 all_goals first
  |rfl
  |exact h1
  |exact h2
  |(simp [Bf,BA,Ai,Bd,*];done)
  |exact b1r ‹_› h2 ‹_›
  |(have hl:=Rd h2 (show kdG _ _ _=true by assumption);dsimp only at hl;(try simp only[AR]);omega)
  |((try simp only[AR]);omega)
  |skip)
def Bq:Sig:= {X:=ST×Int×Int×Bool×List Nd×Int×List UInt8×List Int,args:=fun x=>[srd x.1 (xh x),.int .i64 x.2.2.2.2.2.1,.str x.2.2.2.2.2.2.1,Ab x.2.2.2.2.2.2.2],pre:=fun x=>rOk x.1 (xh x),Y:=Unit,post:=fun x y=>True,res:=fun x y=> .int .i64 (Ax (xh x)),outs:=fun x y=>[srd x.1 (Ag (xh x) ⟨x.2.2.2.2.2.1,x.2.2.2.2.2.2.1,x.2.2.2.2.2.2.2,false⟩),.top,.top,.top],keep:=true}
theorem Hk:Aj G Tryz.prog 43 Bq:=
 vcFun_okP [] [(32,⟨Nd,ndA true⟩)] false (fun x=>[]) Tryz.func43 rfl (by decide) trivial (fun(x:ST×Int×Int×Bool×List Nd×Int×List UInt8×List Int)=>True∧Aa (xh x).bad (rA Bq x [.int .i64 (0:Int),.box 0 [sgs x.1.sg,.int .i64 (xh x).pos,.bool true,.int .i64 (xh x).deep,Au (xh x).nodes],.top,.top,.top]) (Aa (decide ((↑(List.length (xh x).nodes):Int)≥(300:Int))) (rA Bq x [.int .i64 (0:Int),.box 0 [sgs x.1.sg,.int .i64 (xh x).pos,.bool true,.int .i64 (xh x).deep,Au (xh x).nodes],.top,.top,.top]) (∃(x_1:Nd),x.2.2.2.2.2.1=x_1.kind∧x.2.2.2.2.2.2.1=x_1.text∧Ab x.2.2.2.2.2.2.2=Ab x_1.kids∧false=x_1.blank∧∃(zs:List Nd),Au [x_1]=Au zs∧Be (ndA true)∧AS (List.length (xh x).nodes+List.length zs) (56:Nat)∧inR IntKind.i64 ((↑(List.length ((xh x).nodes++zs)):Int)-(1:Int))∧∃(y:Unit),True∧(↑(List.length ((xh x).nodes++zs)):Int)-(1:Int)=Ax (xh x)∧sgs x.1.sg=sgs x.1.sg∧(xh x).pos=(Ag (xh x) {kind:=x.2.2.2.2.2.1,text:=x.2.2.2.2.2.2.1,kids:=x.2.2.2.2.2.2.2,blank:=false}).pos∧(xh x).bad=(Ag (xh x) {kind:=x.2.2.2.2.2.1,text:=x.2.2.2.2.2.2.1,kids:=x.2.2.2.2.2.2.2,blank:=false}).bad∧(xh x).deep=(Ag (xh x) {kind:=x.2.2.2.2.2.1,text:=x.2.2.2.2.2.2.1,kids:=x.2.2.2.2.2.2.2,blank:=false}).deep∧Au ((xh x).nodes++zs)=Au (Ag (xh x) {kind:=x.2.2.2.2.2.1,text:=x.2.2.2.2.2.2.1,kids:=x.2.2.2.2.2.2.2,blank:=false}).nodes∧True))) (fun x=>by kernel_rfl) fun(x:ST×Int×Int×Bool×List Nd×Int×List UInt8×List Int) (hx:rOk x.1 (xh x))=>(by
 dsimp only[Bg,Ab,Au,rA,Bq,Bj,sgs,srd,Av,AB]
 obtain⟨s,p,d,b,ns,k,t,ks⟩:=x;dsimp only[xg,xh] at hx ⊢
 have hx:rOk s ⟨p,d,b,ns⟩:=hx;have hs:=DL hx;dsimp only at hs
 (repeat' first|refine ZH ?_|(with_reducible first|rfl|exact True.intro|apply AK|apply And.intro|((first|apply Az|apply AI|apply AA|apply AJ)<;>intro _))|(apply Aw<;>intro _)|apply AH|refine Ae () ?_ ?_|((first|apply AO|apply AN|apply AM|apply AL|apply AG|apply AF|apply AE|apply AD|apply AC)<;>try dsimp only)|apply Ae|(refine Prod.forall.2 ?_;intro _;try dsimp only)|(intro _;try dsimp only))
 all_goals first
  |rfl
  |(simp [Ag,Ax,CR,Bd,*];done)
  |(have hn:ns.length=300:=by omega
    simp [Ag,Ax,CR,Bd,*];done)
  |(have hn:ns.length≠300:=by omega
    simp [Ag,Ax,CR,Bd,*];done)
  |((try simp only[AR,AS,List.length_append,List.length_cons,List.length_nil]);omega)
  |skip)
def FH:Sig:= {X:=ST×Int×Int×Bool×List Nd,args:=fun x=>[srd x.1 (xg x)],pre:=fun x=>rOk x.1 (xg x),Y:=Unit,post:=fun x y=>True,res:=fun x y=> .bool (blG x.1.sg (xg x)),outs:=fun x y=>[srd x.1 (xg x)],keep:=true}
theorem Rf:Aj G Tryz.prog 40 FH:=
 vcFun_okP [] [] false (fun x=>[]) Tryz.func40 rfl (by decide) trivial (fun(x:ST×Int×Int×Bool×List Nd)=>True∧true=true∧true=true∧Aa (decide ((xg x).pos<(↑(List.length x.1.sg):Int))) (((0:Int)≤(xg x).pos∧(xg x).pos<(↑(List.length x.1.sg):Int))∧∀(e:Sg),x.1.sg[Int.toNat (xg x).pos]? =some e→rA FH x [.bool e.blank,srd x.1 (xg x)]) (rA FH x [.bool false,srd x.1 (xg x)])) (fun x=>by kernel_rfl) fun(x:ST×Int×Int×Bool×List Nd) (hx:rOk x.1 (xg x))=>(by
 dsimp only[Bg,Au,rA,FH,Bj,sgs,srd,Av,AB]
 obtain⟨s,p,d,b,ns⟩:=x;dsimp only[xg,xh] at hx ⊢
 have hx:rOk s ⟨p,d,b,ns⟩:=hx;have hs:=DL hx;dsimp only at hs
 (repeat' first|(with_reducible first|rfl|exact True.intro|apply AK|apply And.intro|((first|apply Az|apply AI|apply AA|apply AJ)<;>intro _))|(apply Aw<;>intro _)|apply AH|refine Ae () ?_ ?_|((first|apply AO|apply AN|apply AM|apply AL|apply AG|apply AF|apply AE|apply AD|apply AC)<;>try dsimp only)|apply Ae|(refine Prod.forall.2 ?_;intro _;try dsimp only)|(intro _;try dsimp only))
 all_goals first
  |rfl
  |(simp [blG,Gb (show s.sg[_]? =some _ by assumption),*];done)
  |(simp [blG,*];done)
  |((try simp only[AR]);omega)
  |skip)
def Eh:Sig:= {X:=ST×Int×Int×Bool×List Nd×Int×Bool,args:=fun x=>[srd x.1 (xh x),.int .i64 x.2.2.2.2.2.1,.bool x.2.2.2.2.2.2],pre:=fun x=>rOk x.1 (xh x)∧((xh x).bad=false→0≤x.2.2.2.2.2.1),Y:=Unit,post:=fun x y=>True,res:=fun x y=> .tup [],outs:=fun x y=>[srd x.1 (gBl (xh x) x.2.2.2.2.2.1 x.2.2.2.2.2.2),.top,.top],keep:=true}
theorem Rh:Aj G Tryz.prog 42 Eh:=
 vcFun_okP [] [(32,⟨Nd,ndA true⟩)] false (fun x=>[]) Tryz.func42 rfl (by decide) trivial (fun(x:ST×Int×Int×Bool×List Nd×Int×Bool)=>True∧Aa (!(xh x).bad) (Aa (decide (x.2.2.2.2.2.1<(↑(List.length (xh x).nodes):Int))) (((0:Int)≤x.2.2.2.2.2.1∧x.2.2.2.2.2.1<(↑(List.length (xh x).nodes):Int))∧Int.toNat x.2.2.2.2.2.1<List.length (xh x).nodes∧∀(x_1:Nd),(xh x).nodes[Int.toNat x.2.2.2.2.2.1]? =some x_1→∃(x':Nd),([.int .i64 x'.kind,.str x'.text,Ab x'.kids]=[.int .i64 x_1.kind,.str x_1.text,Ab x_1.kids]∧(@List.nil AV)=[])∧x.2.2.2.2.2.2=x'.blank∧rA Eh x [.tup [],.box 0 [sgs x.1.sg,.int .i64 (xh x).pos,.bool (xh x).bad,.int .i64 (xh x).deep,Au (List.set (xh x).nodes (Int.toNat x.2.2.2.2.2.1) x')],.top,.top]) (rA Eh x [.tup [],srd x.1 (xh x),.top,.top])) (rA Eh x [.tup [],srd x.1 (xh x),.top,.top])) (fun x=>by kernel_rfl) fun(x:ST×Int×Int×Bool×List Nd×Int×Bool) (hx:rOk x.1 (xh x)∧((xh x).bad=false→0≤x.2.2.2.2.2.1))=>(by
 dsimp only[Bg,Ab,Au,rA,Eh,Bj,sgs,srd,Av,AB]
 obtain⟨s,p,d,b,ns,k,bl⟩:=x;dsimp only[xg,xh] at hx ⊢
 obtain⟨hx,hk⟩:=hx
 have hx:rOk s ⟨p,d,b,ns⟩:=hx;have hs:=DL hx;dsimp only at hs
 (repeat' first|refine b1p ?_|(with_reducible first|rfl|exact True.intro|apply AK|apply And.intro|((first|apply Az|apply AI|apply AA|apply AJ)<;>intro _))|(apply Aw<;>intro _)|apply AH|refine Ae () ?_ ?_|((first|apply AO|apply AN|apply AM|apply AL|apply AG|apply AF|apply AE|apply AD|apply AC)<;>try dsimp only)|apply Ae|(refine Prod.forall.2 ?_;intro _;try dsimp only)|(intro _;try dsimp only))
 all_goals first
  |rfl
  |(simp [gBl,*];done)
  |exact b1q (g:=⟨p,d,b,ns⟩) ‹_› ‹_› ‹_›
  |(have hk2:=hk ‹_›;(try simp only[AR]);omega)
  |((try simp only[AR]);omega)
  |skip)
end Go.My
end
section
set_option linter.unusedVariables false
set_option linter.unusedSimpArgs false
namespace Go.My
open Go.Eng
theorem MM{sg:List Sg}{x:Gs}{f:Ps→PR}{k k':Int}{y y':Gs}(h:Af sg x f (k,y))(h1:gsOk sg y')(h2:y'.deep=y.deep)(h3:y.pos≤y'.pos)(h4:pur y'=pur y)(h5:y'.bad=false→k'=k):Af sg x f (k',y'):=by
 obtain⟨⟨a1,a2,a3,a4,a5⟩,b⟩:=h
 simp only at a1 a2 a3 a4 a5 b
 have hb:y'.bad=y.bad:=by
  cases hy:y.bad with
  |true=>exact ZD.1 (h4.trans (DK hy))
  |false=>
   cases hy':y'.bad with
   |false=>rfl
   |true=>rw[DK hy',CY hy] at h4;cases h4
 refine⟨⟨h1,by simp only;omega,by simp only;omega,by simp only;rw[h4];exact a4,fun p hp=> ?_⟩,fun hw=> ?_⟩
 ·simp only
  have:=a5 p hp
  rw[h5 ?_]
  ·exact this
  ·cases hy:y'.bad with
   |false=>rfl
   |true=>rw[←h4,DK hy,hp] at a4;cases a4
 ·simp only at hw ⊢
  have:=b (by rw[←hb];exact hw);omega
theorem Vf{α:Type}{sg:List Sg}{x y y':Gs}{f g:Ps→Option (α×Ps)}{d:Int}(h:restP sg x f y g d)(h1:gsOk sg y')(h2:y'.deep=y.deep)(h3:y.pos≤y'.pos)(h4:pur y'=pur y):restP sg x f y' g d:=by
 obtain⟨a1,a2,a3,a4⟩:=h
 exact⟨h1,by omega,by omega,by rw[h4];exact a4⟩
theorem Vg{sg:List Sg}{g:Gs}{w:Nd}(h:gsOk sg g)(hl:g.pos<sg.length)(hw:Cw w):gsOk sg (Ag (Ai g) w)∧(Ag (Ai g) w).deep=(BZ (Ag g w)).deep∧(BZ (Ag g w)).pos≤(Ag (Ai g) w).pos∧pur (Ag (Ai g) w)=pur (BZ (Ag g w))∧Ax (Ai g)=Ax g:=by
 refine⟨It (EZ h hl) hw,?_⟩
 cases hf:CR g with
 |true=>
  have hf2:CR (Ai g)=true:=hf
  simp only[Ag,Ax,hf,hf2,if_true]
  simp [BZ,Bd,Ai,pur];omega
 |false=>
  have hf2:CR (Ai g)=false:=hf
  have:=(Qj hf).1
  simp only[Ag,Ax,hf,hf2,Bool.false_eq_true,if_false]
  simp [BZ,Bd,Ai,pur,this]
theorem HO{sg:List Sg}{x g:Gs}{f:Ps→PR}{m:List UInt8}{w:Nd}(hg:gsOk sg g)(hw:Cw w)(h:Af sg x f (BB sg g m,Bs sg g m w)):Af sg x f (Ax (Al sg g m),Ag (Al sg g m) w):=by
 cases hq:isG sg g 4 m with
 |true=>
  obtain⟨a,b,c,d,e⟩:=Vg hg (Cz hq (by omega)).2 hw
  simp only[Bs,BB,Al,hq,if_true] at h ⊢
  exact MM h a b c d (fun _=>e)
 |false=>
  simp only[Bs,BB,Al,hq,Bool.false_eq_true,if_false] at h ⊢
  have hf:CR (Bd g)=true:=by simp [CR,Bd]
  simp only[Ag,Ax,hf,if_true]
  exact MM h hg rfl (Int.le_refl _) rfl (fun _=>rfl)
theorem Ox{sg:List Sg}{g:Gs}{k:Int}(hk:k≠1):kdG sg g k=decide ((pkG sg g 0).kind=k):=by simp [kdG,hk]
theorem MN{sg:List Sg}{x g:Gs}{f:Ps→PR}{k c:Int}(hs:sgB sg)(hg:gsOk sg g)(hk:k≠0)(hq:kdG sg g k=true)(h:Af sg x f (Ax g,CZ sg g c false)):Af sg x f (Ax (Bf sg g k),Ag (Bf sg g k) ⟨c,BA sg g k,[],false⟩):=by
 have hl:=Rd hk hq
 have hw:Cw ⟨c,(pkG sg g 0).text,[],false⟩:=⟨JY hs,by simp⟩
 obtain⟨a1,a2,a3,a4,a5⟩:=Vg hg hl.2 hw
 simp only[Bf,BA,hq,if_true]
 exact MM h a1 a2 a3 a4 (fun _=>a5)
theorem b1s{sg:List Sg}{g:Gs}(hs:sgB sg)(hg:gsOk sg g):Af sg g (Bz sg) (Ax (Bf sg g 1),Ag (Bf sg g 1) ⟨1,BA sg g 1,[],false⟩):=by
 have h:=Ja hs hg
 cases hq:nmG sg g 0 with
 |true=>
  refine MN hs hg (by omega) (by rw[Iy];exact hq) ?_
  simp only[CA,Dk,hq,if_true] at h;exact h
 |false=>
  have hq2:kdG sg g 1=false:=by rw[Iy];exact hq
  simp only[CA,Dk,hq,Bool.false_eq_true,if_false] at h
  have hf:CR (Bd g)=true:=by simp [CR,Bd]
  simp only[Bf,BA,hq2,Bool.false_eq_true,if_false,Ag,Ax,hf,if_true]
  exact MM h hg rfl (Int.le_refl _) rfl (fun _=>rfl)
theorem HP{sg:List Sg}{g:Gs}:Bf sg g 1=BR sg g∧BA sg g 1=BS sg g:=by
 simp only[Bf,BR,BA,BS,Iy];exact⟨trivial,trivial⟩
theorem Ri{sg:List Sg}{g:Gs}{m:List UInt8}(h:g.bad=true):Al sg g m=g:=by
 have:isG sg g 4 m=false:=ZE (DK h) (by omega)
 simp only[Al,this,Bool.false_eq_true,if_false,Bd]
 cases g;simp only at h;simp [h]
theorem Jk{sg:List Sg}{g:Gs}{m:List UInt8}(h:isG sg g 4 m=true):Al sg g m=Ai g:=by simp [Al,h]
theorem Oy{sg:List Sg}{g:Gs}{m:List UInt8}(h:isG sg g 4 m=false):Al sg g m=Bd g:=by simp [Al,h]
theorem Vh{w:Nd}{s:Ps}(h:¬300≤s.nodes.length):Ba w s=some ((s.nodes.length:Int),⟨s.pos,s.deep,s.nodes++[w]⟩):=if_neg h
theorem Vi{w:Nd}{s:Ps}(h:300≤s.nodes.length):Ba w s=none:=if_pos h
def chS(sg:List Sg)(n l:Nat)(x y:Gs)(t:List UInt8)(ks:List Int)(N:Nat):Prop:=
 restP sg x (pE sg (n+1) (.chain l)) y (chF sg n l N t ks) 0∧(2*((sg.length:Int)-y.pos)+4≤N∨(t=[]∧2*((sg.length:Int)-y.pos)+3≤N))∧(ks.length:Int)≤y.pos+1∧(y.bad=false→x.pos<y.pos)∧(t=[]→ks.length=1)∧(t≠[]→2≤ks.length∧t∈Bu l)
theorem b1t{sg:List Sg}{x:Gs}{n l:Nat}{z:Int×Gs}(h:gsOk sg x)(hl:l≠6)(h1:Af sg x (pE sg n (.chain (l+1))) z):chS sg n l x z.2 [] [z.1] (2*sg.length+4):=by
 obtain⟨a,b,c⟩:=ZX h hl h1
 have:=a.1.1
 exact⟨a,.inr ⟨rfl,b⟩,by simp;omega,c,fun _=>rfl,fun h=>(h rfl).elim⟩
theorem Vj{sg:List Sg}{l:Nat}{m:List UInt8}{ks:List Int}(hs:sgB sg)(hml:m∈Bu l)(hk:(ks.length:Int)≤sg.length+1):Cw ⟨7,m,ks,false⟩:=by
 refine⟨?_,by have:=hs.1;simp only;omega⟩
 simp only
 unfold Bu at hml
 split at hml<;>simp at hml<;>(first|(subst hml;simp)|(rcases hml with rfl|rfl<;>simp))
theorem b1u{sg:List Sg}{n l:Nat}{x y:Gs}{t:List UInt8}{ks:List Int}{N:Nat}{z:Int×Gs}(h:chS sg n l x y t ks N)(hm:BC sg l y≠[])(ht:t=[]∨BC sg l y=t)(hz:Af sg (Ai y) (pE sg n (.chain (l+1))) z):
 chS sg n l x z.2 (BC sg l y) (ks++[z.1]) (N-1)∧N-1<N:=by
 obtain⟨h1,hN,hk,hb,hk1,hk2⟩:=h
 have hq:=(Hd hm).1
 have hp:=h1.1.1
 have hl:=Cz hq (by omega)
 match N with
 |0=>omega
 |M+1=>
  refine⟨?_,by omega⟩
  have k1:=Gc (g':=fun s=>(pE sg n (.chain (l+1)) s).bind fun p=>chF sg n l M (BC sg l y) (ks++[p.1]) p.2) h1 (by omega) hq (fun s hs hts=>by
   rw[chF,Ee,if_neg ?_,if_neg (by rw[FE hs];exact hm),FE hs];rfl
   rw[FE hs];rintro⟨q1,q2⟩;rcases ht with ht|ht
   ·exact q1 ht
   ·exact q2 ht)
  have k2:=BK (k:=fun k s=>chF sg n l M (BC sg l y) (ks++[k]) s) k1 hz.1 (fun _ _=>rfl)
  have e:=CD hz
  simp only[Ai] at e
  have:=h1.2.2.1
  simp only[Nat.add_sub_cancel]
  refine⟨k2,.inl (by omega),by simp;omega,fun hb2=>by omega,fun he=>(hm he).elim,fun _=>⟨?_,(Hd hm).2⟩⟩
  simp only[List.length_append,List.length_cons,List.length_nil]
  rcases Classical.em (t=[]) with e0|e0
  ·have:=hk1 e0;omega
  ·have:=(hk2 e0).1;omega
theorem b1v{sg:List Sg}{n l:Nat}{x y:Gs}{t:List UInt8}{ks:List Int}{N:Nat}{z:Int×Gs}(hs:sgB sg)(h:chS sg n l x y t ks N)(hm:BC sg l y≠[])(ht:t≠[])(hne:BC sg l y≠t)(hz:Af sg (Ag (Ai y) ⟨7,t,ks,false⟩) (pE sg n (.chain (l+1))) z):
 chS sg n l x z.2 (BC sg l y) ([Ax (Ai y)]++[z.1]) (N-2)∧N-2<N:=by
 obtain⟨h1,hN,hk,hb,hk1,hk2⟩:=h
 have hq:=(Hd hm).1
 have hp:=h1.1.1
 have hl:=Cz hq (by omega)
 have hN2:2*((sg.length:Int)-y.pos)+4≤N:=by
  rcases hN with h|h
  ·exact h
  ·exact(ht h.1).elim
 match N with
 |0=>omega
 |1=>omega
 |M+2=>
  refine⟨?_,by omega⟩
  have hw:Cw ⟨7,t,ks,false⟩:=Vj hs (hk2 ht).2 (by omega)
  have k1:=Gc (g':=fun s=>(Ba ⟨7,t,ks,false⟩ s).bind fun p=>(pE sg n (.chain (l+1)) p.2).bind fun q=>chF sg n l M (BC sg l y) ([p.1]++[q.1]) q.2) h1 (by omega) hq (fun s hs hts=>by
   rw[chF,Ee,if_pos ⟨ht,by rw[FE hs];exact hne⟩]
   by_cases h3:300≤s.nodes.length
   ·rw[Vi h3,Vi (s:=adv s) h3];rfl
   ·rw[Vh h3,Vh (s:=adv s) h3]
    simp only[Option.bind_some]
    have e:FC sg l ⟨s.pos,s.deep,s.nodes++[⟨7,t,ks,false⟩]⟩=BC sg l y:=by rw[←FE hs];rfl
    rw[Ee,if_neg (by simp),if_neg (by rw[e];exact hm),e];rfl)
  have k2:=BK (k:=fun k s=>(pE sg n (.chain (l+1)) s).bind fun q=>chF sg n l M (BC sg l y) ([k]++[q.1]) q.2) k1 (NY k1.1 hw) (fun _ _=>rfl)
  have k3:=BK (k:=fun k s=>chF sg n l M (BC sg l y) ([Ax (Ai y)]++[k]) s) k2 hz.1 (fun _ _=>rfl)
  have e:=CD hz
  obtain⟨d1,d2,d3⟩:= @Hc (Ai y) ⟨7,t,ks,false⟩
  rw[d2] at e;simp only[Ai] at e
  have:=h1.2.2.1
  simp only[Nat.add_sub_cancel]
  refine⟨k3,.inl (by omega),by simp;omega,fun hb2=>by omega,fun he=>(hm he).elim,fun _=>⟨by simp,(Hd hm).2⟩⟩
theorem a1V{sg:List Sg}{n l:Nat}{x y:Gs}{t:List UInt8}{ks:List Int}{N:Nat}{k:Int}(h:chS sg n l x y t ks N)(hm:y.bad=true∨BC sg l y=[])(hl:ks.length=1)(hk:ks[0]? =some k):Af sg x (pE sg (n+1) (.chain l)) (k,y):=by
 obtain⟨h1,hN,hk0,hb,hk1,hk2⟩:=h
 rcases hm with hm|hm
 ·exact⟨Od h1 hm,fun hb2=>by simp only at hb2;rw[hm] at hb2;cases hb2⟩
 ·have ht:t=[]:=by
   rcases Classical.em (t=[]) with e0|e0
   ·exact e0
   ·have:=(hk2 e0).1;omega
  subst ht
  have hp:=h1.1.1
  match ks,hl with
  |[k0],_=>
   simp at hk;subst hk
   match N with
   |0=>omega
   |N+1=>exact⟨FD (Dz h1 (g':=fun s=>some (k0,s)) (fun s hs=>by rw[chF,Ee,if_neg (by simp),if_pos (by rw[FE hs,hm])];rfl)),hb⟩
theorem a1W{sg:List Sg}{n l:Nat}{x y:Gs}{t:List UInt8}{ks:List Int}{N:Nat}(hs:sgB sg)(h:chS sg n l x y t ks N)(hm:y.bad=true∨BC sg l y=[])(hl:ks.length≠1):Af sg x (pE sg (n+1) (.chain l)) (Ax y,Ag y ⟨7,t,ks,false⟩):=by
 obtain⟨h1,hN,hk0,hb,hk1,hk2⟩:=h
 have ht:t≠[]:=fun e=>hl (hk1 e)
 have hp:=h1.1.1
 have hw:Cw ⟨7,t,ks,false⟩:=Vj hs (hk2 ht).2 (by omega)
 obtain⟨d1,d2,d3⟩:= @Hc y ⟨7,t,ks,false⟩
 have hN2:2*((sg.length:Int)-y.pos)+4≤N:=by
  rcases hN with h|h
  ·exact h
  ·exact(ht h.1).elim
 match N with
 |0=>omega
 |1=>omega
 |M+2=>
  have k1:restP sg x (pE sg (n+1) (.chain l)) y (Ba ⟨7,t,ks,false⟩) 0:=by
   rcases hm with hm|hm
   ·exact Dz h1 (fun s hs=>by rw[DK hm] at hs;cases hs)
   ·refine Dz h1 (fun s hs=> ?_)
    rw[chF,Ee,if_pos ⟨ht,by rw[FE hs,hm];exact Ne.symm ht⟩,Ba]
    split
    ·rfl
    ·simp only[Option.bind_some]
     have e:FC sg l ⟨s.pos,s.deep,s.nodes++[⟨7,t,ks,false⟩]⟩=[]:=by rw[←hm,←FE hs];rfl
     rw[Ee,if_neg (by simp),if_pos e];rfl
  exact⟨Qo k1 hw,fun hb2=>by simp only[d2];exact hb (d3 hb2)⟩
def gM(y:Gs)(m:List UInt8):Gs:=if m=[] then y else Ai y
theorem Vk{y:Gs}:gM y []=y:=rfl
theorem Rj{y:Gs}{m:List UInt8}(h:m≠[]):gM y m=Ai y:=if_neg h
def mkQ(sg:List Sg)(y:Gs)(l:Nat)(i:Int)(m:List UInt8):Prop:=(0≤i∧i≤(Bu l).length)∧((m=[]∧BC sg l y=(((Bu l).drop i.toNat).find? fun m=>isG sg y 4 m).getD [])∨(m≠[]∧m=BC sg l y))
theorem b1w{sg:List Sg}{y:Gs}{l:Nat}:mkQ sg y l 0 []:=⟨by omega,.inl ⟨rfl,rfl⟩⟩
theorem b1x{sg:List Sg}{y:Gs}{l:Nat}{i:Int}{m v:List UInt8}(h:mkQ sg y l i m)(hm:m=[])(ha:(Bu l)[i.toNat]? =some v)(hg:isG sg (gM y m) 4 v=false):mkQ sg y l (i+1) m:=by
 subst hm
 have hlt:=(List.getElem?_eq_some_iff.1 ha).1
 refine⟨by have:=h.1;omega,?_⟩
 rcases h.2 with h2|h2
 ·left;refine⟨rfl,?_⟩
  rw[h2.2,List.drop_eq_getElem_cons hlt,(List.getElem?_eq_some_iff.1 ha).2,List.find?_cons_of_neg (by simp;exact hg),show(i+1).toNat=i.toNat+1 by have:=h.1;omega]
 ·exact(h2.1 rfl).elim
theorem Vl{sg:List Sg}{y:Gs}{l:Nat}{i:Int}{m v:List UInt8}(h:mkQ sg y l i m)(hm:m=[])(ha:(Bu l)[i.toNat]? =some v)(hg:isG sg (gM y m) 4 v=true):mkQ sg y l (i+1) v∧Ah sg (gM y m) v=gM y v:=by
 subst hm
 have hlt:=(List.getElem?_eq_some_iff.1 ha).1
 have hv:=Qq (List.mem_of_getElem? ha)
 refine⟨⟨by have:=h.1;omega,.inr ⟨hv,?_⟩⟩,?_⟩
 ·exact(ZY (List.mem_of_getElem? ha) hg).symm
 ·rw[Vk] at hg ⊢;rw[Rj hv];exact Db hg
theorem b1y{sg:List Sg}{y:Gs}{l:Nat}{i:Int}{m:List UInt8}(h:mkQ sg y l i m)(hi:i<((Bu l).length:Int))(hm:m≠[]):mkQ sg y l (i+1) m:=by
 refine⟨by have:=h.1;omega,?_⟩
 rcases h.2 with h2|h2
 ·exact(hm h2.1).elim
 ·exact .inr h2
theorem Rk{sg:List Sg}{y:Gs}{l:Nat}{i:Int}{m:List UInt8}(h:mkQ sg y l i m)(hi:¬i<((Bu l).length:Int)):m=BC sg l y:=by
 rcases h.2 with h2|h2
 ·rw[h2.2,List.drop_eq_nil_of_le (by omega),h2.1];rfl
 ·exact h2.2
theorem a1X{sg:List Sg}{x:Gs}{f:Ps→PR}{a:Int}(h:gsOk sg x)(hb:x.bad=true):Af sg x f (a,x):=⟨Od (Dq h) hb,fun hb2=>by simp only at hb2;rw[hb] at hb2;cases hb2⟩
theorem b1z{sg:List Sg}{n:Nat}{x y y':Gs}{k k':Int}{N:Nat}(h:enI sg n x y k N)(h1:gsOk sg y')(h2:y'.deep=y.deep)(h3:y.pos≤y'.pos)(h4:pur y'=pur y)(h5:y'.bad=false→k'=k):enI sg n x y' k' N:=by
 obtain⟨a,b,c⟩:=h
 cases hb:y'.bad with
 |false=>
  have hy:y.bad=false:=by
   cases hy:y.bad with
   |false=>rfl
   |true=>rw[DK hy,CY hb] at h4;cases h4
  rw[h5 hb]
  exact⟨Vf a h1 h2 h3 h4,fun _=>by have:=b hy;omega,fun _=>by have:=c hy;omega⟩
 |true=>
  have hy:y.bad=true:=by
   cases hy:y.bad with
   |true=>rfl
   |false=>rw[DK hb,CY hy] at h4;cases h4
  refine⟨Dz (Vf a h1 h2 h3 h4) (fun s hs=>by rw[DK hb] at hs;cases hs),fun e=>(Bool.noConfusion (hb.symm.trans e)),fun e=>(Bool.noConfusion (hb.symm.trans e))⟩
theorem b1A{sg:List Sg}{n:Nat}{x y:Gs}{a k:Int}{N:Nat}(h:Af sg x (pE sg (n+1) .fin) (a,y))(hb:y.bad=true):enI sg n x y k N:=
 ⟨Dz (a8P h.1) (fun s hs=>by rw[DK hb] at hs;cases hs),fun e=>(Bool.noConfusion (hb.symm.trans e)),fun e=>(Bool.noConfusion (hb.symm.trans e))⟩
theorem b1B{sg:List Sg}{n:Nat}{x y:Gs}{k:Int}{N:Nat}(hs:sgB sg)(h:enI sg n x y k N)(hp:isG sg y 4 [40]=false)(hq:isG sg y 4 [46]=true):
 enI sg n x (Ag (Bf sg (Ai y) 1) ⟨6,BA sg (Ai y) 1,[k],false⟩) (Ax (Bf sg (Ai y) 1)) (N-1)∧N-1<N:=by
 have hl:=Cz hq (by omega)
 obtain⟨M,rfl⟩:=Of h hl.1
 refine⟨?_,by omega⟩
 have ho:=EZ h.1.1 hl.2
 have hw:Cw ⟨6,(pkG sg (Ai y) 0).text,[k],false⟩:=⟨JY hs,by simp⟩
 cases hn:nmG sg (Ai y) 0 with
 |true=>
  obtain⟨M',e,h2⟩:=a0a hs h hp hq hn
  have:M'=M:=by omega
  subst this
  obtain⟨a1,a2,a3,a4,a5⟩:=Vg ho (by have:=(Ir hn).2;omega) hw
  have e1:Bf sg (Ai y) 1=Ai (Ai y):=by rw[Bf,Iy,if_pos hn]
  have e2:BA sg (Ai y) 1=(pkG sg (Ai y) 0).text:=by rw[BA,Iy,if_pos hn]
  rw[e1,e2]
  exact b1z h2 a1 a2 a3 a4 (fun _=>a5)
 |false=>
  have h2:=a0b (a:=0) h hp hq hn
  have e1:Bf sg (Ai y) 1=Bd (Ai y):=by rw[Bf,Iy,if_neg (by simp [hn])]
  have hf:CR (Bd (Ai y))=true:=by simp [CR,Bd]
  rw[e1]
  have e3:Ag (Bd (Ai y)) ⟨6,BA sg (Ai y) 1,[k],false⟩=Bd (Bd (Ai y)):=if_pos hf
  rw[e3]
  exact b1A (a:=0) (MM h2 ho rfl (Int.le_refl _) rfl (fun _=>rfl)) rfl
def vlQ(sg:List Sg)(one:Ps→PR)(m:List UInt8)(ks0:List Int)(x:Gs)(y:List Int×Gs):Prop:=∃l:List Int×Gs,(Bm sg x (Bl sg one m (sg.length+1) []) l∧l.1.length≤3001)∧y=(ks0++l.1,Al sg l.2 m)
theorem Vm{s:ST}{one:Ps→PR}{m:List UInt8}{ks0:List Int}{x:Gs}{y:List Int×Gs}(hs:sgB s.sg)(h:vlQ s.sg one m ks0 x y):rOk s y.2∧y.1.length≤ks0.length+3001∧y.2.deep=x.deep∧x.pos≤y.2.pos:=by
 obtain⟨l,⟨h1,h2⟩,rfl⟩:=h
 have t:=FF (m:=m) h1.1
 have:=h1.2.1;have:=h1.2.2.1
 exact⟨⟨hs,t.1⟩,by simp;omega,by simp only;omega,by simp only;omega⟩
theorem a1Y{sg:List Sg}{x:Gs}{one:Ps→PR}{k:Int}{y:List Int×Gs}(hx:gsOk sg x)(h:vlQ sg one [41] [k] (Al sg x [40]) y):Af sg x (CQ sg one k) (Ax y.2,Ag y.2 ⟨5,[],y.1,false⟩):=by
 obtain⟨l,⟨h1,h2⟩,rfl⟩:=h
 exact HO h1.1 ⟨by simp,by simp;omega⟩ (a0j hx ⟨h1,h2⟩)
theorem b1C{sg:List Sg}{x y:Gs}{n N:Nat}{ks:List Int}{c w:Int×Gs}(h:Kb sg n x y ks N)(hq:isG sg y 4 [46,46]=true)(hc:Af sg (Ai y) (Bz sg) c)
 (h2:Af sg c.2 (CQ sg (pE sg n .value) c.1) w):∃M,N=M+1∧Kb sg n x w.2 (ks++[w.1]) M:=by
 obtain⟨h1,hN,hk,hb⟩:=h
 obtain⟨hl1,hl⟩:=Cz hq (by omega)
 match N with
 |0=>omega
 |M+1=>
  refine⟨M,rfl,?_⟩
  have k1:=Gc (g':=fun s=>((Bz sg s).bind fun p=>(CQ sg (pE sg n .value) p.1 p.2).bind fun q=>EX sg (pE sg n .value) M (ks++[q.1]) q.2).bind fun q=>Ba ⟨10,[],q.1,false⟩ q.2)
   h1 (by omega) hq (fun s hs ht=>by rw[EX,if_pos (show isM sg s [46,46]=true from ht)])
  have k2:=BK (k:=fun k s=>((CQ sg (pE sg n .value) k s).bind fun q=>EX sg (pE sg n .value) M (ks++[q.1]) q.2).bind fun q=>Ba ⟨10,[],q.1,false⟩ q.2) k1 hc.1 (fun s _=>by simp only[Option.bind_assoc])
  have k3:=BK (k:=fun k s=>(EX sg (pE sg n .value) M (ks++[k]) s).bind fun q=>Ba ⟨10,[],q.1,false⟩ q.2) k2 h2.1 (fun s _=>by simp only[Option.bind_assoc])
  have e0:(Ai y).pos≤c.2.pos:=hc.1.2.2.1
  have e1:=CD h2
  have ea:(Ai y).pos=y.pos+1:=rfl
  refine⟨k3,by omega,by simp;omega,fun hb2=> ?_⟩
  have:=h1.2.2.1
  omega
theorem b1D{sg:List Sg}(hm:sgM sg){s:Ps}(h0:0≤s.pos)(h:Ep sg s=true):Ka sg s=true:=by
 have hp:∀(n:Nat) (i:Int),0≤i→0≤Dm sg n i:=by
  intro n
  induction n with
  |zero=>intro i hi;simpa [Dm] using hi
  |succ n ih=>
   intro i hi;rw[Dm];split
   ·split
    ·exact ih _ (by omega)
    ·omega
   ·exact hi
 exact ZQ hm _ _ (by omega) (by rw[←Uo hm (hp _ _ (by omega))];exact h)
theorem b1E{sg:List Sg}(hm:sgM sg){s:Ps}(h0:0≤s.pos)(h1:Ka sg s=true)(h2:Ep sg s=false)(N:Nat):Bl sg (Bz sg) [41] N [] (adv s)=none:=by
 have hp:∀(n:Nat) (i:Int),0≤i→0≤Dm sg n i:=by
  intro n
  induction n with
  |zero=>intro i hi;simpa [Dm] using hi
  |succ n ih=>
   intro i hi;rw[Dm];split
   ·split
    ·exact ih _ (by omega)
    ·omega
   ·exact hi
 exact ZR hm (sg.length+1) (s.pos+1) (by omega) h1 (by rw[←Uo hm (hp _ _ (by omega))];exact h2) N [] (adv s) rfl
theorem b1F{sg:List Sg}{x:Gs}{n:Nat}{z:Int×Gs}(hm:sgM sg)(hx:gsOk sg x)(h1:(pkG sg x 0).kind≠1)(h2:(pkG sg x 0).kind≠2)(h3:(pkG sg x 0).kind≠3)(hn:isG sg x 4 [91]=false)(hq:isG sg x 4 [40]=true)
 (ha:∀s,pur x=some s→Ka sg s=true) (hz:Af sg x (fnR sg n) z):Af sg x (pE sg (n+1) .base) z:=by
 refine Kf hz (fun s hs=> ?_)
 have h0:0≤s.pos:=by obtain⟨_,rfl⟩:=Er.1 hs;exact hx.1.1
 cases har:Ep sg s with
 |true=>rw[MG hs h1 h2 h3,if_neg (by simp [Eu hs hn]),if_pos (by simp [HD hs hq,har]),fnR,BF,if_pos (HD hs hq)];rfl
 |false=>
  rw[MG hs h1 h2 h3,if_neg (by simp [Eu hs hn]),if_neg (by simp [har]),if_pos (HD hs hq),a8S (x:=⟨0,[],[],false⟩) hm h0 (ha s hs) har (fun k=>⟨11,[],[k],false⟩),fnR,BF,if_pos (HD hs hq)]
  simp only[Option.bind_some]
  rw[b1E hm h0 (ha s hs) har];rfl
theorem b1G{sg:List Sg}{x:Gs}{n:Nat}{z:Int×Gs}(hm:sgM sg)(h:gsOk sg x)(h1:(pkG sg x 0).kind≠1)(h2:(pkG sg x 0).kind≠2)(h3:(pkG sg x 0).kind≠3)(hn:isG sg x 4 [91]=false)(hq:isG sg x 4 [40]=true)
 (ha:∀s,pur x=some s→Ka sg s=false) (hz:Af sg (Ai x) (pE sg n .value) z):
 Af sg x (pE sg (n+1) .base) (Ax (Al sg z.2 [41]),Ag (Al sg z.2 [41]) ⟨11,[],[z.1],false⟩):=by
 refine HO (Ez hz) ⟨by simp,by simp⟩ (a0e h h1 h2 h3 hn hq (fun s hs=> ?_) hz)
 have h0:0≤s.pos:=by obtain⟨_,rfl⟩:=Er.1 hs;exact h.1.1
 cases har:Ep sg s with
 |false=>rfl
 |true=>have:=b1D hm h0 har;rw[ha s hs] at this;cases this
end Go.My
end
