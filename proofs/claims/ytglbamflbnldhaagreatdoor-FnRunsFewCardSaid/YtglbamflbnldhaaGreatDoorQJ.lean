/- joined -/
import Derived.Test.YtglbamflbnldhaaGreatDoorQI
set_option linter.unusedSimpArgs false
set_option linter.unusedVariables false
section
namespace Go.My
open Go.Eng Go.Proofs
variable {G:GInv}
abbrev iG {α:Type} (i:Int×Int×Bool×List Nd×α×Nat):Gs:=⟨i.1,i.2.1,i.2.2.1,i.2.2.2.1⟩
def vP(r n:Nat)(s:ST)(g:Gs):Prop:=(rOk s g∧g.deep≤20)∧12*((s.sg.length:Int)-g.pos)+r≤n
def wP(r n:Nat)(s:ST)(g:Gs):Prop:=(rOk s g∧(g.bad=false→g.deep≤20))∧12*((s.sg.length:Int)-g.pos)+r≤n
def KK(n:Nat):Sig:= {X:=ST×Int×Int×Bool×List Nd,args:=fun x=>[rdG x.1 (xg x)],pre:=fun x=>vP 11 n x.1 (xg x),Y:=Int×Int×Int×Bool×List Nd,post:=fun x y=>Ag x.1.sg (xg x) (pE x.1.sg n .value) (yS y),res:=fun x y=> .int .i64 y.1,outs:=fun x y=>[rdG x.1 (yG y.2)],keep:=true}
def Ig(n:Nat):Sig:= {X:=ST×Int×Int×Bool×List Nd,args:=fun x=>[rdG x.1 (xg x)],pre:=fun x=>vP 10 n x.1 (xg x),Y:=Int×Int×Int×Bool×List Nd,post:=fun x y=>Ag x.1.sg (xg x) (pE x.1.sg n .pick) (yS y),res:=fun x y=> .int .i64 y.1,outs:=fun x y=>[rdG x.1 (yG y.2)],keep:=true}
def KL(n:Nat):Sig:= {X:=ST×Int×Int×Bool×List Nd×Int,args:=fun x=>[rdG x.1 (xh x),.int .i64 x.2.2.2.2.2],pre:=fun x=>wP (9-x.2.2.2.2.2.toNat) n x.1 (xh x)∧0≤x.2.2.2.2.2∧x.2.2.2.2.2≤6,Y:=Int×Int×Int×Bool×List Nd,post:=fun x y=>Ag x.1.sg (xh x) (pE x.1.sg n (.chain x.2.2.2.2.2.toNat)) (yS y),res:=fun x y=> .int .i64 y.1,outs:=fun x y=>[rdG x.1 (yG y.2),.top],keep:=true}
def Sc(n:Nat):Sig:= {X:=ST×Int×Int×Bool×List Nd,args:=fun x=>[rdG x.1 (xg x)],pre:=fun x=>wP 2 n x.1 (xg x),Y:=Int×Int×Int×Bool×List Nd,post:=fun x y=>Ag x.1.sg (xg x) (pE x.1.sg n .fin) (yS y),res:=fun x y=> .int .i64 y.1,outs:=fun x y=>[rdG x.1 (yG y.2)],keep:=true}
def Sd(n:Nat):Sig:= {X:=ST×Int×Int×Bool×List Nd,args:=fun x=>[rdG x.1 (xg x)],pre:=fun x=>wP 1 n x.1 (xg x),Y:=Int×Int×Int×Bool×List Nd,post:=fun x y=>Ag x.1.sg (xg x) (pE x.1.sg n .base) (yS y),res:=fun x y=> .int .i64 y.1,outs:=fun x y=>[rdG x.1 (yG y.2)],keep:=true}
structure rAll (G:GInv) (n:Nat):Prop where
 val:Ai G Go.Proofs.Tryz.prog 197 (KK n)
 pick:Ai G Go.Proofs.Tryz.prog 218 (Ig n)
 chain:Ai G Go.Proofs.Tryz.prog 233 (KL n)
 fin:Ai G Go.Proofs.Tryz.prog 240 (Sc n)
 base:Ai G Go.Proofs.Tryz.prog 245 (Sd n)
theorem HC{I:Nat→Prop}{N:Nat}(h:∃M,N=M+1∧I M):I (N-1)∧N-1<N:=by
 obtain⟨M,rfl,h⟩:=h
 exact⟨by simpa using h,by omega⟩
theorem Df{sg:List Sg}{g:Gs}{m:List UInt8}(h:isG sg g 4 m=false):Al sg g m=g:=by simp [Al,h]
theorem Dg{sg:List Sg}{g:Gs}{m:List UInt8}(h:isG sg g 4 m=true):Al sg g m=An g:=by simp [Al,h]
theorem b3L{α:Type}{sg:List Sg}{x:Gs}{f:Ps→Option (α×Ps)}{y:α×Gs}(h:Ag sg x f y)(hb:y.2.bad=false):x.bad=false:=((CF h).2.2.2 hb).1
abbrev HD (sg:List Sg) (one:Ps→PR) (m:List UInt8) (x y:Gs) (ks:List Int) (N:Nat):Prop:=EQ sg one m x y ks N∧(y.bad=false→x.bad=false)
theorem Wx{sg:List Sg}{one:Ps→PR}{m:List UInt8}{x y:Gs}{ks:List Int}{N:Nat}{z:Int×Gs}(h:HD sg one m x y ks N)(hz:Ag sg y one z)(hq:isG sg y 4 m=false)(hc:isG sg z.2 4 [44]=false):
 Bl sg x (Bn sg one m (sg.length+1) []) (ks++[z.1],Al sg z.2 [44]):=by rw[Df hc];exact b3z h.1 hq hz hc
theorem PI{sg:List Sg}{one:Ps→PR}{m:List UInt8}{x y:Gs}{ks:List Int}{N:Nat}{z:Int×Gs}(h:HD sg one m x y ks N)(hz:Ag sg y one z)(hq:isG sg y 4 m=false)(hc:isG sg z.2 4 [44]=true):
 HD sg one m x (Al sg z.2 [44]) (ks++[z.1]) (N-1)∧N-1<N:=by
 rw[Dg hc]
 obtain⟨a,b⟩:=HC (b3A h.1 hq hz hc)
 exact⟨⟨a,fun hb=>h.2 (b3L hz hb)⟩,b⟩
theorem CP(g:Gs):(⟨g.pos,g.deep,g.bad,g.nodes⟩:Gs)=g:=rfl
theorem b3M{sg:List Sg}{m:List UInt8}{x y:Gs}{ks:List Int}{N:Nat}(hs:sgB sg)(h:HD sg (BB sg) m x y ks N)(hq:isG sg y 4 m=false)(hc:isG sg (CD sg y) 4 [44]=false):
 Bl sg x (Bn sg (BB sg) m (sg.length+1) []) (ks++[Dp sg y],Al sg (CD sg y) [44]):=Wx h (Jx hs h.1.1.1) hq hc
theorem Wy{sg:List Sg}{m:List UInt8}{x y:Gs}{ks:List Int}{N:Nat}(hs:sgB sg)(h:HD sg (BB sg) m x y ks N)(hq:isG sg y 4 m=false)(hc:isG sg (CD sg y) 4 [44]=true):
 HD sg (BB sg) m x (Al sg (CD sg y) [44]) (ks++[Dp sg y]) (N-1)∧N-1<N:=PI h (Jx hs h.1.1.1) hq hc
theorem b3N{s:ST}{m:List UInt8}{x y:Gs}{ks:List Int}{N:Nat}(hr:sgB s.sg)(h:HD s.sg (BB s.sg) m x y ks N):rOk s (CD s.sg y):=⟨hr,EC (Jx hr h.1.1.1)⟩
theorem Wz{s:ST}{one:Ps→PR}{m:List UInt8}{x y:Gs}{ks:List Int}{N:Nat}(hr:sgB s.sg)(h:HD s.sg one m x y ks N):ks.length≤3000:=by
 have h1:=h.1.2.2;have h2:=h.1.1.1.1.2;have h3:=hr.1;omega
theorem a2O{s:ST}{one:Ps→PR}{m:List UInt8}{x y:Gs}{ks:List Int}{N n:Nat}(hr:sgB s.sg)(h:HD s.sg one m x y ks N)(hb:y.bad=false)(hd:x.bad=false→x.deep≤20)(hn:12*((s.sg.length:Int)-x.pos)+11≤n):vP 11 n s y:=by
 have h1:=h.1.1;have h2:=hd (h.2 hb);have h3:=h1.2.1;have h4:=h1.2.2.1
 exact⟨⟨⟨hr,h1.1⟩,by omega⟩,by omega⟩
theorem WA{s:ST}{one:Ps→PR}{m:List UInt8}{x y:Gs}{ks:List Int}{N:Nat}(hr:sgB s.sg)(h:HD s.sg one m x y ks N):rOk s y:=⟨hr,h.1.1.1⟩
theorem b3O{s:ST}{x:Gs}{n:Nat}(h1:rOk s x)(h2:x.bad=false→x.deep≤20)(h3:12*((s.sg.length:Int)-x.pos)+11≤n):wP 11 n s (Aq s.sg x [40]):=by
 obtain⟨⟨a1,a2,a3,a4⟩,a5⟩:=NG (m:=[40]) h1.2
 refine⟨⟨⟨h1.1,a1⟩,fun hb=> ?_⟩,by omega⟩
 rw[a2]
 refine h2 ?_
 cases hx:x.bad with
 |false=>rfl
 |true=>rw[DU hx,Dd hb] at a4;cases a4
theorem a2P{s:ST}{x:Gs}{one:Ps→PR}{k:Int}{l:List Int×Gs}(h1:rOk s x)(h:Bl s.sg (Aq s.sg x [40]) (Bn s.sg one [41] (s.sg.length+1) []) l∧l.1.length≤3001):rOk s l.2∧Cz ⟨5,[],[k]++l.1,false⟩:=
 ⟨⟨h1.1,h.1.1⟩,by simp,by have:=h.2;simp;omega⟩
theorem a2Q{sg:List Sg}{x:Gs}{one:Ps→PR}{k:Int}{l:List Int×Gs}(hx:gsOk sg x)(h:Bl sg (Aq sg x [40]) (Bn sg one [41] (sg.length+1) []) l∧l.1.length≤3001):
 Ag sg x (Dc sg one k) (BC sg l.2 [41],Bs sg l.2 [41] ⟨5,[],[k]++l.1,false⟩):=b3B hx h.1 h.2
attribute [local irreducible] pE Bn Dc fnR Ag Bl gsOk Aq Bs Ah BX De Al CD Dp AQ BC pkG isG nmG
def Ih(n:Nat):Sig:= {X:=ST×Int×Int×Bool×List Nd×List UInt8,args:=fun x=>[rdG x.1 (xh x),.str x.2.2.2.2.2,.top],pre:=fun x=>wP 11 n x.1 (xh x),Y:=List Int×Int×Int×Bool×List Nd,post:=fun x y=>Bl x.1.sg (xh x) (Bn x.1.sg (pE x.1.sg n .value) x.2.2.2.2.2 (x.1.sg.length+1) []) (yS y)∧y.1.length≤3001,res:=fun x y=>Ab y.1,outs:=fun x y=>[rdG x.1 (yG y.2),.top,.top],keep:=true,caps:=[(2,.yield 197,0)]}
def b3P(n:Nat)(x:ST×Int×Int×Bool×List Nd×List UInt8):LS:= {ι:=Int×Int×Bool×List Nd×List Int×Nat,inv:=fun i=>EQ x.1.sg (pE x.1.sg n .value) x.2.2.2.2.2 (xh x) (iG i) i.2.2.2.2.1 i.2.2.2.2.2∧(i.2.2.1=false→x.2.2.2.1=false),regs:=fun i=>[(0,rdG x.1 (iG i)),(1,.str x.2.2.2.2.2),(7,Ab i.2.2.2.2.1)],als:=[],meas:=fun i=>i.2.2.2.2.2,clos:=[(2,.yield 197,0)]}
set_option maxHeartbeats 4000000 in
theorem a2R(n:Nat)(h:rAll G n):Ai G Tryz.prog 175 (Ih n):=
 vcFun_okP [(199,0,CA),(196,0,CO),(197,0,(KK n))] [(25,⟨Int,AZ⟩)] false (fun x=>[(2,b3P n x)]) Tryz.func175 rfl (by decide) ⟨Ib,Jy,h.val,trivial⟩ (fun(x:ST×Int×Int×Bool×List Nd×List UInt8)=>True∧(∃(i:Int×Int×Bool×List Nd×List Int×Nat),(EQ x.1.sg (pE x.1.sg n NT.value) x.2.2.2.2.2 (xh x) (iG i) i.2.2.2.2.1 i.2.2.2.2.2∧(i.2.2.1=false→x.2.2.2.1=false))∧((sgs x.1.sg=sgs x.1.sg∧x.1.z=x.1.z∧(xh x).pos=(iG i).pos∧(xh x).deep=(iG i).deep∧(xh x).bad=(iG i).bad∧Av (xh x).nodes=Av (iG i).nodes∧mbs x.1.ms=mbs x.1.ms∧x.2.2.2.2.2=x.2.2.2.2.2∧i.2.2.2.2.1=[]∧True)∧True)∧True∧True)∧∀(i:Int×Int×Bool×List Nd×List Int×Nat),EQ x.1.sg (pE x.1.sg n NT.value) x.2.2.2.2.2 (xh x) (iG i) i.2.2.2.2.1 i.2.2.2.2.2∧(i.2.2.1=false→x.2.2.2.1=false)→Aa (!(iG i).bad) (cA CA [rdG x.1 (iG i),.str x.2.2.2.2.2] fun x_1 y=>Aa (!isG x_1.1.sg (xh x_1) (4:Int) x_1.2.2.2.2.2) (cA (KK n) [rdG x_1.1 (xh x_1)] fun x_2 y=>∃(x_3:Int),y.1=x_3∧∃(zs:List Int),Ab [x_3]=Ab zs∧Bj AZ∧AW (List.length i.2.2.2.2.1+List.length zs) (8:Nat)∧cA CO [rdG x_2.1 (yG y.2),.str #[(44:UInt8)].toList] fun x_4 y=>Aa (!isG x_4.1.sg (xh x_4) (4:Int) x_4.2.2.2.2.2) (rA (Ih n) x [Ab (i.2.2.2.2.1++zs),rdG x_4.1 (Al x_4.1.sg (xh x_4) x_4.2.2.2.2.2),.top,.top]) (∃(i':Int×Int×Bool×List Nd×List Int×Nat),(EQ x.1.sg (pE x.1.sg n NT.value) x.2.2.2.2.2 (xh x) (iG i') i'.2.2.2.2.1 i'.2.2.2.2.2∧(i'.2.2.1=false→x.2.2.2.1=false))∧i'.2.2.2.2.2<i.2.2.2.2.2∧((sgs x_4.1.sg=sgs x.1.sg∧x_4.1.z=x.1.z∧(Al x_4.1.sg (xh x_4) x_4.2.2.2.2.2).pos=(iG i').pos∧(Al x_4.1.sg (xh x_4) x_4.2.2.2.2.2).deep=(iG i').deep∧(Al x_4.1.sg (xh x_4) x_4.2.2.2.2.2).bad=(iG i').bad∧Av (Al x_4.1.sg (xh x_4) x_4.2.2.2.2.2).nodes=Av (iG i').nodes∧mbs x_4.1.ms=mbs x.1.ms∧x.2.2.2.2.2=x.2.2.2.2.2∧Ab (i.2.2.2.2.1++zs)=Ab i'.2.2.2.2.1∧True)∧True)∧True∧True)) (rA (Ih n) x [Ab i.2.2.2.2.1,rdG x_1.1 (xh x_1),.top,.top])) (rA (Ih n) x [Ab i.2.2.2.2.1,rdG x.1 (iG i),.top,.top])) (fun x=>by kernel_rfl) fun(x:ST×Int×Int×Bool×List Nd×List UInt8) (hx:wP 11 n x.1 (xh x))=>(by
 dsimp only[cA,mbs,Bc,Ab,Av,rA,rdG,CA,Ih,CO,KK,Bu,sgs,Au,Az,mvL,lnL,mvE,lnE]
 obtain⟨s,p,d,b,ns,e⟩:=x;dsimp only[xg,xh] at hx ⊢
 obtain⟨⟨h1,h2⟩,h3⟩:=hx
 (repeat' first|(with_reducible first|rfl|exact True.intro|apply AK|apply And.intro|((first|apply AA|apply AI|apply AB|apply AJ)<;>intro _))|(apply Ax<;>intro _)|apply AH|refine Ae () ?_ ?_|((first|apply AO|apply AN|apply AM|apply AL|apply AG|apply AF|apply AE|apply AD|apply AC)<;>try dsimp only)|apply Ae|(refine Prod.forall.2 ?_;intro _;try dsimp only)|(intro _;try dsimp only))
 all_goals(try dsimp only[xg,xh,yG,yS,iG] at*)
 all_goals(try simp only[CP] at*)
 all_goals first
  |(show Nat;skip)
  |rfl
  |assumption
  |exact Ws h1.2
  |exact WA h1.1 ‹_›
  |exact a2O (x:=⟨p,d,b,ns⟩) h1.1 ‹_› ‹_› h2 h3
  |exact Wt (And.left ‹_›) ‹_›
  |exact Wu (And.left ‹_›) ‹_›
  |exact Wx ‹_› ‹_› ‹_› ‹_›
  |exact(PI ‹_› ‹_› ‹_› ‹_›).1.1
  |exact(PI ‹_› ‹_› ‹_› ‹_›).1.2 ‹_›
  |exact⟨h1.1,(EC ‹_›)⟩
  |(have hq:=Wz h1.1 (show HD _ _ _ _ _ _ _ by assumption);(try simp only[AW,List.length_append,List.length_cons,List.length_nil]);omega)
  |skip
 all_goals first
  |exact(PI ‹_› ‹_› ‹_› ‹_›).2
  |skip)
def Gu:Sig:= {X:=ST×Int×Int×Bool×List Nd×List UInt8,args:=fun x=>[rdG x.1 (xh x),.str x.2.2.2.2.2,.top],pre:=fun x=>rOk x.1 (xh x),Y:=List Int×Int×Int×Bool×List Nd,post:=fun x y=>Bl x.1.sg (xh x) (Bn x.1.sg (BB x.1.sg) x.2.2.2.2.2 (x.1.sg.length+1) []) (yS y)∧y.1.length≤3001,res:=fun x y=>Ab y.1,outs:=fun x y=>[rdG x.1 (yG y.2),.top,.top],keep:=true,caps:=[(2,.yield 176,0)]}
def b3Q(x:ST×Int×Int×Bool×List Nd×List UInt8):LS:= {ι:=Int×Int×Bool×List Nd×List Int×Nat,inv:=fun i=>EQ x.1.sg (BB x.1.sg) x.2.2.2.2.2 (xh x) (iG i) i.2.2.2.2.1 i.2.2.2.2.2∧(i.2.2.1=false→x.2.2.2.1=false),regs:=fun i=>[(0,rdG x.1 (iG i)),(1,.str x.2.2.2.2.2),(7,Ab i.2.2.2.2.1)],als:=[],meas:=fun i=>i.2.2.2.2.2,clos:=[(2,.yield 176,0)]}
theorem WB:Ai G Tryz.prog 175 Gu:=
 vcFun_okP [(199,0,CA),(196,0,CO),(176,0,GX)] [(25,⟨Int,AZ⟩)] false (fun x=>[(2,b3Q x)]) Tryz.func175 rfl (by decide) ⟨Ib,Jy,Wb,trivial⟩ (fun(x:ST×Int×Int×Bool×List Nd×List UInt8)=>True∧(∃(i:Int×Int×Bool×List Nd×List Int×Nat),(EQ x.1.sg (BB x.1.sg) x.2.2.2.2.2 (xh x) (iG i) i.2.2.2.2.1 i.2.2.2.2.2∧(i.2.2.1=false→x.2.2.2.1=false))∧((sgs x.1.sg=sgs x.1.sg∧x.1.z=x.1.z∧(xh x).pos=(iG i).pos∧(xh x).deep=(iG i).deep∧(xh x).bad=(iG i).bad∧Av (xh x).nodes=Av (iG i).nodes∧mbs x.1.ms=mbs x.1.ms∧x.2.2.2.2.2=x.2.2.2.2.2∧i.2.2.2.2.1=[]∧True)∧True)∧True∧True)∧∀(i:Int×Int×Bool×List Nd×List Int×Nat),EQ x.1.sg (BB x.1.sg) x.2.2.2.2.2 (xh x) (iG i) i.2.2.2.2.1 i.2.2.2.2.2∧(i.2.2.1=false→x.2.2.2.1=false)→Aa (!(iG i).bad) (cA CA [rdG x.1 (iG i),.str x.2.2.2.2.2] fun x_1 y=>Aa (!isG x_1.1.sg (xh x_1) (4:Int) x_1.2.2.2.2.2) (cA GX [rdG x_1.1 (xh x_1)] fun x_2 y=>∃(x_3:Int),Dp x_2.1.sg (xg x_2)=x_3∧∃(zs:List Int),Ab [x_3]=Ab zs∧Bj AZ∧AW (List.length i.2.2.2.2.1+List.length zs) (8:Nat)∧cA CO [rdG x_2.1 (CD x_2.1.sg (xg x_2)),.str #[(44:UInt8)].toList] fun x_4 y=>Aa (!isG x_4.1.sg (xh x_4) (4:Int) x_4.2.2.2.2.2) (rA Gu x [Ab (i.2.2.2.2.1++zs),rdG x_4.1 (Al x_4.1.sg (xh x_4) x_4.2.2.2.2.2),.top,.top]) (∃(i':Int×Int×Bool×List Nd×List Int×Nat),(EQ x.1.sg (BB x.1.sg) x.2.2.2.2.2 (xh x) (iG i') i'.2.2.2.2.1 i'.2.2.2.2.2∧(i'.2.2.1=false→x.2.2.2.1=false))∧i'.2.2.2.2.2<i.2.2.2.2.2∧((sgs x_4.1.sg=sgs x.1.sg∧x_4.1.z=x.1.z∧(Al x_4.1.sg (xh x_4) x_4.2.2.2.2.2).pos=(iG i').pos∧(Al x_4.1.sg (xh x_4) x_4.2.2.2.2.2).deep=(iG i').deep∧(Al x_4.1.sg (xh x_4) x_4.2.2.2.2.2).bad=(iG i').bad∧Av (Al x_4.1.sg (xh x_4) x_4.2.2.2.2.2).nodes=Av (iG i').nodes∧mbs x_4.1.ms=mbs x.1.ms∧x.2.2.2.2.2=x.2.2.2.2.2∧Ab (i.2.2.2.2.1++zs)=Ab i'.2.2.2.2.1∧True)∧True)∧True∧True)) (rA Gu x [Ab i.2.2.2.2.1,rdG x_1.1 (xh x_1),.top,.top])) (rA Gu x [Ab i.2.2.2.2.1,rdG x.1 (iG i),.top,.top])) (fun x=>by kernel_rfl) fun(x:ST×Int×Int×Bool×List Nd×List UInt8) (hx:rOk x.1 (xh x))=>(by
 dsimp only[cA,mbs,Bc,Ab,Av,rA,rdG,CA,Gu,GX,CO,Bu,sgs,Au,Az,mvL,lnL,mvE,lnE]
 obtain⟨s,p,d,b,ns,e⟩:=x;dsimp only[xg,xh] at hx ⊢
 have h1:rOk s ⟨p,d,b,ns⟩:=hx
 (repeat' first|(with_reducible first|rfl|exact True.intro|apply AK|apply And.intro|((first|apply AA|apply AI|apply AB|apply AJ)<;>intro _))|(apply Ax<;>intro _)|apply AH|refine Ae () ?_ ?_|((first|apply AO|apply AN|apply AM|apply AL|apply AG|apply AF|apply AE|apply AD|apply AC)<;>try dsimp only)|apply Ae|(refine Prod.forall.2 ?_;intro _;try dsimp only)|(intro _;try dsimp only))
 all_goals(try dsimp only[xg,xh,yG,yS,iG] at*)
 all_goals(try simp only[CP] at*)
 all_goals first
  |(show Nat;skip)
  |rfl
  |assumption
  |exact Ws h1.2
  |exact WA h1.1 ‹_›
  |exact b3N h1.1 ‹_›
  |exact Wt (And.left ‹_›) ‹_›
  |exact Wu (And.left ‹_›) ‹_›
  |exact b3M h1.1 ‹_› ‹_› ‹_›
  |exact(Wy h1.1 ‹_› ‹_› ‹_›).1.1
  |exact(Wy h1.1 ‹_› ‹_› ‹_›).1.2 ‹_›
  |exact⟨h1.1,(EC ‹_›)⟩
  |(have hq:=Wz h1.1 (show HD _ _ _ _ _ _ _ by assumption);(try simp only[AW,List.length_append,List.length_cons,List.length_nil]);omega)
  |skip
 all_goals first
  |exact(Wy h1.1 ‹_› ‹_› ‹_›).2
  |skip)
def JH(n:Nat):Sig:= {X:=ST×Int×Int×Bool×List Nd×Int,args:=fun x=>[rdG x.1 (xh x),.int .i64 x.2.2.2.2.2],pre:=fun x=>wP 11 n x.1 (xh x),Y:=Int×Int×Int×Bool×List Nd,post:=fun x y=>Ag x.1.sg (xh x) (Dc x.1.sg (pE x.1.sg n .value) x.2.2.2.2.2) (yS y),res:=fun x y=> .int .i64 y.1,outs:=fun x y=>[rdG x.1 (yG y.2),.top],keep:=true}
theorem a2S(n:Nat)(h:rAll G n):Ai G Tryz.prog 219 (JH n):=
 vcFun_okP [(174,0,CE),(175,197+1,(Ih n)),(198,0,CH)] [(25,⟨Int,AZ⟩)] false (fun x=>[]) Tryz.func219 rfl (by decide) ⟨Jz,(a2R n h),LY,trivial⟩ (fun(x:ST×Int×Int×Bool×List Nd×Int)=>True∧cA CE [rdG x.1 (xh x),.str #[(40:UInt8)].toList] fun x_1 y=>∃(x_2:Int),x.2.2.2.2.2=x_2∧(True∧True)∧cA (Ih n) [rdG x_1.1 (Aq x_1.1.sg (xh x_1) x_1.2.2.2.2.2),.str #[(41:UInt8)].toList,AV.clo (Fn.yield (164:Nat)) [AV.al (0:Nat)]] fun x_3 y=>∃(zs:List Int),Ab y.1=Ab zs∧Bj AZ∧AW (List.length [x_2]+List.length zs) (8:Nat)∧cA CH [rdG x_3.1 (yG y.2),.str #[(41:UInt8)].toList,.agg [.int .i64 (5:Int),.str #[].toList,Ab ([x_2]++zs),.bool false]] fun x_4 y=>rA (JH n) x [.int .i64 (BC x_4.1.sg (xh x_4) x_4.2.2.2.2.2.1),rdG x_4.1 (Bs x_4.1.sg (xh x_4) x_4.2.2.2.2.2.1 {kind:=x_4.2.2.2.2.2.2.1,text:=x_4.2.2.2.2.2.2.2.1,kids:=x_4.2.2.2.2.2.2.2.2.1,blank:=x_4.2.2.2.2.2.2.2.2.2}),.top]) (fun x=>by kernel_rfl) fun(x:ST×Int×Int×Bool×List Nd×Int) (hx:wP 11 n x.1 (xh x))=>(by
 dsimp only[cA,mbs,Bc,Ab,Av,rA,rdG,JH,CH,Ih,CE,Bu,sgs,Au,Az,mvL,lnL,mvE,lnE]
 obtain⟨s,p,d,b,ns,e⟩:=x;dsimp only[xg,xh] at hx ⊢
 obtain⟨⟨h1,h2⟩,h3⟩:=hx
 (repeat' first|(with_reducible first|rfl|exact True.intro|apply AK|apply And.intro|((first|apply AA|apply AI|apply AB|apply AJ)<;>intro _))|(apply Ax<;>intro _)|apply AH|refine Ae () ?_ ?_|((first|apply AO|apply AN|apply AM|apply AL|apply AG|apply AF|apply AE|apply AD|apply AC)<;>try dsimp only)|apply Ae|(refine Prod.forall.2 ?_;intro _;try dsimp only)|(intro _;try dsimp only))
 all_goals(try dsimp only[xg,xh,yG,yS,iG] at*)
 all_goals(try simp only[CP] at*)
 all_goals first
  |rfl
  |exact h1
  |exact b3O h1 h2 h3
  |exact(a2P (k:=e) h1 ‹_›).1
  |exact(a2P h1 ‹_›).2
  |(have hq:=And.right (show Bl _ _ _ _∧_ by assumption);(try simp only[AW,List.length_append,List.length_cons,List.length_nil]);omega)
  |exact a2Q h1.2 ‹_›
  |skip)
end Go.My
end
section
namespace Go.My
open Go.Eng Go.Proofs
variable {G:GInv}
theorem Me{sg:List Sg}{f:Ps→PR}{x:Gs}{y:Int×Gs}(h:Ag sg x f y)(hb:x.bad=false→x.deep≤20):y.2.bad=false→y.2.deep≤20:=fun hy=>by
 have:=CF h;have h2:=hb (this.2.2.2 hy).1;omega
theorem FM{sg:List Sg}{x:Gs}{m:List UInt8}(h:gsOk sg x):gsOk sg (Aq sg x m)∧(Aq sg x m).deep=x.deep∧x.pos≤(Aq sg x m).pos∧((Aq sg x m).bad=false→x.bad=false):=by
 obtain⟨a1,a2,a3,a4⟩:=(NG (m:=m) h).1
 refine⟨a1,a2,a3,fun hb=> ?_⟩
 cases hx:x.bad with
 |false=>rfl
 |true=>rw[DU hx,Dd hb] at a4;cases a4
theorem b3R{s:ST}{x:Gs}(h:rOk s x):rOk s (Aq s.sg x [40]):=⟨h.1,(FM h.2).1⟩
theorem b3S{s:ST}{x:Gs}{one:Ps→PR}{l:List Int×Gs}(h:rOk s x)(hl:Bl s.sg (Aq s.sg x [40]) (Bn s.sg one [41] (s.sg.length+1) []) l∧l.1.length≤3001):rOk s l.2:=⟨h.1,hl.1.1⟩
theorem b3T{s:ST}{x:Gs}{one:Ps→PR}{l:List Int×Gs}(h:rOk s x)(hl:Bl s.sg (Aq s.sg x [40]) (Bn s.sg one [41] (s.sg.length+1) []) l∧l.1.length≤3001):rOk s (Aq s.sg l.2 [41]):=⟨h.1,(FM hl.1.1).1⟩
theorem a2T{s:ST}{x:Gs}{n:Nat}{one:Ps→PR}{l:List Int×Gs}(h:rOk s x)(hd:x.deep≤20)(hq:isG s.sg x 4 [40]=true)(hn:12*((s.sg.length:Int)-x.pos)≤n+2)(hl:Bl s.sg (Aq s.sg x [40]) (Bn s.sg one [41] (s.sg.length+1) []) l∧l.1.length≤3001):
 vP 10 n s (Aq s.sg (Aq s.sg l.2 [41]) [61,62]):=by
 have a:=FM (m:=[40]) h.2;have b:=FM (m:=[41]) hl.1.1;have c:=FM (m:=[61,62]) b.1
 have e1:=hl.1.2.1;have e2:=hl.1.2.2.1
 have e3:(Aq s.sg x [40]).pos=x.pos+1:=by rw[Aq,if_pos hq];rfl
 exact⟨⟨⟨h.1,c.1⟩,by omega⟩,by omega⟩
theorem Dt{s:ST}{x y:Gs}{f:Ps→PR}{z:Int×Gs}(h:rOk s x)(hz:Ag s.sg y f z):rOk s z.2:=⟨h.1,EC hz⟩
theorem b3U{s:ST}{x:Gs}{n:Nat}{l:List Int×Gs}{z:Int×Gs}(h:rOk s x)(hl:Bl s.sg (Aq s.sg x [40]) (Bn s.sg (BB s.sg) [41] (s.sg.length+1) []) l∧l.1.length≤3001)
 (hz:Ag s.sg (Aq s.sg (Aq s.sg l.2 [41]) [61,62]) (pE s.sg n .pick) z):Ag s.sg x (fnR s.sg n) (AQ z.2,Ah z.2 ⟨9,[],l.1++[z.1],false⟩):=a2N h.2 hl.1 hl.2 hz
theorem a2U{e:Int}{v:List (List UInt8)}(ha:[[[124,124]],[[38,38]],[[61,61]],[[60]],[[43],[45]],[[42]]][e.toNat]? =some v)(h0:0≤e)(h5:e≤5):v=Bv e.toNat:=by
 have:e=0∨e=1∨e=2∨e=3∨e=4∨e=5:=by omega
 rcases this with rfl|rfl|rfl|rfl|rfl|rfl<;>(simp at ha;rw[←ha];rfl)
theorem a2V{l:Nat}:(Bv l).length≤2:=by
 unfold Bv;split<;>simp
def mkP(sg:List Sg)(g:Gs)(l:Nat)(i:Int):Prop:=(0≤i∧i≤(Bv l).length)∧BD sg l g=(((Bv l).drop i.toNat).find? fun m=>isG sg g 4 m).getD []
theorem b3V{sg:List Sg}{g:Gs}{l:Nat}:mkP sg g l 0:=⟨by omega,rfl⟩
theorem b3W{sg:List Sg}{g:Gs}{l:Nat}{i:Int}{m:List UInt8}(h:mkP sg g l i)(ha:(Bv l)[i.toNat]? =some m)(hg:isG sg g 4 m=true):m=BD sg l g:=by
 rw[h.2,List.drop_eq_getElem_cons (List.getElem?_eq_some_iff.1 ha).1,(List.getElem?_eq_some_iff.1 ha).2,List.find?_cons_of_pos hg];rfl
theorem b3X{sg:List Sg}{g:Gs}{l:Nat}{i:Int}{m:List UInt8}(h:mkP sg g l i)(ha:(Bv l)[i.toNat]? =some m)(hg:isG sg g 4 m=false):mkP sg g l (i+1):=by
 have hlt:=(List.getElem?_eq_some_iff.1 ha).1
 obtain⟨h1,h2⟩:=h
 refine⟨by omega,?_⟩
 rw[h2,List.drop_eq_getElem_cons hlt,(List.getElem?_eq_some_iff.1 ha).2,List.find?_cons_of_neg (by simp [hg]),show(i+1).toNat=i.toNat+1 by omega]
theorem b3Y{sg:List Sg}{g:Gs}{l:Nat}{i:Int}(h:mkP sg g l i)(hi:¬i<((Bv l).length:Int)):[]=BD sg l g:=by
 rw[h.2,List.drop_eq_nil_of_le (by omega)];rfl
def faI(sg:List Sg)(p:Int)(i:Int)(N:Nat):Prop:=(1≤i∧i≤sg.length+2∧(sg.length:Int)-p-i<N)∧Dr sg (sg.length+1) (p+1)=Dr sg N (p+i)
theorem b3Z{sg:List Sg}{p:Int}(h:0≤p):faI sg p 1 (sg.length+1):=⟨by omega,rfl⟩
theorem WC{sg:List Sg}{g:Gs}{i:Int}(hb:g.bad=false):nmG sg g i=DB sg (g.pos+i):=KC (Dd hb)
theorem a2W{sg:List Sg}{g:Gs}{i:Int}{N:Nat}(hp:0≤g.pos)(h:faI sg g.pos i N)(hb:g.bad=false)(hn:nmG sg g i=true)(ht:((pkG sg g (i+1)).text==[44])=true):faI sg g.pos (i+1+1) (N-1)∧N-1<N:=by
 have ht:(pkG sg g (i+1)).text=[44]:=by simpa using ht
 obtain⟨⟨h1,h2,h3⟩,h4⟩:=h
 have hl:=(IV hn).2
 rw[WC hb] at hn
 rw[GV hb] at ht
 match N with
 |0=>omega
 |N+1=>
  refine⟨⟨⟨by omega,by omega,by simp;omega⟩,?_⟩,by omega⟩
  rw[h4,Dr,if_pos hn,if_pos (by rw[show g.pos+i+1=g.pos+(i+1) by omega];exact ht)]
  simp only[Nat.add_sub_cancel];congr 1;omega
theorem b4a{sg:List Sg}{g:Gs}{i:Int}{N:Nat}(h:faI sg g.pos i N)(hb:g.bad=false)(hn:nmG sg g i=false):Et sg ⟨g.pos,g.deep,g.nodes⟩=(((pkG sg g i).text==[41])&&((pkG sg g (i+1)).text==[61,62])):=by
 rw[WC hb] at hn
 have e:Dr sg (sg.length+1) (g.pos+1)=g.pos+i:=by
  rw[h.2]
  match N with
  |0=>rfl
  |N+1=>rw[Dr,if_neg (by simp [hn])]
 simp only[Et,e,GV hb,show g.pos+(i+1)=g.pos+i+1 by omega]
theorem b4b{sg:List Sg}{g:Gs}{i:Int}{N:Nat}(h:faI sg g.pos i N)(hb:g.bad=false)(hn:nmG sg g i=true)(ht:((pkG sg g (i+1)).text==[44])=false):
 Et sg ⟨g.pos,g.deep,g.nodes⟩=(((pkG sg g (i+1)).text==[41])&&((pkG sg g (i+1+1)).text==[61,62])):=by
 have ht:(pkG sg g (i+1)).text≠[44]:=by simpa using ht
 have hl:=(IV hn).2
 rw[WC hb] at hn
 rw[GV hb] at ht
 have e:Dr sg (sg.length+1) (g.pos+1)=g.pos+(i+1):=by
  obtain⟨⟨h1,h2,h3⟩,h4⟩:=h
  rw[h4]
  match N with
  |0=>omega
  |N+1=>rw[Dr,if_pos hn,if_neg (by rw[show g.pos+i+1=g.pos+(i+1) by omega];exact ht)];omega
 simp only[Et,e,GV hb,show g.pos+(i+1+1)=g.pos+(i+1)+1 by omega]
attribute [local irreducible] pE Bn Dc fnR Ag Bl gsOk Aq Bs Ah BX De Al CD Dp AQ BC pkG isG nmG
def Mf:Sig:= {X:=ST×Int×Int×Bool×List Nd×Int,args:=fun x=>[rdG x.1 (xh x),.int .i64 x.2.2.2.2.2],pre:=fun x=>rOk x.1 (xh x)∧0≤x.2.2.2.2.2∧x.2.2.2.2.2≤5,Y:=Unit,post:=fun x y=>True,res:=fun x y=> .str (BD x.1.sg x.2.2.2.2.2.toNat (xh x)),outs:=fun x y=>[rdG x.1 (xh x),.top],keep:=true}
def Se(x:ST×Int×Int×Bool×List Nd×Int):LS:= {ι:=Int,inv:=fun i=>mkP x.1.sg (xh x) x.2.2.2.2.2.toNat i,regs:=fun i=>[(0,rdG x.1 (xh x)),(18,.sl false 0 1 (List UInt8) Bg (Bv x.2.2.2.2.2.toNat)),(19,.int .i64 (Bv x.2.2.2.2.2.toNat).length),(20,.int .i64 i)],als:=[],meas:=fun i=>(Bv x.2.2.2.2.2.toNat).length-i.toNat}
theorem b4c:Ai G Tryz.prog 241 Mf:=
 vcFun_okP [(199,0,CA)] [(91,⟨List UInt8,Bg⟩),(201,⟨List (List UInt8),fun l=>[.sl false 0 1 (List UInt8) Bg l]⟩)] false (fun x=>[(3,Se x)]) Tryz.func241 rfl (by decide) ⟨Ib,trivial⟩ (fun(x:ST×Int×Int×Bool×List Nd×Int)=>True∧∃(x_1:List UInt8),#[(124:UInt8),(124:UInt8)].toList=x_1∧∃(x_2:List UInt8),#[(38:UInt8),(38:UInt8)].toList=x_2∧∃(x_3:List UInt8),#[(61:UInt8),(61:UInt8)].toList=x_3∧∃(x_4:List UInt8),#[(60:UInt8)].toList=x_4∧∃(x_5:List UInt8),#[(43:UInt8)].toList=x_5∧∃(x_6:List UInt8),#[(45:UInt8)].toList=x_6∧∃(x_7:List UInt8),#[(42:UInt8)].toList=x_7∧∃(x_8:List (List UInt8)),AV.sl false 0 1 (List UInt8) (fun(x:List UInt8)=>fzL (Bg x)) [x_1]=AV.sl false 0 1 (List UInt8) Bg x_8∧∃(x_9:List (List UInt8)),AV.sl false 0 1 (List UInt8) (fun(x:List UInt8)=>fzL (Bg x)) [x_2]=AV.sl false 0 1 (List UInt8) Bg x_9∧∃(x_10:List (List UInt8)),AV.sl false 0 1 (List UInt8) (fun(x:List UInt8)=>fzL (Bg x)) [x_3]=AV.sl false 0 1 (List UInt8) Bg x_10∧∃(x_11:List (List UInt8)),AV.sl false 0 1 (List UInt8) (fun(x:List UInt8)=>fzL (Bg x)) [x_4]=AV.sl false 0 1 (List UInt8) Bg x_11∧∃(x_12:List (List UInt8)),AV.sl false 0 1 (List UInt8) (fun(x:List UInt8)=>fzL (Bg x)) [x_5,x_6]=AV.sl false 0 1 (List UInt8) Bg x_12∧∃(x_13:List (List UInt8)),AV.sl false 0 1 (List UInt8) (fun(x:List UInt8)=>fzL (Bg x)) [x_7]=AV.sl false 0 1 (List UInt8) Bg x_13∧((0:Int)≤x.2.2.2.2.2∧x.2.2.2.2.2<(↑(List.length [x_8,x_9,x_10,x_11,x_12,x_13]):Int))∧Int.toNat x.2.2.2.2.2<List.length [x_8,x_9,x_10,x_11,x_12,x_13]∧∀(x_14:List (List UInt8)),[x_8,x_9,x_10,x_11,x_12,x_13][Int.toNat x.2.2.2.2.2]? =some x_14→eA (Se x) [rdG x.1 (xh x),AV.sl false 0 1 (List UInt8) Bg x_14,.int .i64 (↑(List.length x_14):Int),.int .i64 (0:Int)]∧∀(i:Int),mkP x.1.sg (xh x) (Int.toNat x.2.2.2.2.2) i→Aa (decide (i<(↑(List.length (Bv (Int.toNat x.2.2.2.2.2))):Int))) (((0:Int)≤i∧i<(↑(List.length (Bv (Int.toNat x.2.2.2.2.2))):Int))∧∀(e:List UInt8),(Bv (Int.toNat x.2.2.2.2.2))[Int.toNat i]? =some e→cA CA [rdG x.1 (xh x),.str e] fun x_15 y=>Aa (isG x_15.1.sg (xh x_15) (4:Int) x_15.2.2.2.2.2) (rA Mf x [.str e,rdG x_15.1 (xh x_15),.top]) (inR IntKind.i64 (i+(1:Int))∧eN (Se x) i [rdG x_15.1 (xh x_15),AV.sl false 0 1 (List UInt8) Bg (Bv (Int.toNat x.2.2.2.2.2)),.int .i64 (↑(List.length (Bv (Int.toNat x.2.2.2.2.2))):Int),.int .i64 (i+(1:Int))])) (rA Mf x [.str #[].toList,rdG x.1 (xh x),.top])) (fun x=>by kernel_rfl) fun(x:ST×Int×Int×Bool×List Nd×Int) (hx:rOk x.1 (xh x)∧0≤x.2.2.2.2.2∧x.2.2.2.2.2≤5)=>(by
 dsimp only[cA,eA,eN,Se,mbs,Bc,Av,rA,rdG,CA,Mf,Bu,sgs,Au,Az,mvL,lnL,mvE,lnE,Bq]
 obtain⟨s,p,d,b,ns,e⟩:=x;dsimp only[xg,xh] at hx ⊢
 obtain⟨h1,h2,h3⟩:=hx
 (repeat' first|(with_reducible first|rfl|exact True.intro|apply AK|apply And.intro|((first|apply AA|apply AI|apply AB|apply AJ)<;>intro _))|(apply Ax<;>intro _)|apply AH|refine Ae () ?_ ?_|((first|apply AO|apply AN|apply AM|apply AL|apply AG|apply AF|apply AE|apply AD|apply AC)<;>try dsimp only)|apply Ae|(refine Prod.forall.2 ?_;intro _;try dsimp only)|(intro _;try dsimp only))
 all_goals(try dsimp only[xg,xh,yG,yS,iG] at*)
 all_goals first
  |rfl
  |exact h1
  |exact b3V
  |exact a2U ‹_› h2 h3
  |(rename _=some _=>ha;rw[a2U ha h2 h3];done)
  |exact b3W ‹_› ‹_› ‹_›
  |exact b3X ‹_› ‹_› ‹_›
  |exact b3Y ‹_› ‹_›
  |((try simp only[List.length_cons,List.length_nil]);omega)
  |(have hq:=And.left (show mkP _ _ _ _ by assumption);have hl:= @a2V e.toNat;(try simp only[AR]);omega)
  |((try simp only[AW,List.length_cons,List.length_nil]);omega)
  |skip)
def JI:Sig:= {X:=ST×Int×Int×Bool×List Nd,args:=fun x=>[rdG x.1 (xg x)],pre:=fun x=>rOk x.1 (xg x)∧(xg x).bad=false,Y:=Unit,post:=fun x y=>True,res:=fun x y=> .bool (Et x.1.sg ⟨(xg x).pos,(xg x).deep,(xg x).nodes⟩),outs:=fun x y=>[rdG x.1 (xg x)],keep:=true}
def Sf(x:ST×Int×Int×Bool×List Nd):LS:= {ι:=Int×Nat,inv:=fun i=>faI x.1.sg (xg x).pos i.1 i.2,regs:=fun i=>[(0,rdG x.1 (xg x)),(3,.int .i64 i.1)],als:=[],meas:=fun i=>i.2}
theorem b4d:Ai G Tryz.prog 246 JI:=
 vcFun_okP [(200,0,Ev),(178,0,EO)] [] false (fun x=>[(2,Sf x)]) Tryz.func246 rfl (by decide) ⟨Px,RF,trivial⟩ (fun(x:ST×Int×Int×Bool×List Nd)=>True∧eA (Sf x) [rdG x.1 (xg x),.int .i64 (1:Int)]∧∀(i:Int×Nat),faI x.1.sg (xg x).pos i.1 i.2→cA Ev [rdG x.1 (xg x),.int .i64 i.1] fun x_1 y=>Aa (nmG x_1.1.sg (xh x_1) x_1.2.2.2.2.2) (inR IntKind.i64 (i.1+(1:Int))∧cA EO [rdG x_1.1 (xh x_1),.int .i64 (i.1+(1:Int))] fun x_2 y=>Aa (!(pkG x_2.1.sg (xh x_2) x_2.2.2.2.2.2).text== #[(44:UInt8)].toList) (cA EO [rdG x_2.1 (xh x_2),.int .i64 (i.1+(1:Int))] fun x_3 y=>Aa ((pkG x_3.1.sg (xh x_3) x_3.2.2.2.2.2).text== #[(41:UInt8)].toList) (inR IntKind.i64 (i.1+(1:Int)+(1:Int))∧cA EO [rdG x_3.1 (xh x_3),.int .i64 (i.1+(1:Int)+(1:Int))] fun x_4 y=>rA JI x [.bool ((pkG x_4.1.sg (xh x_4) x_4.2.2.2.2.2).text== #[(61:UInt8),(62:UInt8)].toList),rdG x_4.1 (xh x_4)]) (rA JI x [.bool false,rdG x_3.1 (xh x_3)])) (inR IntKind.i64 (i.1+(1:Int)+(1:Int))∧eN (Sf x) i [rdG x_2.1 (xh x_2),.int .i64 (i.1+(1:Int)+(1:Int))])) (cA EO [rdG x_1.1 (xh x_1),.int .i64 i.1] fun x_2 y=>Aa ((pkG x_2.1.sg (xh x_2) x_2.2.2.2.2.2).text== #[(41:UInt8)].toList) (inR IntKind.i64 (i.1+(1:Int))∧cA EO [rdG x_2.1 (xh x_2),.int .i64 (i.1+(1:Int))] fun x_3 y=>rA JI x [.bool ((pkG x_3.1.sg (xh x_3) x_3.2.2.2.2.2).text== #[(61:UInt8),(62:UInt8)].toList),rdG x_3.1 (xh x_3)]) (rA JI x [.bool false,rdG x_2.1 (xh x_2)]))) (fun x=>by kernel_rfl) fun(x:ST×Int×Int×Bool×List Nd) (hx:rOk x.1 (xg x)∧(xg x).bad=false)=>(by
 dsimp only[cA,eA,eN,Sf,mbs,Bc,Av,rA,rdG,JI,Ev,EO,Bu,sgs,Au,Az,mvL,lnL,mvE,lnE,Bq]
 obtain⟨s,p,d,b,ns⟩:=x;dsimp only[xg,xh] at hx ⊢
 obtain⟨h1,h2⟩:=hx;subst h2
 have hs:=DV h1;dsimp only at hs
 (repeat' first|(with_reducible first|rfl|exact True.intro|apply AK|apply And.intro|((first|apply AA|apply AI|apply AB|apply AJ)<;>intro _))|(apply Ax<;>intro _)|apply AH|refine Ae () ?_ ?_|((first|apply AO|apply AN|apply AM|apply AL|apply AG|apply AF|apply AE|apply AD|apply AC)<;>try dsimp only)|apply Ae|(refine Prod.forall.2 ?_;intro _;try dsimp only)|(intro _;try dsimp only))
 all_goals(try dsimp only[xg,xh,yG,yS,iG] at*)
 all_goals first
  |(show Nat;skip)
  |rfl
  |exact h1
  |exact b3Z hs.1.1.1
  |exact(a2W (g:=⟨p,d,false,ns⟩) hs.1.1.1 ‹_› rfl ‹_› ‹_›).1
  |(have he:=b4a (g:=⟨p,d,false,ns⟩) ‹_› rfl ‹_›;dsimp only at he;rw[he];simp [*];done)
  |(have he:=b4b (g:=⟨p,d,false,ns⟩) ‹_› rfl ‹_› ‹_›;dsimp only at he;rw[he];simp [*];done)
  |(have hq:=And.left (show faI _ _ _ _ by assumption);(try simp only[AR]);omega)
  |skip
 all_goals first
  |exact(a2W (g:=⟨p,d,false,ns⟩) hs.1.1.1 ‹_› rfl ‹_› ‹_›).2
  |skip)
def NP(n:Nat):Sig:= {X:=ST×Int×Int×Bool×List Nd,args:=fun x=>[rdG x.1 (xg x)],pre:=fun x=>((rOk x.1 (xg x)∧(xg x).deep≤20)∧isG x.1.sg (xg x) 4 [40]=true)∧12*((x.1.sg.length:Int)-(xg x).pos)≤n+2,Y:=Int×Int×Int×Bool×List Nd,post:=fun x y=>Ag x.1.sg (xg x) (fnR x.1.sg n) (yS y),res:=fun x y=> .int .i64 y.1,outs:=fun x y=>[rdG x.1 (yG y.2)],keep:=true}
theorem b4e(n:Nat)(h:rAll G n):Ai G Tryz.prog 247 (NP n):=
 vcFun_okP [(174,0,CE),(175,176+1,Gu),(218,0,(Ig n)),(134,0,BU)] [(25,⟨Int,AZ⟩)] false (fun x=>[]) Tryz.func247 rfl (by decide) ⟨Jz,WB,h.pick,GW,trivial⟩ (fun(x:ST×Int×Int×Bool×List Nd)=>True∧cA CE [rdG x.1 (xg x),.str #[(40:UInt8)].toList] fun x_1 y=>(True∧True)∧cA Gu [rdG x_1.1 (Aq x_1.1.sg (xh x_1) x_1.2.2.2.2.2),.str #[(41:UInt8)].toList,AV.clo (Fn.yield (139:Nat)) [AV.al (0:Nat)]] fun x_2 y=>cA CE [rdG x_2.1 (yG y.2),.str #[(41:UInt8)].toList] fun x_3 y_1=>cA CE [rdG x_3.1 (Aq x_3.1.sg (xh x_3) x_3.2.2.2.2.2),.str #[(61:UInt8),(62:UInt8)].toList] fun x_4 y_2=>cA (Ig n) [rdG x_4.1 (Aq x_4.1.sg (xh x_4) x_4.2.2.2.2.2)] fun x_5 y_3=>∃(x_6:Int),y_3.1=x_6∧∃(zs:List Int),Ab [x_6]=Ab zs∧Bj AZ∧AW (List.length y.1+List.length zs) (8:Nat)∧cA BU [rdG x_5.1 (yG y_3.2),.agg [.int .i64 (9:Int),.str #[].toList,Ab (y.1++zs),.bool false]] fun x_7 y=>rA (NP n) x [.int .i64 (AQ (xh x_7)),rdG x_7.1 (Ah (xh x_7) {kind:=x_7.2.2.2.2.2.1,text:=x_7.2.2.2.2.2.2.1,kids:=x_7.2.2.2.2.2.2.2.1,blank:=x_7.2.2.2.2.2.2.2.2})]) (fun x=>by kernel_rfl) fun(x:ST×Int×Int×Bool×List Nd) (hx:((rOk x.1 (xg x)∧(xg x).deep≤20)∧isG x.1.sg (xg x) 4 [40]=true)∧12*((x.1.sg.length:Int)-(xg x).pos)≤n+2)=>(by
 dsimp only[cA,mbs,Bc,Ab,Av,rA,rdG,BU,NP,Gu,Ig,CE,Bu,sgs,Au,Az,mvL,lnL,mvE,lnE]
 obtain⟨s,p,d,b,ns⟩:=x;dsimp only[xg,xh] at hx ⊢
 obtain⟨⟨⟨h1,h2⟩,hq⟩,h3⟩:=hx
 (repeat' first|(with_reducible first|rfl|exact True.intro|apply AK|apply And.intro|((first|apply AA|apply AI|apply AB|apply AJ)<;>intro _))|(apply Ax<;>intro _)|apply AH|refine Ae () ?_ ?_|((first|apply AO|apply AN|apply AM|apply AL|apply AG|apply AF|apply AE|apply AD|apply AC)<;>try dsimp only)|apply Ae|(refine Prod.forall.2 ?_;intro _;try dsimp only)|(intro _;try dsimp only))
 all_goals(try dsimp only[xg,xh,yG,yS,iG] at*)
 all_goals(try simp only[CP] at*)
 all_goals first
  |rfl
  |exact h1
  |exact b3R h1
  |exact b3S h1 ‹_›
  |exact b3T h1 ‹_›
  |exact a2T h1 h2 hq h3 ‹_›
  |exact Dt h1 ‹_›
  |exact b3U h1 ‹_› ‹_›
  |(have hq2:=And.right (show Bl _ _ _ _∧_ by assumption);(try simp only[AW,List.length_append,List.length_cons,List.length_nil]);omega)
  |skip)
end Go.My
end
section
namespace Go.My
open Go.Eng Go.Proofs
variable {G:GInv}
theorem a2X{sg:List Sg}{x:Gs}{a:Bool}(h:Et sg ⟨x.pos,x.deep,x.nodes⟩=a):∀s,pur x=some s→Et sg s=a:=fun s hs=>by
 obtain⟨_,rfl⟩:=Eu.1 hs;exact h
theorem Sh{s:ST}{x:Gs}{n r:Nat}{k:Int}{m:List UInt8}(hq:isG s.sg x k m=true)(hk:k≠0)(h1:rOk s x)(h2:x.bad=false→x.deep≤20)(h3:12*((s.sg.length:Int)-x.pos)+1≤(n+1:Nat))(hr:r≤12):wP r n s (An x)∧vP r n s (An x):=by
 have hl:=CC hq hk
 have ha:=Fc h1.2 hl.2
 have hd:=h2 hl.1
 have e:(An x).pos=x.pos+1:=rfl
 have e2:(An x).deep=x.deep:=rfl
 have a:12*((s.sg.length:Int)-(An x).pos)+r≤n:=by omega
 exact⟨⟨⟨⟨h1.1,ha⟩,fun _=>by omega⟩,a⟩,⟨⟨⟨h1.1,ha⟩,by omega⟩,a⟩⟩
theorem a2Y{s:ST}{x:Gs}{n:Nat}(hq:isG s.sg x 4 [40]=true)(h1:rOk s x)(h2:x.bad=false→x.deep≤20)(h3:12*((s.sg.length:Int)-x.pos)+1≤(n+1:Nat)):
 x.deep≤20∧12*((s.sg.length:Int)-x.pos)≤n+2:=⟨h2 (CC hq (by omega)).1,by omega⟩
theorem a2Z{s:ST}{x y:Gs}{f:Ps→PL}{l:List Int×Gs}{k:Int}(h1:rOk s x)(hl:Bl s.sg y f l∧l.1.length≤3001):rOk s l.2∧Cz ⟨k,[],l.1,false⟩:=⟨⟨h1.1,hl.1.1⟩,by simp,by have:=hl.2;simp only;omega⟩
theorem b4f{s:ST}{x:Gs}{n:Nat}{l:List Int×Gs}(h:rOk s x)(h1:(pkG s.sg x 0).kind≠1)(h2:(pkG s.sg x 0).kind≠2)(h3:(pkG s.sg x 0).kind≠3)(hq:isG s.sg x 4 [91]=true)
 (hl:Bl s.sg (An x) (Bn s.sg (pE s.sg n .value) [93] (s.sg.length+1) []) l∧l.1.length≤3001):
 Ag s.sg x (pE s.sg (n+1) .base) (BC s.sg l.2 [93],Bs s.sg l.2 [93] ⟨4,[],l.1,false⟩):=a2K h.2 h1 h2 h3 hq hl.1 hl.2
theorem b4g{s:ST}{x:Gs}{n:Nat}{z:Int×Gs}(h:rOk s x)(h1:(pkG s.sg x 0).kind≠1)(h2:(pkG s.sg x 0).kind≠2)(h3:(pkG s.sg x 0).kind≠3)(hn:isG s.sg x 4 [91]=false)(hq:isG s.sg x 4 [40]=true)
 (ha:Et s.sg ⟨x.pos,x.deep,x.nodes⟩=false) (hz:Ag s.sg (An x) (pE s.sg n .value) z):
 Ag s.sg x (pE s.sg (n+1) .base) (BC s.sg z.2 [41],Bs s.sg z.2 [41] ⟨11,[],[z.1],false⟩):=a2L h.2 h1 h2 h3 hn hq (a2X ha) hz
theorem b4h{s:ST}{x:Gs}{n:Nat}{z:Int×Gs}(h1:(pkG s.sg x 0).kind≠1)(h2:(pkG s.sg x 0).kind≠2)(h3:(pkG s.sg x 0).kind≠3)(hn:isG s.sg x 4 [91]=false)(hq:isG s.sg x 4 [40]=true)
 (ha:Et s.sg ⟨x.pos,x.deep,x.nodes⟩=true) (hz:Ag s.sg x (fnR s.sg n) z):Ag s.sg x (pE s.sg (n+1) .base) z:=b3K h1 h2 h3 hn hq (a2X ha) hz
theorem a3a{s:ST}{x:Gs}{k:Int}(h:(pkG s.sg x 0).kind=k)(hk:k=2∨k=3):x.pos<s.sg.length:=(PH (by rw[h];omega)).2
theorem a3b{s:ST}{x:Gs}{k:Int}{m:List UInt8}(hq:isG s.sg x k m=true)(hk:k≠0):x.bad=false:=(CC hq hk).1
abbrev enJ (sg:List Sg) (n:Nat) (x y:Gs) (k:Int) (N:Nat):Prop:=enI sg n x y k N∧(y.bad=false→y.deep≤20)
theorem WD{s:ST}{x:Gs}{n:Nat}{z:Int×Gs}(h1:rOk s x)(h2:x.bad=false→x.deep≤20)(hz:Ag s.sg x (pE s.sg n .base) z):enJ s.sg n x z.2 z.1 (s.sg.length+1):=⟨b3I h1.2 hz,Me hz h2⟩
theorem b4i{s:ST}{x y:Gs}{n:Nat}{k:Int}{N:Nat}(h1:rOk s x)(h:enJ s.sg n x y k N):rOk s y:=⟨h1.1,h.1.1.1⟩
theorem b4j{s:ST}{x y:Gs}{n:Nat}{k:Int}{N:Nat}(h1:rOk s x)(h3:12*((s.sg.length:Int)-x.pos)+2≤(n+1:Nat))(h:enJ s.sg n x y k N)(hq:isG s.sg y 4 [40]=true):wP 11 n s y:=by
 have hb:=(CC hq (by omega)).1
 have:=h.1.2.2 hb
 exact⟨⟨⟨h1.1,h.1.1.1⟩,h.2⟩,by omega⟩
theorem Si{sg:List Sg}{n:Nat}{x y:Gs}{k:Int}{N:Nat}{w:Int×Gs}(h:enJ sg n x y k N)(hw:Ag sg y (Dc sg (pE sg n .value) k) w)(hq:isG sg y 4 [40]=true):enJ sg n x w.2 w.1 (N-1)∧N-1<N:=by
 obtain⟨a,b⟩:=HC (b3J h.1 hq hw)
 exact⟨⟨a,Me hw h.2⟩,b⟩
theorem WE{sg:List Sg}{n:Nat}{x y:Gs}{k:Int}{N:Nat}(hs:sgB sg)(h:enJ sg n x y k N)(hp:isG sg y 4 [40]=false)(hq:isG sg y 4 [46]=true)(hn:nmG sg (Al sg y [46]) 0=true):
 enJ sg n x (BX (Ah (Al sg y [46]) ⟨6,(pkG sg (Al sg y [46]) 0).text,[k],false⟩)) (AQ (Al sg y [46])) (N-1)∧N-1<N:=by
 rw[Dg hq] at hn ⊢
 obtain⟨a,b⟩:=HC (a2H hs h.1 hp hq hn)
 have hl:=CC hq (by omega)
 have hl2:=IV hn
 have e:(BX (Ah (An y) ⟨6,(pkG sg (An y) 0).text,[k],false⟩)).deep=y.deep:=by
  have:=(@HA (An y) ⟨6,(pkG sg (An y) 0).text,[k],false⟩).1
  unfold BX;split
  ·exact this
  ·exact this
 exact⟨⟨a,fun _=>by rw[e];exact h.2 hl.1⟩,b⟩
theorem a3c{s:ST}{x y:Gs}{n:Nat}{k:Int}{N:Nat}{t:List UInt8}(h1:rOk s x)(h:enJ s.sg n x y k N)(hq:isG s.sg y 4 [46]=true):rOk s (Al s.sg y [46])∧rOk s (Ah (Al s.sg y [46]) ⟨6,(pkG s.sg (Al s.sg y [46]) 0).text,[k],false⟩):=by
 rw[Dg hq]
 have hl:=CC hq (by omega)
 have ha:=Fc h.1.1.1 hl.2
 exact⟨⟨h1.1,ha⟩,h1.1,IW ha ⟨KE h1.1,by simp⟩⟩
theorem b4k{sg:List Sg}{n:Nat}{x y:Gs}{k a:Int}{N:Nat}(h:enJ sg n x y k N)(hp:isG sg y 4 [40]=false)(hq:isG sg y 4 [46]=true)(hn:nmG sg (Al sg y [46]) 0=false):
 Ag sg x (pE sg (n+1) .fin) (a,Bd (Al sg y [46])):=by
 rw[Dg hq] at hn ⊢
 exact a2I h.1 hp hq hn
theorem b4l{sg:List Sg}{n:Nat}{x y:Gs}{k:Int}{N:Nat}(h:enJ sg n x y k N)(hb:y.bad=false)(hp:isG sg y 4 [40]=false)(hq:isG sg y 4 [46]=false):Ag sg x (pE sg (n+1) .fin) (k,Al sg y [46]):=by
 rw[Df hq];exact a2J h.1 hb hp hq
theorem a3d{s:ST}{x:Gs}{n:Nat}(h1:rOk s x)(h2:x.bad=false→x.deep≤20)(h3:12*((s.sg.length:Int)-x.pos)+2≤(n+1:Nat)):wP 1 n s x:=⟨⟨h1,h2⟩,by omega⟩
attribute [local irreducible] pE Bn Dc fnR Ag Bl gsOk Aq Bs Ah BX De Al CD Dp AQ BC pkG isG nmG
def Ii(n:Nat):Sig:= {X:=ST×Int×Int×Bool×List Nd,args:=fun x=>[rdG x.1 (xg x)],pre:=fun x=>wP 1 (n+1) x.1 (xg x),Y:=Int×Int×Int×Bool×List Nd,post:=fun x y=>Ag x.1.sg (xg x) (pE x.1.sg (n+1) .base) (yS y),res:=fun x y=> .int .i64 y.1,outs:=fun x y=>[rdG x.1 (yG y.2)],keep:=true}
theorem b4m(n:Nat)(h:rAll G n):Ai G Tryz.prog 245 (Ii n):=
 vcFun_okP [(133,0,Cr),(176,0,GX),(201,0,IX),(196,0,CO),(199,0,CA),(246,0,JI),(247,0,(NP n)),(197,0,(KK n)),(175,197+1,(Ih n)),(198,0,CH)] [(25,⟨Int,AZ⟩)] false (fun x=>[]) Tryz.func245 rfl (by decide) ⟨Hy,Wb,a1R,Jy,Ib,b4d,(b4e n h),h.val,(a2R n h),LY,trivial⟩ (fun(x:ST×Int×Int×Bool×List Nd)=>True∧cA Cr [rdG x.1 (xg x)] fun x_1 y=>Aa ((pkG x_1.1.sg (xg x_1) (0:Int)).kind==(1:Int)) (cA GX [rdG x_1.1 (xg x_1)] fun x_2 y=>rA (Ii n) x [.int .i64 (Dp x_2.1.sg (xg x_2)),rdG x_2.1 (CD x_2.1.sg (xg x_2))]) (Aa ((pkG x_1.1.sg (xg x_1) (0:Int)).kind==(2:Int)) (cA IX [rdG x_1.1 (xg x_1),.int .i64 (2:Int)] fun x_2 y=>rA (Ii n) x [.int .i64 (AQ (xh x_2)),rdG x_2.1 (De x_2.1.sg (xh x_2) x_2.2.2.2.2.2 false)]) (Aa ((pkG x_1.1.sg (xg x_1) (0:Int)).kind==(3:Int)) (cA IX [rdG x_1.1 (xg x_1),.int .i64 (3:Int)] fun x_2 y=>rA (Ii n) x [.int .i64 (AQ (xh x_2)),rdG x_2.1 (De x_2.1.sg (xh x_2) x_2.2.2.2.2.2 false)]) (cA CO [rdG x_1.1 (xg x_1),.str #[(91:UInt8)].toList] fun x_2 y=>Aa (isG x_2.1.sg (xh x_2) (4:Int) x_2.2.2.2.2.2) ((True∧True)∧cA (Ih n) [rdG x_2.1 (Al x_2.1.sg (xh x_2) x_2.2.2.2.2.2),.str #[(93:UInt8)].toList,AV.clo (Fn.yield (164:Nat)) [AV.al (0:Nat)]] fun x_3 y=>cA CH [rdG x_3.1 (yG y.2),.str #[(93:UInt8)].toList,.agg [.int .i64 (4:Int),.str #[].toList,Ab y.1,.bool false]] fun x_4 y=>rA (Ii n) x [.int .i64 (BC x_4.1.sg (xh x_4) x_4.2.2.2.2.2.1),rdG x_4.1 (Bs x_4.1.sg (xh x_4) x_4.2.2.2.2.2.1 {kind:=x_4.2.2.2.2.2.2.1,text:=x_4.2.2.2.2.2.2.2.1,kids:=x_4.2.2.2.2.2.2.2.2.1,blank:=x_4.2.2.2.2.2.2.2.2.2})]) (cA CA [rdG x_2.1 (Al x_2.1.sg (xh x_2) x_2.2.2.2.2.2),.str #[(40:UInt8)].toList] fun x_3 y=>Aa (isG x_3.1.sg (xh x_3) (4:Int) x_3.2.2.2.2.2) (cA JI [rdG x_3.1 (xh x_3)] fun x_4 y=>Aa (Et x_4.1.sg {pos:=(xg x_4).pos,deep:=(xg x_4).deep,nodes:=(xg x_4).nodes}) (cA (NP n) [rdG x_4.1 (xg x_4)] fun x_5 y=>rA (Ii n) x [.int .i64 y.1,rdG x_5.1 (yG y.2)]) (cA CO [rdG x_4.1 (xg x_4),.str #[(40:UInt8)].toList] fun x_5 y=>Aa (isG x_5.1.sg (xh x_5) (4:Int) x_5.2.2.2.2.2) (cA (KK n) [rdG x_5.1 (Al x_5.1.sg (xh x_5) x_5.2.2.2.2.2)] fun x_6 y=>∃(x_7:Int),y.1=x_7∧cA CH [rdG x_6.1 (yG y.2),.str #[(41:UInt8)].toList,.agg [.int .i64 (11:Int),.str #[].toList,Ab [x_7],.bool false]] fun x_8 y=>rA (Ii n) x [.int .i64 (BC x_8.1.sg (xh x_8) x_8.2.2.2.2.2.1),rdG x_8.1 (Bs x_8.1.sg (xh x_8) x_8.2.2.2.2.2.1 {kind:=x_8.2.2.2.2.2.2.1,text:=x_8.2.2.2.2.2.2.2.1,kids:=x_8.2.2.2.2.2.2.2.2.1,blank:=x_8.2.2.2.2.2.2.2.2.2})]) (rA (Ii n) x [.int .i64 (0:Int),.box 0 [sgs x_5.1.sg,.int .i64 x_5.1.z,.int .i64 (Al x_5.1.sg (xh x_5) x_5.2.2.2.2.2).pos,.int .i64 (Al x_5.1.sg (xh x_5) x_5.2.2.2.2.2).deep,.bool true,Av (Al x_5.1.sg (xh x_5) x_5.2.2.2.2.2).nodes,mbs x_5.1.ms]]))) (cA CO [rdG x_3.1 (xh x_3),.str #[(40:UInt8)].toList] fun x_4 y=>Aa (isG x_4.1.sg (xh x_4) (4:Int) x_4.2.2.2.2.2) (cA (KK n) [rdG x_4.1 (Al x_4.1.sg (xh x_4) x_4.2.2.2.2.2)] fun x_5 y=>∃(x_6:Int),y.1=x_6∧cA CH [rdG x_5.1 (yG y.2),.str #[(41:UInt8)].toList,.agg [.int .i64 (11:Int),.str #[].toList,Ab [x_6],.bool false]] fun x_7 y=>rA (Ii n) x [.int .i64 (BC x_7.1.sg (xh x_7) x_7.2.2.2.2.2.1),rdG x_7.1 (Bs x_7.1.sg (xh x_7) x_7.2.2.2.2.2.1 {kind:=x_7.2.2.2.2.2.2.1,text:=x_7.2.2.2.2.2.2.2.1,kids:=x_7.2.2.2.2.2.2.2.2.1,blank:=x_7.2.2.2.2.2.2.2.2.2})]) (rA (Ii n) x [.int .i64 (0:Int),.box 0 [sgs x_4.1.sg,.int .i64 x_4.1.z,.int .i64 (Al x_4.1.sg (xh x_4) x_4.2.2.2.2.2).pos,.int .i64 (Al x_4.1.sg (xh x_4) x_4.2.2.2.2.2).deep,.bool true,Av (Al x_4.1.sg (xh x_4) x_4.2.2.2.2.2).nodes,mbs x_4.1.ms]]))))))) (fun x=>by kernel_rfl) fun(x:ST×Int×Int×Bool×List Nd) (hx:wP 1 (n+1) x.1 (xg x))=>(by
 dsimp only[cA,mbs,Bc,Ab,Av,rA,rdG,Ii,CH,NP,JI,CA,IX,Ih,GX,Cr,CO,KK,Bu,sgs,Au,Az,mvL,lnL,mvE,lnE]
 obtain⟨s,p,d,b,ns⟩:=x;dsimp only[xg,xh] at hx ⊢
 obtain⟨⟨h1,h2⟩,h3⟩:=hx
 (repeat' first|(with_reducible first|rfl|exact True.intro|apply AK|apply And.intro|((first|apply AA|apply AI|apply AB|apply AJ)<;>intro _))|(apply Ax<;>intro _)|apply AH|refine Ae () ?_ ?_|((first|apply AO|apply AN|apply AM|apply AL|apply AG|apply AF|apply AE|apply AD|apply AC)<;>try dsimp only)|apply Ae|(refine Prod.forall.2 ?_;intro _;try dsimp only)|(intro _;try dsimp only))
 all_goals(try dsimp only[xg,xh,yG,yS,iG] at*)
 all_goals(try simp only[CP] at*)
 all_goals(try(have e:=Df (show isG s.sg ⟨p,d,b,ns⟩ 4 [91]=false by assumption);simp only[e] at*))
 all_goals(try(have e:=Dg (show isG s.sg ⟨p,d,b,ns⟩ 4 [91]=true by assumption);simp only[e] at*))
 all_goals(try(have e:=Df (show isG s.sg ⟨p,d,b,ns⟩ 4 [40]=false by assumption);simp only[e] at*))
 all_goals(try(have e:=Dg (show isG s.sg ⟨p,d,b,ns⟩ 4 [40]=true by assumption);simp only[e] at*))
 all_goals first
  |rfl
  |assumption
  |(exfalso;have q1:=(show isG s.sg ⟨p,d,b,ns⟩ 4 [40]=false by assumption);have q2:=(show isG s.sg ⟨p,d,b,ns⟩ 4 [40]=true by assumption);rw[q1] at q2;cases q2)
  |exact Wv h1.1 h1.2 ‹_›
  |exact Ww h1.1 h1.2 ‹_› (.inl rfl)
  |exact Ww h1.1 h1.2 ‹_› (.inr rfl)
  |exact a3a (x:=⟨p,d,b,ns⟩) ‹_› (.inl rfl)
  |exact a3a (x:=⟨p,d,b,ns⟩) ‹_› (.inr rfl)
  |exact(Sh (k:=4) (m:=[91]) (x:=⟨p,d,b,ns⟩) ‹_› (by omega) h1 h2 h3 (by omega)).1
  |exact(Sh (k:=4) (m:=[40]) (x:=⟨p,d,b,ns⟩) ‹_› (by omega) h1 h2 h3 (by omega)).2
  |exact(a2Z (k:=4) h1 ‹_›).1
  |exact(a2Z h1 ‹_›).2
  |exact b4f h1 ‹_› ‹_› ‹_› ‹_› ‹_›
  |exact a3b (x:=⟨p,d,b,ns⟩) (k:=4) (m:=[40]) ‹_› (by omega)
  |exact(a2Y (x:=⟨p,d,b,ns⟩) ‹_› h1 h2 h3).1
  |exact(a2Y (x:=⟨p,d,b,ns⟩) ‹_› h1 h2 h3).2
  |exact b4h ‹_› ‹_› ‹_› ‹_› ‹_› ‹_› ‹_›
  |exact b4g h1 ‹_› ‹_› ‹_› ‹_› ‹_› ‹_› ‹_›
  |exact Dt h1 ‹_›
  |exact⟨by simp,by simp⟩
  |exact a2M h1.2 ‹_› ‹_› ‹_› ‹_› ‹_›
  |skip)
def PJ(n:Nat):Sig:= {X:=ST×Int×Int×Bool×List Nd,args:=fun x=>[rdG x.1 (xg x)],pre:=fun x=>wP 2 (n+1) x.1 (xg x),Y:=Int×Int×Int×Bool×List Nd,post:=fun x y=>Ag x.1.sg (xg x) (pE x.1.sg (n+1) .fin) (yS y),res:=fun x y=> .int .i64 y.1,outs:=fun x y=>[rdG x.1 (yG y.2)],keep:=true}
def PK(n:Nat)(x:ST×Int×Int×Bool×List Nd):LS:= {ι:=Int×Int×Bool×List Nd×Int×Nat,inv:=fun i=>enJ x.1.sg n (xg x) (iG i) i.2.2.2.2.1 i.2.2.2.2.2,regs:=fun i=>[(0,rdG x.1 (iG i)),(3,.int .i64 i.2.2.2.2.1)],als:=[],meas:=fun i=>i.2.2.2.2.2}
theorem b4n(n:Nat)(h:rAll G n):Ai G Tryz.prog 240 (PJ n):=
 vcFun_okP [(245,0,(Sd n)),(199,0,CA),(219,0,(JH n)),(196,0,CO),(200,0,Ev),(133,0,Cr),(134,0,BU),(195,0,CR)] [(25,⟨Int,AZ⟩)] false (fun x=>[(2,PK n x)]) Tryz.func240 rfl (by decide) ⟨h.base,Ib,(a2S n h),Jy,Px,Hy,GW,JA,trivial⟩ (fun(x:ST×Int×Int×Bool×List Nd)=>True∧cA (Sd n) [rdG x.1 (xg x)] fun x_1 y=>eA (PK n x) [rdG x_1.1 (yG y.2),.int .i64 y.1]∧∀(i:Int×Int×Bool×List Nd×Int×Nat),enJ x.1.sg n (xg x) (iG i) i.2.2.2.2.1 i.2.2.2.2.2→Aa (!(iG i).bad) (cA CA [rdG x.1 (iG i),.str #[(40:UInt8)].toList] fun x_2 y=>Aa (isG x_2.1.sg (xh x_2) (4:Int) x_2.2.2.2.2.2) (cA (JH n) [rdG x_2.1 (xh x_2),.int .i64 i.2.2.2.2.1] fun x_3 y=>eN (PK n x) i [rdG x_3.1 (yG y.2),.int .i64 y.1]) (cA CO [rdG x_2.1 (xh x_2),.str #[(46:UInt8)].toList] fun x_3 y=>Aa (isG x_3.1.sg (xh x_3) (4:Int) x_3.2.2.2.2.2) (cA Ev [rdG x_3.1 (Al x_3.1.sg (xh x_3) x_3.2.2.2.2.2),.int .i64 (0:Int)] fun x_4 y=>Aa (!nmG x_4.1.sg (xh x_4) x_4.2.2.2.2.2) (rA (PJ n) x [.int .i64 (0:Int),.box 0 [sgs x_4.1.sg,.int .i64 x_4.1.z,.int .i64 (xh x_4).pos,.int .i64 (xh x_4).deep,.bool true,Av (xh x_4).nodes,mbs x_4.1.ms]]) (cA Cr [rdG x_4.1 (xh x_4)] fun x_5 y=>∃(x_6:Int),i.2.2.2.2.1=x_6∧cA BU [rdG x_5.1 (xg x_5),.agg [.int .i64 (6:Int),.str (pkG x_5.1.sg (xg x_5) (0:Int)).text,Ab [x_6],.bool false]] fun x_7 y=>cA CR [rdG x_7.1 (Ah (xh x_7) {kind:=x_7.2.2.2.2.2.1,text:=x_7.2.2.2.2.2.2.1,kids:=x_7.2.2.2.2.2.2.2.1,blank:=x_7.2.2.2.2.2.2.2.2})] fun x_8 y=>eN (PK n x) i [rdG x_8.1 (BX (xg x_8)),.int .i64 (AQ (xh x_7))])) (rA (PJ n) x [.int .i64 i.2.2.2.2.1,rdG x_3.1 (Al x_3.1.sg (xh x_3) x_3.2.2.2.2.2)]))) (rA (PJ n) x [.int .i64 i.2.2.2.2.1,rdG x.1 (iG i)])) (fun x=>by kernel_rfl) fun(x:ST×Int×Int×Bool×List Nd) (hx:wP 2 (n+1) x.1 (xg x))=>(by
 dsimp only[cA,eA,eN,PK,mbs,Bc,Ab,Av,rA,rdG,BU,Sd,JH,PJ,CA,Cr,Ev,CR,CO,Bu,sgs,Au,Az,mvL,lnL,mvE,lnE,Bq]
 obtain⟨s,p,d,b,ns⟩:=x;dsimp only[xg,xh] at hx ⊢
 obtain⟨⟨h1,h2⟩,h3⟩:=hx
 (repeat' first|(with_reducible first|rfl|exact True.intro|apply AK|apply And.intro|((first|apply AA|apply AI|apply AB|apply AJ)<;>intro _))|(apply Ax<;>intro _)|apply AH|refine Ae () ?_ ?_|((first|apply AO|apply AN|apply AM|apply AL|apply AG|apply AF|apply AE|apply AD|apply AC)<;>try dsimp only)|apply Ae|(refine Prod.forall.2 ?_;intro _;try dsimp only)|(intro _;try dsimp only))
 all_goals(try dsimp only[xg,xh,yG,yS,iG] at*)
 all_goals(try simp only[CP] at*)
 all_goals first
  |(show Nat;skip)
  |rfl
  |assumption
  |exact a3d h1 h2 h3
  |exact(WD h1 h2 ‹_›).1
  |exact(WD h1 h2 ‹_›).2 ‹_›
  |exact b4i h1 ‹_›
  |exact a2G (And.left ‹_›) ‹_›
  |exact b4j (x:=⟨p,d,b,ns⟩) h1 h3 ‹_› ‹_›
  |exact(Si ‹_› ‹_› ‹_›).1.1
  |exact(Si ‹_› ‹_› ‹_›).1.2 ‹_›
  |exact(WE h1.1 ‹_› ‹_› ‹_› ‹_›).1.1
  |exact(WE h1.1 ‹_› ‹_› ‹_› ‹_›).1.2 ‹_›
  |exact(a3c (t:=[]) h1 ‹_› ‹_›).1
  |exact(a3c (t:=[]) h1 ‹_› ‹_›).2
  |exact b4k ‹_› ‹_› ‹_› ‹_›
  |exact b4l ‹_› ‹_› ‹_› ‹_›
  |omega
  |skip
 all_goals first
  |exact(Si ‹_› ‹_› ‹_›).2
  |exact(WE h1.1 ‹_› ‹_› ‹_› ‹_›).2
  |skip)
end Go.My
end
section
namespace Go.My
open Go.Eng Go.Proofs
variable {G:GInv}
def KM(sg:List Sg)(n l:Nat)(x y:Gs)(k:Int)(N:Nat):Prop:=chO sg n l x y k N∧(y.bad=false→y.deep≤20)
theorem a3e{sg:List Sg}{n l:Nat}{x y:Gs}{k:Int}{N:Nat}(h:chO sg n l x y k N∧(y.bad=false→y.deep≤20)):KM sg n l x y k N:=h
def HE(sg:List Sg)(n l:Nat)(m:List UInt8)(x y:Gs)(ks:List Int)(N M:Nat):Prop:=(chN sg n l m x y ks N∧N≤M)∧(y.bad=false→y.deep≤20)
theorem a3f{sg:List Sg}{n l:Nat}{m:List UInt8}{x y:Gs}{ks:List Int}{N M:Nat}(h:(chN sg n l m x y ks N∧N≤M)∧(y.bad=false→y.deep≤20)):HE sg n l m x y ks N M:=h
theorem b4o{s:ST}{x:Gs}{n:Nat}{l:Int}{z:Int×Gs}(h1:rOk s x)(h2:x.bad=false→x.deep≤20)(hl:l≠6)(h0:0≤l)(h1z:Ag s.sg x (pE s.sg n (.chain (l+1).toNat)) z):KM s.sg n l.toNat x z.2 z.1 (2*s.sg.length+4):=by
 rw[show(l+1).toNat=l.toNat+1 by omega] at h1z
 exact a3e ⟨a2E h1.2 (by omega) h1z,Me h1z h2⟩
theorem b4p{s:ST}{x:Gs}{n:Nat}{l:Int}(h1:rOk s x)(h2:x.bad=false→x.deep≤20)(h3:12*((s.sg.length:Int)-x.pos)+(9-l.toNat:Nat)≤(n+1:Nat))(h0:0≤l)(h6:l≤6)(hl:l≠6):wP (9-(l+1).toNat) n s x:=⟨⟨h1,h2⟩,by omega⟩
theorem b4q{s:ST}{x:Gs}{n:Nat}{l:Int}(h1:rOk s x)(h2:x.bad=false→x.deep≤20)(h3:12*((s.sg.length:Int)-x.pos)+(9-l.toNat:Nat)≤(n+1:Nat))(hl:l=6):wP 2 n s x:=by
 subst hl;exact⟨⟨h1,h2⟩,by simp at h3;omega⟩
theorem a3g{s:ST}{x:Gs}{n:Nat}{l:Int}{z:Int×Gs}(hl:l=6)(h:Ag s.sg x (pE s.sg n .fin) z):Ag s.sg x (pE s.sg (n+1) (.chain l.toNat)) z:=by subst hl;exact b3C h
theorem b4r{s:ST}{x y:Gs}{n l:Nat}{k:Int}{N:Nat}(h1:rOk s x)(h:KM s.sg n l x y k N):rOk s y:=⟨h1.1,h.1.1.1⟩
theorem b4s{s:ST}{x y:Gs}{n l:Nat}{m:List UInt8}{ks:List Int}{N M:Nat}(h1:rOk s x)(h:HE s.sg n l m x y ks N M):rOk s y:=⟨h1.1,h.1.1.1.1⟩
theorem b4t{sg:List Sg}{n l:Nat}{x y:Gs}{k:Int}{N:Nat}(h:KM sg n l x y k N)(hm:BD sg l y=[]):Ag sg x (pE sg (n+1) (.chain l)) (k,y):=b3E h.1 hm
theorem b4u{sg:List Sg}{n l:Nat}{x y:Gs}{k:Int}{N:Nat}(h:KM sg n l x y k N)(hm:BD sg l y≠[]):HE sg n l (BD sg l y) x y [k] N N:=a3f ⟨⟨b3F h.1 hm,Nat.le_refl _⟩,h.2⟩
theorem b4v{s:ST}{x y:Gs}{n:Nat}{l:Int}{m:List UInt8}{ks:List Int}{N M:Nat}(h1:rOk s x)(h3:12*((s.sg.length:Int)-x.pos)+(9-l.toNat:Nat)≤(n+1:Nat))(h0:0≤l)(h6:l≤6)(hl:l≠6)
 (h:HE s.sg n l.toNat m x y ks N M) (hq:isG s.sg y 4 m=true):wP (9-(l+1).toNat) n s (Al s.sg y m):=by
 rw[Dg hq]
 have hl2:=CC hq (by omega)
 have ha:=Fc h.1.1.1.1 hl2.2
 have hd:=h.2 hl2.1
 have hp:=h.1.1.2.2.2 hl2.1
 have e:(An y).pos=y.pos+1:=rfl
 have e2:(An y).deep=y.deep:=rfl
 exact⟨⟨⟨h1.1,ha⟩,fun _=>by omega⟩,by omega⟩
theorem a3h{sg:List Sg}{n:Nat}{l:Int}{x y y0:Gs}{ks:List Int}{N M:Nat}{z:Int×Gs}(h0:0≤l)(hm:BD sg l.toNat y0≠[])(h:HE sg n l.toNat (BD sg l.toNat y0) x y ks N M)
 (hz:Ag sg (Al sg y (BD sg l.toNat y0)) (pE sg n (.chain (l+1).toNat)) z) (hq:isG sg y 4 (BD sg l.toNat y0)=true):HE sg n l.toNat (BD sg l.toNat y0) x z.2 (ks++[z.1]) (N-1) M∧N-1<N:=by
 rw[Dg hq] at hz
 rw[show(l+1).toNat=l.toNat+1 by omega] at hz
 obtain⟨a,b⟩:=HC (b3G (HB hm).2 h.1.1 hq hz)
 have hl2:=CC hq (by omega)
 exact⟨a3f ⟨⟨a,by have:=h.1.2;omega⟩,Me hz (fun _=>h.2 hl2.1)⟩,b⟩
theorem a3i{s:ST}{n l:Nat}{x y y0:Gs}{ks:List Int}{N M:Nat}(hs:sgB s.sg)(hm:BD s.sg l y0≠[])(h:HE s.sg n l (BD s.sg l y0) x y ks N M)(hq:isG s.sg y 4 (BD s.sg l y0)=false):
 KM s.sg n l x (Ah (Al s.sg y (BD s.sg l y0)) ⟨7,BD s.sg l y0,ks,false⟩) (AQ (Al s.sg y (BD s.sg l y0))) (N-1)∧N-1<M:=by
 rw[Df hq]
 obtain⟨a,b⟩:=HC (b3H (HB hm).2 hs h.1.1 hq)
 obtain⟨d1,d2,d3⟩:= @HA y ⟨7,BD s.sg l y0,ks,false⟩
 exact⟨a3e ⟨a,fun hb=>by rw[d1];exact h.2 (d3 hb)⟩,by have:=h.1.2;omega⟩
theorem b4w{s:ST}{n l:Nat}{x y:Gs}{m:List UInt8}{ks:List Int}{N M:Nat}(h1:rOk s x)(h:HE s.sg n l m x y ks N M)(hq:isG s.sg y 4 m=false):rOk s (Al s.sg y m):=by
 rw[Df hq];exact⟨h1.1,h.1.1.1.1⟩
theorem b4x{s:ST}{n l:Nat}{x y:Gs}{m:List UInt8}{ks:List Int}{N M:Nat}(hs:sgB s.sg)(h:HE s.sg n l m x y ks N M):ks.length≤3001:=by
 have:=h.1.1.2.2.1;have:=h.1.1.1.1.1.2;have:=hs.1;omega
abbrev pkX (x:Gs):Gs:=gDp (if x.deep=20 then Bd x else x) 1
theorem Sj{s:ST}{x:Gs}{n:Nat}(h1:rOk s x)(h2:x.deep≤20)(h3:12*((s.sg.length:Int)-x.pos)+10≤(n+1:Nat)):wP (9-(0:Int).toNat) n s (pkX x)∧rOk s (pkX x):=by
 obtain⟨p1,p2,p3⟩:= @PF x
 have hok:gsOk s.sg (pkX x):=by
  unfold pkX;split
  ·exact⟨h1.2.1,by simp only[gDp,Bd];have:=h1.2.2.1;omega,h1.2.2.2⟩
  ·exact⟨h1.2.1,by simp only[gDp];have:=h1.2.2.1;omega,h1.2.2.2⟩
 exact⟨⟨⟨⟨h1.1,hok⟩,fun hb=>by have:=p3 hb;simp only[pkX] at*;omega⟩,by simp only[pkX] at*;simp;omega⟩,h1.1,hok⟩
theorem WF{s:ST}{x:Gs}{n:Nat}{z:Int×Gs}(h1:rOk s x)(h2:x.deep≤20)(h3:12*((s.sg.length:Int)-x.pos)+10≤(n+1:Nat))(hz:Ag s.sg (pkX x) (pE s.sg n (.chain 0)) z)(hq:isG s.sg z.2 4 [63]=true):vP 10 n s (Al s.sg z.2 [63]):=by
 rw[Dg hq]
 have hl:=CC hq (by omega)
 have e:=CF hz
 obtain⟨p1,p2,p3⟩:= @PF x
 have e1:(An z.2).pos=z.2.pos+1:=rfl
 have e2:(An z.2).deep=z.2.deep:=rfl
 have e3:=p3 (e.2.2.2 hl.1).1
 simp only[pkX] at*
 exact⟨⟨⟨h1.1,Fc (EC hz) hl.2⟩,by omega⟩,by omega⟩
theorem a3j{s:ST}{x:Gs}{n:Nat}{z a:Int×Gs}(h1:rOk s x)(h2:x.deep≤20)(h3:12*((s.sg.length:Int)-x.pos)+10≤(n+1:Nat))(hz:Ag s.sg (pkX x) (pE s.sg n (.chain 0)) z)(hq:isG s.sg z.2 4 [63]=true)
 (ha:Ag s.sg (Al s.sg z.2 [63]) (pE s.sg n .pick) a):vP 10 n s (Aq s.sg a.2 [58]):=by
 have hv:=WF h1 h2 h3 hz hq
 have e:=CF ha
 have t:=FM (m:=[58]) (EC ha)
 have:=hv.2;have:=hv.1.2
 exact⟨⟨⟨h1.1,t.1⟩,by omega⟩,by omega⟩
theorem a3k{s:ST}{x:Gs}{n:Nat}{z a b:Int×Gs}(h1:rOk s x)(h2:x.deep≤20)(hz:Ag s.sg (pkX x) (pE s.sg n (.chain 0)) z)(hq:isG s.sg z.2 4 [63]=true)
 (ha:Ag s.sg (Al s.sg z.2 [63]) (pE s.sg n .pick) a) (hb:Ag s.sg (Aq s.sg a.2 [58]) (pE s.sg n .pick) b):
 Ag s.sg x (pE s.sg (n+1) .pick) (AQ b.2,gDp (Ah b.2 ⟨8,[],[z.1,a.1,b.1],false⟩) (-1)):=by
 rw[Dg hq] at ha
 exact b3u h1.2 h2 hz hq ha hb
theorem a3l{s:ST}{x:Gs}{n:Nat}{z:Int×Gs}(h1:rOk s x)(h2:x.deep≤20)(hz:Ag s.sg (pkX x) (pE s.sg n (.chain 0)) z)(hq:isG s.sg z.2 4 [63]=false):Ag s.sg x (pE s.sg (n+1) .pick) (z.1,gDp (Al s.sg z.2 [63]) (-1)):=by
 rw[Df hq];exact b3t h1.2 h2 hz hq
theorem a3m{s:ST}{x:Gs}{n:Nat}{z:Int×Gs}(h1:rOk s x)(hz:Ag s.sg (pkX x) (pE s.sg n (.chain 0)) z)(hq:isG s.sg z.2 4 [63]=false):0≤(Al s.sg z.2 [63]).deep∧(Al s.sg z.2 [63]).deep≤21:=by
 rw[Df hq];exact(EC hz).2.1
theorem Sk{g:Gs}{x:Nd}:(Ah g x).deep=g.deep:=HA.1
theorem a3n{α:Type}{sg:List Sg}{x:Gs}{f:Ps→Option (α×Ps)}{y:α×Gs}(h:Ag sg x f y):0≤y.2.deep∧y.2.deep≤21:=(EC h).2.1
theorem a3o{s:ST}{x:Gs}{n:Nat}(h1:rOk s x)(h2:x.deep≤20)(h3:12*((s.sg.length:Int)-x.pos)+11≤(n+1:Nat)):vP 10 n s x:=⟨⟨h1,h2⟩,by omega⟩
def vaJ(sg:List Sg)(n:Nat)(x y:Gs)(ks:List Int)(N:Nat):Prop:=KJ sg n x y ks N∧y.deep≤20
theorem WG{sg:List Sg}{n:Nat}{x y:Gs}{ks:List Int}{N:Nat}(h:KJ sg n x y ks N∧y.deep≤20):vaJ sg n x y ks N:=h
theorem a3p{s:ST}{x:Gs}{n:Nat}{z:Int×Gs}(h1:rOk s x)(hz:Ag s.sg x (pE s.sg n .pick) z)(hq:isG s.sg z.2 4 [46,46]=false):Ag s.sg x (pE s.sg (n+1) .value) z:=b3v h1.2 hz hq
theorem a3q{s:ST}{x:Gs}{n:Nat}{z:Int×Gs}(h1:rOk s x)(h2:x.deep≤20)(hz:Ag s.sg x (pE s.sg n .pick) z)(hq:isG s.sg z.2 4 [46,46]=true):vaJ s.sg n x z.2 [z.1] (s.sg.length+1):=WG ⟨b3w h1.2 hz hq,by have:=(CF hz).1;omega⟩
theorem Sl{s:ST}{x y:Gs}{n:Nat}{ks:List Int}{N:Nat}(h1:rOk s x)(h:vaJ s.sg n x y ks N):rOk s y:=⟨h1.1,h.1.1.1⟩
theorem a3r{s:ST}{x y:Gs}{n:Nat}{ks:List Int}{N:Nat}(hs:sgB s.sg)(h:vaJ s.sg n x y ks N):ks.length≤3001:=by
 have:=h.1.2.2.1;have:=h.1.1.1.1.2;have:=hs.1;omega
theorem WH{s:ST}{x y:Gs}{n:Nat}{ks:List Int}{N:Nat}(h1:rOk s x)(h:vaJ s.sg n x y ks N)(hq:isG s.sg y 4 [46,46]=true):rOk s (Al s.sg y [46,46]):=by
 rw[Dg hq];exact⟨h1.1,Fc h.1.1.1 (CC hq (by omega)).2⟩
theorem b4y{s:ST}{x y:Gs}{n:Nat}{ks:List Int}{N:Nat}(h1:rOk s x)(h3:12*((s.sg.length:Int)-x.pos)+11≤(n+1:Nat))(h:vaJ s.sg n x y ks N)(hq:isG s.sg y 4 [46,46]=true):wP 11 n s (CD s.sg (Al s.sg y [46,46])):=by
 have hk:=WH h1 h hq
 rw[Dg hq] at hk ⊢
 have hl:=CC hq (by omega)
 have e:=Jx h1.1 hk.2
 have e1:(CD s.sg (An y)).deep=(An y).deep:=e.1.2.1
 have e2:(An y).pos≤(CD s.sg (An y)).pos:=e.1.2.2.1
 have e3:(An y).pos=y.pos+1:=rfl
 have e4:(An y).deep=y.deep:=rfl
 have:=h.1.1.2.2.1;have:=h.2
 exact⟨⟨⟨h1.1,EC e⟩,fun _=>by omega⟩,by omega⟩
theorem a3s{s:ST}{x y:Gs}{n N:Nat}{ks:List Int}{w:Int×Gs}(h1:rOk s x)(h:vaJ s.sg n x y ks N)(hq:isG s.sg y 4 [46,46]=true)
 (hw:Ag s.sg (CD s.sg (Al s.sg y [46,46])) (Dc s.sg (pE s.sg n .value) (Dp s.sg (Al s.sg y [46,46]))) w):vaJ s.sg n x w.2 (ks++[w.1]) (N-1)∧N-1<N:=by
 have hk:=WH h1 h hq
 rw[Dg hq] at hw hk
 obtain⟨a,b⟩:=HC (b3x h1.1 h.1 hq hw)
 have e:=Jx h1.1 hk.2
 have e1:(CD s.sg (An y)).deep=(An y).deep:=e.1.2.1
 have e4:(An y).deep=y.deep:=rfl
 have:=(CF hw).1;have:=h.2
 exact⟨WG ⟨a,by omega⟩,b⟩
theorem a3t{s:ST}{x y:Gs}{n N:Nat}{ks:List Int}(h1:rOk s x)(h:vaJ s.sg n x y ks N)(hq:isG s.sg y 4 [46,46]=false):Ag s.sg x (pE s.sg (n+1) .value) (AQ (Al s.sg y [46,46]),Ah (Al s.sg y [46,46]) ⟨10,[],ks,false⟩):=by
 rw[Df hq];exact b3y h.1 hq h1.1
theorem a3u{s:ST}{x y:Gs}{n N:Nat}{ks:List Int}(h1:rOk s x)(h:vaJ s.sg n x y ks N)(hq:isG s.sg y 4 [46,46]=false):rOk s (Al s.sg y [46,46]):=by
 rw[Df hq];exact Sl h1 h
attribute [local irreducible] pE Bn Dc fnR Ag Bl gsOk Aq Bs Ah BX De Al CD Dp AQ BC pkG isG nmG
def Sm(n:Nat)(x:ST×Int×Int×Bool×List Nd×Int)(j:Int×Int×Bool×List Nd×Int×Nat):LS:= {
 ι:=Int×Int×Bool×List Nd×List Int×Nat,inv:=fun i=>HE x.1.sg n x.2.2.2.2.2.toNat (BD x.1.sg x.2.2.2.2.2.toNat (iG j)) (xh x) (iG i) i.2.2.2.2.1 i.2.2.2.2.2 j.2.2.2.2.2,
 regs:=fun i=>[(0,rdG x.1 (iG i)),(1,.int .i64 x.2.2.2.2.2),(6,.str (BD x.1.sg x.2.2.2.2.2.toNat (iG j))),(7,Ab i.2.2.2.2.1)],als:=[],meas:=fun i=>i.2.2.2.2.2}
def Sn(n:Nat)(x:ST×Int×Int×Bool×List Nd×Int):LS:= {
 ι:=Int×Int×Bool×List Nd×Int×Nat,inv:=fun i=>KM x.1.sg n x.2.2.2.2.2.toNat (xh x) (iG i) i.2.2.2.2.1 i.2.2.2.2.2,regs:=fun i=>[(0,rdG x.1 (iG i)),(1,.int .i64 x.2.2.2.2.2),(5,.int .i64 i.2.2.2.2.1)],als:=[],meas:=fun i=>i.2.2.2.2.2,
 sub:=fun j=>[(8,Sm n x j)]}
def So(n:Nat):Sig:= {X:=ST×Int×Int×Bool×List Nd×Int,args:=fun x=>[rdG x.1 (xh x),.int .i64 x.2.2.2.2.2],pre:=fun x=>wP (9-x.2.2.2.2.2.toNat) (n+1) x.1 (xh x)∧0≤x.2.2.2.2.2∧x.2.2.2.2.2≤6,Y:=Int×Int×Int×Bool×List Nd,post:=fun x y=>Ag x.1.sg (xh x) (pE x.1.sg (n+1) (.chain x.2.2.2.2.2.toNat)) (yS y),res:=fun x y=> .int .i64 y.1,outs:=fun x y=>[rdG x.1 (yG y.2),.top],keep:=true}
theorem b4z(n:Nat)(h:rAll G n):Ai G Tryz.prog 233 (So n):=
 vcFun_okP [(240,0,(Sc n)),(233,0,(KL n)),(241,0,Mf),(196,0,CO),(134,0,BU)] [(25,⟨Int,AZ⟩)] false (fun x=>[(4,Sn n x)]) Tryz.func233 rfl (by decide) ⟨h.fin,h.chain,b4c,Jy,GW,trivial⟩ (fun(x:ST×Int×Int×Bool×List Nd×Int)=>True∧Aa (x.2.2.2.2.2==(6:Int)) (cA (Sc n) [rdG x.1 (xh x)] fun x_1 y=>rA (So n) x [.int .i64 y.1,rdG x_1.1 (yG y.2),.top]) (inR IntKind.i64 (x.2.2.2.2.2+(1:Int))∧cA (KL n) [rdG x.1 (xh x),.int .i64 (x.2.2.2.2.2+(1:Int))] fun x_1 y=>eA (Sn n x) [rdG x_1.1 (yG y.2),.int .i64 x.2.2.2.2.2,.int .i64 y.1]∧∀(i:Int×Int×Bool×List Nd×Int×Nat),KM x.1.sg n (Int.toNat x.2.2.2.2.2) (xh x) (iG i) i.2.2.2.2.1 i.2.2.2.2.2→cA Mf [rdG x.1 (iG i),.int .i64 x.2.2.2.2.2] fun x_2 y=>Aa (BD x_2.1.sg (Int.toNat x_2.2.2.2.2.2) (xh x_2)== #[].toList) (rA (So n) x [.int .i64 i.2.2.2.2.1,rdG x_2.1 (xh x_2),.top]) (∃(x_3:Int),i.2.2.2.2.1=x_3∧eA (Sm n x i) [rdG x_2.1 (xh x_2),.int .i64 x.2.2.2.2.2,.str (BD x_2.1.sg (Int.toNat x_2.2.2.2.2.2) (xh x_2)),Ab [x_3]]∧∀(i_1:Int×Int×Bool×List Nd×List Int×Nat),HE x.1.sg n (Int.toNat x.2.2.2.2.2) (BD x.1.sg (Int.toNat x.2.2.2.2.2) (iG i)) (xh x) (iG i_1) i_1.2.2.2.2.1 i_1.2.2.2.2.2 i.2.2.2.2.2→cA CO [rdG x.1 (iG i_1),.str (BD x.1.sg (Int.toNat x.2.2.2.2.2) (iG i))] fun x_4 y=>Aa (isG x_4.1.sg (xh x_4) (4:Int) x_4.2.2.2.2.2) (inR IntKind.i64 (x.2.2.2.2.2+(1:Int))∧cA (KL n) [rdG x_4.1 (Al x_4.1.sg (xh x_4) x_4.2.2.2.2.2),.int .i64 (x.2.2.2.2.2+(1:Int))] fun x_5 y=>∃(x_6:Int),y.1=x_6∧∃(zs:List Int),Ab [x_6]=Ab zs∧Bj AZ∧AW (List.length i_1.2.2.2.2.1+List.length zs) (8:Nat)∧eN (Sm n x i) i_1 [rdG x_5.1 (yG y.2),.int .i64 x.2.2.2.2.2,.str (BD x.1.sg (Int.toNat x.2.2.2.2.2) (iG i)),Ab (i_1.2.2.2.2.1++zs)]) (cA BU [rdG x_4.1 (Al x_4.1.sg (xh x_4) x_4.2.2.2.2.2),.agg [.int .i64 (7:Int),.str (BD x.1.sg (Int.toNat x.2.2.2.2.2) (iG i)),Ab i_1.2.2.2.2.1,.bool false]] fun x_5 y=>eN (Sn n x) i [rdG x_5.1 (Ah (xh x_5) {kind:=x_5.2.2.2.2.2.1,text:=x_5.2.2.2.2.2.2.1,kids:=x_5.2.2.2.2.2.2.2.1,blank:=x_5.2.2.2.2.2.2.2.2}),.int .i64 x.2.2.2.2.2,.int .i64 (AQ (xh x_5))])))) (fun x=>by kernel_rfl) fun(x:ST×Int×Int×Bool×List Nd×Int) (hx:wP (9-x.2.2.2.2.2.toNat) (n+1) x.1 (xh x)∧0≤x.2.2.2.2.2∧x.2.2.2.2.2≤6)=>(by
 dsimp only[cA,eA,eN,Sm,Sn,mbs,Bc,Ab,Av,rA,rdG,BU,KL,So,Sc,Mf,CO,Bu,sgs,Au,Az,mvL,lnL,mvE,lnE,Bq]
 obtain⟨s,p,d,b,ns,e⟩:=x;dsimp only[xg,xh] at hx ⊢
 obtain⟨⟨⟨h1,h2⟩,h3⟩,h4,h5⟩:=hx
 (repeat' first|(with_reducible first|rfl|exact True.intro|apply AK|apply And.intro|((first|apply AA|apply AI|apply AB|apply AJ)<;>intro _))|(apply Ax<;>intro _)|apply AH|refine Ae () ?_ ?_|((first|apply AO|apply AN|apply AM|apply AL|apply AG|apply AF|apply AE|apply AD|apply AC)<;>try dsimp only)|apply Ae|(refine Prod.forall.2 ?_;intro _;try dsimp only)|(intro _;try dsimp only))
 all_goals(try dsimp only[xg,xh,yG,yS,iG] at*)
 all_goals(try simp only[CP] at*)
 all_goals first
  |(show Nat;skip)
  |rfl
  |assumption
  |exact b4q (x:=⟨p,d,b,ns⟩) h1 h2 h3 ‹_›
  |exact a3g ‹_› ‹_›
  |exact b4p (x:=⟨p,d,b,ns⟩) h1 h2 h3 h4 h5 ‹_›
  |exact b4o (x:=⟨p,d,b,ns⟩) h1 h2 ‹_› h4 ‹_›
  |exact b4r h1 ‹_›
  |exact b4s h1 ‹_›
  |exact b4t ‹_› ‹_›
  |exact b4u ‹_› ‹_›
  |exact b4v (x:=⟨p,d,b,ns⟩) h1 h3 h4 h5 ‹_› ‹_› ‹_›
  |exact(a3h h4 ‹_› ‹_› ‹_› ‹_›).1
  |exact(a3i h1.1 ‹_› ‹_› ‹_›).1
  |exact b4w h1 ‹_› ‹_›
  |omega
  |(have hq:=b4x h1.1 (show HE _ _ _ _ _ _ _ _ _ by assumption);(try simp only[AW,List.length_append,List.length_cons,List.length_nil]);omega)
  |((try simp only[AW,AR,List.length_append,List.length_cons,List.length_nil]);omega)
  |skip
 all_goals first
  |exact(a3h h4 ‹_› ‹_› ‹_› ‹_›).2
  |exact(a3i h1.1 ‹_› ‹_› ‹_›).2
  |skip)
def Sp(n:Nat):Sig:= {X:=ST×Int×Int×Bool×List Nd,args:=fun x=>[rdG x.1 (xg x)],pre:=fun x=>vP 10 (n+1) x.1 (xg x),Y:=Int×Int×Int×Bool×List Nd,post:=fun x y=>Ag x.1.sg (xg x) (pE x.1.sg (n+1) .pick) (yS y),res:=fun x y=> .int .i64 y.1,outs:=fun x y=>[rdG x.1 (yG y.2)],keep:=true}
theorem b4A(n:Nat)(h:rAll G n):Ai G Tryz.prog 218 (Sp n):=
 vcFun_okP [(202,0,IY),(233,0,(KL n)),(196,0,CO),(218,0,(Ig n)),(174,0,CE),(134,0,BU)] [(25,⟨Int,AZ⟩)] false (fun x=>[]) Tryz.func218 rfl (by decide) ⟨a1S,h.chain,Jy,h.pick,Jz,GW,trivial⟩ (fun(x:ST×Int×Int×Bool×List Nd)=>True∧cA IY [rdG x.1 (xg x)] fun x_1 y=>cA (KL n) [.box 0 [sgs x_1.1.sg,.int .i64 x_1.1.z,.int .i64 (gDp (if(xg x_1).deep=(20:Int) then Bd (xg x_1) else xg x_1) (1:Int)).pos,.int .i64 (gDp (if(xg x_1).deep=(20:Int) then Bd (xg x_1) else xg x_1) (1:Int)).deep,.bool (gDp (if(xg x_1).deep=(20:Int) then Bd (xg x_1) else xg x_1) (1:Int)).bad,Av (gDp (if(xg x_1).deep=(20:Int) then Bd (xg x_1) else xg x_1) (1:Int)).nodes,mbs x_1.1.ms],.int .i64 (0:Int)] fun x_2 y=>cA CO [rdG x_2.1 (yG y.2),.str #[(63:UInt8)].toList] fun x_3 y_1=>Aa (isG x_3.1.sg (xh x_3) (4:Int) x_3.2.2.2.2.2) (cA (Ig n) [rdG x_3.1 (Al x_3.1.sg (xh x_3) x_3.2.2.2.2.2)] fun x_4 y_2=>cA CE [rdG x_4.1 (yG y_2.2),.str #[(58:UInt8)].toList] fun x_5 y_3=>cA (Ig n) [rdG x_5.1 (Aq x_5.1.sg (xh x_5) x_5.2.2.2.2.2)] fun x_6 y_4=>∃(x_7:Int),y.1=x_7∧∃(x_8:Int),y_2.1=x_8∧∃(x_9:Int),y_4.1=x_9∧cA BU [rdG x_6.1 (yG y_4.2),.agg [.int .i64 (8:Int),.str #[].toList,Ab [x_7,x_8,x_9],.bool false]] fun x_10 y=>inR IntKind.i64 ((Ah (xh x_10) {kind:=x_10.2.2.2.2.2.1,text:=x_10.2.2.2.2.2.2.1,kids:=x_10.2.2.2.2.2.2.2.1,blank:=x_10.2.2.2.2.2.2.2.2}).deep-(1:Int))∧rA (Sp n) x [.int .i64 (AQ (xh x_10)),.box 0 [sgs x_10.1.sg,.int .i64 x_10.1.z,.int .i64 (Ah (xh x_10) {kind:=x_10.2.2.2.2.2.1,text:=x_10.2.2.2.2.2.2.1,kids:=x_10.2.2.2.2.2.2.2.1,blank:=x_10.2.2.2.2.2.2.2.2}).pos,.int .i64 ((Ah (xh x_10) {kind:=x_10.2.2.2.2.2.1,text:=x_10.2.2.2.2.2.2.1,kids:=x_10.2.2.2.2.2.2.2.1,blank:=x_10.2.2.2.2.2.2.2.2}).deep-(1:Int)),.bool (Ah (xh x_10) {kind:=x_10.2.2.2.2.2.1,text:=x_10.2.2.2.2.2.2.1,kids:=x_10.2.2.2.2.2.2.2.1,blank:=x_10.2.2.2.2.2.2.2.2}).bad,Av (Ah (xh x_10) {kind:=x_10.2.2.2.2.2.1,text:=x_10.2.2.2.2.2.2.1,kids:=x_10.2.2.2.2.2.2.2.1,blank:=x_10.2.2.2.2.2.2.2.2}).nodes,mbs x_10.1.ms]]) (inR IntKind.i64 ((Al x_3.1.sg (xh x_3) x_3.2.2.2.2.2).deep-(1:Int))∧rA (Sp n) x [.int .i64 y.1,.box 0 [sgs x_3.1.sg,.int .i64 x_3.1.z,.int .i64 (Al x_3.1.sg (xh x_3) x_3.2.2.2.2.2).pos,.int .i64 ((Al x_3.1.sg (xh x_3) x_3.2.2.2.2.2).deep-(1:Int)),.bool (Al x_3.1.sg (xh x_3) x_3.2.2.2.2.2).bad,Av (Al x_3.1.sg (xh x_3) x_3.2.2.2.2.2).nodes,mbs x_3.1.ms]])) (fun x=>by kernel_rfl) fun(x:ST×Int×Int×Bool×List Nd) (hx:vP 10 (n+1) x.1 (xg x))=>(by
 dsimp only[cA,mbs,Bc,Ab,Av,rA,rdG,BU,KL,IY,Ig,Sp,CO,CE,Bu,sgs,Au,Az,mvL,lnL,mvE,lnE]
 obtain⟨s,p,d,b,ns⟩:=x;dsimp only[xg,xh] at hx ⊢
 obtain⟨⟨h1,h2⟩,h3⟩:=hx
 (repeat' first|(with_reducible first|rfl|exact True.intro|apply AK|apply And.intro|((first|apply AA|apply AI|apply AB|apply AJ)<;>intro _))|(apply Ax<;>intro _)|apply AH|refine Ae () ?_ ?_|((first|apply AO|apply AN|apply AM|apply AL|apply AG|apply AF|apply AE|apply AD|apply AC)<;>try dsimp only)|apply Ae|(refine Prod.forall.2 ?_;intro _;try dsimp only)|(intro _;try dsimp only))
 all_goals(try dsimp only[xg,xh,yG,yS,iG] at*)
 all_goals(try simp only[CP] at*)
 all_goals first
  |rfl
  |assumption
  |exact(Sj (x:=⟨p,d,b,ns⟩) h1 h2 h3).1
  |exact(Sj (x:=⟨p,d,b,ns⟩) h1 h2 h3).2
  |exact Dt h1 ‹_›
  |exact WF (x:=⟨p,d,b,ns⟩) h1 h2 h3 ‹_› ‹_›
  |exact a3j (x:=⟨p,d,b,ns⟩) h1 h2 h3 ‹_› ‹_› ‹_›
  |exact a3k (x:=⟨p,d,b,ns⟩) h1 h2 ‹_› ‹_› ‹_› ‹_›
  |exact a3l (x:=⟨p,d,b,ns⟩) h1 h2 ‹_› ‹_›
  |(have hq:=a3m (x:=⟨p,d,b,ns⟩) h1 ‹_› ‹_›;(try dsimp only at hq);(try simp only[AR]);omega)
  |(have hq:=a3n (show Ag s.sg (Aq s.sg _ _) _ _ by assumption);(try dsimp only at hq);(try simp only[AR,Sk]);omega)
  |omega
  |skip)
def Sq(n:Nat):Sig:= {X:=ST×Int×Int×Bool×List Nd,args:=fun x=>[rdG x.1 (xg x)],pre:=fun x=>vP 11 (n+1) x.1 (xg x),Y:=Int×Int×Int×Bool×List Nd,post:=fun x y=>Ag x.1.sg (xg x) (pE x.1.sg (n+1) .value) (yS y),res:=fun x y=> .int .i64 y.1,outs:=fun x y=>[rdG x.1 (yG y.2)],keep:=true}
def Sr(n:Nat)(x:ST×Int×Int×Bool×List Nd):LS:= {ι:=Int×Int×Bool×List Nd×List Int×Nat,inv:=fun i=>vaJ x.1.sg n (xg x) (iG i) i.2.2.2.2.1 i.2.2.2.2.2,regs:=fun i=>[(0,rdG x.1 (iG i)),(4,Ab i.2.2.2.2.1)],als:=[],meas:=fun i=>i.2.2.2.2.2}
theorem b4B(n:Nat)(h:rAll G n):Ai G Tryz.prog 197 (Sq n):=
 vcFun_okP [(218,0,(Ig n)),(199,0,CA),(196,0,CO),(176,0,GX),(219,0,(JH n)),(134,0,BU)] [(25,⟨Int,AZ⟩)] false (fun x=>[(5,Sr n x)]) Tryz.func197 rfl (by decide) ⟨h.pick,Ib,Jy,Wb,(a2S n h),GW,trivial⟩ (fun(x:ST×Int×Int×Bool×List Nd)=>True∧cA (Ig n) [rdG x.1 (xg x)] fun x_1 y=>cA CA [rdG x_1.1 (yG y.2),.str #[(46:UInt8),(46:UInt8)].toList] fun x_2 y_1=>Aa (!isG x_2.1.sg (xh x_2) (4:Int) x_2.2.2.2.2.2) (rA (Sq n) x [.int .i64 y.1,rdG x_2.1 (xh x_2)]) (∃(x_3:Int),y.1=x_3∧eA (Sr n x) [rdG x_2.1 (xh x_2),Ab [x_3]]∧∀(i:Int×Int×Bool×List Nd×List Int×Nat),vaJ x.1.sg n (xg x) (iG i) i.2.2.2.2.1 i.2.2.2.2.2→cA CO [rdG x.1 (iG i),.str #[(46:UInt8),(46:UInt8)].toList] fun x_4 y=>Aa (isG x_4.1.sg (xh x_4) (4:Int) x_4.2.2.2.2.2) (cA GX [rdG x_4.1 (Al x_4.1.sg (xh x_4) x_4.2.2.2.2.2)] fun x_5 y=>cA (JH n) [rdG x_5.1 (CD x_5.1.sg (xg x_5)),.int .i64 (Dp x_5.1.sg (xg x_5))] fun x_6 y=>∃(x_7:Int),y.1=x_7∧∃(zs:List Int),Ab [x_7]=Ab zs∧Bj AZ∧AW (List.length i.2.2.2.2.1+List.length zs) (8:Nat)∧eN (Sr n x) i [rdG x_6.1 (yG y.2),Ab (i.2.2.2.2.1++zs)]) (cA BU [rdG x_4.1 (Al x_4.1.sg (xh x_4) x_4.2.2.2.2.2),.agg [.int .i64 (10:Int),.str #[].toList,Ab i.2.2.2.2.1,.bool false]] fun x_5 y=>rA (Sq n) x [.int .i64 (AQ (xh x_5)),rdG x_5.1 (Ah (xh x_5) {kind:=x_5.2.2.2.2.2.1,text:=x_5.2.2.2.2.2.2.1,kids:=x_5.2.2.2.2.2.2.2.1,blank:=x_5.2.2.2.2.2.2.2.2})]))) (fun x=>by kernel_rfl) fun(x:ST×Int×Int×Bool×List Nd) (hx:vP 11 (n+1) x.1 (xg x))=>(by
 dsimp only[cA,eA,eN,Sr,mbs,Bc,Ab,Av,rA,rdG,BU,JH,CA,GX,Ig,CO,Sq,Bu,sgs,Au,Az,mvL,lnL,mvE,lnE,Bq]
 obtain⟨s,p,d,b,ns⟩:=x;dsimp only[xg,xh] at hx ⊢
 obtain⟨⟨h1,h2⟩,h3⟩:=hx
 (repeat' first|(with_reducible first|rfl|exact True.intro|apply AK|apply And.intro|((first|apply AA|apply AI|apply AB|apply AJ)<;>intro _))|(apply Ax<;>intro _)|apply AH|refine Ae () ?_ ?_|((first|apply AO|apply AN|apply AM|apply AL|apply AG|apply AF|apply AE|apply AD|apply AC)<;>try dsimp only)|apply Ae|(refine Prod.forall.2 ?_;intro _;try dsimp only)|(intro _;try dsimp only))
 all_goals(try dsimp only[xg,xh,yG,yS,iG] at*)
 all_goals(try simp only[CP] at*)
 all_goals first
  |(show Nat;skip)
  |rfl
  |assumption
  |exact a3o (x:=⟨p,d,b,ns⟩) h1 h2 h3
  |exact Dt h1 ‹_›
  |exact a3p (x:=⟨p,d,b,ns⟩) h1 ‹_› ‹_›
  |exact a3q (x:=⟨p,d,b,ns⟩) h1 h2 ‹_› ‹_›
  |exact Sl (x:=⟨p,d,b,ns⟩) h1 ‹_›
  |exact WH (x:=⟨p,d,b,ns⟩) h1 ‹_› ‹_›
  |exact b4y (x:=⟨p,d,b,ns⟩) h1 h3 ‹_› ‹_›
  |exact(a3s (x:=⟨p,d,b,ns⟩) h1 ‹_› ‹_› ‹_›).1
  |exact a3t (x:=⟨p,d,b,ns⟩) h1 ‹_› ‹_›
  |exact a3u (x:=⟨p,d,b,ns⟩) h1 ‹_› ‹_›
  |(have hq:=a3r h1.1 (show vaJ _ _ _ _ _ _ by assumption);(try simp only[AW,List.length_append,List.length_cons,List.length_nil]);omega)
  |((try simp only[AW,AR,List.length_append,List.length_cons,List.length_nil]);omega)
  |skip
 all_goals first
  |exact(a3s (x:=⟨p,d,b,ns⟩) h1 ‹_› ‹_› ‹_›).2
  |skip)
end Go.My
end
section
namespace Go.My
open Go.Eng
theorem DN{k:Int}{t:List UInt8}{ks:List Int}{b:Bool}(ht:t.length≤3000)(hk:ks.length≤4000):Cz ⟨k,t,ks,b⟩:=⟨ht,hk⟩
theorem KN{α:Type}{sg:List Sg}{x:Gs}{f g:Ps→Option (α×Ps)}{y:α×Gs}(h:Ag sg x g y)(e:∀s,pur x=some s→f s=g s):Ag sg x f y:=by
 have e2:(pur x).bind f=(pur x).bind g:=by
  cases hp:pur x with
  |none=>rfl
  |some s=>exact e s hp
 obtain⟨⟨a1,a2,a3,a4,a5⟩,b⟩:=h
 exact⟨⟨a1,a2,a3,by rw[e2];exact a4,by rw[e2];exact a5⟩,b⟩
theorem Mg{α:Type}{sg:List Sg}{x:Gs}{k:Int}{m:List UInt8}{f g:Ps→Option (α×Ps)}{y:α×Gs}(hx:gsOk sg x)(hk:k≠0)(hm:isG sg x k m=true)(h:Bl sg (An x) g y)
 (e:∀s,pur x=some s→isT sg s k m=true→f s=g (adv s)):Ag sg x f y:=by
 have k1:=Gt (g':=g) (Ds (f:=f) hx) hk hm e
 have k2:=BJ (k:=fun a s=>some (a,s)) k1 h (fun s _=>by cases g s<;>rfl)
 refine⟨FK k2,fun _=> ?_⟩
 have:=h.2.2.1
 simp only[An] at this;omega
theorem Mh{sg:List Sg}{x y:Gs}{f:Ps→PR}{w:Nd}{m:List UInt8}(h:restP sg x f y (Br sg m w) 0)(hw:Cz w):Ag sg x f (BC sg y m,Bs sg y m w):=by
 refine⟨RZ h hw,fun hb=> ?_⟩
 have:=(KD (m:=m) h.1 hw).2 hb
 have:=h.2.2.1
 simp only at*;omega
theorem Ss{sg:List Sg}{x y:Gs}{f:Ps→PR}{w:Nd}(h:restP sg x f y (Ba w) 0)(hw:Cz w)(hp:y.bad=false→x.pos<y.pos):Ag sg x f (AQ y,Ah y w):=by
 obtain⟨d1,d2,d3⟩:= @HA y w
 exact⟨RY h hw,fun hb=>by simp only[d2];exact hp (d3 hb)⟩
theorem a3v{sg:List Sg}{x:Gs}{b:Bool}(h:gsOk sg x):restP sg x (DC sg b) (BR sg x) (fun s=>if isM sg s [61] then(Ce sg (adv s)).bind fun q=>Br sg [59] ⟨12,BS sg x,[q.1],b⟩ q.2 else Br sg [59] ⟨12,BS sg x,[],b⟩ s) 0:=
 BJ (k:=fun t s=>if isM sg s [61] then(Ce sg (adv s)).bind fun q=>Br sg [59] ⟨12,t,[q.1],b⟩ q.2 else Br sg [59] ⟨12,t,[],b⟩ s) (Ds h) (NH h).1 (fun _ _=>rfl)
theorem HF{sg:List Sg}{x:Gs}(hs:sgB sg):(BS sg x).length≤3000:=by
 unfold BS;split
 ·exact KE hs
 ·simp
theorem b4C{sg:List Sg}{x:Gs}{b:Bool}(hs:sgB sg)(h:gsOk sg x)(hq:isG sg (BR sg x) 4 [61]=false):
 Ag sg x (DC sg b) (BC sg (BR sg x) [59],Bs sg (BR sg x) [59] ⟨12,BS sg x,[],b⟩):=
 Mh (DJ (a3v h) (fun s hs=>by rw[if_neg (by simp [Ez hs hq])])) (DN (HF hs) (by simp))
theorem b4D{sg:List Sg}{x:Gs}{b:Bool}{z:Int×Gs}(hs:sgB sg)(h:gsOk sg x)(hq:isG sg (BR sg x) 4 [61]=true)(hz:Ag sg (An (BR sg x)) (Ce sg) z):
 Ag sg x (DC sg b) (BC sg z.2 [59],Bs sg z.2 [59] ⟨12,BS sg x,[z.1],b⟩):=by
 have k1:=Gt (g':=fun s=>(Ce sg s).bind fun q=>Br sg [59] ⟨12,BS sg x,[q.1],b⟩ q.2) (a3v h) (by omega) hq (fun s hs ht=>by rw[if_pos (show isM sg s [61]=true from ht)])
 have k2:=BJ (k:=fun k s=>Br sg [59] ⟨12,BS sg x,[k],b⟩ s) k1 hz.1 (fun _ _=>rfl)
 exact Mh k2 (DN (HF hs) (by simp))
def Gv(sg:List Sg)(b:Bool)(s:Ps):PR:=if isM sg s [59] then Br sg [59] ⟨15,[],[],b⟩ s else(Ce sg s).bind fun p=>Br sg [59] ⟨15,[],[p.1],b⟩ p.2
theorem a3w{sg:List Sg}{x:Gs}{b:Bool}(h:gsOk sg x)(hq:isG sg x 4 [59]=true):Ag sg x (Gv sg b) (BC sg x [59],Bs sg x [59] ⟨15,[],[],b⟩):=
 Mh (DJ (Ds h) (fun s hs=>by rw[Gv,if_pos (Ie hs hq)])) (DN (by simp) (by simp))
theorem a3x{sg:List Sg}{x:Gs}{b:Bool}{z:Int×Gs}(h:gsOk sg x)(hq:isG sg x 4 [59]=false)(hz:Ag sg x (Ce sg) z):Ag sg x (Gv sg b) (BC sg z.2 [59],Bs sg z.2 [59] ⟨15,[],[z.1],b⟩):=by
 have k1:=DJ (Ds (f:=Gv sg b) h) (g':=fun s=>(Ce sg s).bind fun p=>Br sg [59] ⟨15,[],[p.1],b⟩ p.2) (fun s hs=>by rw[Gv,if_neg (by simp [Ez hs hq])])
 have k2:=BJ (k:=fun k s=>Br sg [59] ⟨15,[],[k],b⟩ s) k1 hz.1 (fun _ _=>rfl)
 exact Mh k2 (DN (by simp) (by simp))
theorem a3y{sg:List Sg}{x:Gs}{z:Int×Gs}(h:gsOk sg x)(hz:Ag sg (Aq sg x [40]) (Ce sg) z):Bl sg x (Dx sg) (z.1,Aq sg z.2 [41]):=by
 have k1:=Hz (g':=fun s1=>(Ce sg s1).bind fun p=>(BG sg [41] p.2).map fun s2=>(p.1,s2)) (Ds (f:=Dx sg) h) (fun _ _=>rfl)
 have k2:=BJ (k:=fun k s=>(BG sg [41] s).map fun s2=>(k,s2)) k1 hz.1 (fun _ _=>rfl)
 have k3:=Hz (g':=fun s=>some (z.1,s)) k2 (fun s _=>by cases BG sg [41] s<;>rfl)
 exact FK k3
theorem b4E{sg:List Sg}{one:Bool→Ps→PR}{m:List UInt8}{N:Nat}{ks:List Int}{s:Ps}(h:isM sg s m=true):CW sg one m (N+1) ks s=some (ks,s):=by rw[CW,if_pos h]
theorem b4F{sg:List Sg}{one:Bool→Ps→PR}{m:List UInt8}{N:Nat}{ks:List Int}{s:Ps}(h:isM sg s m=false):CW sg one m (N+1) ks s=(one ((sgO sg s.pos).blank&&decide (0<ks.length)) s).bind fun p=>CW sg one m N (ks++[p.1]) p.2:=by rw[CW,if_neg (by simp [h])]
def Ja(sg:List Sg)(one:Bool→Ps→PR)(m:List UInt8)(x y:Gs)(ks:List Int)(N:Nat):Prop:=
 restP sg x (CW sg one m (sg.length+1) []) y (CW sg one m N ks) 0∧(y.bad=false→(sg.length:Int)-y.pos<N)∧(ks.length:Int)≤y.pos+1∧(y.bad=false→(ks.length:Int)≤y.pos)
theorem Su{sg:List Sg}{one:Bool→Ps→PR}{m:List UInt8}{x:Gs}(h:gsOk sg x):Ja sg one m x x [] (sg.length+1):=by
 have:=h.1
 exact⟨Ds h,fun _=>by omega,by simp;omega,fun _=>by simp;omega⟩
theorem Sv{sg:List Sg}{one:Bool→Ps→PR}{m:List UInt8}{x y:Gs}{ks:List Int}{N:Nat}(h:Ja sg one m x y ks N)(hb:y.bad=true):Bl sg x (CW sg one m (sg.length+1) []) (ks,y):=PE h.1 hb
theorem a3z{sg:List Sg}{one:Bool→Ps→PR}{m:List UInt8}{x y:Gs}{ks:List Int}{N:Nat}(h:Ja sg one m x y ks N)(hb:y.bad=false):∃M,N=M+1:=by
 have h1:=h.1.1.1;have h2:=h.2.1 hb
 match N with
 |0=>omega
 |M+1=>exact⟨M,rfl⟩
theorem Sw{sg:List Sg}{one:Bool→Ps→PR}{m:List UInt8}{x y:Gs}{ks:List Int}{N:Nat}(h:Ja sg one m x y ks N)(hq:isG sg y 4 m=true):Bl sg x (CW sg one m (sg.length+1) []) (ks,y):=by
 obtain⟨M,rfl⟩:=a3z h (CC hq (by omega)).1
 exact FK (DJ h.1 (g':=fun s=>some (ks,s)) (fun s hs=>b4E (Ie hs hq)))
theorem Sx{sg:List Sg}{one:Bool→Ps→PR}{m:List UInt8}{x y:Gs}{ks:List Int}{N:Nat}{z:Int×Gs}(h:Ja sg one m x y ks N)(hb:y.bad=false)(hq:isG sg y 4 m=false)
 (hz:Ag sg y (one ((pkG sg y 0).blank&&decide (0<ks.length))) z):∃M,N=M+1∧Ja sg one m x z.2 (ks++[z.1]) M:=by
 obtain⟨M,rfl⟩:=a3z h hb
 obtain⟨h1,h2,h3,h4⟩:=h
 have k1:=DJ h1 (g':=fun s=>(one ((pkG sg y 0).blank&&decide (0<ks.length)) s).bind fun p=>CW sg one m M (ks++[p.1]) p.2) (fun s hs=>by
  rw[b4F (Ez hs hq)]
  obtain⟨_,rfl⟩:=Eu.1 hs
  rw[GV hb];simp)
 have k2:=BJ (k:=fun k s=>CW sg one m M (ks++[k]) s) k1 hz.1 (fun _ _=>rfl)
 have e:=CF hz
 have:=h2 hb;have:=h4 hb
 exact⟨M,rfl,k2,fun hw=>by have:=e.2.2.2 hw;omega,by simp;omega,fun hw=>by have:=e.2.2.2 hw;simp;omega⟩
theorem a3A{sg:List Sg}{one:Bool→Ps→PR}{x:Gs}(h:gsOk sg x)(hd:x.deep≤20):restP sg x (BH sg one) (Aq sg (gDp (if x.deep=20 then Bd x else x) 1) [123])
 (fun s1=>(CW sg one [125] (sg.length+1) [] s1).bind fun p=>(Br sg [125] ⟨18,[],p.1,false⟩ p.2).map fun q=>(q.1,dp q.2 (-1))) 1:=by
 have k0:restP sg x (BH sg one) (gDp (if x.deep=20 then Bd x else x) 1) (fun s=>(BG sg [123] s).bind fun s1=>(CW sg one [125] (sg.length+1) [] s1).bind fun p=>(Br sg [125] ⟨18,[],p.1,false⟩ p.2).map fun q=>(q.1,dp q.2 (-1))) 1:=by
  split
  ·rename_i h20
   have h2:=a2v (d:=0) (g':=BH sg one) (Ds (f:=BH sg one) h) (fun s hs=>by
    obtain⟨_,rfl⟩:=Eu.1 hs
    rw[BH,if_pos (by simp only;omega)])
   refine KH (d:=0) h2 ⟨by simp only[Bd];omega,by simp only[Bd];omega⟩ (fun s hs=> ?_)
   rw[Jw] at hs;cases hs
  ·rename_i h20
   refine KH (d:=0) (Ds h) ⟨by have:=h.2.1.1;omega,by omega⟩ (fun s hs=> ?_)
   obtain⟨_,rfl⟩:=Eu.1 hs
   rw[BH,if_neg (by simp only;omega)]
 exact Hz k0 (fun _ _=>rfl)
theorem b4G{sg:List Sg}{one:Bool→Ps→PR}{x:Gs}{l:List Int×Gs}(hs:sgB sg)(h:gsOk sg x)(hd:x.deep≤20)
 (hl:Bl sg (Aq sg (gDp (if x.deep=20 then Bd x else x) 1) [123]) (CW sg one [125] (sg.length+1) []) l) (hll:l.1.length≤3001):
 Ag sg x (BH sg one) (BC sg l.2 [125],gDp (Bs sg l.2 [125] ⟨18,[],l.1,false⟩) (-1)):=by
 have k1:=BJ (k:=fun ks s=>(Br sg [125] ⟨18,[],ks,false⟩ s).map fun q=>(q.1,dp q.2 (-1))) (a3A h hd) hl (fun _ _=>rfl)
 have hw:Cz ⟨18,[],l.1,false⟩:=⟨by simp,by simp only;omega⟩
 have hc:=KD (m:=[125]) k1.1 hw
 have k2:=BJ (k:=fun k s=>some (k,dp s (-1))) k1 hc.1 (fun s _=>by cases Br sg [125] ⟨18,[],l.1,false⟩ s<;>rfl)
 simp only at k2
 refine⟨FK (KH (e:= -1) k2 ?_ (fun s hs=>rfl)),fun hb=> ?_⟩
 ·have:=k2.2.1;have:=h.2.1;omega
 ·have:=hc.2 hb
  have:=k1.2.2.1
  simp only[gDp] at*;omega
def ifR(sg:List Sg)(n:Nat)(b:Bool)(s:Ps):PR:=(Dx sg s).bind fun p=>(BH sg (stR sg n) p.2).bind fun q=>
 if isW sg q.2 [101,108,115,101] then(BH sg (stR sg n) (adv q.2)).bind fun r=>Ba ⟨16,[],[p.1,q.1,r.1],b⟩ r.2 else Ba ⟨16,[],[p.1,q.1],b⟩ q.2
theorem a3B{sg:List Sg}{n:Nat}{b:Bool}{x:Gs}{c q:Int×Gs}(h:gsOk sg x)(hc:Bl sg x (Dx sg) c)(hq:Ag sg c.2 (BH sg (stR sg n)) q):
 restP sg x (ifR sg n b) q.2 (fun s=>if isW sg s [101,108,115,101] then(BH sg (stR sg n) (adv s)).bind fun r=>Ba ⟨16,[],[c.1,q.1,r.1],b⟩ r.2 else Ba ⟨16,[],[c.1,q.1],b⟩ s) 0:=by
 have k1:=BJ (k:=fun a s=>(BH sg (stR sg n) s).bind fun q=>if isW sg q.2 [101,108,115,101] then(BH sg (stR sg n) (adv q.2)).bind fun r=>Ba ⟨16,[],[a,q.1,r.1],b⟩ r.2 else Ba ⟨16,[],[a,q.1],b⟩ q.2) (Ds (f:=ifR sg n b) h) hc (fun _ _=>rfl)
 exact BJ (k:=fun k s=>if isW sg s [101,108,115,101] then(BH sg (stR sg n) (adv s)).bind fun r=>Ba ⟨16,[],[c.1,k,r.1],b⟩ r.2 else Ba ⟨16,[],[c.1,k],b⟩ s) k1 hq.1 (fun _ _=>rfl)
theorem a3C{sg:List Sg}{n:Nat}{b:Bool}{x:Gs}{c q:Int×Gs}(h:gsOk sg x)(hc:Bl sg x (Dx sg) c)(hq:Ag sg c.2 (BH sg (stR sg n)) q)(he:isG sg q.2 1 [101,108,115,101]=false):
 Ag sg x (ifR sg n b) (AQ q.2,Ah q.2 ⟨16,[],[c.1,q.1],b⟩):=by
 have k:=DJ (a3B (b:=b) h hc hq) (g':=Ba ⟨16,[],[c.1,q.1],b⟩) (fun s hs=>by rw[if_neg (by simp [EA hs he])])
 refine Ss k (DN (by simp) (by simp)) (fun hb=> ?_)
 have:=(CF hq).2.2.2 hb;have:=hc.2.2.1;omega
theorem a3D{sg:List Sg}{n:Nat}{b:Bool}{x:Gs}{c q r:Int×Gs}(h:gsOk sg x)(hc:Bl sg x (Dx sg) c)(hq:Ag sg c.2 (BH sg (stR sg n)) q)(he:isG sg q.2 1 [101,108,115,101]=true)
 (hr:Ag sg (An q.2) (BH sg (stR sg n)) r):Ag sg x (ifR sg n b) (AQ r.2,Ah r.2 ⟨16,[],[c.1,q.1,r.1],b⟩):=by
 have k:=Gt (a3B (b:=b) h hc hq) (g':=fun s=>(BH sg (stR sg n) s).bind fun r=>Ba ⟨16,[],[c.1,q.1,r.1],b⟩ r.2) (by omega) he (fun s hs ht=>by rw[if_pos (show isW sg s [101,108,115,101]=true from ht)])
 have k2:=BJ (k:=fun k s=>Ba ⟨16,[],[c.1,q.1,k],b⟩ s) k hr.1 (fun _ _=>rfl)
 refine Ss k2 (DN (by simp) (by simp)) (fun hb=> ?_)
 have:=(CF hr).2.2.2 hb;have:=hc.2.2.1;have:=(CF hq).2.1
 simp only[An] at*;omega
def whR(sg:List Sg)(n:Nat)(b:Bool)(s:Ps):PR:=(Dx sg s).bind fun p=>(BH sg (stR sg n) p.2).bind fun q=>Ba ⟨17,[],[p.1,q.1],b⟩ q.2
theorem b4H{sg:List Sg}{n:Nat}{b:Bool}{x:Gs}{c q:Int×Gs}(h:gsOk sg x)(hc:Bl sg x (Dx sg) c)(hq:Ag sg c.2 (BH sg (stR sg n)) q):
 Ag sg x (whR sg n b) (AQ q.2,Ah q.2 ⟨17,[],[c.1,q.1],b⟩):=by
 have k1:=BJ (k:=fun a s=>(BH sg (stR sg n) s).bind fun q=>Ba ⟨17,[],[a,q.1],b⟩ q.2) (Ds (f:=whR sg n b) h) hc (fun _ _=>rfl)
 have k2:=BJ (k:=fun k s=>Ba ⟨17,[],[c.1,k],b⟩ s) k1 hq.1 (fun _ _=>rfl)
 refine Ss k2 (DN (by simp) (by simp)) (fun hb=> ?_)
 have:=(CF hq).2.2.2 hb;have:=hc.2.2.1;omega
def setR(sg:List Sg)(b:Bool)(s:Ps):PR:=(GU sg s).bind fun p=>(BG sg [61] p.2).bind fun s1=>(Ce sg s1).bind fun q=>Br sg [59] ⟨13,p.1,[q.1],b⟩ q.2
theorem a3E{sg:List Sg}{b:Bool}{x:Gs}{z:Int×Gs}(hs:sgB sg)(h:gsOk sg x)(hz:Ag sg (Aq sg (BR sg x) [61]) (Ce sg) z):
 Ag sg x (setR sg b) (BC sg z.2 [59],Bs sg z.2 [59] ⟨13,BS sg x,[z.1],b⟩):=by
 have k1:=BJ (k:=fun t s=>(BG sg [61] s).bind fun s1=>(Ce sg s1).bind fun q=>Br sg [59] ⟨13,t,[q.1],b⟩ q.2) (Ds (f:=setR sg b) h) (NH h).1 (fun _ _=>rfl)
 have k2:=Hz (g':=fun s1=>(Ce sg s1).bind fun q=>Br sg [59] ⟨13,BS sg x,[q.1],b⟩ q.2) k1 (fun _ _=>rfl)
 have k3:=BJ (k:=fun k s=>Br sg [59] ⟨13,BS sg x,[k],b⟩ s) k2 hz.1 (fun _ _=>rfl)
 exact Mh k3 (DN (HF hs) (by simp))
def doR(sg:List Sg)(b:Bool)(s:Ps):PR:=(Ce sg s).bind fun p=>Br sg [59] ⟨14,[],[p.1],b⟩ p.2
theorem a3F{sg:List Sg}{b:Bool}{x:Gs}{z:Int×Gs}(h:gsOk sg x)(hz:Ag sg x (Ce sg) z):Ag sg x (doR sg b) (BC sg z.2 [59],Bs sg z.2 [59] ⟨14,[],[z.1],b⟩):=by
 have k3:=BJ (k:=fun k s=>Br sg [59] ⟨14,[],[k],b⟩ s) (Ds (f:=doR sg b) h) hz.1 (fun _ _=>rfl)
 exact Mh k3 (DN (by simp) (by simp))
theorem JJ{sg:List Sg}{n:Nat}{b:Bool}{s:Ps}:stR sg (n+1) b s=
 if(sgO sg s.pos).kind=5 then FI sg 19 b s
 else if isW sg s [118,97,114] then DC sg b (adv s)
 else if isW sg s [114,101,116,117,114,110] then Gv sg b (adv s)
 else if isW sg s [105,102] then ifR sg n b (adv s)
 else if isW sg s [119,104,105,108,101] then whR sg n b (adv s)
 else if DB sg s.pos&&isM sg (adv s) [61] then(Ce sg (adv (adv s))).bind fun p=>Br sg [59] ⟨13,(sgO sg s.pos).text,[p.1],b⟩ p.2
 else doR sg b s:=rfl
theorem set_eq{sg:List Sg}{b:Bool}{s:Ps}(h:(DB sg s.pos&&isM sg (adv s) [61])=true):(Ce sg (adv (adv s))).bind (fun p=>Br sg [59] ⟨13,(sgO sg s.pos).text,[p.1],b⟩ p.2)=setR sg b s:=by
 simp only[Bool.and_eq_true] at h
 rw[setR,GU,if_pos h.1]
 simp only[Option.bind_some]
 rw[BG,if_pos h.2];rfl
theorem Gw{sg:List Sg}{x:Gs}{s:Ps}(hs:pur x=some s):(sgO sg s.pos).kind=(pkG sg x 0).kind:=(Sb hs).symm
theorem a3G{sg:List Sg}{x:Gs}{n:Nat}{b:Bool}(hs:sgB sg)(h:gsOk sg x)(hk:(pkG sg x 0).kind=5):Ag sg x (stR sg (n+1) b) (AQ x,De sg x 19 b):=
 KN (Pw hs h (fun _=>(PH (by omega)).2)) (fun s hp=>by rw[JJ,if_pos (by rw[Gw hp];exact hk)])
theorem a3H{sg:List Sg}{x:Gs}{n:Nat}{b:Bool}{z:Int×Gs}(h:gsOk sg x)(hk:(pkG sg x 0).kind≠5)(hq:isG sg x 1 [118,97,114]=true)(hz:Ag sg (An x) (DC sg b) z):Ag sg x (stR sg (n+1) b) z:=
 Mg h (by omega) hq hz.1 (fun s hp ht=>by rw[JJ,if_neg (by rw[Gw hp];exact hk),if_pos (show isW sg s _=true from ht)])
theorem WI{sg:List Sg}{x:Gs}{n:Nat}{b:Bool}{z:Int×Gs}(h:gsOk sg x)(hk:(pkG sg x 0).kind≠5)(h1:isG sg x 1 [118,97,114]=false)(hq:isG sg x 1 [114,101,116,117,114,110]=true)(hz:Ag sg (An x) (Gv sg b) z):Ag sg x (stR sg (n+1) b) z:=
 Mg h (by omega) hq hz.1 (fun s hp ht=>by rw[JJ,if_neg (by rw[Gw hp];exact hk),if_neg (by simp [EA hp h1]),if_pos (show isW sg s _=true from ht)])
theorem WJ{sg:List Sg}{x:Gs}{n:Nat}{b:Bool}{z:Int×Gs}(h:gsOk sg x)(hk:(pkG sg x 0).kind≠5)(h1:isG sg x 1 [118,97,114]=false)(h2:isG sg x 1 [114,101,116,117,114,110]=false)(hq:isG sg x 1 [105,102]=true)
 (hz:Ag sg (An x) (ifR sg n b) z):Ag sg x (stR sg (n+1) b) z:=
 Mg h (by omega) hq hz.1 (fun s hp ht=>by rw[JJ,if_neg (by rw[Gw hp];exact hk),if_neg (by simp [EA hp h1]),if_neg (by simp [EA hp h2]),if_pos (show isW sg s _=true from ht)])
theorem b4I{sg:List Sg}{x:Gs}{n:Nat}{b:Bool}{z:Int×Gs}(h:gsOk sg x)(hk:(pkG sg x 0).kind≠5)(h1:isG sg x 1 [118,97,114]=false)(h2:isG sg x 1 [114,101,116,117,114,110]=false)(h3:isG sg x 1 [105,102]=false)(hq:isG sg x 1 [119,104,105,108,101]=true)
 (hz:Ag sg (An x) (whR sg n b) z):Ag sg x (stR sg (n+1) b) z:=
 Mg h (by omega) hq hz.1 (fun s hp ht=>by rw[JJ,if_neg (by rw[Gw hp];exact hk),if_neg (by simp [EA hp h1]),if_neg (by simp [EA hp h2]),if_neg (by simp [EA hp h3]),if_pos (show isW sg s _=true from ht)])
def seG(sg:List Sg)(x:Gs):Bool:=nmG sg x 0&&(decide ((pkG sg x 1).kind=4)&&((pkG sg x 1).text==[61]))
theorem WK{sg:List Sg}{x:Gs}{s:Ps}(hs:pur x=some s):(DB sg s.pos&&isM sg (adv s) [61])=seG sg x:=by
 obtain⟨hb,rfl⟩:=Eu.1 hs
 have:=KC (sg:=sg) (n:=0) (Dd hb)
 simp only[Int.add_zero] at this
 rw[seG,this,GV hb];rfl
theorem a3I{sg:List Sg}{x:Gs}{n:Nat}{b:Bool}{z:Int×Gs}(h:gsOk sg x)(hk:(pkG sg x 0).kind≠5)(h1:isG sg x 1 [118,97,114]=false)(h2:isG sg x 1 [114,101,116,117,114,110]=false)(h3:isG sg x 1 [105,102]=false)(h4:isG sg x 1 [119,104,105,108,101]=false)
 (hq:seG sg x=true) (hz:Ag sg x (setR sg b) z):Ag sg x (stR sg (n+1) b) z:=
 KN hz (fun s hp=>by rw[JJ,if_neg (by rw[Gw hp];exact hk),if_neg (by simp [EA hp h1]),if_neg (by simp [EA hp h2]),if_neg (by simp [EA hp h3]),if_neg (by simp [EA hp h4]),if_pos (by rw[WK hp];exact hq),set_eq (by rw[WK hp];exact hq)])
theorem a3J{sg:List Sg}{x:Gs}{n:Nat}{b:Bool}{z:Int×Gs}(h:gsOk sg x)(hk:(pkG sg x 0).kind≠5)(h1:isG sg x 1 [118,97,114]=false)(h2:isG sg x 1 [114,101,116,117,114,110]=false)(h3:isG sg x 1 [105,102]=false)(h4:isG sg x 1 [119,104,105,108,101]=false)
 (hq:seG sg x=false) (hz:Ag sg x (doR sg b) z):Ag sg x (stR sg (n+1) b) z:=
 KN hz (fun s hp=>by rw[JJ,if_neg (by rw[Gw hp];exact hk),if_neg (by simp [EA hp h1]),if_neg (by simp [EA hp h2]),if_neg (by simp [EA hp h3]),if_neg (by simp [EA hp h4]),if_neg (by rw[WK hp];simp [hq])])
theorem a3K{sg:List Sg}{x:Gs}{b:Bool}{l:List Int×Gs}{q:Int×Gs}(hs:sgB sg)(h:gsOk sg x)(hl:Bl sg (Aq sg (BR sg x) [40]) (Bn sg (BB sg) [41] (sg.length+1) []) l)(hll:l.1.length≤3001)
 (hq:Ag sg (Aq sg l.2 [41]) (EN sg) q):Ag sg x (Gq sg b) (AQ q.2,Ah q.2 ⟨20,BS sg x,l.1++[q.1],b⟩):=by
 have k1:=BJ (k:=fun t s=>(BG sg [40] s).bind fun s1=>(Bn sg (BB sg) [41] (sg.length+1) [] s1).bind fun q=>(BG sg [41] q.2).bind fun s2=>(EN sg s2).bind fun r=>Ba ⟨20,t,q.1++[r.1],b⟩ r.2) (Ds (f:=Gq sg b) h) (NH h).1 (fun _ _=>rfl)
 have k2:=Hz (g':=fun s1=>(Bn sg (BB sg) [41] (sg.length+1) [] s1).bind fun q=>(BG sg [41] q.2).bind fun s2=>(EN sg s2).bind fun r=>Ba ⟨20,BS sg x,q.1++[r.1],b⟩ r.2) k1 (fun _ _=>rfl)
 have k3:=BJ (k:=fun ks s=>(BG sg [41] s).bind fun s2=>(EN sg s2).bind fun r=>Ba ⟨20,BS sg x,ks++[r.1],b⟩ r.2) k2 hl (fun _ _=>rfl)
 have k4:=Hz (g':=fun s2=>(EN sg s2).bind fun r=>Ba ⟨20,BS sg x,l.1++[r.1],b⟩ r.2) k3 (fun _ _=>rfl)
 have k5:=BJ (k:=fun k s=>Ba ⟨20,BS sg x,l.1++[k],b⟩ s) k4 hq.1 (fun _ _=>rfl)
 refine Ss k5 (DN (HF hs) (by simp;omega)) (fun hb=> ?_)
 have:=(CF hq).2.2.2 hb;have:=k4.2.2.1;omega
theorem a3L{sg:List Sg}{x:Gs}{b:Bool}{l:List Int×Gs}(hs:sgB sg)(h:gsOk sg x)(hl:Bl sg (Aq sg (BR sg x) [123]) (CW sg (Dn sg) [125] (sg.length+1) []) l)(hll:l.1.length≤3001):
 Ag sg x (Gr sg b) (BC sg l.2 [125],Bs sg l.2 [125] ⟨21,BS sg x,l.1,b⟩):=by
 have k1:=BJ (k:=fun t s=>(BG sg [123] s).bind fun s1=>(CW sg (Dn sg) [125] (sg.length+1) [] s1).bind fun q=>Br sg [125] ⟨21,t,q.1,b⟩ q.2) (Ds (f:=Gr sg b) h) (NH h).1 (fun _ _=>rfl)
 have k2:=Hz (g':=fun s1=>(CW sg (Dn sg) [125] (sg.length+1) [] s1).bind fun q=>Br sg [125] ⟨21,BS sg x,q.1,b⟩ q.2) k1 (fun _ _=>rfl)
 have k3:=BJ (k:=fun ks s=>Br sg [125] ⟨21,BS sg x,ks,b⟩ s) k2 hl (fun _ _=>rfl)
 exact Mh k3 (DN (HF hs) (by omega))
theorem a3M{sg:List Sg}{x:Gs}{b:Bool}(hs:sgB sg)(h:gsOk sg x)(hk:(pkG sg x 0).kind=5):Ag sg x (Dn sg b) (AQ x,De sg x 19 b):=
 KN (Pw hs h (fun _=>(PH (by omega)).2)) (fun s hp=>by rw[Dn,if_pos (by rw[Gw hp];exact hk)])
theorem a3N{sg:List Sg}{x:Gs}{b:Bool}{z:Int×Gs}(h:gsOk sg x)(hk:(pkG sg x 0).kind≠5)(hq:isG sg x 1 [118,97,114]=true)(hz:Ag sg (An x) (DC sg b) z):Ag sg x (Dn sg b) z:=
 Mg h (by omega) hq hz.1 (fun s hp ht=>by rw[Dn,if_neg (by rw[Gw hp];exact hk),if_pos (show isW sg s _=true from ht)])
theorem a3O{sg:List Sg}{x:Gs}{b:Bool}{z:Int×Gs}(h:gsOk sg x)(hk:(pkG sg x 0).kind≠5)(hq:isG sg x 1 [118,97,114]=false)(hz:Ag sg x (Gq sg b) z):Ag sg x (Dn sg b) z:=
 KN hz (fun s hp=>by rw[Dn,if_neg (by rw[Gw hp];exact hk),if_neg (by simp [EA hp hq])])
theorem a3P{sg:List Sg}{x:Gs}{b:Bool}(hs:sgB sg)(h:gsOk sg x)(hk:(pkG sg x 0).kind=5):Ag sg x (DD sg b) (AQ x,De sg x 19 b):=
 KN (Pw hs h (fun _=>(PH (by omega)).2)) (fun s hp=>by rw[DD,if_pos (by rw[Gw hp];exact hk)])
theorem a3Q{sg:List Sg}{x:Gs}{b:Bool}{z:Int×Gs}(h:gsOk sg x)(hk:(pkG sg x 0).kind≠5)(hq:isG sg x 1 [118,97,114]=true)(hz:Ag sg (An x) (DC sg b) z):Ag sg x (DD sg b) z:=
 Mg h (by omega) hq hz.1 (fun s hp ht=>by rw[DD,if_neg (by rw[Gw hp];exact hk),if_pos (show isW sg s _=true from ht)])
theorem a3R{sg:List Sg}{x:Gs}{b:Bool}{z:Int×Gs}(h:gsOk sg x)(hk:(pkG sg x 0).kind≠5)(h1:isG sg x 1 [118,97,114]=false)(hq:isG sg x 1 [99,108,97,115,115]=true)(hz:Ag sg (An x) (Gr sg b) z):Ag sg x (DD sg b) z:=
 Mg h (by omega) hq hz.1 (fun s hp ht=>by rw[DD,if_neg (by rw[Gw hp];exact hk),if_neg (by simp [EA hp h1]),if_pos (show isW sg s _=true from ht)])
theorem a3S{sg:List Sg}{x:Gs}{b:Bool}{z:Int×Gs}(h:gsOk sg x)(hk:(pkG sg x 0).kind≠5)(h1:isG sg x 1 [118,97,114]=false)(hq:isG sg x 1 [99,108,97,115,115]=false)(hz:Ag sg x (Gq sg b) z):Ag sg x (DD sg b) z:=
 KN hz (fun s hp=>by rw[DD,if_neg (by rw[Gw hp];exact hk),if_neg (by simp [EA hp h1]),if_neg (by simp [EA hp hq])])
def Dy(sg:List Sg)(y:Gs)(ks:List Int)(ms:List (Int×Int))(N:Nat):Prop:=
 gsOk sg y∧y.deep=0∧(pur y).bind (LW sg N ks ms)=LW sg (sg.length+1) [] [] ps0∧(y.bad=false→(sg.length:Int)-y.pos<N)∧(ks.length:Int)≤y.pos+1∧(y.bad=false→(ks.length:Int)≤y.pos)∧ms.length=ks.length
def gs0:Gs:=⟨0,0,false,[]⟩
theorem b4J{sg:List Sg}:gsOk sg gs0:=⟨by simp [gs0],by simp [gs0],by simp [gs0],by simp [gs0]⟩
theorem b4K{sg:List Sg}:Dy sg gs0 [] [] (sg.length+1):=⟨b4J,rfl,rfl,fun _=>by simp only[gs0];omega,by simp [gs0],fun _=>by simp [gs0],rfl⟩
theorem b4L{sg:List Sg}{y:Gs}{ks:List Int}{ms:List (Int×Int)}{N:Nat}{z:Int×Gs}(h:Dy sg y ks ms N)(hb:y.bad=false)(hl:y.pos<sg.length)(hz:Ag sg y (DD sg ((pkG sg y 0).blank&&decide (0<ks.length))) z):
 ∃M,N=M+1∧Dy sg z.2 (ks++[z.1]) (ms++[(y.pos,z.2.pos)]) M:=by
 obtain⟨h0,hd,h1,h2,h3,h4,h5⟩:=h
 have h2:=h2 hb;have h4:=h4 hb
 match N with
 |0=>omega
 |M+1=>
  have e:=CF hz
  obtain⟨⟨a1,a2,a3,a4,a5⟩,b⟩:=hz
  refine⟨M,rfl,a1,by omega,?_,fun hw=>by have:=e.2.2.2 hw;omega,by simp;omega,fun hw=>by have:=e.2.2.2 hw;simp;omega,by simp [h5]⟩
  rw[←h1,Dd hb,Option.bind_some,LW,if_pos hl]
  rw[Dd hb] at a4 a5
  have eb:(sgO sg y.pos).blank=(pkG sg y 0).blank:=by rw[GV hb];simp
  simp only[Option.bind_some] at a4 a5
  rw[eb,a4]
  cases hp:DD sg ((pkG sg y 0).blank&&decide (0<ks.length)) ⟨y.pos,y.deep,y.nodes⟩ with
  |none=>rfl
  |some p=>
   simp only[Option.map_some,Option.bind_some]
   have:=a5 p hp
   have hpos:z.2.pos=p.2.pos:=by
    rw[hp] at a4
    simp only[Option.map_some] at a4
    obtain⟨_,e2⟩:=Eu.1 a4
    rw[e2]
   rw[this,hpos]
def BK(sg:List Sg)(y:Gs)(ks:List Int):Gs:=Ah y ⟨22,[],ks,false⟩
theorem b4M{sg:List Sg}{y:Gs}{ks:List Int}{ms:List (Int×Int)}{N:Nat}(h:Dy sg y ks ms N)(hb:(BK sg y ks).bad=true)(he:y.bad=true∨¬y.pos<sg.length):KB sg=none:=by
 obtain⟨h0,hd,h1,h2,h3,h4,h5⟩:=h
 rw[KB,←h1]
 cases hy:y.bad with
 |true=>rw[DU hy];rfl
 |false=>
  have h2:=h2 hy
  have he:¬y.pos<sg.length:=by rcases he with he|he
                               ·rw[hy] at he;cases he
                               ·exact he
  match N with
  |0=>have:=h0.1;omega
  |N+1=>
   rw[Dd hy,Option.bind_some,LW,if_neg he,Option.bind_some]
   unfold BK Ah at hb
   split at hb
   ·rename_i hf
    have h3:y.nodes.length=300:=by simpa [CX,hy] using hf
    rw[Ba,if_pos (by simp only;omega)];rfl
   ·simp only at hb;rw[hy] at hb;cases hb
theorem b4N{sg:List Sg}{y:Gs}{ks:List Int}{ms:List (Int×Int)}{N:Nat}(h:Dy sg y ks ms N)(hb:(BK sg y ks).bad=false)(he:y.bad=true∨¬y.pos<sg.length):
 KB sg=if CB (BK sg y ks).nodes then some (ms,(BK sg y ks).nodes) else none:=by
 obtain⟨h0,hd,h1,h2,h3,h4,h5⟩:=h
 have hy:=(@HA y ⟨22,[],ks,false⟩).2.2 hb
 have h2:=h2 hy
 have he:¬y.pos<sg.length:=by rcases he with he|he
                              ·rw[hy] at he;cases he
                              ·exact he
 rw[KB,←h1]
 match N with
 |0=>have:=h0.1;omega
 |N+1=>
  rw[Dd hy,Option.bind_some,LW,if_neg he,Option.bind_some]
  unfold BK Ah at hb ⊢
  split at hb
  ·simp [Bd] at hb
  ·rename_i hf
   rw[if_neg hf]
   have hf2:=RD (by simpa using hf)
   have:=h0.2.2.1
   rw[Ba,if_neg (by simp only;omega)]
   simp only[Option.bind_some]
end Go.My
end
section
namespace Go.My
open Go.Eng Go.Proofs
variable {G:GInv}
theorem Gx{P:Program}{f:FuncId}{S:Sig}{fn:Func}{c:Code}(hfn:P.funcs[f]? =some fn)(hb:fn.body=some c)(hn:(fn.name== "runtime.NumGoroutine")=false)(hp:∀x,¬S.pre x):Ai G P f S:=
 ⟨⟨⟨fn,hfn,hn,by simp [hb]⟩,fun x y hx _=>(hp x hx).elim⟩,fun x hx=>(hp x hx).elim⟩
theorem Sy{r:Nat}{s:ST}{g:Gs}(hr:1≤r)(h:wP r 0 s g):False:=by
 have h1:=h.1.1.2.1.2;have h2:=h.2;omega
theorem WL{r:Nat}{s:ST}{g:Gs}(hr:1≤r)(h:vP r 0 s g):False:=by
 have h1:=h.1.1.2.1.2;have h2:=h.2;omega
theorem b4O:rAll G 0:=
 ⟨Gx Tryz.func197 rfl (by decide) (fun x h=>WL (by omega) h),Gx Tryz.func218 rfl (by decide) (fun x h=>WL (by omega) h),
  Gx Tryz.func233 rfl (by decide) (fun x h=>Sy (by have:=h.2;omega) h.1),Gx Tryz.func240 rfl (by decide) (fun x h=>Sy (by omega) h),Gx Tryz.func245 rfl (by decide) (fun x h=>Sy (by omega) h)⟩
theorem b4P(n:Nat):rAll G n:=by
 induction n with
 |zero=>exact b4O
 |succ n ih=>exact⟨b4B n ih,b4A n ih,b4z n ih,b4n n ih,b4m n ih⟩
def Ft:Sig:= {X:=ST×Int×Int×Bool×List Nd,args:=fun x=>[rdG x.1 (xg x)],pre:=fun x=>rOk x.1 (xg x)∧(xg x).deep≤20,Y:=Int×Int×Int×Bool×List Nd,post:=fun x y=>Ag x.1.sg (xg x) (Ce x.1.sg) (yS y),res:=fun x y=> .int .i64 y.1,outs:=fun x y=>[rdG x.1 (yG y.2)],keep:=true}
theorem WM{s:ST}{g:Gs}(h:rOk s g∧g.deep≤20):vP 11 peN s g:=by
 have h1:=h.1.2.1;have h2:=h.1.1.1
 exact⟨h,by unfold peN;omega⟩
theorem Sz:Ai G Go.Proofs.Tryz.prog 197 Ft:=
 have c:=(b4P (G:=G) peN).val
 ⟨⟨c.1.1,fun x y hx hy=>c.1.2 x y (WM hx) hy⟩,fun x hx=>c.2 x (WM hx)⟩
end Go.My
end
