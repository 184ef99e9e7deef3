/- joined -/
import Derived.Test.YtglbamflbnldhaaGreatDoorQJ
set_option linter.unusedSimpArgs false
set_option linter.unusedVariables false
section
namespace Go.My
open Go.Eng Go.Proofs
variable {G:GInv}
def okD(s:ST)(x:Gs):Prop:=rOk s x∧x.deep≤20
def okN(s:ST)(x:Gs):Prop:=okD s x∧x.bad=false∧x.pos<s.sg.length
theorem NQ{x:Gs}(h:x.bad=false):BX x=An x:=by simp [BX,h]
theorem KO{s:ST}{x:Gs}(h:okN s x):rOk s (An x)∧(An x).deep≤20:=⟨⟨h.1.1.1,Fc h.1.1.2 h.2.2⟩,h.1.2⟩
theorem Ij{s:ST}{x:Gs}(h:rOk s x):rOk s (BR s.sg x):=⟨h.1,(NH h.2).1.1⟩
theorem WN{s:ST}{x:Gs}(h:rOk s x):(BR s.sg x).deep=x.deep∧x.pos≤(BR s.sg x).pos:=by
 have:=CF (NH h.2);exact⟨this.1,this.2.1⟩
theorem El{s:ST}{x:Gs}{m:List UInt8}(h:rOk s x):rOk s (Aq s.sg x m)∧(Aq s.sg x m).deep=x.deep:=⟨⟨h.1,(FM h.2).1⟩,(FM h.2).2.1⟩
theorem GZ{a:Bool}{k:Int}(h:a=true):decide (k>0)=(a&&decide (0<k)):=by simp [h]
theorem Ha{a:Bool}{k:Int}(h:a=false):false=(a&&decide (0<k)):=by simp [h]
theorem WO{s:ST}{x:Gs}(h:rOk s x)(hd:x.deep≤20)(hq:isG s.sg (BR s.sg x) 4 [61]=true):rOk s (Al s.sg (BR s.sg x) [61])∧(Al s.sg (BR s.sg x) [61]).deep≤20:=by
 rw[Dg hq]
 have a:=Ij h;have b:=WN h
 refine⟨⟨h.1,Fc a.2 (CC hq (by omega)).2⟩,?_⟩
 have e:(An (BR s.sg x)).deep=(BR s.sg x).deep:=rfl
 omega
theorem a3T{s:ST}{x:Gs}{b:Bool}{z:Int×Gs}(h:rOk s x)(hq:isG s.sg (BR s.sg x) 4 [61]=true)(hz:Ag s.sg (Al s.sg (BR s.sg x) [61]) (Ce s.sg) z):
 Ag s.sg x (DC s.sg b) (BC s.sg z.2 [59],Bs s.sg z.2 [59] ⟨12,BS s.sg x,[z.1],b⟩):=by
 rw[Dg hq] at hz;exact b4D h.1 h.2 hq hz
theorem a3U{s:ST}{x:Gs}(h:rOk s x)(hq:isG s.sg (BR s.sg x) 4 [61]=false):rOk s (Al s.sg (BR s.sg x) [61]):=by
 rw[Df hq];exact Ij h
theorem a3V{s:ST}{x:Gs}{b:Bool}(h:rOk s x)(hq:isG s.sg (BR s.sg x) 4 [61]=false):
 Ag s.sg x (DC s.sg b) (BC s.sg (Al s.sg (BR s.sg x) [61]) [59],Bs s.sg (Al s.sg (BR s.sg x) [61]) [59] ⟨12,BS s.sg x,[],b⟩):=by
 rw[Df hq];exact b4C h.1 h.2 hq
theorem Mi{α:Type}{s:ST}{x:Gs}{f:Ps→Option (α×Ps)}{y:α×Gs}(h:okD s x)(hy:Bl s.sg x f y):okD s y.2:=⟨⟨h.1.1,hy.1⟩,by have:=hy.2.1;have:=h.2;omega⟩
def mbJ(sg:List Sg)(n:Nat)(x y:Gs)(ks:List Int)(N:Nat):Prop:=
 Ja sg (stR sg n) [125] (Aq sg (gDp (if x.deep=20 then Bd x else x) 1) [123]) y ks N∧y.deep=x.deep+1∧(y.bad=false→x.deep≠20)
theorem a3W{s:ST}{x:Gs}(h:okD s x):rOk s (gDp (if x.deep=20 then Bd x else x) 1):=by
 refine⟨h.1.1,?_⟩
 have h1:=h.1.2.2.1;have h2:=h.2
 split
 ·exact⟨h.1.2.1,by simp only[gDp,Bd];omega,h.1.2.2.2⟩
 ·exact⟨h.1.2.1,by simp only[gDp];omega,h.1.2.2.2⟩
theorem b4Q{s:ST}{x:Gs}{n:Nat}(h:okD s x):mbJ s.sg n x (Aq s.sg (gDp (if x.deep=20 then Bd x else x) 1) [123]) [] (s.sg.length+1):=by
 have a:=a3W h
 obtain⟨t1,t2,t3,t4⟩:=FM (m:=[123]) a.2
 refine⟨Su t1,?_,fun hb=> ?_⟩
 ·rw[t2];split<;>rfl
 ·intro h20
  have:=t4 hb
  rw[if_pos h20] at this
  simp [gDp,Bd] at this
theorem a3X{s:ST}{x y:Gs}{n:Nat}{ks:List Int}{N:Nat}(h:okD s x)(hj:mbJ s.sg n x y ks N):rOk s y:=⟨h.1.1,hj.1.1.1⟩
theorem a3Y{s:ST}{x y:Gs}{n:Nat}{ks:List Int}{N:Nat}(h:okD s x)(h2:20-x.deep≤n)(hj:mbJ s.sg n x y ks N)(hb:y.bad=false):y.deep≤20∧21-y.deep≤n:=by
 have:=hj.2.1;have:=hj.2.2 hb;have:=h.2;omega
theorem WP{s:ST}{x y:Gs}{n:Nat}{ks:List Int}{N:Nat}(h:okD s x)(hj:mbJ s.sg n x y ks N):ks.length≤3001:=by
 have:=hj.1.2.2.1;have:=hj.1.1.1.1;have:=h.1.1.1;omega
theorem SA{s:ST}{x y:Gs}{n:Nat}{ks:List Int}{N:Nat}{b:Bool}{z:Int×Gs}(hj:mbJ s.sg n x y ks N)(hb:y.bad=false)(hq:isG s.sg y 4 [125]=false)(hz:Ag s.sg y (stR s.sg n b) z)(e:b=((pkG s.sg y 0).blank&&decide (0<(ks.length:Int)))):
 mbJ s.sg n x z.2 (ks++[z.1]) (N-1)∧N-1<N:=by
 subst e
 obtain⟨a,b⟩:=HC (Sx hj.1 hb hq (z:=z) (by
  have:decide (0<ks.length)=decide (0<(ks.length:Int)):=by simp
  rw[this];exact hz))
 have:=(CF hz).1
 exact⟨⟨a,by have:=hj.2.1;omega,fun hw=>hj.2.2 hb⟩,b⟩
theorem a3Z{s:ST}{x y:Gs}{n:Nat}{ks:List Int}{N:Nat}(h:okD s x)(hj:mbJ s.sg n x y ks N):Cz ⟨18,[],ks,false⟩:=⟨by simp,by have:=WP h hj;simp only;omega⟩
theorem a4a{s:ST}{x y:Gs}{n:Nat}{ks:List Int}{N:Nat}(h:okD s x)(hj:mbJ s.sg n x y ks N)(hy:y.bad=true∨isG s.sg y 4 [125]=true):
 Ag s.sg x (BH s.sg (stR s.sg n)) (BC s.sg y [125],gDp (Bs s.sg y [125] ⟨18,[],ks,false⟩) (-1)):=by
 refine b4G (l:=(ks,y)) h.1.1 h.1.2 h.2 ?_ (WP h hj)
 rcases hy with hy|hy
 ·exact Sv hj.1 hy
 ·exact Sw hj.1 hy
theorem b4R{s:ST}{x y:Gs}{n:Nat}{ks:List Int}{N:Nat}{m:List UInt8}{w:Nd}(h:okD s x)(hj:mbJ s.sg n x y ks N)(hw:Cz w):1≤(Bs s.sg y m w).deep∧(Bs s.sg y m w).deep≤21:=by
 have:=(CF (KD (m:=m) hj.1.1.1 hw)).1
 have:=hj.2.1;have:=h.2;have:=h.1.2.2.1
 simp only at*;omega
theorem PM{s:ST}{x:Gs}{w:List UInt8}(h:okD s x)(hq:isG s.sg x 1 w=true):okN s x:=⟨h,(CC hq (by omega)).1,(CC hq (by omega)).2⟩
theorem PN{s:ST}{x:Gs}{f:Ps→PR}{z:Int×Gs}(h:okD s x)(hz:Ag s.sg x f z):okD s z.2:=Mi h hz.1
theorem Mj{s:ST}{x:Gs}{m:List UInt8}(h:okD s x)(hq:isG s.sg x 1 m=true):okD s (An x):=⟨(KO (PM h hq)).1,(KO (PM h hq)).2⟩
theorem b4S{s:ST}{x:Gs}{n:Nat}{b:Bool}{z:Int×Gs}(h:rOk s x)(hk:(pkG s.sg x 0).kind≠5)(h1:isG s.sg x 1 [118,97,114]=false)(h2:isG s.sg x 1 [114,101,116,117,114,110]=false)(h3:isG s.sg x 1 [105,102]=false)(h4:isG s.sg x 1 [119,104,105,108,101]=false)
 (hn:nmG s.sg x 0=true) (ht:(pkG s.sg x 1).text=[61]) (hk2:(pkG s.sg x 1).kind=4) (hz:Ag s.sg (Aq s.sg (BR s.sg x) [61]) (Ce s.sg) z):
 Ag s.sg x (stR s.sg (n+1) b) (BC s.sg z.2 [59],Bs s.sg z.2 [59] ⟨13,BS s.sg x,[z.1],b⟩):=
 a3I h.2 hk h1 h2 h3 h4 (by simp [seG,hn,hk2,ht]) (a3E h.1 h.2 hz)
theorem WQ{s:ST}{x:Gs}{n:Nat}{b:Bool}{z:Int×Gs}(h:rOk s x)(hk:(pkG s.sg x 0).kind≠5)(h1:isG s.sg x 1 [118,97,114]=false)(h2:isG s.sg x 1 [114,101,116,117,114,110]=false)(h3:isG s.sg x 1 [105,102]=false)(h4:isG s.sg x 1 [119,104,105,108,101]=false)
 (hn:nmG s.sg x 0=false∨(pkG s.sg x 1).text≠[61]∨(pkG s.sg x 1).kind≠4) (hz:Ag s.sg x (Ce s.sg) z):
 Ag s.sg x (stR s.sg (n+1) b) (BC s.sg z.2 [59],Bs s.sg z.2 [59] ⟨14,[],[z.1],b⟩):=
 a3J h.2 hk h1 h2 h3 h4 (by rcases hn with hn|hn|hn<;>simp [seG,hn]) (a3F h.2 hz)
theorem a4b{s:ST}{x:Gs}{n:Nat}{b:Bool}{c q:Int×Gs}(h:okD s x)(hk:(pkG s.sg x 0).kind≠5)(h1:isG s.sg x 1 [118,97,114]=false)(h2:isG s.sg x 1 [114,101,116,117,114,110]=false)(h3:isG s.sg x 1 [105,102]=false)(hq:isG s.sg x 1 [119,104,105,108,101]=true)
 (hc:Bl s.sg (An x) (Dx s.sg) c) (hz:Ag s.sg c.2 (BH s.sg (stR s.sg n)) q):Ag s.sg x (stR s.sg (n+1) b) (AQ q.2,Ah q.2 ⟨17,[],[c.1,q.1],b⟩):=
 b4I h.1.2 hk h1 h2 h3 hq (b4H (Mj h hq).1.2 hc hz)
theorem SB{α:Type}{s:ST}{x:Gs}{n:Nat}{f:Ps→Option (α×Ps)}{y:α×Gs}(h:20-x.deep≤(n:Int))(hy:Bl s.sg x f y):20-y.2.deep≤(n:Int):=by have:=hy.2.1;omega
theorem a4c{α:Type}{s:ST}{x:Gs}{n:Nat}{f:Ps→Option (α×Ps)}{y:α×Gs}(h:20-x.deep≤(n:Int))(hy:Ag s.sg x f y):20-y.2.deep≤(n:Int):=SB h hy.1
theorem a4d{s:ST}{x:Gs}{m:List UInt8}(h:okD s x):(Aq s.sg (BR s.sg x) m).deep≤20:=by rw[(El (Ij h.1)).2,(WN h.1).1];exact h.2
def KP(n:Nat):Sig:= {X:=ST×Int×Int×Bool×List Nd×Bool,args:=fun x=>[rdG x.1 (xh x),.bool x.2.2.2.2.2],pre:=fun x=>(okD x.1 (xh x)∧(xh x).bad=false)∧21-(xh x).deep≤n,Y:=Int×Int×Int×Bool×List Nd,post:=fun x y=>Ag x.1.sg (xh x) (stR x.1.sg n x.2.2.2.2.2) (yS y),res:=fun x y=> .int .i64 y.1,outs:=fun x y=>[rdG x.1 (yG y.2),.top],keep:=true}
attribute [local irreducible] pE Bn Dc fnR Ag Bl gsOk Aq Bs Ah BX De Al CD Dp AQ BC pkG isG nmG BR BS DC Gv Dx Ce BH stR CW
def HG:Sig:= {X:=ST×Int×Int×Bool×List Nd×Bool,args:=fun x=>[rdG x.1 (xh x),.bool x.2.2.2.2.2],pre:=fun x=>rOk x.1 (xh x)∧(pkG x.1.sg (xh x) 0).kind=5,Y:=Unit,post:=fun x y=>True,res:=fun x y=> .int .i64 (AQ (xh x)),outs:=fun x y=>[rdG x.1 (De x.1.sg (xh x) 19 x.2.2.2.2.2),.top],keep:=true}
theorem WR:Ai G Tryz.prog 169 HG:=
 vcFun_okP [(133,0,Cr),(134,0,BU),(195,0,CR)] [(25,⟨Int,AZ⟩)] false (fun x=>[]) Tryz.func169 rfl (by decide) ⟨Hy,GW,JA,trivial⟩ (fun(x:ST×Int×Int×Bool×List Nd×Bool)=>True∧cA Cr [rdG x.1 (xh x)] fun x_1 y=>cA BU [rdG x_1.1 (xg x_1),.agg [.int .i64 (19:Int),.str (pkG x_1.1.sg (xg x_1) (0:Int)).text,.nil,.bool x.2.2.2.2.2]] fun x_2 y=>cA CR [rdG x_2.1 (Ah (xh x_2) {kind:=x_2.2.2.2.2.2.1,text:=x_2.2.2.2.2.2.2.1,kids:=x_2.2.2.2.2.2.2.2.1,blank:=x_2.2.2.2.2.2.2.2.2})] fun x_3 y=>rA HG x [.int .i64 (AQ (xh x_2)),rdG x_3.1 (BX (xg x_3)),.top]) (fun x=>by kernel_rfl) fun(x:ST×Int×Int×Bool×List Nd×Bool) (hx:rOk x.1 (xh x)∧(pkG x.1.sg (xh x) 0).kind=5)=>(by
 dsimp only[cA,mbs,Bc,Av,rA,rdG,BU,Cr,HG,CR,Bu,sgs,Au,Az,mvL,lnL,mvE,lnE]
 obtain⟨s,p,d,b,ns,e⟩:=x;dsimp only[xg,xh] at hx ⊢
 obtain⟨h1,h2⟩:=hx
 (repeat' first|(with_reducible first|rfl|exact True.intro|apply AK|apply And.intro|((first|apply AA|apply AI|apply AB|apply AJ)<;>intro _))|(apply Ax<;>intro _)|apply AH|refine Ae () ?_ ?_|((first|apply AO|apply AN|apply AM|apply AL|apply AG|apply AF|apply AE|apply AD|apply AC)<;>try dsimp only)|apply Ae|(refine Prod.forall.2 ?_;intro _;try dsimp only)|(intro _;try dsimp only))
 all_goals first
  |rfl
  |exact h1
  |exact⟨h1.1,IW h1.2 ⟨KE h1.1,by simp⟩⟩
  |(simp [De, *];done)
  |skip)
def Hb:Sig:= {X:=ST×Int×Int×Bool×List Nd×Bool,args:=fun x=>[rdG x.1 (xh x),.bool x.2.2.2.2.2],pre:=fun x=>okN x.1 (xh x),Y:=Int×Int×Int×Bool×List Nd,post:=fun x y=>Ag x.1.sg (An (xh x)) (DC x.1.sg x.2.2.2.2.2) (yS y),res:=fun x y=> .int .i64 y.1,outs:=fun x y=>[rdG x.1 (yG y.2),.top],keep:=true}
theorem WS:Ai G Tryz.prog 171 Hb:=
 vcFun_okP [(195,0,CR),(173,0,Ew),(196,0,CO),(197,0,Ft),(198,0,CH)] [(25,⟨Int,AZ⟩)] false (fun x=>[]) Tryz.func171 rfl (by decide) ⟨JA,Py,Jy,Sz,LY,trivial⟩ (fun(x:ST×Int×Int×Bool×List Nd×Bool)=>True∧cA CR [rdG x.1 (xh x)] fun x_1 y=>cA Ew [rdG x_1.1 (BX (xg x_1))] fun x_2 y=>cA CO [rdG x_2.1 (BR x_2.1.sg (xg x_2)),.str #[(61:UInt8)].toList] fun x_3 y=>Aa (isG x_3.1.sg (xh x_3) (4:Int) x_3.2.2.2.2.2) (cA Ft [rdG x_3.1 (Al x_3.1.sg (xh x_3) x_3.2.2.2.2.2)] fun x_4 y=>∃(x_5:Int),y.1=x_5∧cA CH [rdG x_4.1 (yG y.2),.str #[(59:UInt8)].toList,.agg [.int .i64 (12:Int),.str (BS x_2.1.sg (xg x_2)),Ab [x_5],.bool x.2.2.2.2.2]] fun x_6 y=>rA Hb x [.int .i64 (BC x_6.1.sg (xh x_6) x_6.2.2.2.2.2.1),rdG x_6.1 (Bs x_6.1.sg (xh x_6) x_6.2.2.2.2.2.1 {kind:=x_6.2.2.2.2.2.2.1,text:=x_6.2.2.2.2.2.2.2.1,kids:=x_6.2.2.2.2.2.2.2.2.1,blank:=x_6.2.2.2.2.2.2.2.2.2}),.top]) (cA CH [rdG x_3.1 (Al x_3.1.sg (xh x_3) x_3.2.2.2.2.2),.str #[(59:UInt8)].toList,.agg [.int .i64 (12:Int),.str (BS x_2.1.sg (xg x_2)),.nil,.bool x.2.2.2.2.2]] fun x_4 y=>rA Hb x [.int .i64 (BC x_4.1.sg (xh x_4) x_4.2.2.2.2.2.1),rdG x_4.1 (Bs x_4.1.sg (xh x_4) x_4.2.2.2.2.2.1 {kind:=x_4.2.2.2.2.2.2.1,text:=x_4.2.2.2.2.2.2.2.1,kids:=x_4.2.2.2.2.2.2.2.2.1,blank:=x_4.2.2.2.2.2.2.2.2.2}),.top])) (fun x=>by kernel_rfl) fun(x:ST×Int×Int×Bool×List Nd×Bool) (hx:okN x.1 (xh x))=>(by
 dsimp only[cA,mbs,Bc,Ab,Av,rA,rdG,CH,Ew,CR,CO,Ft,Hb,Bu,sgs,Au,Az,mvL,lnL,mvE,lnE]
 obtain⟨s,p,d,b,ns,e⟩:=x;dsimp only[xg,xh] at hx ⊢
 have hx:okN s ⟨p,d,b,ns⟩:=hx
 have hp:=NQ hx.2.1
 obtain⟨h1,h2⟩:=KO hx
 (repeat' first|(with_reducible first|rfl|exact True.intro|apply AK|apply And.intro|((first|apply AA|apply AI|apply AB|apply AJ)<;>intro _))|(apply Ax<;>intro _)|apply AH|refine Ae () ?_ ?_|((first|apply AO|apply AN|apply AM|apply AL|apply AG|apply AF|apply AE|apply AD|apply AC)<;>try dsimp only)|apply Ae|(refine Prod.forall.2 ?_;intro _;try dsimp only)|(intro _;try dsimp only))
 all_goals(try dsimp only[xg,xh,yG,yS,iG] at*)
 all_goals(try simp only[CP,hp] at*)
 all_goals first
  |rfl
  |exact hx.1.1
  |exact h1
  |exact h2
  |exact Ij h1
  |exact(WO h1 h2 ‹_›).1
  |exact(WO h1 h2 ‹_›).2
  |exact a3U h1 ‹_›
  |exact Dt h1 ‹_›
  |exact DN (HF h1.1) (by simp)
  |exact a3T h1 ‹_› ‹_›
  |exact a3V h1 ‹_›
  |skip)
def Mk:Sig:= {X:=ST×Int×Int×Bool×List Nd×Bool,args:=fun x=>[rdG x.1 (xh x),.bool x.2.2.2.2.2],pre:=fun x=>okN x.1 (xh x),Y:=Int×Int×Int×Bool×List Nd,post:=fun x y=>Ag x.1.sg (An (xh x)) (Gv x.1.sg x.2.2.2.2.2) (yS y),res:=fun x y=> .int .i64 y.1,outs:=fun x y=>[rdG x.1 (yG y.2),.top],keep:=true}
theorem b4T:Ai G Tryz.prog 220 Mk:=
 vcFun_okP [(195,0,CR),(199,0,CA),(197,0,Ft),(198,0,CH)] [(25,⟨Int,AZ⟩)] false (fun x=>[]) Tryz.func220 rfl (by decide) ⟨JA,Ib,Sz,LY,trivial⟩ (fun(x:ST×Int×Int×Bool×List Nd×Bool)=>True∧cA CR [rdG x.1 (xh x)] fun x_1 y=>cA CA [rdG x_1.1 (BX (xg x_1)),.str #[(59:UInt8)].toList] fun x_2 y=>Aa (!isG x_2.1.sg (xh x_2) (4:Int) x_2.2.2.2.2.2) (cA Ft [rdG x_2.1 (xh x_2)] fun x_3 y=>∃(x_4:Int),y.1=x_4∧cA CH [rdG x_3.1 (yG y.2),.str #[(59:UInt8)].toList,.agg [.int .i64 (15:Int),.str #[].toList,Ab [x_4],.bool x.2.2.2.2.2]] fun x_5 y=>rA Mk x [.int .i64 (BC x_5.1.sg (xh x_5) x_5.2.2.2.2.2.1),rdG x_5.1 (Bs x_5.1.sg (xh x_5) x_5.2.2.2.2.2.1 {kind:=x_5.2.2.2.2.2.2.1,text:=x_5.2.2.2.2.2.2.2.1,kids:=x_5.2.2.2.2.2.2.2.2.1,blank:=x_5.2.2.2.2.2.2.2.2.2}),.top]) (cA CH [rdG x_2.1 (xh x_2),.str #[(59:UInt8)].toList,.agg [.int .i64 (15:Int),.str #[].toList,.nil,.bool x.2.2.2.2.2]] fun x_3 y=>rA Mk x [.int .i64 (BC x_3.1.sg (xh x_3) x_3.2.2.2.2.2.1),rdG x_3.1 (Bs x_3.1.sg (xh x_3) x_3.2.2.2.2.2.1 {kind:=x_3.2.2.2.2.2.2.1,text:=x_3.2.2.2.2.2.2.2.1,kids:=x_3.2.2.2.2.2.2.2.2.1,blank:=x_3.2.2.2.2.2.2.2.2.2}),.top])) (fun x=>by kernel_rfl) fun(x:ST×Int×Int×Bool×List Nd×Bool) (hx:okN x.1 (xh x))=>(by
 dsimp only[cA,mbs,Bc,Ab,Av,rA,rdG,CH,CA,Mk,CR,Ft,Bu,sgs,Au,Az,mvL,lnL,mvE,lnE]
 obtain⟨s,p,d,b,ns,e⟩:=x;dsimp only[xg,xh] at hx ⊢
 have hx:okN s ⟨p,d,b,ns⟩:=hx
 have hp:=NQ hx.2.1
 obtain⟨h1,h2⟩:=KO hx
 (repeat' first|(with_reducible first|rfl|exact True.intro|apply AK|apply And.intro|((first|apply AA|apply AI|apply AB|apply AJ)<;>intro _))|(apply Ax<;>intro _)|apply AH|refine Ae () ?_ ?_|((first|apply AO|apply AN|apply AM|apply AL|apply AG|apply AF|apply AE|apply AD|apply AC)<;>try dsimp only)|apply Ae|(refine Prod.forall.2 ?_;intro _;try dsimp only)|(intro _;try dsimp only))
 all_goals(try dsimp only[xg,xh,yG,yS,iG] at*)
 all_goals(try simp only[CP,hp] at*)
 all_goals first
  |rfl
  |exact hx.1.1
  |exact h1
  |exact h2
  |exact Dt h1 ‹_›
  |exact DN (by simp) (by simp)
  |exact a3w h1.2 ‹_›
  |exact a3x h1.2 ‹_› ‹_›
  |skip)
def JK:Sig:= {X:=ST×Int×Int×Bool×List Nd,args:=fun x=>[rdG x.1 (xg x)],pre:=fun x=>okD x.1 (xg x),Y:=Int×Int×Int×Bool×List Nd,post:=fun x y=>Bl x.1.sg (xg x) (Dx x.1.sg) (yS y),res:=fun x y=>Ab [y.1],outs:=fun x y=>[rdG x.1 (yG y.2)],keep:=true}
theorem a4e:Ai G Tryz.prog 222 JK:=
 vcFun_okP [(174,0,CE),(197,0,Ft)] [(25,⟨Int,AZ⟩)] false (fun x=>[]) Tryz.func222 rfl (by decide) ⟨Jz,Sz,trivial⟩ (fun(x:ST×Int×Int×Bool×List Nd)=>True∧cA CE [rdG x.1 (xg x),.str #[(40:UInt8)].toList] fun x_1 y=>cA Ft [rdG x_1.1 (Aq x_1.1.sg (xh x_1) x_1.2.2.2.2.2)] fun x_2 y=>cA CE [rdG x_2.1 (yG y.2),.str #[(41:UInt8)].toList] fun x_3 y_1=>∃(x_4:Int),y.1=x_4∧rA JK x [Ab [x_4],rdG x_3.1 (Aq x_3.1.sg (xh x_3) x_3.2.2.2.2.2)]) (fun x=>by kernel_rfl) fun(x:ST×Int×Int×Bool×List Nd) (hx:okD x.1 (xg x))=>(by
 dsimp only[cA,mbs,Bc,Ab,Av,rA,rdG,JK,CE,Ft,Bu,sgs,Au,Az,mvL,lnL,mvE,lnE]
 obtain⟨s,p,d,b,ns⟩:=x;dsimp only[xg,xh] at hx ⊢
 have hx:okD s ⟨p,d,b,ns⟩:=hx
 have t:=El (m:=[40]) hx.1;have hd:=hx.2;dsimp only at hd
 (repeat' first|(with_reducible first|rfl|exact True.intro|apply AK|apply And.intro|((first|apply AA|apply AI|apply AB|apply AJ)<;>intro _))|(apply Ax<;>intro _)|apply AH|refine Ae () ?_ ?_|((first|apply AO|apply AN|apply AM|apply AL|apply AG|apply AF|apply AE|apply AD|apply AC)<;>try dsimp only)|apply Ae|(refine Prod.forall.2 ?_;intro _;try dsimp only)|(intro _;try dsimp only))
 all_goals(try dsimp only[xg,xh,yG,yS,iG] at*)
 all_goals(try simp only[CP] at*)
 all_goals first
  |rfl
  |exact hx.1
  |exact t.1
  |(rw[t.2];exact hd)
  |exact Dt hx.1 ‹_›
  |exact a3y hx.1.2 ‹_›
  |skip)
def Ik(n:Nat):Sig:= {X:=ST×Int×Int×Bool×List Nd,args:=fun x=>[rdG x.1 (xg x)],pre:=fun x=>okD x.1 (xg x)∧20-(xg x).deep≤(n:Int),Y:=Int×Int×Int×Bool×List Nd,post:=fun x y=>Ag x.1.sg (xg x) (BH x.1.sg (stR x.1.sg n)) (yS y),res:=fun x y=> .int .i64 y.1,outs:=fun x y=>[rdG x.1 (yG y.2)],keep:=true}
def PO(n:Nat)(x:ST×Int×Int×Bool×List Nd):LS:= {ι:=Int×Int×Bool×List Nd×List Int×Nat,inv:=fun i=>mbJ x.1.sg n (xg x) (iG i) i.2.2.2.2.1 i.2.2.2.2.2,regs:=fun i=>[(0,rdG x.1 (iG i)),(3,Ab i.2.2.2.2.1)],als:=[],meas:=fun i=>i.2.2.2.2.2}
theorem WT(n:Nat)(h:Ai G Go.Proofs.Tryz.prog 203 (KP n)):Ai G Tryz.prog 177 (Ik n):=
 vcFun_okP [(202,0,IY),(174,0,CE),(199,0,CA),(133,0,Cr),(203,0,(KP n)),(198,0,CH)] [(25,⟨Int,AZ⟩)] false (fun x=>[(4,PO n x)]) Tryz.func177 rfl (by decide) ⟨a1S,Jz,Ib,Hy,h,LY,trivial⟩ (fun(x:ST×Int×Int×Bool×List Nd)=>True∧cA IY [rdG x.1 (xg x)] fun x_1 y=>cA CE [.box 0 [sgs x_1.1.sg,.int .i64 x_1.1.z,.int .i64 (gDp (if(xg x_1).deep=(20:Int) then Bd (xg x_1) else xg x_1) (1:Int)).pos,.int .i64 (gDp (if(xg x_1).deep=(20:Int) then Bd (xg x_1) else xg x_1) (1:Int)).deep,.bool (gDp (if(xg x_1).deep=(20:Int) then Bd (xg x_1) else xg x_1) (1:Int)).bad,Av (gDp (if(xg x_1).deep=(20:Int) then Bd (xg x_1) else xg x_1) (1:Int)).nodes,mbs x_1.1.ms],.str #[(123:UInt8)].toList] fun x_2 y=>eA (PO n x) [rdG x_2.1 (Aq x_2.1.sg (xh x_2) x_2.2.2.2.2.2),.nil]∧∀(i:Int×Int×Bool×List Nd×List Int×Nat),mbJ x.1.sg n (xg x) (iG i) i.2.2.2.2.1 i.2.2.2.2.2→Aa (!(iG i).bad) (cA CA [rdG x.1 (iG i),.str #[(125:UInt8)].toList] fun x_3 y=>Aa (!isG x_3.1.sg (xh x_3) (4:Int) x_3.2.2.2.2.2) (cA Cr [rdG x_3.1 (xh x_3)] fun x_4 y=>Aa (pkG x_4.1.sg (xg x_4) (0:Int)).blank (cA (KP n) [rdG x_4.1 (xg x_4),.bool (decide ((↑(List.length i.2.2.2.2.1):Int)>(0:Int)))] fun x_5 y=>∃(x_6:Int),y.1=x_6∧∃(zs:List Int),Ab [x_6]=Ab zs∧Bj AZ∧AW (List.length i.2.2.2.2.1+List.length zs) (8:Nat)∧eN (PO n x) i [rdG x_5.1 (yG y.2),Ab (i.2.2.2.2.1++zs)]) (cA (KP n) [rdG x_4.1 (xg x_4),.bool false] fun x_5 y=>∃(x_6:Int),y.1=x_6∧∃(zs:List Int),Ab [x_6]=Ab zs∧Bj AZ∧AW (List.length i.2.2.2.2.1+List.length zs) (8:Nat)∧eN (PO n x) i [rdG x_5.1 (yG y.2),Ab (i.2.2.2.2.1++zs)])) (cA CH [rdG x_3.1 (xh x_3),.str #[(125:UInt8)].toList,.agg [.int .i64 (18:Int),.str #[].toList,Ab i.2.2.2.2.1,.bool false]] fun x_4 y=>inR IntKind.i64 ((Bs x_4.1.sg (xh x_4) x_4.2.2.2.2.2.1 {kind:=x_4.2.2.2.2.2.2.1,text:=x_4.2.2.2.2.2.2.2.1,kids:=x_4.2.2.2.2.2.2.2.2.1,blank:=x_4.2.2.2.2.2.2.2.2.2}).deep-(1:Int))∧rA (Ik n) x [.int .i64 (BC x_4.1.sg (xh x_4) x_4.2.2.2.2.2.1),.box 0 [sgs x_4.1.sg,.int .i64 x_4.1.z,.int .i64 (Bs x_4.1.sg (xh x_4) x_4.2.2.2.2.2.1 {kind:=x_4.2.2.2.2.2.2.1,text:=x_4.2.2.2.2.2.2.2.1,kids:=x_4.2.2.2.2.2.2.2.2.1,blank:=x_4.2.2.2.2.2.2.2.2.2}).pos,.int .i64 ((Bs x_4.1.sg (xh x_4) x_4.2.2.2.2.2.1 {kind:=x_4.2.2.2.2.2.2.1,text:=x_4.2.2.2.2.2.2.2.1,kids:=x_4.2.2.2.2.2.2.2.2.1,blank:=x_4.2.2.2.2.2.2.2.2.2}).deep-(1:Int)),.bool (Bs x_4.1.sg (xh x_4) x_4.2.2.2.2.2.1 {kind:=x_4.2.2.2.2.2.2.1,text:=x_4.2.2.2.2.2.2.2.1,kids:=x_4.2.2.2.2.2.2.2.2.1,blank:=x_4.2.2.2.2.2.2.2.2.2}).bad,Av (Bs x_4.1.sg (xh x_4) x_4.2.2.2.2.2.1 {kind:=x_4.2.2.2.2.2.2.1,text:=x_4.2.2.2.2.2.2.2.1,kids:=x_4.2.2.2.2.2.2.2.2.1,blank:=x_4.2.2.2.2.2.2.2.2.2}).nodes,mbs x_4.1.ms]])) (cA CH [rdG x.1 (iG i),.str #[(125:UInt8)].toList,.agg [.int .i64 (18:Int),.str #[].toList,Ab i.2.2.2.2.1,.bool false]] fun x_3 y=>inR IntKind.i64 ((Bs x_3.1.sg (xh x_3) x_3.2.2.2.2.2.1 {kind:=x_3.2.2.2.2.2.2.1,text:=x_3.2.2.2.2.2.2.2.1,kids:=x_3.2.2.2.2.2.2.2.2.1,blank:=x_3.2.2.2.2.2.2.2.2.2}).deep-(1:Int))∧rA (Ik n) x [.int .i64 (BC x_3.1.sg (xh x_3) x_3.2.2.2.2.2.1),.box 0 [sgs x_3.1.sg,.int .i64 x_3.1.z,.int .i64 (Bs x_3.1.sg (xh x_3) x_3.2.2.2.2.2.1 {kind:=x_3.2.2.2.2.2.2.1,text:=x_3.2.2.2.2.2.2.2.1,kids:=x_3.2.2.2.2.2.2.2.2.1,blank:=x_3.2.2.2.2.2.2.2.2.2}).pos,.int .i64 ((Bs x_3.1.sg (xh x_3) x_3.2.2.2.2.2.1 {kind:=x_3.2.2.2.2.2.2.1,text:=x_3.2.2.2.2.2.2.2.1,kids:=x_3.2.2.2.2.2.2.2.2.1,blank:=x_3.2.2.2.2.2.2.2.2.2}).deep-(1:Int)),.bool (Bs x_3.1.sg (xh x_3) x_3.2.2.2.2.2.1 {kind:=x_3.2.2.2.2.2.2.1,text:=x_3.2.2.2.2.2.2.2.1,kids:=x_3.2.2.2.2.2.2.2.2.1,blank:=x_3.2.2.2.2.2.2.2.2.2}).bad,Av (Bs x_3.1.sg (xh x_3) x_3.2.2.2.2.2.1 {kind:=x_3.2.2.2.2.2.2.1,text:=x_3.2.2.2.2.2.2.2.1,kids:=x_3.2.2.2.2.2.2.2.2.1,blank:=x_3.2.2.2.2.2.2.2.2.2}).nodes,mbs x_3.1.ms]])) (fun x=>by kernel_rfl) fun(x:ST×Int×Int×Bool×List Nd) (hx:okD x.1 (xg x)∧20-(xg x).deep≤(n:Int))=>(by
 dsimp only[cA,eA,eN,PO,mbs,Bc,Ab,Av,rA,rdG,Ik,CH,IY,CA,Cr,KP,CE,Bu,sgs,Au,Az,mvL,lnL,mvE,lnE,Bq]
 obtain⟨s,p,d,b,ns⟩:=x;dsimp only[xg,xh] at hx ⊢
 obtain⟨hx,hd⟩:=hx
 have hx:okD s ⟨p,d,b,ns⟩:=hx;have hd2:=hx.2;dsimp only at hd2
 (repeat' first|(with_reducible first|rfl|exact True.intro|apply AK|apply And.intro|((first|apply AA|apply AI|apply AB|apply AJ)<;>intro _))|(apply Ax<;>intro _)|apply AH|refine Ae () ?_ ?_|((first|apply AO|apply AN|apply AM|apply AL|apply AG|apply AF|apply AE|apply AD|apply AC)<;>try dsimp only)|apply Ae|(refine Prod.forall.2 ?_;intro _;try dsimp only)|(intro _;try dsimp only))
 all_goals(try dsimp only[xg,xh,yG,yS,iG] at*)
 all_goals(try simp only[CP] at*)
 all_goals first
  |(show Nat;skip)
  |rfl
  |exact hx.1
  |exact hd2
  |assumption
  |exact a3W hx
  |exact b4Q hx
  |exact a3X hx ‹_›
  |exact a3Z hx ‹_›
  |exact⟨a3X hx ‹_›,(a3Y hx hd ‹_› ‹_›).1⟩
  |exact(a3Y hx hd ‹_› ‹_›).2
  |exact(SA ‹_› ‹_› ‹_› ‹_› (GZ ‹_›)).1
  |exact(SA ‹_› ‹_› ‹_› ‹_› (Ha ‹_›)).1
  |exact a4a hx ‹_› (.inl ‹_›)
  |exact a4a hx ‹_› (.inr ‹_›)
  |(have hq:=WP hx (show mbJ _ _ _ _ _ _ by assumption);(try simp only[AW,List.length_append,List.length_cons,List.length_nil]);omega)
  |(have hj:=(show mbJ _ _ _ _ _ _ by assumption);have hq:=b4R (m:=[125]) hx hj (a3Z hx hj);(try simp only[AR]);omega)
  |skip
 all_goals first
  |exact(SA ‹_› ‹_› ‹_› ‹_› (GZ ‹_›)).2
  |exact(SA ‹_› ‹_› ‹_› ‹_› (Ha ‹_›)).2
  |skip)
def Ml(n:Nat):Sig:= {X:=ST×Int×Int×Bool×List Nd×Bool,args:=fun x=>[rdG x.1 (xh x),.bool x.2.2.2.2.2],pre:=fun x=>okN x.1 (xh x)∧20-(xh x).deep≤(n:Int),Y:=Int×Int×Int×Bool×List Nd,post:=fun x y=>Ag x.1.sg (An (xh x)) (ifR x.1.sg n x.2.2.2.2.2) (yS y),res:=fun x y=> .int .i64 y.1,outs:=fun x y=>[rdG x.1 (yG y.2),.top],keep:=true}
theorem b4U(n:Nat)(h:Ai G Go.Proofs.Tryz.prog 203 (KP n)):Ai G Tryz.prog 221 (Ml n):=
 vcFun_okP [(195,0,CR),(222,0,JK),(177,0,(Ik n)),(170,0,Ek),(134,0,BU)] [(25,⟨Int,AZ⟩)] false (fun x=>[]) Tryz.func221 rfl (by decide) ⟨JA,a4e,(WT n h),RG,GW,trivial⟩ (fun(x:ST×Int×Int×Bool×List Nd×Bool)=>True∧cA CR [rdG x.1 (xh x)] fun x_1 y=>cA JK [rdG x_1.1 (BX (xg x_1))] fun x_2 y=>cA (Ik n) [rdG x_2.1 (yG y.2)] fun x_3 y_1=>∃(x_4:Int),y_1.1=x_4∧∃(zs:List Int),Ab [x_4]=Ab zs∧Bj AZ∧AW (List.length [y.1]+List.length zs) (8:Nat)∧cA Ek [rdG x_3.1 (yG y_1.2),.str #[(101:UInt8),(108:UInt8),(115:UInt8),(101:UInt8)].toList] fun x_5 y_2=>Aa (isG x_5.1.sg (xh x_5) (1:Int) x_5.2.2.2.2.2) (cA CR [rdG x_5.1 (xh x_5)] fun x_6 y_3=>cA (Ik n) [rdG x_6.1 (BX (xg x_6))] fun x_7 y_4=>∃(x_8:Int),y_4.1=x_8∧∃(Ck:List Int),Ab [x_8]=Ab Ck∧Bj AZ∧AW (List.length (y.1::List.append._f [] PUnit.unit zs)+List.length Ck) (8:Nat)∧cA BU [rdG x_7.1 (yG y_4.2),.agg [.int .i64 (16:Int),.str #[].toList,Ab (y.1::List.append._f [] PUnit.unit zs++Ck),.bool x.2.2.2.2.2]] fun x_9 y=>rA (Ml n) x [.int .i64 (AQ (xh x_9)),rdG x_9.1 (Ah (xh x_9) {kind:=x_9.2.2.2.2.2.1,text:=x_9.2.2.2.2.2.2.1,kids:=x_9.2.2.2.2.2.2.2.1,blank:=x_9.2.2.2.2.2.2.2.2}),.top]) (cA BU [rdG x_5.1 (xh x_5),.agg [.int .i64 (16:Int),.str #[].toList,Ab ([y.1]++zs),.bool x.2.2.2.2.2]] fun x_6 y=>rA (Ml n) x [.int .i64 (AQ (xh x_6)),rdG x_6.1 (Ah (xh x_6) {kind:=x_6.2.2.2.2.2.1,text:=x_6.2.2.2.2.2.2.1,kids:=x_6.2.2.2.2.2.2.2.1,blank:=x_6.2.2.2.2.2.2.2.2}),.top])) (fun x=>by kernel_rfl) fun(x:ST×Int×Int×Bool×List Nd×Bool) (hx:okN x.1 (xh x)∧20-(xh x).deep≤(n:Int))=>(by
 dsimp only[cA,mbs,Bc,Ab,Av,rA,rdG,BU,Ik,Ml,JK,Ek,CR,Bu,sgs,Au,Az,mvL,lnL,mvE,lnE]
 obtain⟨s,p,d,b,ns,e⟩:=x;dsimp only[xg,xh] at hx ⊢
 obtain⟨hx,hd⟩:=hx
 have hx:okN s ⟨p,d,b,ns⟩:=hx
 have hp:=NQ hx.2.1
 have h1:okD s (An ⟨p,d,b,ns⟩):=KO hx
 have h2:20-(An ⟨p,d,b,ns⟩).deep≤(n:Int):=hd
 (repeat' first|(with_reducible first|rfl|exact True.intro|apply AK|apply And.intro|((first|apply AA|apply AI|apply AB|apply AJ)<;>intro _))|(apply Ax<;>intro _)|apply AH|refine Ae () ?_ ?_|((first|apply AO|apply AN|apply AM|apply AL|apply AG|apply AF|apply AE|apply AD|apply AC)<;>try dsimp only)|apply Ae|(refine Prod.forall.2 ?_;intro _;try dsimp only)|(intro _;try dsimp only))
 all_goals(try dsimp only[xg,xh,yG,yS,iG] at*)
 all_goals(try simp only[CP,hp] at*)
 all_goals first
  |rfl
  |exact hx.1.1
  |exact h1
  |exact h1.1
  |exact Mi h1 ‹_›
  |exact SB h2 ‹_›
  |skip
 all_goals(try(have e:=NQ (a3b (show isG s.sg _ 1 [101,108,115,101]=true by assumption) (by omega));simp only[e] at*))
 all_goals(try(have hc:=(show Bl s.sg _ (Dx s.sg) _ by assumption);have k1:=Mi h1 hc;have k2:=SB h2 hc))
 all_goals first
  |exact(show AW 2 8 by simp [AW])
  |exact(show AW 3 8 by simp [AW])
  |exact(PN k1 (show Ag s.sg _ (BH s.sg _) _ by assumption)).1
  |exact Mj (PN k1 ‹_›) ‹_›
  |exact(PN (Mj (PN k1 ‹_›) ‹_›) ‹_›).1
  |(have hh:=a4c k2 (show Ag s.sg _ (BH s.sg _) _ by assumption);exact hh)
  |exact a3C h1.1.2 ‹_› ‹_› ‹_›
  |exact a3D h1.1.2 ‹_› ‹_› ‹_› ‹_›
  |skip)
def Il(n:Nat):Sig:= {X:=ST×Int×Int×Bool×List Nd×Bool,args:=fun x=>[rdG x.1 (xh x),.bool x.2.2.2.2.2],pre:=fun x=>(okD x.1 (xh x)∧(xh x).bad=false)∧21-(xh x).deep≤(n+1:Nat),Y:=Int×Int×Int×Bool×List Nd,post:=fun x y=>Ag x.1.sg (xh x) (stR x.1.sg (n+1) x.2.2.2.2.2) (yS y),res:=fun x y=> .int .i64 y.1,outs:=fun x y=>[rdG x.1 (yG y.2),.top],keep:=true}
theorem b4V(n:Nat)(h:Ai G Go.Proofs.Tryz.prog 203 (KP n)):Ai G Tryz.prog 203 (Il n):=
 vcFun_okP [(133,0,Cr),(169,0,HG),(170,0,Ek),(171,0,Hb),(220,0,Mk),(221,0,(Ml n)),(195,0,CR),(222,0,JK),(177,0,(Ik n)),(200,0,Ev),(178,0,EO),(173,0,Ew),(174,0,CE),(197,0,Ft),(198,0,CH),(134,0,BU)] [(25,⟨Int,AZ⟩)] false (fun x=>[]) Tryz.func203 rfl (by decide) ⟨Hy,WR,RG,WS,b4T,(b4U n h),JA,a4e,(WT n h),Px,RF,Py,Jz,Sz,LY,GW,trivial⟩ (fun(x:ST×Int×Int×Bool×List Nd×Bool)=>True∧cA Cr [rdG x.1 (xh x)] fun x_1 y=>Aa ((pkG x_1.1.sg (xg x_1) (0:Int)).kind==(5:Int)) (cA HG [rdG x_1.1 (xg x_1),.bool x.2.2.2.2.2] fun x_2 y=>rA (Il n) x [.int .i64 (AQ (xh x_2)),rdG x_2.1 (De x_2.1.sg (xh x_2) (19:Int) x_2.2.2.2.2.2),.top]) (cA Ek [rdG x_1.1 (xg x_1),.str #[(118:UInt8),(97:UInt8),(114:UInt8)].toList] fun x_2 y=>Aa (isG x_2.1.sg (xh x_2) (1:Int) x_2.2.2.2.2.2) (cA Hb [rdG x_2.1 (xh x_2),.bool x.2.2.2.2.2] fun x_3 y=>rA (Il n) x [.int .i64 y.1,rdG x_3.1 (yG y.2),.top]) (cA Ek [rdG x_2.1 (xh x_2),.str #[(114:UInt8),(101:UInt8),(116:UInt8),(117:UInt8),(114:UInt8),(110:UInt8)].toList] fun x_3 y=>Aa (isG x_3.1.sg (xh x_3) (1:Int) x_3.2.2.2.2.2) (cA Mk [rdG x_3.1 (xh x_3),.bool x.2.2.2.2.2] fun x_4 y=>rA (Il n) x [.int .i64 y.1,rdG x_4.1 (yG y.2),.top]) (cA Ek [rdG x_3.1 (xh x_3),.str #[(105:UInt8),(102:UInt8)].toList] fun x_4 y=>Aa (isG x_4.1.sg (xh x_4) (1:Int) x_4.2.2.2.2.2) (cA (Ml n) [rdG x_4.1 (xh x_4),.bool x.2.2.2.2.2] fun x_5 y=>rA (Il n) x [.int .i64 y.1,rdG x_5.1 (yG y.2),.top]) (cA Ek [rdG x_4.1 (xh x_4),.str #[(119:UInt8),(104:UInt8),(105:UInt8),(108:UInt8),(101:UInt8)].toList] fun x_5 y=>Aa (isG x_5.1.sg (xh x_5) (1:Int) x_5.2.2.2.2.2) (cA CR [rdG x_5.1 (xh x_5)] fun x_6 y=>cA JK [rdG x_6.1 (BX (xg x_6))] fun x_7 y=>cA (Ik n) [rdG x_7.1 (yG y.2)] fun x_8 y_1=>∃(x_9:Int),y_1.1=x_9∧∃(zs:List Int),Ab [x_9]=Ab zs∧Bj AZ∧AW (List.length [y.1]+List.length zs) (8:Nat)∧cA BU [rdG x_8.1 (yG y_1.2),.agg [.int .i64 (17:Int),.str #[].toList,Ab ([y.1]++zs),.bool x.2.2.2.2.2]] fun x_10 y=>rA (Il n) x [.int .i64 (AQ (xh x_10)),rdG x_10.1 (Ah (xh x_10) {kind:=x_10.2.2.2.2.2.1,text:=x_10.2.2.2.2.2.2.1,kids:=x_10.2.2.2.2.2.2.2.1,blank:=x_10.2.2.2.2.2.2.2.2}),.top]) (cA Ev [rdG x_5.1 (xh x_5),.int .i64 (0:Int)] fun x_6 y=>Aa (nmG x_6.1.sg (xh x_6) x_6.2.2.2.2.2) (cA EO [rdG x_6.1 (xh x_6),.int .i64 (1:Int)] fun x_7 y=>Aa ((pkG x_7.1.sg (xh x_7) x_7.2.2.2.2.2).text== #[(61:UInt8)].toList) (cA EO [rdG x_7.1 (xh x_7),.int .i64 (1:Int)] fun x_8 y=>Aa ((pkG x_8.1.sg (xh x_8) x_8.2.2.2.2.2).kind==(4:Int)) (cA Ew [rdG x_8.1 (xh x_8)] fun x_9 y=>cA CE [rdG x_9.1 (BR x_9.1.sg (xg x_9)),.str #[(61:UInt8)].toList] fun x_10 y=>cA Ft [rdG x_10.1 (Aq x_10.1.sg (xh x_10) x_10.2.2.2.2.2)] fun x_11 y=>∃(x_12:Int),y.1=x_12∧cA CH [rdG x_11.1 (yG y.2),.str #[(59:UInt8)].toList,.agg [.int .i64 (13:Int),.str (BS x_9.1.sg (xg x_9)),Ab [x_12],.bool x.2.2.2.2.2]] fun x_13 y=>rA (Il n) x [.int .i64 (BC x_13.1.sg (xh x_13) x_13.2.2.2.2.2.1),rdG x_13.1 (Bs x_13.1.sg (xh x_13) x_13.2.2.2.2.2.1 {kind:=x_13.2.2.2.2.2.2.1,text:=x_13.2.2.2.2.2.2.2.1,kids:=x_13.2.2.2.2.2.2.2.2.1,blank:=x_13.2.2.2.2.2.2.2.2.2}),.top]) (cA Ft [rdG x_8.1 (xh x_8)] fun x_9 y=>∃(x_10:Int),y.1=x_10∧cA CH [rdG x_9.1 (yG y.2),.str #[(59:UInt8)].toList,.agg [.int .i64 (14:Int),.str #[].toList,Ab [x_10],.bool x.2.2.2.2.2]] fun x_11 y=>rA (Il n) x [.int .i64 (BC x_11.1.sg (xh x_11) x_11.2.2.2.2.2.1),rdG x_11.1 (Bs x_11.1.sg (xh x_11) x_11.2.2.2.2.2.1 {kind:=x_11.2.2.2.2.2.2.1,text:=x_11.2.2.2.2.2.2.2.1,kids:=x_11.2.2.2.2.2.2.2.2.1,blank:=x_11.2.2.2.2.2.2.2.2.2}),.top])) (cA Ft [rdG x_7.1 (xh x_7)] fun x_8 y=>∃(x_9:Int),y.1=x_9∧cA CH [rdG x_8.1 (yG y.2),.str #[(59:UInt8)].toList,.agg [.int .i64 (14:Int),.str #[].toList,Ab [x_9],.bool x.2.2.2.2.2]] fun x_10 y=>rA (Il n) x [.int .i64 (BC x_10.1.sg (xh x_10) x_10.2.2.2.2.2.1),rdG x_10.1 (Bs x_10.1.sg (xh x_10) x_10.2.2.2.2.2.1 {kind:=x_10.2.2.2.2.2.2.1,text:=x_10.2.2.2.2.2.2.2.1,kids:=x_10.2.2.2.2.2.2.2.2.1,blank:=x_10.2.2.2.2.2.2.2.2.2}),.top])) (cA Ft [rdG x_6.1 (xh x_6)] fun x_7 y=>∃(x_8:Int),y.1=x_8∧cA CH [rdG x_7.1 (yG y.2),.str #[(59:UInt8)].toList,.agg [.int .i64 (14:Int),.str #[].toList,Ab [x_8],.bool x.2.2.2.2.2]] fun x_9 y=>rA (Il n) x [.int .i64 (BC x_9.1.sg (xh x_9) x_9.2.2.2.2.2.1),rdG x_9.1 (Bs x_9.1.sg (xh x_9) x_9.2.2.2.2.2.1 {kind:=x_9.2.2.2.2.2.2.1,text:=x_9.2.2.2.2.2.2.2.1,kids:=x_9.2.2.2.2.2.2.2.2.1,blank:=x_9.2.2.2.2.2.2.2.2.2}),.top]))))))) (fun x=>by kernel_rfl) fun(x:ST×Int×Int×Bool×List Nd×Bool) (hx:(okD x.1 (xh x)∧(xh x).bad=false)∧21-(xh x).deep≤(n+1:Nat))=>(by
 dsimp only[cA,mbs,Bc,Ab,Av,rA,rdG,BU,Ik,Ml,CH,JK,Ek,Mk,Ew,Cr,Ev,HG,CR,EO,Il,CE,Ft,Hb,Bu,sgs,Au,Az,mvL,lnL,mvE,lnE]
 obtain⟨s,p,d,b,ns,e⟩:=x;dsimp only[xg,xh] at hx ⊢
 obtain⟨⟨hx,hb⟩,hd⟩:=hx
 have hx:okD s ⟨p,d,b,ns⟩:=hx;have hp:=NQ (x:=⟨p,d,b,ns⟩) hb;have hd2:=hx.2;dsimp only at hd2
 (repeat' first|(with_reducible first|rfl|exact True.intro|apply AK|apply And.intro|((first|apply AA|apply AI|apply AB|apply AJ)<;>intro _))|(apply Ax<;>intro _)|apply AH|refine Ae () ?_ ?_|((first|apply AO|apply AN|apply AM|apply AL|apply AG|apply AF|apply AE|apply AD|apply AC)<;>try dsimp only)|apply Ae|(refine Prod.forall.2 ?_;intro _;try dsimp only)|(intro _;try dsimp only))
 all_goals(try dsimp only[xg,xh,yG,yS,iG] at*)
 all_goals(try simp only[CP,hp] at*)
 all_goals first
  |rfl
  |exact hx.1
  |exact hd2
  |assumption
  |exact PM hx ‹_›
  |exact Mj hx ‹_›
  |exact(Mj hx ‹_›).1
  |exact a3G hx.1.1 hx.1.2 ‹_›
  |exact a3H hx.1.2 ‹_› ‹_› ‹_›
  |exact WI hx.1.2 ‹_› ‹_› ‹_› ‹_›
  |exact WJ hx.1.2 ‹_› ‹_› ‹_› ‹_› ‹_›
  |exact a4b hx ‹_› ‹_› ‹_› ‹_› ‹_› ‹_› ‹_›
  |exact b4S hx.1 ‹_› ‹_› ‹_› ‹_› ‹_› ‹_› ‹_› ‹_› ‹_›
  |exact WQ hx.1 ‹_› ‹_› ‹_› ‹_› ‹_› (.inl ‹_›) ‹_›
  |exact WQ hx.1 ‹_› ‹_› ‹_› ‹_› ‹_› (.inr (.inl ‹_›)) ‹_›
  |exact WQ hx.1 ‹_› ‹_› ‹_› ‹_› ‹_› (.inr (.inr ‹_›)) ‹_›
  |exact Ij hx.1
  |exact(El (Ij hx.1)).1
  |exact a4d hx
  |exact Dt hx.1 ‹_›
  |exact DN (HF hx.1.1) (by simp)
  |exact DN (by simp) (by simp)
  |exact(show AW 2 8 by simp [AW])
  |omega
  |skip
 all_goals(try(have hc:=(show Bl s.sg _ (Dx s.sg) _ by assumption);have k1:=Mi (Mj hx ‹_›) hc;have k2:=SB (n:=n) (x:=An ⟨p,d,b,ns⟩) (by simp only[An];omega) hc))
 all_goals first
  |exact k1
  |exact k2
  |exact(PN k1 ‹_›).1
  |skip)
end Go.My
end
section
namespace Go.My
open Go.Eng Go.Proofs
variable {G:GInv}
theorem b4W(n:Nat):Ai G Go.Proofs.Tryz.prog 203 (KP n):=by
 induction n with
 |zero=>exact Gx Tryz.func203 rfl (by decide) (fun x h=>by have h1:=h.1.1.2;have h2:=h.2;omega)
 |succ n ih=>exact b4V n ih
def Mm:Sig:= {X:=ST×Int×Int×Bool×List Nd,args:=fun x=>[rdG x.1 (xg x)],pre:=fun x=>okD x.1 (xg x),Y:=Int×Int×Int×Bool×List Nd,post:=fun x y=>Ag x.1.sg (xg x) (EN x.1.sg) (yS y),res:=fun x y=> .int .i64 y.1,outs:=fun x y=>[rdG x.1 (yG y.2)],keep:=true}
theorem a4f{s:ST}{g:Gs}(h:okD s g):okD s g∧20-g.deep≤(stN:Int):=by
 have h1:=h.1.2.2.1.1
 exact⟨h,by unfold stN;omega⟩
theorem a4g:Ai G Go.Proofs.Tryz.prog 177 Mm:=
 have c:=WT (G:=G) stN (b4W stN)
 ⟨⟨c.1.1,fun x y hx hy=>c.1.2 x y (a4f hx) hy⟩,fun x hx=>c.2 x (a4f hx)⟩
theorem PP{s:ST}{x:Gs}(h:rOk s x):rOk s (BR s.sg x)∧rOk s (Aq s.sg (BR s.sg x) [40]):=⟨Ij h,(El (Ij h)).1⟩
theorem SC{s:ST}{x:Gs}{one:Ps→PR}{m:List UInt8}{l:List Int×Gs}(h:okD s x)(hl:Bl s.sg (Aq s.sg (BR s.sg x) [40]) (Bn s.sg one m (s.sg.length+1) []) l∧l.1.length≤3001):okD s l.2∧okD s (Aq s.sg l.2 [41]):=by
 have a:okD s (Aq s.sg (BR s.sg x) [40]):=⟨(PP h.1).2,a4d h⟩
 have b:=Mi a hl.1
 have c:=El (m:=[41]) b.1
 exact⟨b,c.1,by rw[c.2];exact b.2⟩
theorem a4h{s:ST}{x:Gs}{b:Bool}{l:List Int×Gs}{q:Int×Gs}(h:okD s x)(hl:Bl s.sg (Aq s.sg (BR s.sg x) [40]) (Bn s.sg (BB s.sg) [41] (s.sg.length+1) []) l∧l.1.length≤3001)
 (hq:Ag s.sg (Aq s.sg l.2 [41]) (EN s.sg) q):Ag s.sg x (Gq s.sg b) (AQ q.2,Ah q.2 ⟨20,BS s.sg x,l.1++[q.1],b⟩):=a3K h.1.1 h.1.2 hl.1 hl.2 hq
def clJ(sg:List Sg)(x y:Gs)(ks:List Int)(N:Nat):Prop:=Ja sg (Dn sg) [125] (Aq sg (BR sg (An x)) [123]) y ks N∧y.deep=x.deep
theorem b4X{s:ST}{x:Gs}(h:okN s x):clJ s.sg x (Aq s.sg (BR s.sg (An x)) [123]) [] (s.sg.length+1):=by
 have a:=KO h
 refine⟨Su (El (Ij a.1)).1.2,?_⟩
 rw[(El (Ij a.1)).2,(WN a.1).1];rfl
theorem a4i{s:ST}{x y:Gs}{ks:List Int}{N:Nat}(h:okN s x)(hj:clJ s.sg x y ks N):okD s y:=⟨⟨h.1.1.1,hj.1.1.1⟩,by have:=hj.2;have:=h.1.2;omega⟩
theorem WU{s:ST}{x y:Gs}{ks:List Int}{N:Nat}(h:okN s x)(hj:clJ s.sg x y ks N):ks.length≤3001:=by
 have:=hj.1.2.2.1;have:=hj.1.1.1.1;have:=h.1.1.1.1;omega
theorem SD{s:ST}{x y:Gs}{ks:List Int}{N:Nat}{b:Bool}{z:Int×Gs}(hj:clJ s.sg x y ks N)(hb:y.bad=false)(hq:isG s.sg y 4 [125]=false)(hz:Ag s.sg y (Dn s.sg b) z)(e:b=((pkG s.sg y 0).blank&&decide (0<(ks.length:Int)))):
 clJ s.sg x z.2 (ks++[z.1]) (N-1)∧N-1<N:=by
 subst e
 obtain⟨a,b⟩:=HC (Sx hj.1 hb hq (z:=z) (by
  have:decide (0<ks.length)=decide (0<(ks.length:Int)):=by simp
  rw[this];exact hz))
 have:=(CF hz).1
 exact⟨⟨a,by have:=hj.2;omega⟩,b⟩
theorem b4Y{s:ST}{x y:Gs}{ks:List Int}{N:Nat}{b:Bool}(h:okN s x)(hj:clJ s.sg x y ks N):Cz ⟨21,BS s.sg (An x),ks,b⟩:=DN (HF h.1.1.1) (by have:=WU h hj;omega)
theorem a4j{s:ST}{x y:Gs}{ks:List Int}{N:Nat}{b:Bool}(h:okN s x)(hj:clJ s.sg x y ks N)(hy:y.bad=true∨isG s.sg y 4 [125]=true):
 Ag s.sg (An x) (Gr s.sg b) (BC s.sg y [125],Bs s.sg y [125] ⟨21,BS s.sg (An x),ks,b⟩):=by
 refine a3L (l:=(ks,y)) h.1.1.1 (KO h).1.2 ?_ (WU h hj)
 rcases hy with hy|hy
 ·exact Sv hj.1 hy
 ·exact Sw hj.1 hy
def a4k:Sig:= {X:=ST×Int×Int×Bool×List Nd×Bool,args:=fun x=>[rdG x.1 (xh x),.bool x.2.2.2.2.2],pre:=fun x=>False,Y:=Int×Int×Int×Bool×List Nd,post:=fun x y=>True,res:=fun x y=> .int .i64 y.1,outs:=fun x y=>[rdG x.1 (yG y.2),.top],keep:=true}
theorem b4Z:Ai G Go.Proofs.Tryz.prog 172 a4k:=Gx Tryz.func172 rfl (by decide) (fun x h=>h)
attribute [local irreducible] pE Bn Dc fnR Ag Bl gsOk Aq Bs Ah BX De Al CD Dp AQ BC pkG isG nmG BR BS DC Gv Dx Ce BH stR CW EN Gq Dn DD Gr BB
def JL:Sig:= {X:=ST×Int×Int×Bool×List Nd×Bool,args:=fun x=>[rdG x.1 (xh x),.bool x.2.2.2.2.2,.bool false],pre:=fun x=>okD x.1 (xh x)∧(xh x).bad=false,Y:=Int×Int×Int×Bool×List Nd,post:=fun x y=>Ag x.1.sg (xh x) (Dn x.1.sg x.2.2.2.2.2) (yS y),res:=fun x y=> .int .i64 y.1,outs:=fun x y=>[rdG x.1 (yG y.2),.top,.top],keep:=true}
theorem b5a:Ai G Tryz.prog 132 JL:=
 vcFun_okP [(133,0,Cr),(169,0,HG),(170,0,Ek),(171,0,Hb),(172,0,a4k),(173,0,Ew),(174,0,CE),(175,176+1,Gu),(177,0,Mm),(134,0,BU)] [(25,⟨Int,AZ⟩)] false (fun x=>[]) Tryz.func132 rfl (by decide) ⟨Hy,WR,RG,WS,b4Z,Py,Jz,WB,a4g,GW,trivial⟩ (fun(x:ST×Int×Int×Bool×List Nd×Bool)=>True∧cA Cr [rdG x.1 (xh x)] fun x_1 y=>Aa ((pkG x_1.1.sg (xg x_1) (0:Int)).kind==(5:Int)) (cA HG [rdG x_1.1 (xg x_1),.bool x.2.2.2.2.2] fun x_2 y=>rA JL x [.int .i64 (AQ (xh x_2)),rdG x_2.1 (De x_2.1.sg (xh x_2) (19:Int) x_2.2.2.2.2.2),.top,.top]) (cA Ek [rdG x_1.1 (xg x_1),.str #[(118:UInt8),(97:UInt8),(114:UInt8)].toList] fun x_2 y=>Aa (isG x_2.1.sg (xh x_2) (1:Int) x_2.2.2.2.2.2) (cA Hb [rdG x_2.1 (xh x_2),.bool x.2.2.2.2.2] fun x_3 y=>rA JL x [.int .i64 y.1,rdG x_3.1 (yG y.2),.top,.top]) (cA Ew [rdG x_2.1 (xh x_2)] fun x_3 y=>cA CE [rdG x_3.1 (BR x_3.1.sg (xg x_3)),.str #[(40:UInt8)].toList] fun x_4 y=>(True∧True)∧cA Gu [rdG x_4.1 (Aq x_4.1.sg (xh x_4) x_4.2.2.2.2.2),.str #[(41:UInt8)].toList,AV.clo (Fn.yield (139:Nat)) [AV.al (0:Nat)]] fun x_5 y=>cA CE [rdG x_5.1 (yG y.2),.str #[(41:UInt8)].toList] fun x_6 y_1=>cA Mm [rdG x_6.1 (Aq x_6.1.sg (xh x_6) x_6.2.2.2.2.2)] fun x_7 y_2=>∃(x_8:Int),y_2.1=x_8∧∃(zs:List Int),Ab [x_8]=Ab zs∧Bj AZ∧AW (List.length y.1+List.length zs) (8:Nat)∧cA BU [rdG x_7.1 (yG y_2.2),.agg [.int .i64 (20:Int),.str (BS x_3.1.sg (xg x_3)),Ab (y.1++zs),.bool x.2.2.2.2.2]] fun x_9 y=>rA JL x [.int .i64 (AQ (xh x_9)),rdG x_9.1 (Ah (xh x_9) {kind:=x_9.2.2.2.2.2.1,text:=x_9.2.2.2.2.2.2.1,kids:=x_9.2.2.2.2.2.2.2.1,blank:=x_9.2.2.2.2.2.2.2.2}),.top,.top]))) (fun x=>by kernel_rfl) fun(x:ST×Int×Int×Bool×List Nd×Bool) (hx:okD x.1 (xh x)∧(xh x).bad=false)=>(by
 dsimp only[cA,mbs,Bc,Ab,Av,rA,rdG,BU,Mm,Ek,Gu,JL,Ew,Cr,HG,CE,Hb,Bu,sgs,Au,Az,mvL,lnL,mvE,lnE]
 obtain⟨s,p,d,b,ns,e⟩:=x;dsimp only[xg,xh] at hx ⊢
 obtain⟨hx,hb⟩:=hx
 have hx:okD s ⟨p,d,b,ns⟩:=hx
 (repeat' first|(with_reducible first|rfl|exact True.intro|apply AK|apply And.intro|((first|apply AA|apply AI|apply AB|apply AJ)<;>intro _))|(apply Ax<;>intro _)|apply AH|refine Ae () ?_ ?_|((first|apply AO|apply AN|apply AM|apply AL|apply AG|apply AF|apply AE|apply AD|apply AC)<;>try dsimp only)|apply Ae|(refine Prod.forall.2 ?_;intro _;try dsimp only)|(intro _;try dsimp only))
 all_goals(try dsimp only[xg,xh,yG,yS,iG] at*)
 all_goals(try simp only[CP] at*)
 all_goals first
  |rfl
  |exact hx.1
  |(exfalso;assumption)
  |assumption
  |contradiction
  |exact PM hx ‹_›
  |exact a3M hx.1.1 hx.1.2 ‹_›
  |exact a3N hx.1.2 ‹_› ‹_› ‹_›
  |exact(PP hx.1).1
  |exact(PP hx.1).2
  |exact(SC hx ‹_›).1.1
  |exact(SC hx ‹_›).2
  |exact Dt hx.1 ‹_›
  |exact a3O hx.1.2 ‹_› ‹_› (a4h hx ‹_› ‹_›)
  |(have hq2:=And.right (show Bl _ _ _ _∧_ by assumption);(try simp only[AW,List.length_append,List.length_cons,List.length_nil]);omega)
  |skip)
def Mn:Sig:= {X:=ST×Int×Int×Bool×List Nd×Bool,args:=fun x=>[rdG x.1 (xh x),.bool x.2.2.2.2.2],pre:=fun x=>okN x.1 (xh x),Y:=Int×Int×Int×Bool×List Nd,post:=fun x y=>Ag x.1.sg (An (xh x)) (Gr x.1.sg x.2.2.2.2.2) (yS y),res:=fun x y=> .int .i64 y.1,outs:=fun x y=>[rdG x.1 (yG y.2),.top],keep:=true}
def PQ(x:ST×Int×Int×Bool×List Nd×Bool):LS:= {ι:=Int×Int×Bool×List Nd×List Int×Nat,inv:=fun i=>clJ x.1.sg (xh x) (iG i) i.2.2.2.2.1 i.2.2.2.2.2,regs:=fun i=>[(0,rdG x.1 (iG i)),(1,.bool x.2.2.2.2.2),(5,.str (BS x.1.sg (An (xh x)))),(6,Ab i.2.2.2.2.1)],als:=[],meas:=fun i=>i.2.2.2.2.2}
theorem b5b:Ai G Tryz.prog 172 Mn:=
 vcFun_okP [(195,0,CR),(173,0,Ew),(174,0,CE),(199,0,CA),(133,0,Cr),(132,0,JL),(198,0,CH)] [(25,⟨Int,AZ⟩)] false (fun x=>[(5,PQ x)]) Tryz.func172 rfl (by decide) ⟨JA,Py,Jz,Ib,Hy,b5a,LY,trivial⟩ (fun(x:ST×Int×Int×Bool×List Nd×Bool)=>True∧cA CR [rdG x.1 (xh x)] fun x_1 y=>cA Ew [rdG x_1.1 (BX (xg x_1))] fun x_2 y=>cA CE [rdG x_2.1 (BR x_2.1.sg (xg x_2)),.str #[(123:UInt8)].toList] fun x_3 y=>eA (PQ x) [rdG x_3.1 (Aq x_3.1.sg (xh x_3) x_3.2.2.2.2.2),.bool x.2.2.2.2.2,.str (BS x_2.1.sg (xg x_2)),.nil]∧∀(i:Int×Int×Bool×List Nd×List Int×Nat),clJ x.1.sg (xh x) (iG i) i.2.2.2.2.1 i.2.2.2.2.2→Aa (!(iG i).bad) (cA CA [rdG x.1 (iG i),.str #[(125:UInt8)].toList] fun x_4 y=>Aa (!isG x_4.1.sg (xh x_4) (4:Int) x_4.2.2.2.2.2) (cA Cr [rdG x_4.1 (xh x_4)] fun x_5 y=>Aa (pkG x_5.1.sg (xg x_5) (0:Int)).blank (cA JL [rdG x_5.1 (xg x_5),.bool (decide ((↑(List.length i.2.2.2.2.1):Int)>(0:Int))),.bool false] fun x_6 y=>∃(x_7:Int),y.1=x_7∧∃(zs:List Int),Ab [x_7]=Ab zs∧Bj AZ∧AW (List.length i.2.2.2.2.1+List.length zs) (8:Nat)∧eN (PQ x) i [rdG x_6.1 (yG y.2),.bool x.2.2.2.2.2,.str (BS x.1.sg (An (xh x))),Ab (i.2.2.2.2.1++zs)]) (cA JL [rdG x_5.1 (xg x_5),.bool false,.bool false] fun x_6 y=>∃(x_7:Int),y.1=x_7∧∃(zs:List Int),Ab [x_7]=Ab zs∧Bj AZ∧AW (List.length i.2.2.2.2.1+List.length zs) (8:Nat)∧eN (PQ x) i [rdG x_6.1 (yG y.2),.bool x.2.2.2.2.2,.str (BS x.1.sg (An (xh x))),Ab (i.2.2.2.2.1++zs)])) (cA CH [rdG x_4.1 (xh x_4),.str #[(125:UInt8)].toList,.agg [.int .i64 (21:Int),.str (BS x.1.sg (An (xh x))),Ab i.2.2.2.2.1,.bool x.2.2.2.2.2]] fun x_5 y=>rA Mn x [.int .i64 (BC x_5.1.sg (xh x_5) x_5.2.2.2.2.2.1),rdG x_5.1 (Bs x_5.1.sg (xh x_5) x_5.2.2.2.2.2.1 {kind:=x_5.2.2.2.2.2.2.1,text:=x_5.2.2.2.2.2.2.2.1,kids:=x_5.2.2.2.2.2.2.2.2.1,blank:=x_5.2.2.2.2.2.2.2.2.2}),.top])) (cA CH [rdG x.1 (iG i),.str #[(125:UInt8)].toList,.agg [.int .i64 (21:Int),.str (BS x.1.sg (An (xh x))),Ab i.2.2.2.2.1,.bool x.2.2.2.2.2]] fun x_4 y=>rA Mn x [.int .i64 (BC x_4.1.sg (xh x_4) x_4.2.2.2.2.2.1),rdG x_4.1 (Bs x_4.1.sg (xh x_4) x_4.2.2.2.2.2.1 {kind:=x_4.2.2.2.2.2.2.1,text:=x_4.2.2.2.2.2.2.2.1,kids:=x_4.2.2.2.2.2.2.2.2.1,blank:=x_4.2.2.2.2.2.2.2.2.2}),.top])) (fun x=>by kernel_rfl) fun(x:ST×Int×Int×Bool×List Nd×Bool) (hx:okN x.1 (xh x))=>(by
 dsimp only[cA,eA,eN,PQ,mbs,Bc,Ab,Av,rA,rdG,Mn,CH,CA,JL,Ew,Cr,CR,CE,Bu,sgs,Au,Az,mvL,lnL,mvE,lnE,Bq]
 obtain⟨s,p,d,b,ns,e⟩:=x;dsimp only[xg,xh] at hx ⊢
 have hx:okN s ⟨p,d,b,ns⟩:=hx
 have hp:=NQ hx.2.1
 obtain⟨h1,h2⟩:=KO hx
 (repeat' first|(with_reducible first|rfl|exact True.intro|apply AK|apply And.intro|((first|apply AA|apply AI|apply AB|apply AJ)<;>intro _))|(apply Ax<;>intro _)|apply AH|refine Ae () ?_ ?_|((first|apply AO|apply AN|apply AM|apply AL|apply AG|apply AF|apply AE|apply AD|apply AC)<;>try dsimp only)|apply Ae|(refine Prod.forall.2 ?_;intro _;try dsimp only)|(intro _;try dsimp only))
 all_goals(try dsimp only[xg,xh,yG,yS,iG] at*)
 all_goals(try simp only[CP,hp] at*)
 all_goals first
  |(show Nat;skip)
  |rfl
  |exact hx.1.1
  |exact h1
  |exact Ij h1
  |exact b4X hx
  |assumption
  |exact a4i hx ‹_›
  |exact(a4i hx ‹_›).1
  |exact b4Y hx ‹_›
  |exact(SD ‹_› ‹_› ‹_› ‹_› (GZ ‹_›)).1
  |exact(SD ‹_› ‹_› ‹_› ‹_› (Ha ‹_›)).1
  |exact a4j hx ‹_› (.inl ‹_›)
  |exact a4j hx ‹_› (.inr ‹_›)
  |(have hq:=WU hx (show clJ _ _ _ _ _ by assumption);(try simp only[AW,List.length_append,List.length_cons,List.length_nil]);omega)
  |skip
 all_goals first
  |exact(SD ‹_› ‹_› ‹_› ‹_› (GZ ‹_›)).2
  |exact(SD ‹_› ‹_› ‹_› ‹_› (Ha ‹_›)).2
  |skip)
def Jb:Sig:= {X:=ST×Int×Int×Bool×List Nd×Bool,args:=fun x=>[rdG x.1 (xh x),.bool x.2.2.2.2.2,.bool true],pre:=fun x=>okD x.1 (xh x)∧(xh x).bad=false,Y:=Int×Int×Int×Bool×List Nd,post:=fun x y=>Ag x.1.sg (xh x) (DD x.1.sg x.2.2.2.2.2) (yS y),res:=fun x y=> .int .i64 y.1,outs:=fun x y=>[rdG x.1 (yG y.2),.top,.top],keep:=true}
theorem b5c:Ai G Tryz.prog 132 Jb:=
 vcFun_okP [(133,0,Cr),(169,0,HG),(170,0,Ek),(171,0,Hb),(172,0,Mn),(173,0,Ew),(174,0,CE),(175,176+1,Gu),(177,0,Mm),(134,0,BU)] [(25,⟨Int,AZ⟩)] false (fun x=>[]) Tryz.func132 rfl (by decide) ⟨Hy,WR,RG,WS,b5b,Py,Jz,WB,a4g,GW,trivial⟩ (fun(x:ST×Int×Int×Bool×List Nd×Bool)=>True∧cA Cr [rdG x.1 (xh x)] fun x_1 y=>Aa ((pkG x_1.1.sg (xg x_1) (0:Int)).kind==(5:Int)) (cA HG [rdG x_1.1 (xg x_1),.bool x.2.2.2.2.2] fun x_2 y=>rA Jb x [.int .i64 (AQ (xh x_2)),rdG x_2.1 (De x_2.1.sg (xh x_2) (19:Int) x_2.2.2.2.2.2),.top,.top]) (cA Ek [rdG x_1.1 (xg x_1),.str #[(118:UInt8),(97:UInt8),(114:UInt8)].toList] fun x_2 y=>Aa (isG x_2.1.sg (xh x_2) (1:Int) x_2.2.2.2.2.2) (cA Hb [rdG x_2.1 (xh x_2),.bool x.2.2.2.2.2] fun x_3 y=>rA Jb x [.int .i64 y.1,rdG x_3.1 (yG y.2),.top,.top]) (cA Ek [rdG x_2.1 (xh x_2),.str #[(99:UInt8),(108:UInt8),(97:UInt8),(115:UInt8),(115:UInt8)].toList] fun x_3 y=>Aa (isG x_3.1.sg (xh x_3) (1:Int) x_3.2.2.2.2.2) (cA Mn [rdG x_3.1 (xh x_3),.bool x.2.2.2.2.2] fun x_4 y=>rA Jb x [.int .i64 y.1,rdG x_4.1 (yG y.2),.top,.top]) (cA Ew [rdG x_3.1 (xh x_3)] fun x_4 y=>cA CE [rdG x_4.1 (BR x_4.1.sg (xg x_4)),.str #[(40:UInt8)].toList] fun x_5 y=>(True∧True)∧cA Gu [rdG x_5.1 (Aq x_5.1.sg (xh x_5) x_5.2.2.2.2.2),.str #[(41:UInt8)].toList,AV.clo (Fn.yield (139:Nat)) [AV.al (0:Nat)]] fun x_6 y=>cA CE [rdG x_6.1 (yG y.2),.str #[(41:UInt8)].toList] fun x_7 y_1=>cA Mm [rdG x_7.1 (Aq x_7.1.sg (xh x_7) x_7.2.2.2.2.2)] fun x_8 y_2=>∃(x_9:Int),y_2.1=x_9∧∃(zs:List Int),Ab [x_9]=Ab zs∧Bj AZ∧AW (List.length y.1+List.length zs) (8:Nat)∧cA BU [rdG x_8.1 (yG y_2.2),.agg [.int .i64 (20:Int),.str (BS x_4.1.sg (xg x_4)),Ab (y.1++zs),.bool x.2.2.2.2.2]] fun x_10 y=>rA Jb x [.int .i64 (AQ (xh x_10)),rdG x_10.1 (Ah (xh x_10) {kind:=x_10.2.2.2.2.2.1,text:=x_10.2.2.2.2.2.2.1,kids:=x_10.2.2.2.2.2.2.2.1,blank:=x_10.2.2.2.2.2.2.2.2}),.top,.top])))) (fun x=>by kernel_rfl) fun(x:ST×Int×Int×Bool×List Nd×Bool) (hx:okD x.1 (xh x)∧(xh x).bad=false)=>(by
 dsimp only[cA,mbs,Bc,Ab,Av,rA,rdG,BU,Mm,Mn,Ek,Gu,Jb,Ew,Cr,HG,CE,Hb,Bu,sgs,Au,Az,mvL,lnL,mvE,lnE]
 obtain⟨s,p,d,b,ns,e⟩:=x;dsimp only[xg,xh] at hx ⊢
 obtain⟨hx,hb⟩:=hx
 have hx:okD s ⟨p,d,b,ns⟩:=hx
 (repeat' first|(with_reducible first|rfl|exact True.intro|apply AK|apply And.intro|((first|apply AA|apply AI|apply AB|apply AJ)<;>intro _))|(apply Ax<;>intro _)|apply AH|refine Ae () ?_ ?_|((first|apply AO|apply AN|apply AM|apply AL|apply AG|apply AF|apply AE|apply AD|apply AC)<;>try dsimp only)|apply Ae|(refine Prod.forall.2 ?_;intro _;try dsimp only)|(intro _;try dsimp only))
 all_goals(try dsimp only[xg,xh,yG,yS,iG] at*)
 all_goals(try simp only[CP] at*)
 all_goals first
  |rfl
  |exact hx.1
  |(exfalso;assumption)
  |assumption
  |contradiction
  |exact PM hx ‹_›
  |exact a3P hx.1.1 hx.1.2 ‹_›
  |exact a3Q hx.1.2 ‹_› ‹_› ‹_›
  |exact a3R hx.1.2 ‹_› ‹_› ‹_› ‹_›
  |exact(PP hx.1).1
  |exact(PP hx.1).2
  |exact(SC hx ‹_›).1.1
  |exact(SC hx ‹_›).2
  |exact Dt hx.1 ‹_›
  |exact a3S hx.1.2 ‹_› ‹_› ‹_› (a4h hx ‹_› ‹_›)
  |(have hq2:=And.right (show Bl _ _ _ _∧_ by assumption);(try simp only[AW,List.length_append,List.length_cons,List.length_nil]);omega)
  |skip)
end Go.My
end
section
namespace Go.My
open Go.Eng
def Im(t:List UInt8)(i br:Int)(l:List Sg)(n:Nat):Prop:=
 (0≤i∧i≤t.length)∧(0≤br∧br≤i)∧(l.length:Int)≤i∧(t.length:Int)-i<n∧Fq t (t.length+1) 0 0=(Fq t n i br).map (l++ ·)
theorem b5d{t:List UInt8}:Im t 0 0 [] (t.length+1):=by
 refine⟨by omega,by omega,by simp,by simp;omega,?_⟩
 cases Fq t (t.length+1) 0 0<;>simp
theorem SE{t:List UInt8}{n:Nat}{i br:Int}{c:UInt8}(hc:t[i.toNat]? =some c):Fq t (n+1) i br=if c.toNat=32 then Fq t n (i+1) br
 else if c.toNat=10 then Fq t n (i+1) (br+1)
 else if(Bb (t.drop i.toNat)).ok then(Fq t n (i+(Bb (t.drop i.toNat)).size) 0).map (⟨(Bb (t.drop i.toNat)).kind,(Bb (t.drop i.toNat)).text,i,decide (br>1)⟩:: ·)
 else none:=by rw[Fq,hc]
theorem SF{t:List UInt8}{i br:Int}{l:List Sg}{n:Nat}(h:Im t i br l n)(hi:i<t.length):∃m,n=m+1:=by
 obtain⟨h1,h2,h3,h4,h5⟩:=h
 match n with
 |0=>omega
 |m+1=>exact⟨m,rfl⟩
theorem b5e{t:List UInt8}{i br:Int}{l:List Sg}{n:Nat}{c:UInt8}(hc:t[i.toNat]? =some c)(h:Im t i br l (n+1))(hi:i<t.length)(h32:c.toNat=32):Im t (i+1) br l n:=by
 obtain⟨h1,h2,h3,h4,h5⟩:=h
 refine⟨by omega,by omega,by omega,by omega,?_⟩
 rw[h5,SE hc,if_pos h32]
theorem b5f{t:List UInt8}{i br:Int}{l:List Sg}{n:Nat}{c:UInt8}(hc:t[i.toNat]? =some c)(h:Im t i br l (n+1))(hi:i<t.length)(h32:c.toNat=10):Im t (i+1) (br+1) l n:=by
 obtain⟨h1,h2,h3,h4,h5⟩:=h
 refine⟨by omega,by omega,by omega,by omega,?_⟩
 rw[h5,SE hc,if_neg (by omega),if_pos h32]
theorem b5g{t:List UInt8}{i br:Int}{l:List Sg}{n:Nat}{c:UInt8}(hc:t[i.toNat]? =some c)(h:Im t i br l (n+1))(hi:i<t.length)(h32:c.toNat≠32)(h10:c.toNat≠10)
 (hok:(Bb (t.drop i.toNat)).ok=true) (hz:1≤(Bb (t.drop i.toNat)).size∧(Bb (t.drop i.toNat)).size≤t.length-i):
 Im t (i+(Bb (t.drop i.toNat)).size) 0 (l++[⟨(Bb (t.drop i.toNat)).kind,(Bb (t.drop i.toNat)).text,i,decide (br>1)⟩]) n:=by
 obtain⟨h1,h2,h3,h4,h5⟩:=h
 refine⟨by omega,by omega,by simp;omega,by omega,?_⟩
 rw[h5,SE hc,if_neg h32,if_neg h10,if_pos hok]
 cases Fq t n (i+(Bb (t.drop i.toNat)).size) 0<;>simp
theorem b5h{t:List UInt8}{i br:Int}{l:List Sg}{n:Nat}{c:UInt8}(hc:t[i.toNat]? =some c)(h:Im t i br l (n+1))(hi:i<t.length)(h32:c.toNat≠32)(h10:c.toNat≠10)
 (hok:(Bb (t.drop i.toNat)).ok=false) (hl:¬3000<t.length):Cj t=none:=by
 rw[Cj,if_neg hl,h.2.2.2.2,SE hc,if_neg h32,if_neg h10,if_neg (by simp [hok])];rfl
theorem b5i{t:List UInt8}{i br:Int}{l:List Sg}{n:Nat}(h:Im t i br l n)(hi:¬i<t.length)(hl:¬3000<t.length):Cj t=some l:=by
 obtain⟨h1,h2,h3,h4,h5⟩:=h
 rw[Cj,if_neg hl,h5]
 match n with
 |0=>omega
 |n+1=>rw[Fq,List.getElem?_eq_none (by omega)];simp
theorem b5j{t:List UInt8}(h:3000<t.length):Cj t=none:=if_pos h
end Go.My
end
section
namespace Go.My
open Go.Eng Go.Proofs
variable {G:GInv}
theorem WV{p:UInt8→Bool}{b:UInt8}{s:List UInt8}(h:p b=true):1≤((b::s).takeWhile p).length:=by
 rw[List.takeWhile_cons,if_pos h];simp
theorem SG{p:UInt8→Bool}{s:List UInt8}:(s.takeWhile p).length≤s.length:=(List.takeWhile_prefix p).length_le
theorem b5k{s:List UInt8}:(CL s).length≤s.length:=by
 unfold CL
 have:=(List.dropWhile_suffix (fun c:UInt8=>decide (c.toNat=32)) (l:=s.reverse)).length_le
 simpa using this
theorem a4l{s:List UInt8}(h:(Bb s).ok=true):1≤(Bb s).size∧(Bb s).size≤s.length∧(Bb s).text.length≤s.length:=by
 match s with
 |[]=>cases h
 |b::s=>
  unfold Bb at h ⊢
  simp only at h ⊢
  split
  ·rename_i hb
   have:=WV (s:=s) (p:=BP) (b:=b) (by simp [BP,hb]);have:=SG (p:=BP) (s:=b::s);simp only;omega
  ·rename_i hb
   rw[if_neg hb] at h
   split
   ·rename_i hb2
    have:=WV (s:=s) (p:=Bh) (b:=b) hb2;have:=SG (p:=Bh) (s:=b::s);simp only;omega
   ·rename_i hb2
    rw[if_neg hb2] at h
    split
    ·rename_i hb3
     rw[if_pos hb3] at h
     simp only at h ⊢
     unfold DG at h ⊢
     split at h
     ·cases h
     ·simp only[List.length_take,List.length_cons] at*;omega
    ·rename_i hb3
     rw[if_neg hb3] at h
     split
     ·rename_i hb4
      have hb5:b=47:=by
       cases s with
       |nil=>simp at hb4
       |cons c s=>simp at hb4;exact hb4.1
      have h1:=WV (s:=s) (p:=Ch) (b:=b) (by subst hb5;rfl);have h2:=SG (p:=Ch) (s:=b::s);have h3:= @b5k ((b::s).takeWhile Ch)
      simp only;omega
     ·rename_i hb4
      rw[if_neg hb4] at h
      split
      ·simp only[List.length_take,List.length_cons];omega
      ·rename_i hb5
       rw[if_neg hb5] at h
       split
       ·simp only[List.length_take,List.length_cons];omega
       ·rename_i hb6
        rw[if_neg hb6] at h
        cases h
def sgJ(t:List UInt8)(i br:Int)(l:List Sg)(n:Nat):Prop:=(Im t i br l n∧¬3000<t.length)∧∀e∈l,e.text.length≤3000
theorem a4m{t:List UInt8}(h:¬(t.length:Int)>3000):sgJ t 0 0 [] (t.length+1):=⟨⟨b5d,by omega⟩,by simp⟩
theorem JM{t:List UInt8}{i br:Int}{l:List Sg}{n:Nat}(h:sgJ t i br l n):((0≤i∧i≤t.length)∧(0≤br∧br≤i)∧(l.length:Int)≤i)∧t.length≤3000:=by
 have:=h.1.1;have:=h.1.2;exact⟨⟨h.1.1.1,h.1.1.2.1,h.1.1.2.2.1⟩,by omega⟩
theorem SH{t:List UInt8}{i br:Int}{l:List Sg}{n:Nat}{c:UInt8}(hc:t[i.toNat]? =some c)(h:sgJ t i br l n)(hi:i<t.length)(h32:c.toNat=32):sgJ t (i+1) br l (n-1)∧n-1<n:=by
 obtain⟨m,rfl⟩:=SF h.1.1 hi
 exact⟨⟨⟨b5e hc h.1.1 hi h32,h.1.2⟩,h.2⟩,by omega⟩
theorem SI{t:List UInt8}{i br:Int}{l:List Sg}{n:Nat}{c:UInt8}(hc:t[i.toNat]? =some c)(h:sgJ t i br l n)(hi:i<t.length)(h32:c.toNat=10):sgJ t (i+1) (br+1) l (n-1)∧n-1<n:=by
 obtain⟨m,rfl⟩:=SF h.1.1 hi
 exact⟨⟨⟨b5f hc h.1.1 hi h32,h.1.2⟩,h.2⟩,by omega⟩
theorem WW{t:List UInt8}{i br:Int}{l:List Sg}{n:Nat}(h:sgJ t i br l n)(hok:(Bb (t.drop i.toNat)).ok=true):1≤(Bb (t.drop i.toNat)).size∧(Bb (t.drop i.toNat)).size≤t.length-i∧(Bb (t.drop i.toNat)).text.length≤3000:=by
 have a:=a4l hok
 have b:=(JM h)
 simp only[List.length_drop] at a
 omega
theorem WX{t:List UInt8}{i br:Int}{l:List Sg}{n:Nat}{c:UInt8}(hc:t[i.toNat]? =some c)(h:sgJ t i br l n)(hi:i<t.length)(h32:c.toNat≠32)(h10:c.toNat≠10)
 (hok:(Bb (t.drop i.toNat)).ok=true):
 sgJ t (i+(Bb (t.drop i.toNat)).size) 0 (l++[⟨(Bb (t.drop i.toNat)).kind,(Bb (t.drop i.toNat)).text,i,decide (br>1)⟩]) (n-1)∧n-1<n:=by
 obtain⟨m,rfl⟩:=SF h.1.1 hi
 have hz:=WW h hok
 refine⟨⟨⟨b5g hc h.1.1 hi h32 h10 hok ⟨hz.1,hz.2.1⟩,h.1.2⟩,?_⟩,by omega⟩
 intro e he
 rcases List.mem_append.1 he with he|he
 ·exact h.2 e he
 ·simp at he;subst he;exact hz.2.2
theorem WY{t:List UInt8}{i br:Int}{l:List Sg}{n:Nat}{c:UInt8}(hc:t[i.toNat]? =some c)(h:sgJ t i br l n)(hi:i<t.length)(h32:c.toNat≠32)(h10:c.toNat≠10)
 (hok:(Bb (t.drop i.toNat)).ok=false):Cj t=none:=by
 obtain⟨m,rfl⟩:=SF h.1.1 hi
 exact b5h hc h.1.1 hi h32 h10 hok h.1.2
def sgQ(t:List UInt8)(l:List Sg):Prop:=(Cj t=some l∧sgB l)∨(Cj t=none∧l=[])
theorem SJ{t:List UInt8}{i br:Int}{l:List Sg}{n:Nat}(h:sgJ t i br l n)(hi:¬i<t.length):(Cj t).isSome=true∧sgQ t l:=by
 have a:=b5i h.1.1 hi h.1.2
 have b:=JM h
 exact⟨by rw[a];rfl,.inl ⟨a,by omega,h.2⟩⟩
theorem KQ{t:List UInt8}(h:Cj t=none):(Cj t).isSome=false∧sgQ t []:=⟨by rw[h];rfl,.inr ⟨h,rfl⟩⟩
theorem SK{t:List UInt8}(h:(t.length:Int)>3000):Cj t=none:=b5j (by omega)
theorem b5l{T0 T1 T2 T3:Type}{p q:ST×T0×T1×T2×T3→Prop}(a:List Sg)(b:Int)(c:List (Int×Int))(v0:T0)(v1:T1)(v2:T2)(v3:T3)(h2:q (⟨a,b,c⟩,v0,v1,v2,v3))(h1:p (⟨a,b,c⟩,v0,v1,v2,v3)):∃x,p x∧q x:=⟨_,h1,h2⟩
theorem b5m{T0 T1 T2 T3 T4:Type}{p q:ST×T0×T1×T2×T3×T4→Prop}(a:List Sg)(b:Int)(c:List (Int×Int))(v0:T0)(v1:T1)(v2:T2)(v3:T3)(v4:T4)(h2:q (⟨a,b,c⟩,v0,v1,v2,v3,v4))(h1:p (⟨a,b,c⟩,v0,v1,v2,v3,v4)):∃x,p x∧q x:=⟨_,h1,h2⟩
theorem b5n{T0 T1 T2 T3 T4 T5:Type}{p q:ST×T0×T1×T2×T3×T4×T5→Prop}(a:List Sg)(b:Int)(c:List (Int×Int))(v0:T0)(v1:T1)(v2:T2)(v3:T3)(v4:T4)(v5:T5)(h2:q (⟨a,b,c⟩,v0,v1,v2,v3,v4,v5))(h1:p (⟨a,b,c⟩,v0,v1,v2,v3,v4,v5)):∃x,p x∧q x:=⟨_,h1,h2⟩
theorem b5o{T0 T1 T2 T3 T4 T5 T6:Type}{p q:ST×T0×T1×T2×T3×T4×T5×T6→Prop}(a:List Sg)(b:Int)(c:List (Int×Int))(v0:T0)(v1:T1)(v2:T2)(v3:T3)(v4:T4)(v5:T5)(v6:T6)(h2:q (⟨a,b,c⟩,v0,v1,v2,v3,v4,v5,v6))(h1:p (⟨a,b,c⟩,v0,v1,v2,v3,v4,v5,v6)):∃x,p x∧q x:=⟨_,h1,h2⟩
theorem b5p{T0 T1 T2 T3 T4 T5 T6 T7:Type}{p q:ST×T0×T1×T2×T3×T4×T5×T6×T7→Prop}(a:List Sg)(b:Int)(c:List (Int×Int))(v0:T0)(v1:T1)(v2:T2)(v3:T3)(v4:T4)(v5:T5)(v6:T6)(v7:T7)(h2:q (⟨a,b,c⟩,v0,v1,v2,v3,v4,v5,v6,v7))(h1:p (⟨a,b,c⟩,v0,v1,v2,v3,v4,v5,v6,v7)):∃x,p x∧q x:=⟨_,h1,h2⟩
abbrev iF {α β:Type} (i:Int×Int×Bool×List Nd×α×β):Gs:=⟨i.1,i.2.1,i.2.2.1,i.2.2.2.1⟩
theorem a4n{sg:List Sg}:Dy sg ⟨0,0,false,[]⟩ [] [] (sg.length+1):=b4K
theorem WZ{sg:List Sg}{y:Gs}{ks:List Int}{ms:List (Int×Int)}{N:Nat}{b:Bool}{z:Int×Gs}(h:Dy sg y ks ms N)(hb:y.bad=false)(hl:y.pos<sg.length)(hz:Ag sg y (DD sg b) z)(e:b=((pkG sg y 0).blank&&decide (0<(ks.length:Int)))):
 Dy sg z.2 (ks++[z.1]) (ms++[(y.pos,z.2.pos)]) (N-1)∧N-1<N:=by
 subst e
 exact HC (b4L h hb hl (z:=z) (by
  have:decide (0<ks.length)=decide (0<(ks.length:Int)):=by simp
  rw[this];exact hz))
theorem Xa{s:ST}{y:Gs}{ks:List Int}{ms:List (Int×Int)}{N:Nat}(hs:sgB s.sg)(h:Dy s.sg y ks ms N):okD s y:=⟨⟨hs,h.1⟩,by have:=h.2.1;omega⟩
theorem Xb{sg:List Sg}{y:Gs}{ks:List Int}{ms:List (Int×Int)}{N:Nat}(hs:sgB sg)(h:Dy sg y ks ms N):ks.length≤3001∧ms.length=ks.length∧0≤y.pos∧y.pos≤sg.length:=by
 have h1:=h.1.1;have h2:=hs.1;have h3:=h.2.2.2.2.1;have h4:=h.2.2.2.2.2.2
 omega
def flJ(sg:List Sg)(y:Gs)(ks:List Int)(ms:List (Int×Int))(N M:Nat):Prop:=Dy sg y ks ms N∧N<M
theorem a4o{sg:List Sg}{y:Gs}{ks:List Int}{ms:List (Int×Int)}{N M:Nat}(h:Dy sg y ks ms N∧N<M):flJ sg y ks ms N M:=h
def PS(x:List Sg×Int):LS:= {
 ι:=Int×Int×Bool×List Nd×List Int×List (Int×Int)×Nat,inv:=fun i=>Dy x.1 (iF i) i.2.2.2.2.1 i.2.2.2.2.2.1 i.2.2.2.2.2.2,regs:=fun i=>[(0,rdG ⟨x.1,x.2,i.2.2.2.2.2.1⟩ (iF i)),(2,Ab i.2.2.2.2.1)],als:=[],meas:=fun i=>i.2.2.2.2.2.2,
 sub:=fun j=>[(100005,{ι:=Int×Int×Bool×List Nd×List Int×List (Int×Int)×Nat,inv:=fun i=>flJ x.1 (iF i) i.2.2.2.2.1 i.2.2.2.2.2.1 i.2.2.2.2.2.2 j.2.2.2.2.2.2,regs:=fun i=>[(0,rdG ⟨x.1,x.2,i.2.2.2.2.2.1⟩ (iF i)),(2,Ab i.2.2.2.2.1)],als:=[],meas:=fun _=>0})]}
attribute [local irreducible] pE Bn Dc fnR Ag Bl gsOk Aq Bs Ah BX De Al CD Dp AQ BC pkG isG nmG BR BS DC Gv Dx Ce BH stR CW EN Gq Dn DD Gr BB Dy sgJ
def Mo:Sig:= {X:=List Sg×Int,args:=fun x=>[rdG ⟨x.1,x.2,[]⟩ ⟨0,0,false,[]⟩],pre:=fun x=>sgB x.1,Y:=Int×Int×Bool×List Nd×List Int×List (Int×Int)×Nat,post:=fun x y=>Dy x.1 (iF y) y.2.2.2.2.1 y.2.2.2.2.2.1 y.2.2.2.2.2.2∧((iF y).bad=true∨¬(iF y).pos<x.1.length),res:=fun x y=> .tup [],outs:=fun x y=>[rdG ⟨x.1,x.2,y.2.2.2.2.2.1⟩ (BK x.1 (iF y) y.2.2.2.2.1)],keep:=true}
theorem b5q:Ai G Tryz.prog 103 Mo:=
 vcFun_okP [(133,0,Cr),(132,0,Jb),(134,0,BU)] [(25,⟨Int,AZ⟩),(118,⟨Int×Int,fun p=>[.int .i64 p.1,.int .i64 p.2]⟩)] false (fun x=>[(1,PS x)]) Tryz.func103 rfl (by decide) ⟨Hy,b5c,GW,trivial⟩ (fun(x:List Sg×Int)=>True∧eA (PS x) [.box 0 [sgs x.1,.int .i64 x.2,.int .i64 (0:Int),.int .i64 (0:Int),.bool false,Av [],mbs []],.nil]∧∀(i:Int×Int×Bool×List Nd×List Int×List (Int×Int)×Nat),Dy x.1 (iF i) i.2.2.2.2.1 i.2.2.2.2.2.1 i.2.2.2.2.2.2→true=true∧true=true∧Aa (!(iF i).bad) (Aa (decide ((iF i).pos<(↑(List.length x.1):Int))) (cA Cr [.box 0 [sgs x.1,.int .i64 x.2,.int .i64 (iF i).pos,.int .i64 (iF i).deep,.bool (iF i).bad,Av (iF i).nodes,mbs i.2.2.2.2.2.1]] fun x_1 y=>Aa (pkG x_1.1.sg (xg x_1) (0:Int)).blank (cA Jb [rdG x_1.1 (xg x_1),.bool (decide ((↑(List.length i.2.2.2.2.1):Int)>(0:Int))),.bool true] fun x_2 y=>∃(x_3:Int),y.1=x_3∧∃(zs:List Int),Ab [x_3]=Ab zs∧Bj AZ∧AW (List.length i.2.2.2.2.1+List.length zs) (8:Nat)∧true=true∧((∃(x_4:Int×Int),(iF i).pos=x_4.1∧(yG y.2).pos=x_4.2∧∃(Ck:List (Int×Int)),mbs [x_4]=mbs Ck∧(Bj fun(p:Int×Int)=>[.int .i64 p.1,.int .i64 p.2])∧AW (List.length x_2.1.ms+List.length Ck) (16:Nat)∧true=true∧∃(i_1:Int×Int×Bool×List Nd×List Int×List (Int×Int)×Nat),flJ x.1 (iF i_1) i_1.2.2.2.2.1 i_1.2.2.2.2.2.1 i_1.2.2.2.2.2.2 i.2.2.2.2.2.2∧(sgs x_2.1.sg=sgs x.1∧x_2.1.z=x.2∧(yG y.2).pos=(iF i_1).pos∧(yG y.2).deep=(iF i_1).deep∧(yG y.2).bad=(iF i_1).bad∧Av (yG y.2).nodes=Av (iF i_1).nodes∧mbs (x_2.1.ms++Ck)=mbs i_1.2.2.2.2.2.1∧Ab (i.2.2.2.2.1++zs)=Ab i_1.2.2.2.2.1∧True)∧True)∧(∃(x_4:Int×Int),(iF i).pos=x_4.1∧(yG y.2).pos=x_4.2∧∃(Ck:List (Int×Int)),mbs [x_4]=mbs Ck∧(Bj fun(p:Int×Int)=>[.int .i64 p.1,.int .i64 p.2])∧AW (List.length x_2.1.ms+List.length Ck) (16:Nat)∧true=true∧∃(i_1:Int×Int×Bool×List Nd×List Int×List (Int×Int)×Nat),flJ x.1 (iF i_1) i_1.2.2.2.2.1 i_1.2.2.2.2.2.1 i_1.2.2.2.2.2.2 i.2.2.2.2.2.2∧(sgs x_2.1.sg=sgs x.1∧x_2.1.z=x.2∧(yG y.2).pos=(iF i_1).pos∧(yG y.2).deep=(iF i_1).deep∧(yG y.2).bad=(iF i_1).bad∧Av (yG y.2).nodes=Av (iF i_1).nodes∧mbs (x_2.1.ms++Ck)=mbs i_1.2.2.2.2.2.1∧Ab (i.2.2.2.2.1++zs)=Ab i_1.2.2.2.2.1∧True)∧True)∧(∃(x_4:Int×Int),(iF i).pos=x_4.1∧(yG y.2).pos=x_4.2∧∃(Ck:List (Int×Int)),mbs [x_4]=mbs Ck∧(Bj fun(p:Int×Int)=>[.int .i64 p.1,.int .i64 p.2])∧AW (List.length x_2.1.ms+List.length Ck) (16:Nat)∧true=true∧∃(i_1:Int×Int×Bool×List Nd×List Int×List (Int×Int)×Nat),flJ x.1 (iF i_1) i_1.2.2.2.2.1 i_1.2.2.2.2.2.1 i_1.2.2.2.2.2.2 i.2.2.2.2.2.2∧(sgs x_2.1.sg=sgs x.1∧x_2.1.z=x.2∧(yG y.2).pos=(iF i_1).pos∧(yG y.2).deep=(iF i_1).deep∧(yG y.2).bad=(iF i_1).bad∧Av (yG y.2).nodes=Av (iF i_1).nodes∧mbs (x_2.1.ms++Ck)=mbs i_1.2.2.2.2.2.1∧Ab (i.2.2.2.2.1++zs)=Ab i_1.2.2.2.2.1∧True)∧True)∧∃(x_4:Int×Int),(iF i).pos=x_4.1∧(yG y.2).pos=x_4.2∧∃(Ck:List (Int×Int)),mbs [x_4]=mbs Ck∧(Bj fun(p:Int×Int)=>[.int .i64 p.1,.int .i64 p.2])∧AW (List.length x_2.1.ms+List.length Ck) (16:Nat)∧true=true∧∃(i_1:Int×Int×Bool×List Nd×List Int×List (Int×Int)×Nat),flJ x.1 (iF i_1) i_1.2.2.2.2.1 i_1.2.2.2.2.2.1 i_1.2.2.2.2.2.2 i.2.2.2.2.2.2∧(sgs x_2.1.sg=sgs x.1∧x_2.1.z=x.2∧(yG y.2).pos=(iF i_1).pos∧(yG y.2).deep=(iF i_1).deep∧(yG y.2).bad=(iF i_1).bad∧Av (yG y.2).nodes=Av (iF i_1).nodes∧mbs (x_2.1.ms++Ck)=mbs i_1.2.2.2.2.2.1∧Ab (i.2.2.2.2.1++zs)=Ab i_1.2.2.2.2.1∧True)∧True)∧∀(i_1:Int×Int×Bool×List Nd×List Int×List (Int×Int)×Nat),flJ x.1 (iF i_1) i_1.2.2.2.2.1 i_1.2.2.2.2.2.1 i_1.2.2.2.2.2.2 i.2.2.2.2.2.2→eN (PS x) i [.box 0 [sgs x.1,.int .i64 x.2,.int .i64 (iF i_1).pos,.int .i64 (iF i_1).deep,.bool (iF i_1).bad,Av (iF i_1).nodes,mbs i_1.2.2.2.2.2.1],Ab i_1.2.2.2.2.1]) (cA Jb [rdG x_1.1 (xg x_1),.bool false,.bool true] fun x_2 y=>∃(x_3:Int),y.1=x_3∧∃(zs:List Int),Ab [x_3]=Ab zs∧Bj AZ∧AW (List.length i.2.2.2.2.1+List.length zs) (8:Nat)∧true=true∧((∃(x_4:Int×Int),(iF i).pos=x_4.1∧(yG y.2).pos=x_4.2∧∃(Ck:List (Int×Int)),mbs [x_4]=mbs Ck∧(Bj fun(p:Int×Int)=>[.int .i64 p.1,.int .i64 p.2])∧AW (List.length x_2.1.ms+List.length Ck) (16:Nat)∧true=true∧∃(i_1:Int×Int×Bool×List Nd×List Int×List (Int×Int)×Nat),flJ x.1 (iF i_1) i_1.2.2.2.2.1 i_1.2.2.2.2.2.1 i_1.2.2.2.2.2.2 i.2.2.2.2.2.2∧(sgs x_2.1.sg=sgs x.1∧x_2.1.z=x.2∧(yG y.2).pos=(iF i_1).pos∧(yG y.2).deep=(iF i_1).deep∧(yG y.2).bad=(iF i_1).bad∧Av (yG y.2).nodes=Av (iF i_1).nodes∧mbs (x_2.1.ms++Ck)=mbs i_1.2.2.2.2.2.1∧Ab (i.2.2.2.2.1++zs)=Ab i_1.2.2.2.2.1∧True)∧True)∧(∃(x_4:Int×Int),(iF i).pos=x_4.1∧(yG y.2).pos=x_4.2∧∃(Ck:List (Int×Int)),mbs [x_4]=mbs Ck∧(Bj fun(p:Int×Int)=>[.int .i64 p.1,.int .i64 p.2])∧AW (List.length x_2.1.ms+List.length Ck) (16:Nat)∧true=true∧∃(i_1:Int×Int×Bool×List Nd×List Int×List (Int×Int)×Nat),flJ x.1 (iF i_1) i_1.2.2.2.2.1 i_1.2.2.2.2.2.1 i_1.2.2.2.2.2.2 i.2.2.2.2.2.2∧(sgs x_2.1.sg=sgs x.1∧x_2.1.z=x.2∧(yG y.2).pos=(iF i_1).pos∧(yG y.2).deep=(iF i_1).deep∧(yG y.2).bad=(iF i_1).bad∧Av (yG y.2).nodes=Av (iF i_1).nodes∧mbs (x_2.1.ms++Ck)=mbs i_1.2.2.2.2.2.1∧Ab (i.2.2.2.2.1++zs)=Ab i_1.2.2.2.2.1∧True)∧True)∧(∃(x_4:Int×Int),(iF i).pos=x_4.1∧(yG y.2).pos=x_4.2∧∃(Ck:List (Int×Int)),mbs [x_4]=mbs Ck∧(Bj fun(p:Int×Int)=>[.int .i64 p.1,.int .i64 p.2])∧AW (List.length x_2.1.ms+List.length Ck) (16:Nat)∧true=true∧∃(i_1:Int×Int×Bool×List Nd×List Int×List (Int×Int)×Nat),flJ x.1 (iF i_1) i_1.2.2.2.2.1 i_1.2.2.2.2.2.1 i_1.2.2.2.2.2.2 i.2.2.2.2.2.2∧(sgs x_2.1.sg=sgs x.1∧x_2.1.z=x.2∧(yG y.2).pos=(iF i_1).pos∧(yG y.2).deep=(iF i_1).deep∧(yG y.2).bad=(iF i_1).bad∧Av (yG y.2).nodes=Av (iF i_1).nodes∧mbs (x_2.1.ms++Ck)=mbs i_1.2.2.2.2.2.1∧Ab (i.2.2.2.2.1++zs)=Ab i_1.2.2.2.2.1∧True)∧True)∧∃(x_4:Int×Int),(iF i).pos=x_4.1∧(yG y.2).pos=x_4.2∧∃(Ck:List (Int×Int)),mbs [x_4]=mbs Ck∧(Bj fun(p:Int×Int)=>[.int .i64 p.1,.int .i64 p.2])∧AW (List.length x_2.1.ms+List.length Ck) (16:Nat)∧true=true∧∃(i_1:Int×Int×Bool×List Nd×List Int×List (Int×Int)×Nat),flJ x.1 (iF i_1) i_1.2.2.2.2.1 i_1.2.2.2.2.2.1 i_1.2.2.2.2.2.2 i.2.2.2.2.2.2∧(sgs x_2.1.sg=sgs x.1∧x_2.1.z=x.2∧(yG y.2).pos=(iF i_1).pos∧(yG y.2).deep=(iF i_1).deep∧(yG y.2).bad=(iF i_1).bad∧Av (yG y.2).nodes=Av (iF i_1).nodes∧mbs (x_2.1.ms++Ck)=mbs i_1.2.2.2.2.2.1∧Ab (i.2.2.2.2.1++zs)=Ab i_1.2.2.2.2.1∧True)∧True)∧∀(i_1:Int×Int×Bool×List Nd×List Int×List (Int×Int)×Nat),flJ x.1 (iF i_1) i_1.2.2.2.2.1 i_1.2.2.2.2.2.1 i_1.2.2.2.2.2.2 i.2.2.2.2.2.2→eN (PS x) i [.box 0 [sgs x.1,.int .i64 x.2,.int .i64 (iF i_1).pos,.int .i64 (iF i_1).deep,.bool (iF i_1).bad,Av (iF i_1).nodes,mbs i_1.2.2.2.2.2.1],Ab i_1.2.2.2.2.1])) (cA BU [.box 0 [sgs x.1,.int .i64 x.2,.int .i64 (iF i).pos,.int .i64 (iF i).deep,.bool (iF i).bad,Av (iF i).nodes,mbs i.2.2.2.2.2.1],.agg [.int .i64 (22:Int),.str #[].toList,Ab i.2.2.2.2.1,.bool false]] fun x_1 y=>rA Mo x [.tup [],rdG x_1.1 (Ah (xh x_1) {kind:=x_1.2.2.2.2.2.1,text:=x_1.2.2.2.2.2.2.1,kids:=x_1.2.2.2.2.2.2.2.1,blank:=x_1.2.2.2.2.2.2.2.2})])) (cA BU [.box 0 [sgs x.1,.int .i64 x.2,.int .i64 (iF i).pos,.int .i64 (iF i).deep,.bool (iF i).bad,Av (iF i).nodes,mbs i.2.2.2.2.2.1],.agg [.int .i64 (22:Int),.str #[].toList,Ab i.2.2.2.2.1,.bool false]] fun x_1 y=>rA Mo x [.tup [],rdG x_1.1 (Ah (xh x_1) {kind:=x_1.2.2.2.2.2.1,text:=x_1.2.2.2.2.2.2.1,kids:=x_1.2.2.2.2.2.2.2.1,blank:=x_1.2.2.2.2.2.2.2.2})])) (fun x=>by kernel_rfl) fun(x:List Sg×Int) (hx:sgB x.1)=>(by
 dsimp only[cA,eA,eN,PS,mbs,Bc,Ab,Av,rA,rdG,BU,Mo,Jb,Cr,Bu,sgs,Au,Az,mvL,lnL,mvE,lnE,Bq]
 obtain⟨sg,z⟩:=x;dsimp only[iF] at hx ⊢
 have hx:sgB sg:=hx
 (repeat' first|(apply b5p<;>try dsimp only)|(apply b5o<;>try dsimp only)|(apply b5n<;>try dsimp only)|(apply b5m<;>try dsimp only)|(apply b5l<;>try dsimp only)|(with_reducible first|rfl|exact True.intro|apply AK|apply And.intro|((first|apply AA|apply AI|apply AB|apply AJ)<;>intro _))|(apply Ax<;>intro _)|apply AH|refine Ae () ?_ ?_|((first|apply AO|apply AN|apply AM|apply AL|apply AG|apply AF|apply AE|apply AD|apply AC)<;>try dsimp only)|apply Ae|(refine Prod.forall.2 ?_;intro _;try dsimp only)|(intro _;try dsimp only))
 all_goals(try dsimp only[xg,xh,yG,yS,iG,iF] at*)
 all_goals(try simp only[CP] at*)
 all_goals first
  |(show Nat;skip)
  |rfl
  |exact hx
  |exact a4n
  |assumption
  |exact Xa (s:=⟨sg,z,_⟩) hx ‹_›
  |exact(Xa (s:=⟨sg,z,_⟩) hx ‹_›).1
  |exact a4o (WZ ‹_› ‹_› (by omega) ‹_› (GZ ‹_›))
  |exact a4o (WZ ‹_› ‹_› (by omega) ‹_› (Ha ‹_›))
  |exact(show flJ _ _ _ _ _ _ by assumption).1
  |exact(show flJ _ _ _ _ _ _ by assumption).2
  |exact .inl ‹_›
  |exact .inr ‹_›
  |(have hq:=Xb hx (show Dy _ _ _ _ _ by assumption);(try simp only[AW,List.length_append,List.length_cons,List.length_nil]);omega)
  |skip)
def KR:Sig:= {X:=List UInt8,args:=fun x=>[.str x],pre:=fun x=>x.length<2^62,Y:=List Sg×Int,post:=fun x y=>sgQ x y.1,res:=fun x y=> .tup [sgs y.1,.int .i64 y.2,.bool (Cj x).isSome],outs:=fun x y=>[.top],keep:=true}
def NR(x:List UInt8):LS:= {ι:=Int×Int×List Sg×Nat,inv:=fun i=>sgJ x i.1 i.2.1 i.2.2.1 i.2.2.2,regs:=fun i=>[(0,.str x),(5,Ed i.2.2.1),(6,.int .i64 i.2.1),(7,.int .i64 i.1)],als:=[],meas:=fun i=>i.2.2.2}
theorem b5r:Ai G Tryz.prog 102 KR:=
 vcFun_okP [(131,0,Gc)] [(54,⟨Sg,sgA⟩)] false (fun x=>[(6,NR x)]) Tryz.func102 rfl (by decide) ⟨a0e,trivial⟩ (fun(x:List UInt8)=>True∧Aa (decide ((↑(List.length x):Int)>(3000:Int))) (rA KR x [.tup [.nil,.int .i64 (3000:Int),.bool false],.top]) (eA (NR x) [.str x,.nil,.int .i64 (0:Int),.int .i64 (0:Int)]∧∀(i:Int×Int×List Sg×Nat),sgJ x i.1 i.2.1 i.2.2.1 i.2.2.2→Aa (decide (i.1<(↑(List.length x):Int))) (((0:Int)≤i.1∧i.1<(↑(List.length x):Int))∧∀(c:UInt8),x[Int.toNat i.1]? =some c→Aa ((↑(UInt8.toNat c):Int)==(32:Int)) (inR IntKind.i64 (i.1+(1:Int))∧eN (NR x) i [.str x,Ed i.2.2.1,.int .i64 i.2.1,.int .i64 (i.1+(1:Int))]) (Aa ((↑(UInt8.toNat c):Int)==(10:Int)) (inR IntKind.i64 (i.1+(1:Int))∧inR IntKind.i64 (i.2.1+(1:Int))∧eN (NR x) i [.str x,Ed i.2.2.1,.int .i64 (i.2.1+(1:Int)),.int .i64 (i.1+(1:Int))]) (((0:Int)≤i.1∧i.1≤(↑(List.length x):Int)∧(↑(List.length x):Int)≤(↑(List.length x):Int))∧cA Gc [.str (List.drop (Int.toNat i.1) x)] fun x_1 y=>Aa (!(Bb x_1).ok) (rA KR x [.tup [.nil,.int .i64 i.1,.bool false],.top]) (∃(x_2:Sg),(Bb x_1).kind=x_2.kind∧(Bb x_1).text=x_2.text∧i.1=x_2.pos∧decide (i.2.1>(1:Int))=x_2.blank∧∃(zs:List Sg),Ed [x_2]=Ed zs∧Bj sgA∧AW (List.length i.2.2.1+List.length zs) (40:Nat)∧inR IntKind.i64 (i.1+(Bb x_1).size)∧eN (NR x) i [.str x,Ed (i.2.2.1++zs),.int .i64 (0:Int),.int .i64 (i.1+(Bb x_1).size)])))) (rA KR x [.tup [Ed i.2.2.1,.int .i64 (0:Int),.bool true],.top]))) (fun x=>by kernel_rfl) fun(x:List UInt8) (hx:x.length<2^62)=>(by
 dsimp only[cA,eA,eN,NR,Ed,rA,KR,Gc,Bu,sgs,Au,Az,mvL,lnL,mvE,lnE,Bq]
 have hx:x.length<2^62:=hx
 (repeat' first|(with_reducible first|rfl|exact True.intro|apply AK|apply And.intro|((first|apply AA|apply AI|apply AB|apply AJ)<;>intro _))|(apply Ax<;>intro _)|apply AH|refine Ae () ?_ ?_|((first|apply AO|apply AN|apply AM|apply AL|apply AG|apply AF|apply AE|apply AD|apply AC)<;>try dsimp only)|apply Ae|(refine Prod.forall.2 ?_;intro _;try dsimp only)|(intro _;try dsimp only))
 all_goals first
  |(show Nat;skip)
  |rfl
  |exact a4m ‹_›
  |exact(KQ (SK ‹_›)).2
  |exact(KQ (SK ‹_›)).1.symm
  |exact(SH ‹_› ‹_› ‹_› (by omega)).1
  |exact(SI ‹_› ‹_› ‹_› (by omega)).1
  |exact(WX ‹_› ‹_› ‹_› (by omega) (by omega) ‹_›).1
  |exact(KQ (WY ‹_› ‹_› ‹_› (by omega) (by omega) ‹_›)).2
  |exact(KQ (WY ‹_› ‹_› ‹_› (by omega) (by omega) ‹_›)).1.symm
  |exact(SJ ‹_› ‹_›).2
  |exact(SJ ‹_› ‹_›).1.symm
  |(have hq:=JM (show sgJ _ _ _ _ _ by assumption);(try simp only[AR,List.length_drop]);omega)
  |(have hj:=(show sgJ _ _ _ _ _ by assumption);have hq:=JM hj;have hz:=WW hj ‹_›;(try simp only[AR,List.length_drop]);omega)
  |(have hq:=JM (show sgJ _ _ _ _ _ by assumption);(try simp only[AW,List.length_append,List.length_cons,List.length_nil]);omega)
  |skip
 all_goals first
  |exact(SH ‹_› ‹_› ‹_› (by omega)).2
  |exact(SI ‹_› ‹_› ‹_› (by omega)).2
  |exact(WX ‹_› ‹_› ‹_› (by omega) (by omega) ‹_›).2
  |rfl
  |skip)
end Go.My
end
section
namespace Go.My
open Go.Eng Go.Proofs
variable {G:GInv}
def rsQ(t:List UInt8)(sg:List Sg)(ms:List (Int×Int))(g:Gs):Prop:=(g.bad=true∧CN t=none)∨((g.bad=false∧sgB sg∧Cj t=some sg)∧KB sg=some (ms,g.nodes)∧Cy g.nodes)
theorem Xc{sg:List Sg}{g:Gs}(h:gsOk sg g):Cy g.nodes∧g.nodes.length≤300:=by
 refine⟨⟨by have:=h.2.2.1;omega,fun x hx=> ?_⟩,h.2.2.1⟩
 have:=h.2.2.2 x hx
 exact⟨by have:=this.1;omega,by have:=this.2;omega⟩
theorem b5s{t:List UInt8}{l:List Sg}(h:sgQ t l)(hn:(Cj t).isSome=false):rsQ t l [] ⟨0,0,!(Cj t).isSome,[]⟩:=by
 refine .inl ⟨by simp [hn],?_⟩
 rw[CN]
 cases hs:Cj t with
 |none=>rfl
 |some l=>rw[hs] at hn;cases hn
theorem KS{t:List UInt8}{l:List Sg}(h:sgQ t l)(hn:(Cj t).isSome=true):Cj t=some l∧sgB l:=by
 rcases h with h|h
 ·exact h
 ·rw[h.1] at hn;cases hn
theorem a4p{t:List UInt8}{l:List Sg}{y:Gs}{ks:List Int}{ms:List (Int×Int)}{N:Nat}(h:sgQ t l)(hn:(Cj t).isSome=true)(hf:Dy l y ks ms N∧(y.bad=true∨¬y.pos<l.length))(hb:(BK l y ks).bad=true):rsQ t l ms (BK l y ks):=by
 refine .inl ⟨hb,?_⟩
 rw[CN,(KS h hn).1]
 simp only[Option.bind_some,b4M hf.1 hb hf.2];rfl
theorem SL{l:List Sg}{y:Gs}{ks:List Int}{ms:List (Int×Int)}{N:Nat}(hs:sgB l)(h:Dy l y ks ms N):Cz ⟨22,[],ks,false⟩:=⟨by simp,by have:=(Xb hs h).1;simp only;omega⟩
theorem a4q{t:List UInt8}{l:List Sg}{y:Gs}{ks:List Int}{ms:List (Int×Int)}{N:Nat}(h:sgQ t l)(hn:(Cj t).isSome=true)(hf:Dy l y ks ms N∧(y.bad=true∨¬y.pos<l.length))(hb:(BK l y ks).bad=false):
 rsQ t l ms ⟨(BK l y ks).pos,(BK l y ks).deep,!CB (BK l y ks).nodes,(BK l y ks).nodes⟩:=by
 have hk:=SL (KS h hn).2 hf.1
 have e:=b4N hf.1 hb hf.2
 cases htr:CB (BK l y ks).nodes with
 |false=>
  rw[htr] at e
  refine .inl ⟨rfl,?_⟩
  rw[CN,(KS h hn).1]
  simp only[Option.bind_some,e];rfl
 |true=>
  rw[htr] at e
  exact .inr ⟨⟨rfl,(KS h hn).2,(KS h hn).1⟩,e,(Xc (IW hf.1.1 hk)).1⟩
theorem a4r{t:List UInt8}{l:List Sg}{y:Gs}{ks:List Int}{ms:List (Int×Int)}{N:Nat}(h:sgQ t l)(hn:(Cj t).isSome=true)(hf:Dy l y ks ms N∧(y.bad=true∨¬y.pos<l.length)):gsOk l (BK l y ks)∧Cz ⟨22,[],ks,false⟩:=
 have hs:=(KS h hn).2
 ⟨IW hf.1.1 (SL hs hf.1),SL hs hf.1⟩
theorem a4s{t:List UInt8}{l:List Sg}{y:Gs}{ks:List Int}{ms:List (Int×Int)}{N:Nat}(h:sgQ t l)(hn:(Cj t).isSome=true)(hf:Dy l y ks ms N∧(y.bad=true∨¬y.pos<l.length)):Cy (BK l y ks).nodes∧(BK l y ks).nodes.length≤1073741824:=by
 have a:=Xc (a4r h hn hf).1
 exact⟨a.1,by omega⟩
theorem b5t{t:List UInt8}{l:List Sg}{y:Gs}{ks:List Int}{ms:List (Int×Int)}{N:Nat}(h:sgQ t l)(hn:(Cj t).isSome=true)(hf:Dy l y ks ms N∧(y.bad=true∨¬y.pos<l.length)):0≤(BK l y ks).pos:=(a4r h hn hf).1.1.1
theorem SM{t:List UInt8}{l:List Sg}{ms:List (Int×Int)}{g:Gs}(h:rsQ t l ms g)(hb:g.bad=true):CN t=none:=by
 rcases h with h|h
 ·exact h.2
 ·rw[h.1.1] at hb;cases hb
theorem NS{t:List UInt8}{l:List Sg}{ms:List (Int×Int)}{g:Gs}(h:rsQ t l ms g)(hb:g.bad=false):CN t=some g.nodes∧Cy g.nodes:=by
 rcases h with h|h
 ·rw[h.1] at hb;cases hb
 ·refine⟨?_,h.2.2⟩
  rw[CN,h.1.2.2];simp only[Option.bind_some,h.2.1];rfl
attribute [local irreducible] gsOk Dy BK CN KB Cj CB
def Ip:Sig:= {X:=List UInt8,args:=fun x=>[.str x],pre:=fun x=>x.length<2^62,Y:=List Sg×List (Int×Int)×Int×Int×Bool×List Nd×Int,post:=fun x y=>rsQ x y.1 y.2.1 ⟨y.2.2.1,y.2.2.2.1,y.2.2.2.2.1,y.2.2.2.2.2.1⟩,res:=fun x y=> .tup [rdG ⟨y.1,x.length,y.2.1⟩ ⟨y.2.2.1,y.2.2.2.1,y.2.2.2.2.1,y.2.2.2.2.2.1⟩,.int .i64 y.2.2.2.2.2.2],outs:=fun x y=>[.top],keep:=true}
theorem b5u:Ai G Tryz.prog 79 Ip:=
 vcFun_okP [(102,0,KR),(103,0,Mo),(37,0,Gi)] [(54,⟨Sg,sgA⟩),(25,⟨Int,AZ⟩),(118,⟨Int×Int,fun p=>[.int .i64 p.1,.int .i64 p.2]⟩),(27,⟨Nd,ndA true⟩)] false (fun x=>[]) Tryz.func79 rfl (by decide) ⟨b5r,b5q,a0R,trivial⟩ (fun(x:List UInt8)=>True∧cA KR [.str x] fun x_1 y=>Aa (!Option.isSome (Cj x_1)) (rA Ip x [.tup [.box 0 [sgs y.1,.int .i64 (↑(List.length x):Int),.int .i64 (0:Int),.int .i64 (0:Int),.bool !Option.isSome (Cj x_1),.nil,.nil],.int .i64 y.2],.top]) (cA Mo [.box 0 [sgs y.1,.int .i64 (↑(List.length x):Int),.int .i64 (0:Int),.int .i64 (0:Int),.bool !Option.isSome (Cj x_1),.nil,.nil]] fun x_2 y_1=>Aa (BK x_2.1 (iF y_1) y_1.2.2.2.2.1).bad (Aa (decide ((BK x_2.1 (iF y_1) y_1.2.2.2.2.1).pos<(↑(List.length y.1):Int))) (true=true∧true=true∧((0:Int)≤(BK x_2.1 (iF y_1) y_1.2.2.2.2.1).pos∧(BK x_2.1 (iF y_1) y_1.2.2.2.2.1).pos<(↑(List.length y.1):Int))∧∀(e:Sg),y.1[Int.toNat (BK x_2.1 (iF y_1) y_1.2.2.2.2.1).pos]? =some e→rA Ip x [.tup [.box 0 [sgs x_2.1,.int .i64 x_2.2,.int .i64 (BK x_2.1 (iF y_1) y_1.2.2.2.2.1).pos,.int .i64 (BK x_2.1 (iF y_1) y_1.2.2.2.2.1).deep,.bool (BK x_2.1 (iF y_1) y_1.2.2.2.2.1).bad,Av (BK x_2.1 (iF y_1) y_1.2.2.2.2.1).nodes,mbs y_1.2.2.2.2.2.1],.int .i64 e.pos],.top]) (Aa (BK x_2.1 (iF y_1) y_1.2.2.2.2.1).bad (rA Ip x [.tup [.box 0 [sgs x_2.1,.int .i64 x_2.2,.int .i64 (BK x_2.1 (iF y_1) y_1.2.2.2.2.1).pos,.int .i64 (BK x_2.1 (iF y_1) y_1.2.2.2.2.1).deep,.bool (BK x_2.1 (iF y_1) y_1.2.2.2.2.1).bad,Av (BK x_2.1 (iF y_1) y_1.2.2.2.2.1).nodes,mbs y_1.2.2.2.2.2.1],.int .i64 (↑(List.length x):Int)],.top]) (cA Gi [Av (BK x_2.1 (iF y_1) y_1.2.2.2.2.1).nodes] fun x_3 y=>rA Ip x [.tup [.box 0 [sgs x_2.1,.int .i64 x_2.2,.int .i64 (BK x_2.1 (iF y_1) y_1.2.2.2.2.1).pos,.int .i64 (BK x_2.1 (iF y_1) y_1.2.2.2.2.1).deep,.bool !CB x_3,Av (BK x_2.1 (iF y_1) y_1.2.2.2.2.1).nodes,mbs y_1.2.2.2.2.2.1],.int .i64 (0:Int)],.top]))) (Aa (BK x_2.1 (iF y_1) y_1.2.2.2.2.1).bad (rA Ip x [.tup [.box 0 [sgs x_2.1,.int .i64 x_2.2,.int .i64 (BK x_2.1 (iF y_1) y_1.2.2.2.2.1).pos,.int .i64 (BK x_2.1 (iF y_1) y_1.2.2.2.2.1).deep,.bool (BK x_2.1 (iF y_1) y_1.2.2.2.2.1).bad,Av (BK x_2.1 (iF y_1) y_1.2.2.2.2.1).nodes,mbs y_1.2.2.2.2.2.1],.int .i64 (↑(List.length x):Int)],.top]) (cA Gi [Av (BK x_2.1 (iF y_1) y_1.2.2.2.2.1).nodes] fun x_3 y=>rA Ip x [.tup [.box 0 [sgs x_2.1,.int .i64 x_2.2,.int .i64 (BK x_2.1 (iF y_1) y_1.2.2.2.2.1).pos,.int .i64 (BK x_2.1 (iF y_1) y_1.2.2.2.2.1).deep,.bool !CB x_3,Av (BK x_2.1 (iF y_1) y_1.2.2.2.2.1).nodes,mbs y_1.2.2.2.2.2.1],.int .i64 (0:Int)],.top])))) (fun x=>by kernel_rfl) fun(x:List UInt8) (hx:x.length<2^62)=>(by
 dsimp only[cA,mbs,Bc,nds,Av,Ed,rA,rdG,KR,Gi,Mo,Ip,Bu,sgs,Au,Az,mvL,lnL,mvE,lnE]
 have hx:x.length<2^62:=hx
 (repeat' first|(with_reducible first|rfl|exact True.intro|apply AK|apply And.intro|((first|apply AA|apply AI|apply AB|apply AJ)<;>intro _))|(apply Ax<;>intro _)|apply AH|refine Ae () ?_ ?_|((first|apply AO|apply AN|apply AM|apply AL|apply AG|apply AF|apply AE|apply AD|apply AC)<;>try dsimp only)|apply Ae|(refine Prod.forall.2 ?_;intro _;try dsimp only)|(intro _;try dsimp only))
 all_goals(try dsimp only[iF] at*)
 all_goals first
  |rfl
  |exact hx
  |exact b5s ‹_› ‹_›
  |exact(KS ‹_› ‹_›).2
  |exact a4p ‹_› ‹_› ‹_› ‹_›
  |exact a4q ‹_› ‹_› ‹_› ‹_›
  |(simp [*];done)
  |exact(a4s ‹_› ‹_› ‹_›).1
  |exact(a4s ‹_› ‹_› ‹_›).2
  |(have hq:=(b5t ‹_› ‹_› (show Dy _ _ _ _ _∧_ by assumption));(try dsimp only at hq);omega)
  |skip)
def Mp:Sig:= {X:=List UInt8,args:=fun x=>[.str x],pre:=fun x=>x.length<2^62,Y:=List Nd×Int,post:=fun x y=>y.1=(CN x).getD []∧Cy y.1,res:=fun x y=> .tup [nds y.1,.int .i64 y.2,.bool (CN x).isSome],outs:=fun x y=>[.top],keep:=true}
theorem b5v:Ai G Tryz.prog 49 Mp:=
 vcFun_okP [(79,0,Ip)] [(27,⟨Nd,ndA true⟩)] false (fun x=>[]) Tryz.func49 rfl (by decide) ⟨b5u,trivial⟩ (fun(x:List UInt8)=>True∧cA Ip [.str x] fun x_1 y=>Aa y.2.2.2.2.1 (rA Mp x [.tup [.nil,.int .i64 y.2.2.2.2.2.2,.bool false],.top]) (rA Mp x [.tup [Av y.2.2.2.2.2.1,.int .i64 (0:Int),.bool true],.top])) (fun x=>by kernel_rfl) fun(x:List UInt8) (hx:x.length<2^62)=>(by
 dsimp only[cA,mbs,Bc,nds,Av,rA,rdG,Mp,Ip,Bu,sgs,Au,Az,mvL,lnL,mvE,lnE]
 have hx:x.length<2^62:=hx
 (repeat' first|(with_reducible first|rfl|exact True.intro|apply AK|apply And.intro|((first|apply AA|apply AI|apply AB|apply AJ)<;>intro _))|(apply Ax<;>intro _)|apply AH|refine Ae () ?_ ?_|((first|apply AO|apply AN|apply AM|apply AL|apply AG|apply AF|apply AE|apply AD|apply AC)<;>try dsimp only)|apply Ae|(refine Prod.forall.2 ?_;intro _;try dsimp only)|(intro _;try dsimp only))
 all_goals(try dsimp only[iF] at*)
 all_goals first
  |rfl
  |exact hx
  |(rw[SM ‹_› ‹_›];rfl)
  |(rw[SM ‹_› ‹_›];done)
  |(rw[(NS ‹_› ‹_›).1];rfl)
  |(rw[(NS ‹_› ‹_›).1];exact(NS ‹_› ‹_›).2)
  |exact⟨by simp,by simp⟩
  |exact(NS ‹_› ‹_›).2
  |(rw[(NS ‹_› ‹_›).1];simp;done)
  |skip)
end Go.My
end
section
namespace Go.My
open Go.Eng Go.Proofs
variable {G:GInv}
theorem a4t{ns:List Nd}{m:Mc}{c:Int}(h:mOk m)(hc:0≤c)(hf:Cv ns m 0 c):False:=by
 have h1:=h.1.2.2
 have:0≤(21-m.deep)*((ns.length:Int)+1):=Int.mul_nonneg (by omega) (by omega)
 unfold Cv at hf;omega
theorem b5w:zAll G 0:=
 ⟨a2r Tryz.func179 rfl (by decide) (fun x h=>a4t h.1.2.1 h.2.1.1.1.1 h.2.1.2),a2r Tryz.func106 rfl (by decide) (fun x h=>a4t h.1.2.1 h.2.1.1.1 h.2.2)⟩
theorem b5x(n:Nat):zAll G n:=by
 induction n with
 |zero=>exact b5w
 |succ n ih=>exact⟨b2A n ih,b3m n ih⟩
def zFU:Nat:=6400
def SN:Sig:= {X:=ZM,args:=fun x=>[mcA x.1 (zh x),.str (zt x),Aj (za x)],pre:=fun x=>mPz zFU x.1 (zh x) (za x),Y:=Int×List Int×Int×Int×Int,post:=fun x y=>mQz zFU x.1 (zh x) (zt x) (za x) (yV y),res:=fun x y=> .int .i64 y.1,outs:=fun x y=>[mcA x.1 (yM y.2),.top,.top],keep:=true}
theorem b5y:Ai G Go.Proofs.Tryz.prog 81 SN:=a1Y zFU (b5x zFU)
abbrev RnY:=List Int×Int×Int×Int
def b5z(p:Int×Mc):RnY:=(p.2.out,if p.2.code=0 then p.1 else 0,p.2.code,p.2.steps)
def Xd(ns:List Nd)(t:List UInt8)(az:List Int)(L:Int)(y:RnY):Prop:=∃p,FF ns (ev ns zFU).blk t az L ⟨[],0,0,0⟩=some p∧y=b5z p
def rnQ(ns:List Nd)(t:List UInt8)(az:List Int)(st:Int)(y:RnY):Prop:=((CB ns=false∧y=([],0,1,0))∨(CB ns=true∧Xd ns t az (min st 1000) y))∧y.1.length<2^62
theorem b5A{ns:List Nd}{t:List UInt8}{az:List Int}{st:Int}(h:CB ns=false):rnQ ns t az st ([],0,1,0):=⟨.inl ⟨h,rfl⟩,by simp⟩
theorem b5B{ns:List Nd}(h:CB ns=true)(ho:Cy ns):tOk ns:=⟨⟨h,ho⟩,(Ru h).2.1,(Ru h).2.2.1⟩
theorem b5C{ns:List Nd}{az:List Int}{L:Int}(h:tOk ns)(hL:L≤1000)(hb:∀a∈az,bdd a)(hl:az.length≤12):mPz zFU ⟨ns,L⟩ ⟨[],0,0,0⟩ az:=by
 refine⟨⟨⟨⟨h,hL⟩,⟨by simp,by simp⟩,by simp [pot]⟩,hb,hl⟩,?_⟩
 have:=h.2;unfold zFU;simp only;omega
theorem a4u{ns:List Nd}{t:List UInt8}{az:List Int}{st:Int}{v r:Int}{m:Mc}(h:CB ns=true)(hm:mQz zFU ⟨ns,min st 1000⟩ ⟨[],0,0,0⟩ t az (v,m))(hr:r=if m.code=0 then v else 0):rnQ ns t az st (m.out,r,m.code,m.steps):=by
 have g:=hm.2.1.1
 have:=g.2;have:=g.1.1;unfold pot at*
 exact⟨.inr ⟨h,(v,m),hm.1.1,by rw[hr];rfl⟩,by simp only at*;omega⟩
theorem b5D{ns:List Nd}{t:List UInt8}{az:List Int}{st v:Int}{m:Mc}(hm:mQz zFU ⟨ns,min st 1000⟩ ⟨[],0,0,0⟩ t az (v,m))(h:CB ns=true)(hq:m.code=0):rnQ ns t az st (m.out,v,m.code,m.steps):=a4u h hm (by rw[if_pos hq])
theorem b5E{ns:List Nd}{t:List UInt8}{az:List Int}{st v:Int}{m:Mc}(hm:mQz zFU ⟨ns,min st 1000⟩ ⟨[],0,0,0⟩ t az (v,m))(h:CB ns=true)(hq:¬m.code=0):rnQ ns t az st (m.out,0,m.code,m.steps):=a4u h hm (by rw[if_neg hq])
theorem b5F{n:Int}{m:Mc}(h:bdd n):FH n m=m:=if_pos (Ku.2 h)
def agI(az:List Int)(i:Int):Prop:=(0≤i∧i≤az.length)∧az.length≤12
theorem b5G{T0 T1 T2 T3 T4:Type}{p q:ZS×T0×T1×T2×T3×T4→Prop}(a:List Nd)(b:Int)(v0:T0)(v1:T1)(v2:T2)(v3:T3)(v4:T4)(h2:q (⟨a,b⟩,v0,v1,v2,v3,v4))(h1:p (⟨a,b⟩,v0,v1,v2,v3,v4)):∃x,p x∧q x:=⟨_,h1,h2⟩
theorem b5H{T0 T1 T2 T3 T4 T5:Type}{p q:ZS×T0×T1×T2×T3×T4×T5→Prop}(a:List Nd)(b:Int)(v0:T0)(v1:T1)(v2:T2)(v3:T3)(v4:T4)(v5:T5)(h2:q (⟨a,b⟩,v0,v1,v2,v3,v4,v5))(h1:p (⟨a,b⟩,v0,v1,v2,v3,v4,v5)):∃x,p x∧q x:=⟨_,h1,h2⟩
theorem b5I{az:List Int}(h:az.length≤12):agI az 0:=⟨by omega,h⟩
theorem b5J{az:List Int}{i:Int}(h:agI az i):(0≤i∧i≤az.length)∧az.length≤12:=h
theorem b5K{az:List Int}{i:Int}(h:agI az i)(hl:i<az.length):agI az (i+1):=⟨by have:=h.1;omega,h.2⟩
attribute [local irreducible] agI
attribute [local irreducible] cQz mPz rnQ CB FF
def SO:Sig:= {X:=List Nd×List UInt8×List Int×Int,args:=fun x=>[nds x.1,.str x.2.1,Aj x.2.2.1,.int .i64 x.2.2.2],pre:=fun x=>(Cy x.1∧x.1.length≤2^30)∧(∀a∈x.2.2.1,bdd a)∧x.2.2.1.length≤12,Y:=RnY,post:=fun x y=>rnQ x.1 x.2.1 x.2.2.1 x.2.2.2 y,res:=fun x y=> .agg [Aj y.1,.int .i64 y.2.1,.int .i64 y.2.2.1,.int .i64 y.2.2.2],outs:=fun x y=>[.top,.top,.top,.top],keep:=true}
def SP(x:List Nd×List UInt8×List Int×Int):LS:= {ι:=Int,inv:=fun i=>agI x.2.2.1 i∧CB x.1=true,regs:=fun i=>[(1,.str x.2.1),(2,Aj x.2.2.1),(8,.box 0 [Ab [],.int .i64 0,.int .i64 0,.int .i64 0]),(9,mcA ⟨x.1,min x.2.2.2 1000⟩ ⟨[],0,0,0⟩),(21,Aj x.2.2.1),(22,.int .i64 x.2.2.1.length),(23,.int .i64 i)],als:=[],meas:=fun i=>x.2.2.1.length-i.toNat}
theorem b5L:Ai G Tryz.prog 50 SO:=
 vcFun_okP [(37,0,Gi),(80,0,IU),(81,0,SN)] [(25,⟨Int,AZ⟩)] false (fun x=>[(5,SP x)]) Tryz.func50 rfl (by decide) ⟨a0R,a1K,b5y,trivial⟩ (fun(x:List Nd×List UInt8×List Int×Int)=>True∧cA Gi [nds x.1] fun x_1 y=>Aa (!CB x_1) (∃(y:RnY),rnQ x.1 x.2.1 x.2.2.1 x.2.2.2 y∧y.1=[]∧(0:Int)=y.2.1∧(1:Int)=y.2.2.1∧(0:Int)=y.2.2.2∧True) (eA (SP x) [.str x.2.1,Aj x.2.2.1,.box 0 [.nil,.int .i64 (0:Int),.int .i64 (0:Int),.int .i64 (0:Int)],.box 0 [nds x.1,.int .i64 (min x.2.2.2 (1000:Int)),.nil,.int .i64 (0:Int),.int .i64 (0:Int),.int .i64 (0:Int),.int .i64 (0:Int)],Aj x.2.2.1,.int .i64 (↑(List.length x.2.2.1):Int),.int .i64 (0:Int)]∧∀(i:Int),agI x.2.2.1 i∧CB x.1=true→Aa (decide (i<(↑(List.length x.2.2.1):Int))) (((0:Int)≤i∧i<(↑(List.length x.2.2.1):Int))∧∀(e:Int),x.2.2.1[Int.toNat i]? =some e→cA IU [.box 0 [nds x.1,.int .i64 (min x.2.2.2 (1000:Int)),Ab [],.int .i64 (0:Int),.int .i64 (0:Int),.int .i64 (0:Int),.int .i64 (0:Int)],.int .i64 e] fun x_2 y=>inR IntKind.i64 (i+(1:Int))∧eN (SP x) i [.str x.2.1,Aj x.2.2.1,.box 0 [Ab [],.int .i64 (0:Int),.int .i64 (0:Int),.int .i64 (0:Int)],.box 0 [nds x_2.1.ns,.int .i64 x_2.1.L,Ab (FH x_2.2.2.2.2.2 (zh x_2)).out,.int .i64 (0:Int),.int .i64 (FH x_2.2.2.2.2.2 (zh x_2)).code,.int .i64 (FH x_2.2.2.2.2.2 (zh x_2)).steps,.int .i64 (FH x_2.2.2.2.2.2 (zh x_2)).deep],Aj x.2.2.1,.int .i64 (↑(List.length x.2.2.1):Int),.int .i64 (i+(1:Int))]) (cA SN [.box 0 [nds x.1,.int .i64 (min x.2.2.2 (1000:Int)),Ab [],.int .i64 (0:Int),.int .i64 (0:Int),.int .i64 (0:Int),.int .i64 (0:Int)],.str x.2.1,Aj x.2.2.1] fun x_2 y=>Aa ((yM y.2).code==(0:Int)) (∃(y_1:RnY),rnQ x.1 x.2.1 x.2.2.1 x.2.2.2 y_1∧AV.sl false 0 1 Int (fun(x:Int)=>fzL (AZ x)) (yM y.2).out=Aj y_1.1∧y.1=y_1.2.1∧(yM y.2).code=y_1.2.2.1∧(yM y.2).steps=y_1.2.2.2∧True) (∃(y_1:RnY),rnQ x.1 x.2.1 x.2.2.1 x.2.2.2 y_1∧AV.sl false 0 1 Int (fun(x:Int)=>fzL (AZ x)) (yM y.2).out=Aj y_1.1∧(0:Int)=y_1.2.1∧(yM y.2).code=y_1.2.2.1∧(yM y.2).steps=y_1.2.2.2∧True)))) (fun x=>by kernel_rfl) fun(x:List Nd×List UInt8×List Int×Int) (hx:(Cy x.1∧x.1.length≤2^30)∧(∀a∈x.2.2.1,bdd a)∧x.2.2.1.length≤12)=>(by
 dsimp only[cA,eA,eN,SP,Aj,mcA,Bc,nds,Ab,Gi,IU,SN,Au,Az,mvL,lnL,mvE,lnE,Bq]
 obtain⟨ns,t,az,st⟩:=x;dsimp only at hx ⊢
 obtain⟨⟨h1,h2⟩,h3,h4⟩:=hx
 (repeat' first|(apply b5H<;>try dsimp only)|(apply b5G<;>try dsimp only)|(with_reducible first|rfl|exact True.intro|apply AK|apply And.intro|((first|apply AA|apply AI|apply AB|apply AJ)<;>intro _))|(apply Ax<;>intro _)|apply AH|refine Ae () ?_ ?_|((first|apply AO|apply AN|apply AM|apply AL|apply AG|apply AF|apply AE|apply AD|apply AC)<;>try dsimp only)|apply Ae|(refine Prod.forall.2 ?_;intro _;try dsimp only)|(intro _;try dsimp only))
 all_goals(try simp only[Ma] at*)
 all_goals(repeat(rename agI _ _∧_=>hq;obtain⟨_,_⟩:=hq))
 all_goals(try(have hB:=b5J (show agI _ _ by assumption)))
 all_goals(try(have hC:=b5F (m:=⟨[],0,0,0⟩) (h3 _ (Ca (show az[_]? =some _ by assumption)))))
 all_goals first
  |rfl
  |assumption
  |exact h1
  |exact b5A ‹_›
  |exact b5I h4
  |exact b5K ‹_› ‹_›
  |(rw[hC];done)
  |exact b5C (b5B ‹_› h1) (by omega) h3 h4
  |exact b5D ‹_› ‹_› ‹_›
  |exact b5E ‹_› ‹_› ‹_›
  |((try simp only[AR]);omega)
  |skip)
end Go.My
end
section
namespace Go.My
open Go.Eng Go.Proofs
variable {G:GInv}
theorem b5M{t:List UInt8}{L:List Nd}(h:CN t=some L):CB L=true:=by
 unfold CN at h
 obtain⟨sg,h1,h2⟩:=Option.bind_eq_some_iff.1 h
 rw[Option.map_eq_some_iff] at h2
 obtain⟨⟨ms,L'⟩,h3,h4⟩:=h2
 simp only at h4;subst h4
 unfold KB at h3
 obtain⟨p,h5,h6⟩:=Option.bind_eq_some_iff.1 h3
 obtain⟨q,h7,h8⟩:=Option.bind_eq_some_iff.1 h6
 split at h8
 ·simp only[Option.some.injEq,Prod.mk.injEq] at h8
  rw[←h8.2];assumption
 ·cases h8
def zsQ(x:List UInt8)(t:List UInt8)(az:List Int)(st:Int)(y:RnY):Prop:=((CN x=none∧y=([],0,1,0))∨∃ns,CN x=some ns∧rnQ ns t az st y)∧y.1.length<2^62
theorem b5N{x t:List UInt8}{az:List Int}{st:Int}(h:(CN x).isSome=false):zsQ x t az st ([],0,1,0):=by
 refine⟨.inl ⟨?_,rfl⟩,by simp⟩
 cases hr:CN x with
 |none=>rfl
 |some l=>rw[hr] at h;cases h
theorem b5O{ns:List Nd}{t:List UInt8}{az:List Int}{st:Int}{y:RnY}(h:rnQ ns t az st y):y.1.length<2^62:=by unfold rnQ at h;exact h.2
theorem Ck{x t:List UInt8}{az:List Int}{st:Int}{y:RnY}{L:List Nd}(hn:L=(CN x).getD []∧Cy L)(h:(CN x).isSome=true)(hy:rnQ L t az st y):zsQ x t az st y:=by
 refine⟨.inr ?_,b5O hy⟩
 cases hr:CN x with
 |none=>rw[hr] at h;cases h
 |some l=>rw[hn.1,hr] at hy;exact⟨l,rfl,hy⟩
theorem b5P{x:List UInt8}{L:List Nd}(hn:L=(CN x).getD []∧Cy L)(h:(CN x).isSome=true):L.length≤2^30:=by
 cases hr:CN x with
 |none=>rw[hr] at h;cases h
 |some l=>rw[hn.1,hr];have:=(Ru (b5M hr)).2.2.1;simp only[Option.getD_some];omega
attribute [local irreducible] zsQ CN
def PT:Sig:= {X:=List UInt8×List UInt8×List Int×Int,args:=fun x=>[.str x.1,.str x.2.1,Aj x.2.2.1,.int .i64 x.2.2.2],pre:=fun x=>x.1.length<2^62∧(∀a∈x.2.2.1,bdd a)∧x.2.2.1.length≤12,Y:=RnY,post:=fun x y=>zsQ x.1 x.2.1 x.2.2.1 x.2.2.2 y,res:=fun x y=> .agg [Aj y.1,.int .i64 y.2.1,.int .i64 y.2.2.1,.int .i64 y.2.2.2],outs:=fun x y=>[.top,.top,.top,.top],keep:=true}
theorem b5Q:Ai G Tryz.prog 20 PT:=
 vcFun_okP [(49,0,Mp),(50,0,SO)] [(25,⟨Int,AZ⟩)] false (fun x=>[]) Tryz.func20 rfl (by decide) ⟨b5v,b5L,trivial⟩ (fun(x:List UInt8×List UInt8×List Int×Int)=>True∧cA Mp [.str x.1] fun x_1 y=>Aa (!Option.isSome (CN x_1)) (∃(y:RnY),zsQ x.1 x.2.1 x.2.2.1 x.2.2.2 y∧y.1=[]∧(0:Int)=y.2.1∧(1:Int)=y.2.2.1∧(0:Int)=y.2.2.2∧True) (cA SO [nds y.1,.str x.2.1,Aj x.2.2.1,.int .i64 x.2.2.2] fun x_2 y=>∃(y_1:RnY),zsQ x.1 x.2.1 x.2.2.1 x.2.2.2 y_1∧Aj y.1=Aj y_1.1∧y.2.1=y_1.2.1∧y.2.2.1=y_1.2.2.1∧y.2.2.2=y_1.2.2.2∧True)) (fun x=>by kernel_rfl) fun(x:List UInt8×List UInt8×List Int×Int) (hx:x.1.length<2^62∧(∀a∈x.2.2.1,bdd a)∧x.2.2.1.length≤12)=>(by
 dsimp only[cA,Aj,mcA,Bc,nds,Ab,Mp,SO,Au,Az,mvL,lnL,mvE,lnE]
 obtain⟨u,t,az,st⟩:=x;dsimp only at hx ⊢
 obtain⟨h1,h2,h3⟩:=hx
 (repeat' first|(with_reducible first|rfl|exact True.intro|apply AK|apply And.intro|((first|apply AA|apply AI|apply AB|apply AJ)<;>intro _))|(apply Ax<;>intro _)|apply AH|refine Ae () ?_ ?_|((first|apply AO|apply AN|apply AM|apply AL|apply AG|apply AF|apply AE|apply AD|apply AC)<;>try dsimp only)|apply Ae|(refine Prod.forall.2 ?_;intro _;try dsimp only)|(intro _;try dsimp only))
 all_goals first
  |rfl
  |assumption
  |exact h2 _ ‹_›
  |exact b5N ‹_›
  |exact Ck ‹_› ‹_› ‹_›
  |exact b5P ‹_› ‹_›
  |exact(And.right (show _∧Cy _ by assumption))
  |skip)
def KT:Sig:= {X:=List Int×Unit,args:=fun x=>[Aj x.1,Aj x.1],pre:=fun x=>x.1.length<2^62,Y:=Unit,post:=fun x y=>True,res:=fun x y=> .bool true,outs:=fun x y=>[.top,.top],keep:=false}
def SQ(x:List Int×Unit):LS:= {ι:=Int,inv:=fun i=>0≤i∧i≤x.1.length,regs:=fun i=>[(0,Aj x.1),(1,Aj x.1),(11,Aj x.1),(12,.int .i64 x.1.length),(13,.int .i64 i)],als:=[],meas:=fun i=>x.1.length-i.toNat}
theorem b5R:Ai G Tryz.prog 53 KT:=
 vcFun_okP [] [] false (fun x=>[(4,SQ x)]) Tryz.func53 rfl (by decide) trivial (fun(x:List Int×Unit)=>(∀(y:Unit),True→True∧True∧True∧True)∧Aa ((↑(List.length x.1):Int) != (↑(List.length x.1):Int)) (rA KT x [.bool false,.top,.top]) (eA (SQ x) [Aj x.1,Aj x.1,Aj x.1,.int .i64 (↑(List.length x.1):Int),.int .i64 (0:Int)]∧∀(i:Int),(0:Int)≤i∧i≤(↑(List.length x.1):Int)→Aa (decide (i<(↑(List.length x.1):Int))) (true=true∧true=true∧((0:Int)≤i∧i<(↑(List.length x.1):Int))∧∀(e:Int),x.1[Int.toNat i]? =some e→((0:Int)≤i∧i<(↑(List.length x.1):Int))∧∀(e_1:Int),x.1[Int.toNat i]? =some e_1→Aa (e != e_1) (rA KT x [.bool false,.top,.top]) (inR IntKind.i64 (i+(1:Int))∧eN (SQ x) i [Aj x.1,Aj x.1,Aj x.1,.int .i64 (↑(List.length x.1):Int),.int .i64 (i+(1:Int))])) (rA KT x [.bool true,.top,.top]))) (fun x=>by kernel_rfl) fun(x:List Int×Unit) (hx:x.1.length<2^62)=>(by
 dsimp only[eA,eN,SQ,Aj,rA,KT,Au,Az,Bq]
 obtain⟨x,_⟩:=x;dsimp only at hx ⊢
 have hx:x.length<2^62:=hx
 (repeat' first|(with_reducible first|rfl|exact True.intro|apply AK|apply And.intro|((first|apply AA|apply AI|apply AB|apply AJ)<;>intro _))|(apply Ax<;>intro _)|apply AH|refine Ae () ?_ ?_|((first|apply AO|apply AN|apply AM|apply AL|apply AG|apply AF|apply AE|apply AD|apply AC)<;>try dsimp only)|apply Ae|(refine Prod.forall.2 ?_;intro _;try dsimp only)|(intro _;try dsimp only))
 all_goals(try(repeat(rename(_:List Int)[_]? =some _=>hq;revert hq;rename(_:List Int)[_]? =some _=>hr;intro hq;rw[hr] at hq;cases hq)))
 all_goals first
  |rfl
  |omega
  |(exfalso;simp at*;done)
  |((try simp only[AR]);omega)
  |skip)
def JN:Sig:= {X:=RnY×Unit,args:=fun x=>[.agg [Aj x.1.1,.int .i64 x.1.2.1,.int .i64 x.1.2.2.1,.int .i64 x.1.2.2.2],.agg [Aj x.1.1,.int .i64 x.1.2.1,.int .i64 x.1.2.2.1,.int .i64 x.1.2.2.2]],pre:=fun x=>x.1.1.length<2^62,Y:=Unit,post:=fun x y=>True,res:=fun x y=> .bool true,outs:=fun x y=>[.top,.top],keep:=false}
theorem b5S:Ai G Tryz.prog 24 JN:=
 vcFun_okP [(53,0,KT)] [] false (fun x=>[]) Tryz.func24 rfl (by decide) ⟨b5R,trivial⟩ (fun(x:RnY×Unit)=>(∀(y:Unit),True→True∧True∧True∧True)∧Aa (x.1.2.1==x.1.2.1) (Aa (x.1.2.2.1==x.1.2.2.1) (Aa (x.1.2.2.2==x.1.2.2.2) (cA KT [Aj x.1.1,Aj x.1.1] fun x_1 y=>rA JN x [.bool true,.top,.top]) (rA JN x [.bool false,.top,.top])) (rA JN x [.bool false,.top,.top])) (rA JN x [.bool false,.top,.top])) (fun x=>by kernel_rfl) fun(x:RnY×Unit) (hx:x.1.1.length<2^62)=>(by
 dsimp only[cA,Aj,rA,KT,JN,Au,Az,mvL,lnL,mvE,lnE]
 obtain⟨⟨o,r,c,s⟩,_⟩:=x;dsimp only at hx ⊢
 have hx:o.length<2^62:=hx
 (repeat' first|(with_reducible first|rfl|exact True.intro|apply AK|apply And.intro|((first|apply AA|apply AI|apply AB|apply AJ)<;>intro _))|(apply Ax<;>intro _)|apply AH|refine Ae () ?_ ?_|((first|apply AO|apply AN|apply AM|apply AL|apply AG|apply AF|apply AE|apply AD|apply AC)<;>try dsimp only)|apply Ae|(refine Prod.forall.2 ?_;intro _;try dsimp only)|(intro _;try dsimp only))
 all_goals first
  |rfl
  |exact hx
  |exact()
  |(exfalso;simp at*;done)
  |skip)
end Go.My
end
section
namespace Go.My
open Go.Eng Go.Proofs
variable {G:GInv}
def byA:UInt8→List AV:=fun c=>[.int .u8 c.toNat]
theorem FO(c:UInt8):byA c=[.int .u8 c.toNat]:=rfl
def byL(l:List UInt8):AV:= .sl false 0 1 UInt8 byA l
def cur(b:List UInt8)(i h:Int):List AV:=[.sl false 0 1 UInt8 byA b,.int .i64 i,.int .i64 h]
def Bx(b:List UInt8)(i:Int):Prop:=(0≤i∧i≤b.length)∧b.length≤2^21
theorem Xe{n:Int}(h1: -9223372036854775808≤n)(h2:n≤9223372036854775807):IntKind.i64.wrap n=n:=Ql ⟨by simp [IntKind.min,IntKind.bits,IntKind.signed];omega,by simp [IntKind.max,IntKind.bits,IntKind.signed];omega⟩
theorem a4v(a:Int):0≤DW .and .i64 a 255∧DW .and .i64 a 255≤255:=by
 unfold DW
 have h:(BitVec.ofInt IntKind.i64.bits a&&& BitVec.ofInt IntKind.i64.bits 255).toNat≤255:=by
  rw[BitVec.toNat_and]
  exact Nat.le_trans Nat.and_le_right (by decide)
 simp only
 rw[Xe (by omega) (by omega)]
 omega
theorem Xf(a:Int):0≤DW .and .i64 a 1073741823∧DW .and .i64 a 1073741823≤1073741823:=by
 unfold DW
 have h:(BitVec.ofInt IntKind.i64.bits a&&& BitVec.ofInt IntKind.i64.bits 1073741823).toNat≤1073741823:=by
  rw[BitVec.toNat_and]
  exact Nat.le_trans Nat.and_le_right (by decide)
 simp only
 rw[Xe (by omega) (by omega)]
 omega
theorem SR{a n:Int}(h0:0≤a)(hn:0<n):0≤a.tmod n∧a.tmod n<n:=⟨Int.tmod_nonneg n h0,Int.tmod_lt_of_pos a hn⟩
def Gy:Sig:= {X:=List UInt8×Int×Int,args:=fun x=>[.box 0 (cur x.1 x.2.1 x.2.2)],pre:=fun x=>Bx x.1 x.2.1,Y:=Int×Int×Int,post:=fun x y=>(0≤y.1∧y.1≤255)∧Bx x.1 y.2.1,res:=fun x y=> .int .i64 y.1,outs:=fun x y=>[.box 0 (cur x.1 y.2.1 y.2.2)],keep:=true}
theorem a4w:Ai G Tryz.prog 30 Gy:=
 vcFun_okP [] [] true (fun x=>[]) Tryz.func30 rfl (by decide) trivial (fun(x:List UInt8×Int×Int)=>True∧true=true∧true=true∧(0:Int)≤(33:Int)∧(0:Int)≤(45:Int)∧true=true∧true=true∧Aa (decide (x.2.1<(↑(List.length x.1):Int))) (true=true∧true=true∧((0:Int)≤x.2.1∧x.2.1<(↑(List.length x.1):Int))∧∀(e:UInt8),x.1[Int.toNat x.2.1]? =some e→rA Gy x [.int .i64 (DW BinOp.and IntKind.i64 (IntKind.wrap IntKind.i64 (DW BinOp.and IntKind.i64 (DW BinOp.xor IntKind.i64 (shI false IntKind.i64 (IntKind.wrap IntKind.i64 (IntKind.wrap IntKind.i64 (x.2.2*(6364136223846793005:Int))+(1442695040888963407:Int))) (33:Int)) (shI false IntKind.i64 (IntKind.wrap IntKind.i64 (IntKind.wrap IntKind.i64 (x.2.2*(6364136223846793005:Int))+(1442695040888963407:Int))) (45:Int))) (255:Int)+IntKind.wrap IntKind.i64 (↑(UInt8.toNat e):Int))) (255:Int)),.box 0 [byL x.1,.int .i64 (IntKind.wrap IntKind.i64 (x.2.1+(1:Int))),.int .i64 (IntKind.wrap IntKind.i64 (IntKind.wrap IntKind.i64 (x.2.2*(6364136223846793005:Int))+(1442695040888963407:Int)))]]) (rA Gy x [.int .i64 (DW BinOp.and IntKind.i64 (DW BinOp.xor IntKind.i64 (shI false IntKind.i64 (IntKind.wrap IntKind.i64 (IntKind.wrap IntKind.i64 (x.2.2*(6364136223846793005:Int))+(1442695040888963407:Int))) (33:Int)) (shI false IntKind.i64 (IntKind.wrap IntKind.i64 (IntKind.wrap IntKind.i64 (x.2.2*(6364136223846793005:Int))+(1442695040888963407:Int))) (45:Int))) (255:Int)),.box 0 [byL x.1,.int .i64 x.2.1,.int .i64 (IntKind.wrap IntKind.i64 (IntKind.wrap IntKind.i64 (x.2.2*(6364136223846793005:Int))+(1442695040888963407:Int)))]])) (fun x=>by kernel_rfl) fun(x:List UInt8×Int×Int) (hx:Bx x.1 x.2.1)=>(by
 dsimp only[FO,byL,cur,rA,Gy,Au,Az]
 obtain⟨b,i,h⟩:=x;dsimp only at hx ⊢
 have hx:Bx b i:=hx
 have hb:=hx.1;have hl:=hx.2
 (repeat' first|(with_reducible first|rfl|exact True.intro|apply AK|apply And.intro|((first|apply AA|apply AI|apply AB|apply AJ)<;>intro _))|(apply Ax<;>intro _)|apply AH|refine Ae () ?_ ?_|((first|apply AO|apply AN|apply AM|apply AL|apply AG|apply AF|apply AE|apply AD|apply AC)<;>try dsimp only)|apply Ae|(refine Prod.forall.2 ?_;intro _;try dsimp only)|(intro _;try dsimp only))
 all_goals first
  |rfl
  |omega
  |exact(a4v _).1
  |exact(a4v _).2
  |exact hx
  |(rw[Xe (by omega) (by omega)];exact⟨by omega,hl⟩)
  |skip)
def DK:Sig:= {X:=List UInt8×Int×Int×Int,args:=fun x=>[.box 0 (cur x.1 x.2.1 x.2.2.1),.int .i64 x.2.2.2],pre:=fun x=>Bx x.1 x.2.1,Y:=Int×Int×Int,post:=fun x y=>((0<x.2.2.2→0≤y.1∧y.1<x.2.2.2)∧(x.2.2.2≤0→y.1=0))∧Bx x.1 y.2.1,res:=fun x y=> .int .i64 y.1,outs:=fun x y=>[.box 0 (cur x.1 y.2.1 y.2.2),.top],keep:=true}
theorem NU:Ai G Tryz.prog 31 DK:=
 vcFun_okP [(30,0,Gy)] [] false (fun x=>[]) Tryz.func31 rfl (by decide) ⟨a4w,trivial⟩ (fun(x:List UInt8×Int×Int×Int)=>True∧Aa (decide (x.2.2.2≤(0:Int))) (rA DK x [.int .i64 (0:Int),.box 0 (cur x.1 x.2.1 x.2.2.1),.top]) (Aa (decide (x.2.2.2≤(256:Int))) (cA Gy [.box 0 (cur x.1 x.2.1 x.2.2.1)] fun x_1 y=>x.2.2.2≠(0:Int)∧rA DK x [.int .i64 (Int.tmod y.1 x.2.2.2),.box 0 (cur x_1.1 y.2.1 y.2.2),.top]) (cA Gy [.box 0 (cur x.1 x.2.1 x.2.2.1)] fun x_1 y=>cA Gy [.box 0 (cur x_1.1 y.2.1 y.2.2)] fun x_2 y_1=>cA Gy [.box 0 (cur x_2.1 y_1.2.1 y_1.2.2)] fun x_3 y_2=>cA Gy [.box 0 (cur x_3.1 y_2.2.1 y_2.2.2)] fun x_4 y_3=>inR IntKind.i64 (y.1*(16777216:Int))∧inR IntKind.i64 (y_1.1*(65536:Int))∧inR IntKind.i64 (y.1*(16777216:Int)+y_1.1*(65536:Int))∧inR IntKind.i64 (y_2.1*(256:Int))∧inR IntKind.i64 (y.1*(16777216:Int)+y_1.1*(65536:Int)+y_2.1*(256:Int))∧inR IntKind.i64 (y.1*(16777216:Int)+y_1.1*(65536:Int)+y_2.1*(256:Int)+y_3.1)∧x.2.2.2≠(0:Int)∧rA DK x [.int .i64 (Int.tmod (y.1*(16777216:Int)+y_1.1*(65536:Int)+y_2.1*(256:Int)+y_3.1) x.2.2.2),.box 0 (cur x_4.1 y_3.2.1 y_3.2.2),.top]))) (fun x=>by kernel_rfl) fun(x:List UInt8×Int×Int×Int) (hx:Bx x.1 x.2.1)=>(by
 dsimp only[FO,cA,cur,rA,DK,Gy,Au,Az,mvL,lnL,mvE,lnE]
 obtain⟨b,i,h,n⟩:=x;dsimp only at hx ⊢
 have hx:Bx b i:=hx
 (repeat' first|(with_reducible first|rfl|exact True.intro|apply AK|apply And.intro|((first|apply AA|apply AI|apply AB|apply AJ)<;>intro _))|(apply Ax<;>intro _)|apply AH|refine Ae () ?_ ?_|((first|apply AO|apply AN|apply AM|apply AL|apply AG|apply AF|apply AE|apply AD|apply AC)<;>try dsimp only)|apply Ae|(refine Prod.forall.2 ?_;intro _;try dsimp only)|(intro _;try dsimp only))
 all_goals(repeat(rename(_∧_)∧Bx _ _=>hq;obtain⟨⟨_,_⟩,_⟩:=hq))
 all_goals first
  |rfl
  |assumption
  |omega
  |exact(SR (by omega) (by omega)).1
  |exact(SR (by omega) (by omega)).2
  |skip)
def Cl:Sig:= {X:=List UInt8×Int×Int×List (List UInt8),args:=fun x=>[.box 0 (cur x.1 x.2.1 x.2.2.1),.sl false 0 1 (List UInt8) Bg x.2.2.2],pre:=fun x=>Bx x.1 x.2.1∧x.2.2.2≠[]∧x.2.2.2.length<2^30,Y:=List UInt8×Int×Int,post:=fun x y=>y.1∈x.2.2.2∧Bx x.1 y.2.1,res:=fun x y=> .str y.1,outs:=fun x y=>[.box 0 (cur x.1 y.2.1 y.2.2),.top],keep:=true}
theorem SS:Ai G Tryz.prog 55 Cl:=
 vcFun_okP [(31,0,DK)] [] false (fun x=>[]) Tryz.func55 rfl (by decide) ⟨NU,trivial⟩ (fun(x:List UInt8×Int×Int×List (List UInt8))=>True∧cA DK [.box 0 (cur x.1 x.2.1 x.2.2.1),.int .i64 (↑(List.length x.2.2.2):Int)] fun x_1 y=>((0:Int)≤y.1∧y.1<(↑(List.length x.2.2.2):Int))∧∀(e:List UInt8),x.2.2.2[Int.toNat y.1]? =some e→rA Cl x [.str e,.box 0 (cur x_1.1 y.2.1 y.2.2),.top]) (fun x=>by kernel_rfl) fun(x:List UInt8×Int×Int×List (List UInt8)) (hx:Bx x.1 x.2.1∧x.2.2.2≠[]∧x.2.2.2.length<2^30)=>(by
 dsimp only[FO,cA,cur,rA,DK,Cl,Au,Az,mvL,lnL,mvE,lnE]
 obtain⟨b,i,h,l⟩:=x;dsimp only at hx ⊢
 obtain⟨hx,hn,hl⟩:=hx
 have hp:0<l.length:=by cases l with|nil=>exact(hn rfl).elim|cons _ _=>simp
 (repeat' first|(with_reducible first|rfl|exact True.intro|apply AK|apply And.intro|((first|apply AA|apply AI|apply AB|apply AJ)<;>intro _))|(apply Ax<;>intro _)|apply AH|refine Ae () ?_ ?_|((first|apply AO|apply AN|apply AM|apply AL|apply AG|apply AF|apply AE|apply AD|apply AC)<;>try dsimp only)|apply Ae|(refine Prod.forall.2 ?_;intro _;try dsimp only)|(intro _;try dsimp only))
 all_goals(repeat(rename(_∧_)∧Bx _ _=>hq;obtain⟨⟨_,_⟩,_⟩:=hq))
 all_goals first
  |rfl
  |assumption
  |exact Ca ‹_›
  |omega
  |skip)
end Go.My
end
