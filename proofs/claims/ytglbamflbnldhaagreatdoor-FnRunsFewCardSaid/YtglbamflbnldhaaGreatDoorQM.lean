/- joined -/
import Derived.Test.YtglbamflbnldhaaGreatDoorQL
set_option linter.unusedSimpArgs false
set_option linter.unusedVariables false
section
namespace Go.My
open Go.Eng Go.Proofs
variable {G:GInv}
theorem bt{a b:List UInt8}(h:(a==b)=true):a=b:=by simpa using h
theorem bf{a b:List UInt8}(h:(a==b)=false):a≠b:=by simpa using h
def csJ(sg:List Sg)(n l:Nat)(x y:Gs)(t:List UInt8)(ks:List Int)(N:Nat):Prop:=chS sg n l x y t ks N∧(y.bad=false→y.deep≤20)
theorem b7a{s:ST}{x:Gs}{n:Nat}{l:Int}(hx:wQ (9-l.toNat) (n+1) s x)(hl:l>5)(h6:l≤6):wQ 2 n s x:=by
 have e:l.toNat=6:=by omega
 have a:=hx.1.2
 rw[e] at a
 exact⟨⟨hx.1.1,by omega⟩,hx.2⟩
theorem b7b{s:ST}{x:Gs}{n:Nat}{l:Int}{z:Int×Gs}(hl:l>5)(h6:l≤6)(h:Ag s.sg x (pE s.sg n .fin) z):Ag s.sg x (pE s.sg (n+1) (.chain l.toNat)) z:=a3g (by omega) h
theorem b7c{s:ST}{x:Gs}{n:Nat}{l:Int}(hx:wQ (9-l.toNat) (n+1) s x)(h0:0≤l)(hl:¬l>5):wQ (9-(l+1).toNat) n s x:=⟨⟨hx.1.1,by have:=hx.1.2;omega⟩,hx.2⟩
theorem b7d{s:ST}{x:Gs}{n:Nat}{l:Int}{z:Int×Gs}(hx:wQ (9-l.toNat) (n+1) s x)(h0:0≤l)(hl:¬l>5)(hz:Ag s.sg x (pE s.sg n (.chain (l+1).toNat)) z):csJ s.sg n l.toNat x z.2 [] [z.1] (2*s.sg.length+4):=by
 rw[show(l+1).toNat=l.toNat+1 by omega] at hz
 exact⟨b6p hx.1.1.1.2 (by omega) hz,Me hz hx.1.1.2⟩
theorem a4U{s:ST}{x y:Gs}{n l:Nat}{t:List UInt8}{ks:List Int}{N:Nat}(hs:sgB s.sg)(h:csJ s.sg n l x y t ks N):rOk s y:=⟨hs,h.1.1.1⟩
theorem a4V{s:ST}{x y:Gs}{n l:Nat}{t:List UInt8}{ks:List Int}{N:Nat}{i:Int}{m:List UInt8}(hs:sgB s.sg)(h:csJ s.sg n l x y t ks N)(hq:mkQ s.sg y l i m):rOk s (gM y m):=by
 unfold gM;split
 ·exact a4U hs h
 ·rename_i hm
  rcases hq.2 with h2|h2
  ·exact(hm h2.1).elim
  ·have hg:=(HB (sg:=s.sg) (l:=l) (g:=y) (by rw[←h2.2];exact hm)).1
   exact⟨hs,Fc h.1.1.1 (CC hg (by omega)).2⟩
theorem a4W{s:ST}{x y:Gs}{n:Nat}{l:Int}{t:List UInt8}{ks:List Int}{N:Nat}{i:Int}{m:List UInt8}(hx:wQ (9-l.toNat) (n+1) s x)(h0:0≤l)(hl:¬l>5)(h:csJ s.sg n l.toNat x y t ks N)(hq:mkQ s.sg y l.toNat i m)(hm:m≠[]):wQ (9-(l+1).toNat) n s (gM y m):=by
 have hr:=a4V hx.1.1.1.1 h hq
 rw[Tc hm] at hr ⊢
 rcases hq.2 with h2|h2
 ·exact(hm h2.1).elim
 ·have hg:=(HB (sg:=s.sg) (l:=l.toNat) (g:=y) (by rw[←h2.2];exact hm)).1
  have hb:=CC hg (by omega)
  have e1:(An y).pos=y.pos+1:=rfl
  have e2:(An y).deep=y.deep:=rfl
  have:=h.1.1.2.2.1;have:=hx.1.2;have:=h.2 hb.1
  exact⟨⟨⟨hr,fun _=>by omega⟩,by omega⟩,hx.2⟩
theorem b7e{s:ST}{x y:Gs}{n:Nat}{l:Int}{t:List UInt8}{ks:List Int}{N:Nat}{i:Int}{m:List UInt8}(hx:wQ (9-l.toNat) (n+1) s x)(h0:0≤l)(hl:¬l>5)(h:csJ s.sg n l.toNat x y t ks N)(hq:mkQ s.sg y l.toNat i m)(hm:m≠[])(ht:t≠[]):wQ (9-(l+1).toNat) n s (Ah (gM y m) ⟨7,t,ks,false⟩):=by
 have a:=a4W hx h0 hl h hq hm
 obtain⟨d1,d2,d3⟩:= @HA (gM y m) ⟨7,t,ks,false⟩
 have hw:=Xo (ks:=ks) hx.1.1.1.1 (h.1.2.2.2.2.2 ht).2 (by have:=h.1.2.2.1;have:=h.1.1.1.1;omega)
 exact⟨⟨⟨⟨a.1.1.1.1,IW a.1.1.1.2 hw⟩,fun hb=>by rw[d1];exact a.1.1.2 (d3 hb)⟩,by rw[d2];exact a.1.2⟩,a.2⟩
theorem Tl{s:ST}{x y:Gs}{n:Nat}{l:Int}{t:List UInt8}{ks:List Int}{N:Nat}{i:Int}{m:List UInt8}{z:Int×Gs}(h0:0≤l)(h:csJ s.sg n l.toNat x y t ks N)(hq:mkQ s.sg y l.toNat i m)(hi:¬i<((Bv l.toNat).length:Int))(hm:m≠[])(ht:t=[]∨m=t)
 (hz:Ag s.sg (gM y m) (pE s.sg n (.chain (l+1).toNat)) z):csJ s.sg n l.toNat x z.2 m (ks++[z.1]) (N-1)∧N-1<N:=by
 have e:=Td hq hi
 rw[Tc hm,show(l+1).toNat=l.toNat+1 by omega] at hz
 obtain⟨a,b⟩:=b6q h.1 (by rw[←e];exact hm) (by rw[←e];exact ht) hz
 rw[←e] at a
 have hg:=(HB (sg:=s.sg) (l:=l.toNat) (g:=y) (by rw[←e];exact hm)).1
 exact⟨⟨a,Me hz (fun _=>h.2 (CC hg (by omega)).1)⟩,b⟩
theorem a4X{s:ST}{x y:Gs}{n:Nat}{l:Int}{t:List UInt8}{ks:List Int}{N:Nat}{i:Int}{m:List UInt8}{z:Int×Gs}(hs:sgB s.sg)(h0:0≤l)(h:csJ s.sg n l.toNat x y t ks N)(hq:mkQ s.sg y l.toNat i m)(hi:¬i<((Bv l.toNat).length:Int))(hm:m≠[])(ht:t≠[])(hne:m≠t)
 (hz:Ag s.sg (Ah (gM y m) ⟨7,t,ks,false⟩) (pE s.sg n (.chain (l+1).toNat)) z):csJ s.sg n l.toNat x z.2 m ([AQ (gM y m)]++[z.1]) (N-2)∧N-2<N:=by
 have e:=Td hq hi
 rw[Tc hm] at hz ⊢
 rw[show(l+1).toNat=l.toNat+1 by omega] at hz
 obtain⟨a,b⟩:=b6r hs h.1 (by rw[←e];exact hm) ht (by rw[←e];exact hne) hz
 rw[←e] at a
 have hg:=(HB (sg:=s.sg) (l:=l.toNat) (g:=y) (by rw[←e];exact hm)).1
 refine⟨⟨a,Me hz (fun hb=> ?_)⟩,b⟩
 rw[Sk];exact h.2 (CC hg (by omega)).1
theorem b7f{s:ST}{x y:Gs}{n l:Nat}{t:List UInt8}{ks:List Int}{N:Nat}{i:Int}{m:List UInt8}{k:Int}(h:csJ s.sg n l x y t ks N)(hq:mkQ s.sg y l i m)(hi:¬i<((Bv l).length:Int))(hm:m=[])(hl:(ks.length:Int)=1)(hk:ks[(0:Int).toNat]? =some k):Ag s.sg x (pE s.sg (n+1) (.chain l)) (k,gM y m):=by
 have e:=Td hq hi
 subst hm
 exact a4F h.1 (.inr e.symm) (by omega) hk
theorem b7g{s:ST}{x y:Gs}{n l:Nat}{t:List UInt8}{ks:List Int}{N:Nat}{i:Int}{m:List UInt8}(hs:sgB s.sg)(h:csJ s.sg n l x y t ks N)(hq:mkQ s.sg y l i m)(hi:¬i<((Bv l).length:Int))(hm:m=[])(hl:(ks.length:Int)≠1):Ag s.sg x (pE s.sg (n+1) (.chain l)) (AQ (gM y m),Ah (gM y m) ⟨7,t,ks,false⟩):=by
 have e:=Td hq hi
 subst hm
 exact a4G hs h.1 (.inr e.symm) (by omega)
theorem b7h{s:ST}{x y:Gs}{n l:Nat}{t:List UInt8}{ks:List Int}{N:Nat}{k:Int}(h:csJ s.sg n l x y t ks N)(hb:y.bad=true)(hl:(ks.length:Int)=1)(hk:ks[(0:Int).toNat]? =some k):Ag s.sg x (pE s.sg (n+1) (.chain l)) (k,y):=a4F h.1 (.inl hb) (by omega) hk
theorem b7i{s:ST}{x y:Gs}{n l:Nat}{t:List UInt8}{ks:List Int}{N:Nat}(hs:sgB s.sg)(h:csJ s.sg n l x y t ks N)(hb:y.bad=true)(hl:(ks.length:Int)≠1):Ag s.sg x (pE s.sg (n+1) (.chain l)) (AQ y,Ah y ⟨7,t,ks,false⟩):=a4G hs h.1 (.inl hb) (by omega)
theorem b7j{s:ST}{x y:Gs}{n l:Nat}{t:List UInt8}{ks:List Int}{N:Nat}(hs:sgB s.sg)(h:csJ s.sg n l x y t ks N):ks.length≤3001∧1≤ks.length:=by
 have h1:=h.1.2.2.1;have h2:=h.1.1.1.1.2;have h3:=hs.1
 refine⟨by omega,?_⟩
 rcases Classical.em (t=[]) with e|e
 ·have:=h.1.2.2.2.2.1 e;omega
 ·have:=(h.1.2.2.2.2.2 e).1;omega
theorem b7k{sg:List Sg}{y:Gs}{l:Nat}{i:Int}{m:List UInt8}(h:mkQ sg y l i m):(0≤i∧i≤(Bv l).length)∧(Bv l).length≤2:=⟨h.1,a2V⟩
theorem KV{sg:List Sg}{y:Gs}{l:Nat}{i:Int}{m v:List UInt8}(h:mkQ sg y l i m)(hm:m=[])(ha:(Bv l)[i.toNat]? =some v)(hg:isG sg (gM y m) 4 v=true):
 (Al sg (gM y m) v).pos=(gM y v).pos∧(Al sg (gM y m) v).bad=(gM y v).bad∧(Al sg (gM y m) v).deep=(gM y v).deep∧(Al sg (gM y m) v).nodes=(gM y v).nodes:=by
 rw[(Xq h hm ha hg).2];exact⟨rfl,rfl,rfl,rfl⟩
theorem b7l{sg:List Sg}{p d:Int}{b:Bool}{ns:List Nd}{f:Ps→PR}{z:Int×Gs}(hd:d≤20)(h:d+1>20)(hz:Ag sg ⟨p,d+1,true,ns⟩ f z):Ag sg (pkX ⟨p,d,b,ns⟩) f z:=by
 have e:pkX ⟨p,d,b,ns⟩=⟨p,d+1,true,ns⟩:=by simp only[pkX];rw[if_pos (show d=20 by omega)];rfl
 rw[e];exact hz
theorem b7m{sg:List Sg}{p d:Int}{b:Bool}{ns:List Nd}{f:Ps→PR}{z:Int×Gs}(h:¬d+1>20)(hz:Ag sg ⟨p,d+1,b,ns⟩ f z):Ag sg (pkX ⟨p,d,b,ns⟩) f z:=by
 have e:pkX ⟨p,d,b,ns⟩=⟨p,d+1,b,ns⟩:=by simp only[pkX];rw[if_neg (show¬d=20 by omega)];rfl
 rw[e];exact hz
theorem b7n{s:ST}{p d:Int}{b:Bool}{ns:List Nd}{n:Nat}(hx:vQ 10 (n+1) s ⟨p,d,b,ns⟩)(h:d+1>20):wQ (9-(0:Int).toNat) n s ⟨p,d+1,true,ns⟩:=by
 have a:=(Sj hx.1.1.1 hx.1.1.2 hx.1.2).1
 have hd:=hx.1.1.2;simp only at hd
 have e:pkX ⟨p,d,b,ns⟩=⟨p,d+1,true,ns⟩:=by simp only[pkX];rw[if_pos (show d=20 by omega)];rfl
 rw[e] at a;exact⟨a,hx.2⟩
theorem b7o{s:ST}{p d:Int}{b:Bool}{ns:List Nd}{n:Nat}(hx:vQ 10 (n+1) s ⟨p,d,b,ns⟩)(h:¬d+1>20):wQ (9-(0:Int).toNat) n s ⟨p,d+1,b,ns⟩:=by
 have a:=(Sj hx.1.1.1 hx.1.1.2 hx.1.2).1
 have e:pkX ⟨p,d,b,ns⟩=⟨p,d+1,b,ns⟩:=by simp only[pkX];rw[if_neg (show¬d=20 by omega)];rfl
 rw[e] at a;exact⟨a,hx.2⟩
theorem b7p{s:ST}{x y:Gs}{n:Nat}{ks:List Int}{N:Nat}(hx:vQ 11 (n+1) s x)(h:vaJ s.sg n x y ks N)(hq:isG s.sg y 4 [46,46]=true):
 wQ 11 n s (Aq s.sg (Ah (Be s.sg (Al s.sg y [46,46]) 1) ⟨1,Bz s.sg (Al s.sg y [46,46]) 1,[],false⟩) [40]):=by
 have hr:=Sl hx.1.1.1 h
 have a:=NZ (m:=[46,46]) hr
 have e:=CF a
 have t:=FM (m:=[40]) (EC a)
 rw[Dg hq] at a e t ⊢
 simp only at e t
 have e1:(An y).pos=y.pos+1:=rfl
 have e2:(An y).deep=y.deep:=rfl
 have:=h.1.1.2.2.1;have:=h.2;have:=hx.1.2
 exact⟨⟨⟨⟨hx.1.1.1.1,t.1⟩,fun _=>by omega⟩,by omega⟩,hx.2⟩
theorem a4Y{s:ST}{x y:Gs}{n:Nat}{ks:List Int}{N:Nat}{v:List Int×Gs}(hs:sgB s.sg)(h:vaJ s.sg n x y ks N)(hq:isG s.sg y 4 [46,46]=true)
 (hv:vlQ s.sg (pE s.sg n .value) [41] [AQ (Be s.sg (Al s.sg y [46,46]) 1)] (Aq s.sg (Ah (Be s.sg (Al s.sg y [46,46]) 1) ⟨1,Bz s.sg (Al s.sg y [46,46]) 1,[],false⟩) [40]) v):
 vaJ s.sg n x (Ah v.2 ⟨5,[],v.1,false⟩) (ks++[AQ v.2]) (N-1)∧N-1<N:=by
 have a:=NZ (m:=[46,46]) (show rOk s y from⟨hs,h.1.1.1⟩)
 have hw:=a4I (EC a) hv
 have e:=(CF a).1
 rw[Dg hq] at a e
 obtain⟨c1,c2⟩:=HC (b6y h.1 hq a (by rw[Dg hq] at hw;exact hw))
 have e2:(An y).deep=y.deep:=rfl
 have e3:=(CF hw).1
 rw[Dg hq] at e3
 have:=h.2
 exact⟨WG ⟨c1,by simp only at*;omega⟩,c2⟩
theorem XA{s:ST}{x y:Gs}{n:Nat}{ks:List Int}{N:Nat}(hs:sgB s.sg)(h:vaJ s.sg n x y ks N):rOk s (Al s.sg y [46,46])∧rOk s (Be s.sg (Al s.sg y [46,46]) 1)∧rOk s (Ah (Be s.sg (Al s.sg y [46,46]) 1) ⟨1,Bz s.sg (Al s.sg y [46,46]) 1,[],false⟩):=
 have hr:rOk s y:=⟨hs,h.1.1.1⟩
 ⟨Fu hr,HJ (Fu hr) (by omega),Xt hr⟩
def lqI(s:ST)(e:Int)(j:Int×Int×Bool×List Nd×List UInt8×List Int×Nat):LS:= {
 ι:=Int×List UInt8,inv:=fun i=>mkQ s.sg (iF j) e.toNat i.1 i.2,regs:=fun i=>[(0,srd s (gM (iF j) i.2)),(1,.int .i64 e),(5,Ab j.2.2.2.2.2.1),(6,.str j.2.2.2.2.1),(7,.sl false 0 1 (List UInt8) Bg (Bv e.toNat)),(8,.str i.2),(9,.int .i64 i.1)],als:=[],meas:=fun i=>(Bv e.toNat).length-i.1.toNat}
def lqO(n:Nat)(x:ST×Int×Int×Bool×List Nd×Int):LS:= {
 ι:=Int×Int×Bool×List Nd×List UInt8×List Int×Nat,inv:=fun i=>csJ x.1.sg n x.2.2.2.2.2.toNat (xh x) (iF i) i.2.2.2.2.1 i.2.2.2.2.2.1 i.2.2.2.2.2.2,regs:=fun i=>[(0,srd x.1 (iF i)),(1,.int .i64 x.2.2.2.2.2),(5,Ab i.2.2.2.2.2.1),(6,.str i.2.2.2.2.1),(7,.sl false 0 1 (List UInt8) Bg (Bv x.2.2.2.2.2.toNat))],als:=[],meas:=fun i=>i.2.2.2.2.2.2,
 sub:=fun j=>[(9,lqI x.1 x.2.2.2.2.2 j)]}
attribute [local irreducible] pE Bn Dc fnR Ag Bl gsOk Aq Bs Ah BX De Al CD Dp AQ BC pkG isG nmG kdG Be Bz BB vlQ lqJ saI arG eqJ csJ mkQ gM vaJ
def Iw:Sig:= {X:=Int,args:=fun x=>[.int .i64 x],pre:=fun x=>0≤x∧x≤5,Y:=Unit,post:=fun x y=>True,res:=fun x y=> .sl false 0 1 (List UInt8) Bg (Bv x.toNat),outs:=fun x y=>[.top],keep:=true}
theorem b7q:Ai G Tryz.prog 181 Iw:=
 vcFun_okP [] [(91,⟨List UInt8,Bg⟩)] false (fun x=>[]) Tryz.func181 rfl (by decide) trivial (fun(x:Int)=>True∧Aa (x==(0:Int)) (∃(x_1:List UInt8),#[(124:UInt8),(124:UInt8)].toList=x_1∧rA Iw x [AV.sl true 0 1 (List UInt8) Bg [x_1],.top]) (Aa (x==(1:Int)) (∃(x_1:List UInt8),#[(38:UInt8),(38:UInt8)].toList=x_1∧rA Iw x [AV.sl true 0 1 (List UInt8) Bg [x_1],.top]) (Aa (x==(2:Int)) (∃(x_1:List UInt8),#[(61:UInt8),(61:UInt8)].toList=x_1∧rA Iw x [AV.sl true 0 1 (List UInt8) Bg [x_1],.top]) (Aa (x==(3:Int)) (∃(x_1:List UInt8),#[(60:UInt8)].toList=x_1∧rA Iw x [AV.sl true 0 1 (List UInt8) Bg [x_1],.top]) (Aa (x==(4:Int)) (∃(x_1:List UInt8),#[(43:UInt8)].toList=x_1∧∃(x_2:List UInt8),#[(45:UInt8)].toList=x_2∧rA Iw x [AV.sl true 0 1 (List UInt8) Bg [x_1,x_2],.top]) (∃(x_1:List UInt8),#[(42:UInt8)].toList=x_1∧rA Iw x [AV.sl true 0 1 (List UInt8) Bg [x_1],.top])))))) (fun x=>by kernel_rfl) fun(x:Int) (hx:0≤x∧x≤5)=>(by
 dsimp only[rA,Iw,Au,Az]
 obtain⟨h1,h2⟩:=hx
 have hh:x=0∨x=1∨x=2∨x=3∨x=4∨x=5:=by omega
 rcases hh with rfl|rfl|rfl|rfl|rfl|rfl
 all_goals(repeat' first|(with_reducible first|rfl|exact True.intro|apply AK|apply And.intro|((first|apply AA|apply AI|apply AB|apply AJ)<;>intro _))|(apply Ax<;>intro _)|apply AH|refine Ae () ?_ ?_|((first|apply AO|apply AN|apply AM|apply AL|apply AG|apply AF|apply AE|apply AD|apply AC)<;>try dsimp only)|apply Ae|(refine Prod.forall.2 ?_;intro _;try dsimp only)|(intro _;try dsimp only))
 all_goals first
  |rfl
  |omega
  |(simp [AW];done)
  |skip)
def Mt(n:Nat):Sig:= {X:=ST×Int×Int×Bool×List Nd×Int,args:=fun x=>[srd x.1 (xh x),.int .i64 x.2.2.2.2.2],pre:=fun x=>wQ (9-x.2.2.2.2.2.toNat) (n+1) x.1 (xh x)∧0≤x.2.2.2.2.2∧x.2.2.2.2.2≤6,Y:=Int×Int×Int×Bool×List Nd,post:=fun x y=>Ag x.1.sg (xh x) (pE x.1.sg (n+1) (.chain x.2.2.2.2.2.toNat)) (yS y),res:=fun x y=> .int .i64 y.1,outs:=fun x y=>[srd x.1 (yG y.2),.top],keep:=true}
theorem b7r(n:Nat)(h:qAll G n):Ai G Tryz.prog 137 (Mt n):=
 vcFun_okP [(180,0,(Te n)),(137,0,(Iv n)),(181,0,Iw),(63,0,Cb),(36,0,Bo)] [(25,⟨Int,AZ⟩),(91,⟨List UInt8,Bg⟩)] false (fun x=>[(6,lqO n x)]) Tryz.func137 rfl (by decide) ⟨h.fin,h.chain,b7q,HH,HI,trivial⟩ (fun(x:ST×Int×Int×Bool×List Nd×Int)=>True∧Aa (decide (x.2.2.2.2.2>(5:Int))) (cA (Te n) [srd x.1 (xh x)] fun x_1 y=>rA (Mt n) x [.int .i64 y.1,srd x_1.1 (yG y.2),.top]) (inR IntKind.i64 (x.2.2.2.2.2+(1:Int))∧cA (Iv n) [srd x.1 (xh x),.int .i64 (x.2.2.2.2.2+(1:Int))] fun x_1 y=>∃(x_2:Int),y.1=x_2∧cA Iw [.int .i64 x.2.2.2.2.2] fun x_3 y_1=>eA (lqO n x) [srd x_1.1 (yG y.2),.int .i64 x.2.2.2.2.2,Ab [x_2],.str #[].toList,AV.sl false 0 1 (List UInt8) Bg (Bv (Int.toNat x_3))]∧∀(i:Int×Int×Bool×List Nd×List UInt8×List Int×Nat),csJ x.1.sg n (Int.toNat x.2.2.2.2.2) (xh x) (iF i) i.2.2.2.2.1 i.2.2.2.2.2.1 i.2.2.2.2.2.2→Aa (!(iF i).bad) (eA (lqI x.1 x.2.2.2.2.2 i) [srd x.1 (iF i),.int .i64 x.2.2.2.2.2,Ab i.2.2.2.2.2.1,.str i.2.2.2.2.1,AV.sl false 0 1 (List UInt8) Bg (Bv (Int.toNat x.2.2.2.2.2)),.str #[].toList,.int .i64 (0:Int)]∧∀(i_1:Int×List UInt8),mkQ x.1.sg (iF i) (Int.toNat x.2.2.2.2.2) i_1.1 i_1.2→Aa (decide (i_1.1<(↑(List.length (Bv (Int.toNat x.2.2.2.2.2))):Int))) (Aa (i_1.2== #[].toList) (((0:Int)≤i_1.1∧i_1.1<(↑(List.length (Bv (Int.toNat x.2.2.2.2.2))):Int))∧∀(e:List UInt8),(Bv (Int.toNat x.2.2.2.2.2))[Int.toNat i_1.1]? =some e→cA Cb [srd x.1 (gM (iF i) i_1.2),.str e] fun x_4 y=>Aa (isG x_4.1.sg (xh x_4) (4:Int) x_4.2.2.2.2.2) (((0:Int)≤i_1.1∧i_1.1<(↑(List.length (Bv (Int.toNat x.2.2.2.2.2))):Int))∧∀(e:List UInt8),(Bv (Int.toNat x.2.2.2.2.2))[Int.toNat i_1.1]? =some e→inR IntKind.i64 (i_1.1+(1:Int))∧eN (lqI x.1 x.2.2.2.2.2 i) i_1 [srd x_4.1 (Al x_4.1.sg (xh x_4) x_4.2.2.2.2.2),.int .i64 x.2.2.2.2.2,Ab i.2.2.2.2.2.1,.str i.2.2.2.2.1,AV.sl false 0 1 (List UInt8) Bg (Bv (Int.toNat x.2.2.2.2.2)),.str e,.int .i64 (i_1.1+(1:Int))]) (inR IntKind.i64 (i_1.1+(1:Int))∧eN (lqI x.1 x.2.2.2.2.2 i) i_1 [srd x_4.1 (Al x_4.1.sg (xh x_4) x_4.2.2.2.2.2),.int .i64 x.2.2.2.2.2,Ab i.2.2.2.2.2.1,.str i.2.2.2.2.1,AV.sl false 0 1 (List UInt8) Bg (Bv (Int.toNat x.2.2.2.2.2)),.str i_1.2,.int .i64 (i_1.1+(1:Int))])) (inR IntKind.i64 (i_1.1+(1:Int))∧eN (lqI x.1 x.2.2.2.2.2 i) i_1 [srd x.1 (gM (iF i) i_1.2),.int .i64 x.2.2.2.2.2,Ab i.2.2.2.2.2.1,.str i.2.2.2.2.1,AV.sl false 0 1 (List UInt8) Bg (Bv (Int.toNat x.2.2.2.2.2)),.str i_1.2,.int .i64 (i_1.1+(1:Int))])) (Aa (i_1.2== #[].toList) (Aa ((↑(List.length i.2.2.2.2.2.1):Int)==(1:Int)) (((0:Int)≤(0:Int)∧(0:Int)<(↑(List.length i.2.2.2.2.2.1):Int))∧(0:Nat)<List.length i.2.2.2.2.2.1∧∀(x_4:Int),i.2.2.2.2.2.1[(0:Nat)]? =some x_4→rA (Mt n) x [.int .i64 x_4,srd x.1 (gM (iF i) i_1.2),.top]) (cA Bo [srd x.1 (gM (iF i) i_1.2),.int .i64 (7:Int),.str i.2.2.2.2.1,Ab i.2.2.2.2.2.1] fun x_4 y=>rA (Mt n) x [.int .i64 (AQ (xh x_4)),srd x_4.1 (Ah (xh x_4) {kind:=x_4.2.2.2.2.2.1,text:=x_4.2.2.2.2.2.2.1,kids:=x_4.2.2.2.2.2.2.2,blank:=false}),.top])) (Aa (!i.2.2.2.2.1== #[].toList) (Aa (!i_1.2==i.2.2.2.2.1) (cA Bo [srd x.1 (gM (iF i) i_1.2),.int .i64 (7:Int),.str i.2.2.2.2.1,Ab i.2.2.2.2.2.1] fun x_4 y=>∃(x_5:Int),AQ (xh x_4)=x_5∧inR IntKind.i64 (x.2.2.2.2.2+(1:Int))∧cA (Iv n) [srd x_4.1 (Ah (xh x_4) {kind:=x_4.2.2.2.2.2.1,text:=x_4.2.2.2.2.2.2.1,kids:=x_4.2.2.2.2.2.2.2,blank:=false}),.int .i64 (x.2.2.2.2.2+(1:Int))] fun x_6 y=>∃(x_7:Int),y.1=x_7∧∃(zs:List Int),Ab [x_7]=Ab zs∧Bj AZ∧AW (List.length [x_5]+List.length zs) (8:Nat)∧eN (lqO n x) i [srd x_6.1 (yG y.2),.int .i64 x.2.2.2.2.2,Ab ([x_5]++zs),.str i_1.2,AV.sl false 0 1 (List UInt8) Bg (Bv (Int.toNat x.2.2.2.2.2))]) (inR IntKind.i64 (x.2.2.2.2.2+(1:Int))∧cA (Iv n) [srd x.1 (gM (iF i) i_1.2),.int .i64 (x.2.2.2.2.2+(1:Int))] fun x_4 y=>∃(x_5:Int),y.1=x_5∧∃(zs:List Int),Ab [x_5]=Ab zs∧Bj AZ∧AW (List.length i.2.2.2.2.2.1+List.length zs) (8:Nat)∧eN (lqO n x) i [srd x_4.1 (yG y.2),.int .i64 x.2.2.2.2.2,Ab (i.2.2.2.2.2.1++zs),.str i_1.2,AV.sl false 0 1 (List UInt8) Bg (Bv (Int.toNat x.2.2.2.2.2))])) (inR IntKind.i64 (x.2.2.2.2.2+(1:Int))∧cA (Iv n) [srd x.1 (gM (iF i) i_1.2),.int .i64 (x.2.2.2.2.2+(1:Int))] fun x_4 y=>∃(x_5:Int),y.1=x_5∧∃(zs:List Int),Ab [x_5]=Ab zs∧Bj AZ∧AW (List.length i.2.2.2.2.2.1+List.length zs) (8:Nat)∧eN (lqO n x) i [srd x_4.1 (yG y.2),.int .i64 x.2.2.2.2.2,Ab (i.2.2.2.2.2.1++zs),.str i_1.2,AV.sl false 0 1 (List UInt8) Bg (Bv (Int.toNat x.2.2.2.2.2))])))) (Aa ((↑(List.length i.2.2.2.2.2.1):Int)==(1:Int)) (((0:Int)≤(0:Int)∧(0:Int)<(↑(List.length i.2.2.2.2.2.1):Int))∧(0:Nat)<List.length i.2.2.2.2.2.1∧∀(x_4:Int),i.2.2.2.2.2.1[(0:Nat)]? =some x_4→rA (Mt n) x [.int .i64 x_4,srd x.1 (iF i),.top]) (cA Bo [srd x.1 (iF i),.int .i64 (7:Int),.str i.2.2.2.2.1,Ab i.2.2.2.2.2.1] fun x_4 y=>rA (Mt n) x [.int .i64 (AQ (xh x_4)),srd x_4.1 (Ah (xh x_4) {kind:=x_4.2.2.2.2.2.1,text:=x_4.2.2.2.2.2.2.1,kids:=x_4.2.2.2.2.2.2.2,blank:=false}),.top])))) (fun x=>by kernel_rfl) fun(x:ST×Int×Int×Bool×List Nd×Int) (hx:wQ (9-x.2.2.2.2.2.toNat) (n+1) x.1 (xh x)∧0≤x.2.2.2.2.2∧x.2.2.2.2.2≤6)=>(by
 dsimp only[cA,eA,eN,lqI,lqO,Bc,Ab,Av,rA,Iv,Mt,Te,Iw,Cb,Bo,Bu,sgs,srd,Au,Az,mvL,lnL,mvE,lnE,Bq]
 obtain⟨s,p,d,b,ns,e⟩:=x;dsimp only[xg,xh] at hx ⊢
 obtain⟨hx,h4,h5⟩:=hx
 have hx:wQ (9-e.toNat) (n+1) s ⟨p,d,b,ns⟩:=hx
 have h1:=hx.1.1.1;have hs:=h1.1
 (repeat' first|(with_reducible first|rfl|exact True.intro|apply AK|apply And.intro|((first|apply AA|apply AI|apply AB|apply AJ)<;>intro _))|(apply Ax<;>intro _)|apply AH|refine Ae () ?_ ?_|((first|apply AO|apply AN|apply AM|apply AL|apply AG|apply AF|apply AE|apply AD|apply AC)<;>try dsimp only)|apply Ae|(refine Prod.forall.2 ?_;intro _;try dsimp only)|(intro _;try dsimp only))
 all_goals(try dsimp only[xg,xh,yG,yS,iG,iF] at*)
 all_goals(try simp only[CP] at*)
 all_goals first
  |(show Nat;skip)
  |rfl
  |assumption
  |exact h1
  |exact b7a hx ‹_› h5
  |exact b7b ‹_› h5 ‹_›
  |exact b7c hx h4 ‹_›
  |exact b7d hx h4 ‹_› ‹_›
  |exact a4U hs ‹_›
  |exact a4V hs ‹_› ‹_›
  |exact b6s
  |(simp only[Xp];done)
  |exact(KV ‹_› ‹_› ‹_› ‹_›).1
  |exact(KV ‹_› ‹_› ‹_› ‹_›).2.1
  |exact(KV ‹_› ‹_› ‹_› ‹_›).2.2.1
  |exact(KV ‹_› ‹_› ‹_› ‹_›).2.2.2
  |exact b6t ‹_› ‹_› ‹_› ‹_›
  |exact(Xq ‹_› ‹_› ‹_› ‹_›).1
  |exact b6u ‹_› ‹_› ‹_›
  |exact a4W hx h4 ‹_› ‹_› ‹_› ‹_›
  |exact b7e hx h4 ‹_› ‹_› ‹_› ‹_› (bf ‹_›)
  |exact(a4X hs h4 ‹_› ‹_› ‹_› ‹_› (bf ‹_›) (bf ‹_›) ‹_›).1
  |exact(Tl h4 ‹_› ‹_› ‹_› ‹_› (.inl (bt ‹_›)) ‹_›).1
  |exact(Tl h4 ‹_› ‹_› ‹_› ‹_› (.inr (bt ‹_›)) ‹_›).1
  |exact b7f ‹_› ‹_› ‹_› ‹_› ‹_› ‹_›
  |exact b7g hs ‹_› ‹_› ‹_› ‹_› ‹_›
  |exact b7h ‹_› ‹_› ‹_› ‹_›
  |exact b7i hs ‹_› ‹_› ‹_›
  |((try simp only[AR]);omega)
  |(have hq:=b7k (show mkQ _ _ _ _ _ by assumption);(try simp only[AR]);omega)
  |(have hq:=b7j hs (show csJ _ _ _ _ _ _ _ _ by assumption);(try simp only[AW,List.length_append,List.length_cons,List.length_nil]);omega)
  |skip
 all_goals first
  |exact(a4X hs h4 ‹_› ‹_› ‹_› ‹_› (bf ‹_›) (bf ‹_›) ‹_›).2
  |exact(Tl h4 ‹_› ‹_› ‹_› ‹_› (.inl (bt ‹_›)) ‹_›).2
  |exact(Tl h4 ‹_› ‹_› ‹_› ‹_› (.inr (bt ‹_›)) ‹_›).2
  |(simp only[Xp];done)
  |skip
 all_goals(try(repeat(rename(Bv _)[_]? =some _=>hq;revert hq;rename(Bv _)[_]? =some _=>hr;intro hq;rw[hr] at hq;cases hq)))
 all_goals first
  |exact(Xq ‹_› ‹_› ‹_› ‹_›).1
  |exact(KV ‹_› ‹_› ‹_› ‹_›).1
  |exact(KV ‹_› ‹_› ‹_› ‹_›).2.1
  |exact(KV ‹_› ‹_› ‹_› ‹_›).2.2.1
  |exact(KV ‹_› ‹_› ‹_› ‹_›).2.2.2
  |(rw[Df ‹_›];done)
  |skip)
def Mu(n:Nat):Sig:= {X:=ST×Int×Int×Bool×List Nd,args:=fun x=>[srd x.1 (xg x)],pre:=fun x=>vQ 10 (n+1) x.1 (xg x),Y:=Int×Int×Int×Bool×List Nd,post:=fun x y=>Ag x.1.sg (xg x) (pE x.1.sg (n+1) .pick) (yS y),res:=fun x y=> .int .i64 y.1,outs:=fun x y=>[srd x.1 (yG y.2)],keep:=true}
theorem b7s(n:Nat)(h:qAll G n):Ai G Tryz.prog 109 (Mu n):=
 vcFun_okP [(137,0,(Iv n)),(63,0,Cb),(109,0,(Hc n)),(62,0,BO),(36,0,Bo)] [(25,⟨Int,AZ⟩)] false (fun x=>[]) Tryz.func109 rfl (by decide) ⟨h.chain,HH,h.pick,Ir,HI,trivial⟩ (fun(x:ST×Int×Int×Bool×List Nd)=>True∧Aa (xg x).bad (rA (Mu n) x [.int .i64 (0:Int),srd x.1 (xg x)]) (inR IntKind.i64 ((xg x).deep+(1:Int))∧Aa (decide ((xg x).deep+(1:Int)>(20:Int))) (cA (Iv n) [.box 0 [sgs x.1.sg,.int .i64 (xg x).pos,.bool true,.int .i64 ((xg x).deep+(1:Int)),Av (xg x).nodes],.int .i64 (0:Int)] fun x_1 y=>cA Cb [srd x_1.1 (yG y.2),.str #[(63:UInt8)].toList] fun x_2 y_1=>Aa (isG x_2.1.sg (xh x_2) (4:Int) x_2.2.2.2.2.2) (cA (Hc n) [srd x_2.1 (Al x_2.1.sg (xh x_2) x_2.2.2.2.2.2)] fun x_3 y_2=>cA BO [srd x_3.1 (yG y_2.2),.str #[(58:UInt8)].toList] fun x_4 y_3=>cA (Hc n) [srd x_4.1 (Aq x_4.1.sg (xh x_4) x_4.2.2.2.2.2)] fun x_5 y_4=>∃(x_6:Int),y.1=x_6∧∃(x_7:Int),y_2.1=x_7∧∃(x_8:Int),y_4.1=x_8∧cA Bo [srd x_5.1 (yG y_4.2),.int .i64 (8:Int),.str #[].toList,Ab [x_6,x_7,x_8]] fun x_9 y=>inR IntKind.i64 ((Ah (xh x_9) {kind:=x_9.2.2.2.2.2.1,text:=x_9.2.2.2.2.2.2.1,kids:=x_9.2.2.2.2.2.2.2,blank:=false}).deep-(1:Int))∧rA (Mu n) x [.int .i64 (AQ (xh x_9)),.box 0 [sgs x_9.1.sg,.int .i64 (Ah (xh x_9) {kind:=x_9.2.2.2.2.2.1,text:=x_9.2.2.2.2.2.2.1,kids:=x_9.2.2.2.2.2.2.2,blank:=false}).pos,.bool (Ah (xh x_9) {kind:=x_9.2.2.2.2.2.1,text:=x_9.2.2.2.2.2.2.1,kids:=x_9.2.2.2.2.2.2.2,blank:=false}).bad,.int .i64 ((Ah (xh x_9) {kind:=x_9.2.2.2.2.2.1,text:=x_9.2.2.2.2.2.2.1,kids:=x_9.2.2.2.2.2.2.2,blank:=false}).deep-(1:Int)),Av (Ah (xh x_9) {kind:=x_9.2.2.2.2.2.1,text:=x_9.2.2.2.2.2.2.1,kids:=x_9.2.2.2.2.2.2.2,blank:=false}).nodes]]) (inR IntKind.i64 ((Al x_2.1.sg (xh x_2) x_2.2.2.2.2.2).deep-(1:Int))∧rA (Mu n) x [.int .i64 y.1,.box 0 [sgs x_2.1.sg,.int .i64 (Al x_2.1.sg (xh x_2) x_2.2.2.2.2.2).pos,.bool (Al x_2.1.sg (xh x_2) x_2.2.2.2.2.2).bad,.int .i64 ((Al x_2.1.sg (xh x_2) x_2.2.2.2.2.2).deep-(1:Int)),Av (Al x_2.1.sg (xh x_2) x_2.2.2.2.2.2).nodes]])) (cA (Iv n) [.box 0 [sgs x.1.sg,.int .i64 (xg x).pos,.bool (xg x).bad,.int .i64 ((xg x).deep+(1:Int)),Av (xg x).nodes],.int .i64 (0:Int)] fun x_1 y=>cA Cb [srd x_1.1 (yG y.2),.str #[(63:UInt8)].toList] fun x_2 y_1=>Aa (isG x_2.1.sg (xh x_2) (4:Int) x_2.2.2.2.2.2) (cA (Hc n) [srd x_2.1 (Al x_2.1.sg (xh x_2) x_2.2.2.2.2.2)] fun x_3 y_2=>cA BO [srd x_3.1 (yG y_2.2),.str #[(58:UInt8)].toList] fun x_4 y_3=>cA (Hc n) [srd x_4.1 (Aq x_4.1.sg (xh x_4) x_4.2.2.2.2.2)] fun x_5 y_4=>∃(x_6:Int),y.1=x_6∧∃(x_7:Int),y_2.1=x_7∧∃(x_8:Int),y_4.1=x_8∧cA Bo [srd x_5.1 (yG y_4.2),.int .i64 (8:Int),.str #[].toList,Ab [x_6,x_7,x_8]] fun x_9 y=>inR IntKind.i64 ((Ah (xh x_9) {kind:=x_9.2.2.2.2.2.1,text:=x_9.2.2.2.2.2.2.1,kids:=x_9.2.2.2.2.2.2.2,blank:=false}).deep-(1:Int))∧rA (Mu n) x [.int .i64 (AQ (xh x_9)),.box 0 [sgs x_9.1.sg,.int .i64 (Ah (xh x_9) {kind:=x_9.2.2.2.2.2.1,text:=x_9.2.2.2.2.2.2.1,kids:=x_9.2.2.2.2.2.2.2,blank:=false}).pos,.bool (Ah (xh x_9) {kind:=x_9.2.2.2.2.2.1,text:=x_9.2.2.2.2.2.2.1,kids:=x_9.2.2.2.2.2.2.2,blank:=false}).bad,.int .i64 ((Ah (xh x_9) {kind:=x_9.2.2.2.2.2.1,text:=x_9.2.2.2.2.2.2.1,kids:=x_9.2.2.2.2.2.2.2,blank:=false}).deep-(1:Int)),Av (Ah (xh x_9) {kind:=x_9.2.2.2.2.2.1,text:=x_9.2.2.2.2.2.2.1,kids:=x_9.2.2.2.2.2.2.2,blank:=false}).nodes]]) (inR IntKind.i64 ((Al x_2.1.sg (xh x_2) x_2.2.2.2.2.2).deep-(1:Int))∧rA (Mu n) x [.int .i64 y.1,.box 0 [sgs x_2.1.sg,.int .i64 (Al x_2.1.sg (xh x_2) x_2.2.2.2.2.2).pos,.bool (Al x_2.1.sg (xh x_2) x_2.2.2.2.2.2).bad,.int .i64 ((Al x_2.1.sg (xh x_2) x_2.2.2.2.2.2).deep-(1:Int)),Av (Al x_2.1.sg (xh x_2) x_2.2.2.2.2.2).nodes]])))) (fun x=>by kernel_rfl) fun(x:ST×Int×Int×Bool×List Nd) (hx:vQ 10 (n+1) x.1 (xg x))=>(by
 dsimp only[cA,Bc,Ab,Av,rA,Iv,Cb,Hc,Mu,Bo,BO,Bu,sgs,srd,Au,Az,mvL,lnL,mvE,lnE]
 obtain⟨s,p,d,b,ns⟩:=x;dsimp only[xg,xh] at hx ⊢
 have hx:vQ 10 (n+1) s ⟨p,d,b,ns⟩:=hx
 have h1:=hx.1.1.1;have h2:=hx.1.1.2;have h3:=hx.1.2;have hs:=h1.1;dsimp only at h2 h3
 (repeat' first|(with_reducible first|rfl|exact True.intro|apply AK|apply And.intro|((first|apply AA|apply AI|apply AB|apply AJ)<;>intro _))|(apply Ax<;>intro _)|apply AH|refine Ae () ?_ ?_|((first|apply AO|apply AN|apply AM|apply AL|apply AG|apply AF|apply AE|apply AD|apply AC)<;>try dsimp only)|apply Ae|(refine Prod.forall.2 ?_;intro _;try dsimp only)|(intro _;try dsimp only))
 all_goals(try dsimp only[xg,xh,yG,yS,iG,iF] at*)
 all_goals(try simp only[CP] at*)
 all_goals(try(first|(have hz:=b7l (b:=b) h2 ‹_› (show Ag s.sg ⟨p,d+1,true,ns⟩ (pE s.sg n (.chain _)) _ by assumption))|(have hz:=b7m ‹_› (show Ag s.sg ⟨p,d+1,b,ns⟩ (pE s.sg n (.chain _)) _ by assumption))))
 all_goals first
  |rfl
  |assumption
  |exact a4H h1.2 ‹_›
  |exact b7n hx ‹_›
  |exact b7o hx ‹_›
  |exact Dt h1 hz
  |(clear hz;exact Dt h1 ‹_›)
  |exact⟨WF h1 h2 h3 hz ‹_›,hx.2⟩
  |exact⟨a3j h1 h2 h3 hz ‹_› ‹_›,hx.2⟩
  |exact a3k h1 h2 hz ‹_› ‹_› ‹_›
  |exact a3l h1 h2 hz ‹_›
  |(have hq:=a3m h1 hz ‹_›;(try dsimp only at hq);(try simp only[AR]);omega)
  |(have hq:=a3n (show Ag s.sg (Aq s.sg _ _) _ _ by assumption);(try dsimp only at hq);(try simp only[AR,Sk]);omega)
  |(have hq:=(DV h1).1.2;dsimp only at hq;(try simp only[AR]);omega)
  |skip)
def Tm(n:Nat):Sig:= {X:=ST×Int×Int×Bool×List Nd,args:=fun x=>[srd x.1 (xg x)],pre:=fun x=>vQ 11 (n+1) x.1 (xg x),Y:=Int×Int×Int×Bool×List Nd,post:=fun x y=>Ag x.1.sg (xg x) (pE x.1.sg (n+1) .value) (yS y),res:=fun x y=> .int .i64 y.1,outs:=fun x y=>[srd x.1 (yG y.2)],keep:=true}
def Tn(n:Nat)(x:ST×Int×Int×Bool×List Nd):LS:= {ι:=Int×Int×Bool×List Nd×List Int×Nat,inv:=fun i=>vaJ x.1.sg n (xg x) (iG i) i.2.2.2.2.1 i.2.2.2.2.2,regs:=fun i=>[(0,srd x.1 (iG i)),(4,Ab i.2.2.2.2.1)],als:=[],meas:=fun i=>i.2.2.2.2.2}
theorem b7t(n:Nat)(h:qAll G n):Ai G Tryz.prog 91 (Tm n):=
 vcFun_okP [(109,0,(Hc n)),(90,0,Ee),(63,0,Cb),(59,0,CI),(36,0,Bo),(62,0,BO),(110,0,(Gz n))] [(25,⟨Int,AZ⟩)] false (fun x=>[(5,Tn n x)]) Tryz.func91 rfl (by decide) ⟨h.pick,PX,HH,KU,HI,Ir,(Xu n h),trivial⟩ (fun(x:ST×Int×Int×Bool×List Nd)=>True∧cA (Hc n) [srd x.1 (xg x)] fun x_1 y=>cA Ee [srd x_1.1 (yG y.2),.int .i64 (4:Int),.str #[(46:UInt8),(46:UInt8)].toList] fun x_2 y_1=>Aa (!isG x_2.1.sg (xh x_2) x_2.2.2.2.2.2.1 x_2.2.2.2.2.2.2) (rA (Tm n) x [.int .i64 y.1,srd x_2.1 (xh x_2)]) (∃(x_3:Int),y.1=x_3∧eA (Tn n x) [srd x_2.1 (xh x_2),Ab [x_3]]∧∀(i:Int×Int×Bool×List Nd×List Int×Nat),vaJ x.1.sg n (xg x) (iG i) i.2.2.2.2.1 i.2.2.2.2.2→cA Cb [srd x.1 (iG i),.str #[(46:UInt8),(46:UInt8)].toList] fun x_4 y=>Aa (isG x_4.1.sg (xh x_4) (4:Int) x_4.2.2.2.2.2) (cA CI [srd x_4.1 (Al x_4.1.sg (xh x_4) x_4.2.2.2.2.2),.int .i64 (1:Int)] fun x_5 y=>cA Bo [srd x_5.1 (Be x_5.1.sg (xh x_5) x_5.2.2.2.2.2),.int .i64 (1:Int),.str (Bz x_5.1.sg (xh x_5) x_5.2.2.2.2.2),Ab []] fun x_6 y=>cA BO [srd x_6.1 (Ah (xh x_6) {kind:=x_6.2.2.2.2.2.1,text:=x_6.2.2.2.2.2.2.1,kids:=x_6.2.2.2.2.2.2.2,blank:=false}),.str #[(40:UInt8)].toList] fun x_7 y=>∃(x_8:Int),AQ (xh x_6)=x_8∧cA (Gz n) [srd x_7.1 (Aq x_7.1.sg (xh x_7) x_7.2.2.2.2.2),.str #[(41:UInt8)].toList,Ab [x_8]] fun x_9 y=>cA Bo [srd x_9.1 (yG y.2),.int .i64 (5:Int),.str #[].toList,Ab y.1] fun x_10 y=>∃(x_11:Int),AQ (xh x_10)=x_11∧∃(zs:List Int),Ab [x_11]=Ab zs∧Bj AZ∧AW (List.length i.2.2.2.2.1+List.length zs) (8:Nat)∧eN (Tn n x) i [srd x_10.1 (Ah (xh x_10) {kind:=x_10.2.2.2.2.2.1,text:=x_10.2.2.2.2.2.2.1,kids:=x_10.2.2.2.2.2.2.2,blank:=false}),Ab (i.2.2.2.2.1++zs)]) (cA Bo [srd x_4.1 (Al x_4.1.sg (xh x_4) x_4.2.2.2.2.2),.int .i64 (10:Int),.str #[].toList,Ab i.2.2.2.2.1] fun x_5 y=>rA (Tm n) x [.int .i64 (AQ (xh x_5)),srd x_5.1 (Ah (xh x_5) {kind:=x_5.2.2.2.2.2.1,text:=x_5.2.2.2.2.2.2.1,kids:=x_5.2.2.2.2.2.2.2,blank:=false})]))) (fun x=>by kernel_rfl) fun(x:ST×Int×Int×Bool×List Nd) (hx:vQ 11 (n+1) x.1 (xg x))=>(by
 dsimp only[cA,eA,eN,Tn,Bc,Ab,Av,rA,Ee,Cb,Hc,Bo,CI,Tm,Gz,BO,Bu,sgs,srd,Au,Az,mvL,lnL,mvE,lnE,Bq]
 obtain⟨s,p,d,b,ns⟩:=x;dsimp only[xg,xh] at hx ⊢
 have hx:vQ 11 (n+1) s ⟨p,d,b,ns⟩:=hx
 have h1:=hx.1.1.1;have h2:=hx.1.1.2;have h3:=hx.1.2;have hs:=h1.1;dsimp only at h2 h3
 (repeat' first|(with_reducible first|rfl|exact True.intro|apply AK|apply And.intro|((first|apply AA|apply AI|apply AB|apply AJ)<;>intro _))|(apply Ax<;>intro _)|apply AH|refine Ae () ?_ ?_|((first|apply AO|apply AN|apply AM|apply AL|apply AG|apply AF|apply AE|apply AD|apply AC)<;>try dsimp only)|apply Ae|(refine Prod.forall.2 ?_;intro _;try dsimp only)|(intro _;try dsimp only))
 all_goals(try dsimp only[xg,xh,yG,yS,iG] at*)
 all_goals(try simp only[CP] at*)
 all_goals first
  |(show Nat;skip)
  |rfl
  |assumption
  |exact⟨a3o h1 h2 h3,hx.2⟩
  |exact Dt h1 ‹_›
  |exact a3p h1 ‹_› ‹_›
  |exact a3q h1 h2 ‹_› ‹_›
  |exact Sl h1 ‹_›
  |exact(XA hs ‹_›).1
  |exact(XA hs ‹_›).2.1
  |exact(XA hs ‹_›).2.2
  |exact b7p hx ‹_› ‹_›
  |exact Xx hs ‹_›
  |exact(a4Y hs ‹_› ‹_› ‹_›).1
  |exact a3t h1 ‹_› ‹_›
  |exact a3u h1 ‹_› ‹_›
  |omega
  |(simp;done)
  |(have hq:=a3r hs (show vaJ _ _ _ _ _ _ by assumption);(try simp only[AW,List.length_append,List.length_cons,List.length_nil]);omega)
  |skip
 all_goals first
  |exact(a4Y hs ‹_› ‹_› ‹_›).2
  |skip)
theorem XB{r:Nat}{s:ST}{g:Gs}(hr:1≤r)(h:wQ r 0 s g):False:=Sy hr h.1
theorem a4Z{r:Nat}{s:ST}{g:Gs}(hr:1≤r)(h:vQ r 0 s g):False:=WL hr h.1
theorem b7u:qAll G 0:=
 ⟨Gx Tryz.func91 rfl (by decide) (fun x h=>a4Z (by omega) h),Gx Tryz.func109 rfl (by decide) (fun x h=>a4Z (by omega) h),
  Gx Tryz.func137 rfl (by decide) (fun x h=>XB (by have:=h.2;omega) h.1),Gx Tryz.func180 rfl (by decide) (fun x h=>XB (by omega) h),Gx Tryz.func206 rfl (by decide) (fun x h=>XB (by omega) h)⟩
theorem b7v(n:Nat):qAll G n:=by
 induction n with
 |zero=>exact b7u
 |succ n ih=>exact⟨b7t n ih,b7s n ih,b7r n ih,b6Z n ih,b6Y n ih⟩
def FS:Sig:= {X:=ST×Int×Int×Bool×List Nd,args:=fun x=>[srd x.1 (xg x)],pre:=fun x=>okD x.1 (xg x)∧sgM x.1.sg,Y:=Int×Int×Int×Bool×List Nd,post:=fun x y=>Ag x.1.sg (xg x) (Ce x.1.sg) (yS y),res:=fun x y=> .int .i64 y.1,outs:=fun x y=>[srd x.1 (yG y.2)],keep:=true}
theorem a5a{s:ST}{g:Gs}(h:okD s g∧sgM s.sg):vQ 11 peN s g:=⟨WM h.1,h.2⟩
theorem XC:Ai G Go.Proofs.Tryz.prog 91 FS:=
 have c:=(b7v (G:=G) peN).val
 ⟨⟨c.1.1,fun x y hx hy=>c.1.2 x y (a5a hx) hy⟩,fun x hx=>c.2 x (a5a hx)⟩
end Go.My
end
section
namespace Go.My
open Go.Eng
def XD(e:Nd)(b:Bool):Nd:=⟨e.kind,e.text,e.kids,b⟩
def To(b:Bool)(p:Int×Ps):Int×Ps:=(p.1,⟨p.2.pos,p.2.deep,p.2.nodes.set p.1.toNat (XD (Af p.2.nodes p.1) b)⟩)
def BL(f:Bool→Ps→PR):Prop:=∀b s,f b s=(f false s).map (To b)∧∀p,f b s=some p→1≤p.2.nodes.length∧p.1=(p.2.nodes.length:Int)-1
theorem Oa{k:Int}{t:List UInt8}{ks:List Int}:BL (fun b=>Ba ⟨k,t,ks,b⟩):=by
 intro b s
 by_cases h:300≤s.nodes.length
 ·simp only[Xn h];exact⟨rfl,fun p hp=>by cases hp⟩
 ·simp only[Xm h]
  refine⟨?_,fun p hp=>by simp only[Option.some.injEq] at hp;subst hp;simp⟩
  simp only[Option.map_some,To,Int.toNat_natCast]
  congr 3
  have e:Af (s.nodes++[⟨k,t,ks,false⟩]) (s.nodes.length:Int)=⟨k,t,ks,false⟩:=Bw (by simp)
  rw[e]
  simp [XD]
theorem a5b{f:Bool→Ps→PR}(h:BL f):BL (fun b s=>Gn (f b s)):=by
 intro b s
 obtain⟨h1,h2⟩:=h b s
 refine⟨?_,fun p hp=> ?_⟩
 ·simp only[Gn];rw[h1]
  cases f false s with
  |none=>rfl
  |some p=>rfl
 ·simp only[Gn,Option.map_eq_some_iff] at hp
  obtain⟨q,hq,rfl⟩:=hp
  exact h2 q hq
theorem FT{α:Type}{h:Ps→Option (α×Ps)}{g:Bool→α→Ps→PR}(hg:∀a,BL (fun b=>g b a)):BL (fun b s=>(h s).bind fun p=>g b p.1 p.2):=by
 intro b s
 simp only
 cases h s with
 |none=>exact⟨rfl,fun p hp=>by cases hp⟩
 |some p=>exact hg p.1 b p.2
theorem XE{h:Ps→Option Ps}{g:Bool→Ps→PR}(hg:BL g):BL (fun b s=>(h s).bind fun p=>g b p):=by
 intro b s
 simp only
 cases h s with
 |none=>exact⟨rfl,fun p hp=>by cases hp⟩
 |some p=>exact hg b p
theorem FU{c:Ps→Prop}[inst:∀s,Decidable (c s)]{f g:Bool→Ps→PR}(hf:BL f)(hg:BL g):BL (fun b s=>if c s then f b s else g b s):=by
 intro b s
 by_cases h:c s
 ·simp only[if_pos h];exact hf b s
 ·simp only[if_neg h];exact hg b s
theorem a5c:BL (fun _ _=>none):=fun b s=>⟨rfl,fun p hp=>by cases hp⟩
theorem Mv{f:Bool→Ps→PR}{a:Ps→Ps}(h:BL f):BL (fun b s=>f b (a s)):=fun b s=>h b (a s)
theorem b7w{f:Ps→Bool→Ps→PR}(h:∀q,BL (f q)):BL (fun b s=>f s b s):=fun b s=>h s b s
theorem XF{sg:List Sg}{k:Int}:BL (FI sg k):=fun b s=>a5b (Oa (k:=k) (t:=(sgO sg s.pos).text) (ks:=[])) b s
theorem Mw{sg:List Sg}{m:List UInt8}{k:Int}{t:List UInt8}{ks:List Int}:BL (fun b=>Br sg m ⟨k,t,ks,b⟩):=FU (c:=fun s=>isM sg s m=true) (a5b Oa) a5c
theorem XG{sg:List Sg}:BL (DC sg):=
 FT (h:=GU sg) (g:=fun b t s=>if isM sg s [61] then(Ce sg (adv s)).bind fun q=>Br sg [59] ⟨12,t,[q.1],b⟩ q.2 else Br sg [59] ⟨12,t,[],b⟩ s) (fun t=>
  FU (c:=fun s=>isM sg s [61]=true) (FT (h:=fun s=>Ce sg (adv s)) (g:=fun b k s=>Br sg [59] ⟨12,t,[k],b⟩ s) (fun _=>Mw)) Mw)
theorem b7x{sg:List Sg}:BL (Gv sg):=
 FU (c:=fun s=>isM sg s [59]=true) Mw (FT (h:=Ce sg) (g:=fun b k s=>Br sg [59] ⟨15,[],[k],b⟩ s) (fun _=>Mw))
theorem b7y{sg:List Sg}{n:Nat}:BL (ifR sg n):=
 FT (h:=Dx sg) (g:=fun b c s=>(BH sg (stR sg n) s).bind fun q=>if isW sg q.2 [101,108,115,101] then(BH sg (stR sg n) (adv q.2)).bind fun r=>Ba ⟨16,[],[c,q.1,r.1],b⟩ r.2 else Ba ⟨16,[],[c,q.1],b⟩ q.2) (fun c=>
  FT (h:=BH sg (stR sg n)) (g:=fun b k s=>if isW sg s [101,108,115,101] then(BH sg (stR sg n) (adv s)).bind fun r=>Ba ⟨16,[],[c,k,r.1],b⟩ r.2 else Ba ⟨16,[],[c,k],b⟩ s) (fun k=>
   FU (c:=fun s=>isW sg s [101,108,115,101]=true) (FT (h:=fun s=>BH sg (stR sg n) (adv s)) (g:=fun b r s=>Ba ⟨16,[],[c,k,r],b⟩ s) (fun _=>Oa)) Oa))
theorem b7z{sg:List Sg}{n:Nat}:BL (whR sg n):=
 FT (h:=Dx sg) (g:=fun b c s=>(BH sg (stR sg n) s).bind fun q=>Ba ⟨17,[],[c,q.1],b⟩ q.2) (fun c=>FT (h:=BH sg (stR sg n)) (g:=fun b k s=>Ba ⟨17,[],[c,k],b⟩ s) (fun _=>Oa))
theorem b7A{sg:List Sg}:BL (doR sg):=FT (h:=Ce sg) (g:=fun b k s=>Br sg [59] ⟨14,[],[k],b⟩ s) (fun _=>Mw)
theorem XH{sg:List Sg}:∀ {n:Nat},BL (stR sg n)
 |0=>a5c
 |n+1=>by
  intro b s
  rw[JJ,JJ]
  exact FU (c:=fun s=>(sgO sg s.pos).kind=5) XF (FU (c:=fun s=>isW sg s [118,97,114]=true) (Mv (a:=adv) XG) (FU (c:=fun s=>isW sg s [114,101,116,117,114,110]=true) (Mv (a:=adv) b7x)
   (FU (c:=fun s=>isW sg s [105,102]=true) (Mv (a:=adv) b7y) (FU (c:=fun s=>isW sg s [119,104,105,108,101]=true) (Mv (a:=adv) b7z)
     (FU (c:=fun s=>(DB sg s.pos&&isM sg (adv s) [61])=true) (b7w (f:=fun q b s=>(Ce sg (adv (adv s))).bind fun p=>Br sg [59] ⟨13,(sgO sg q.pos).text,[p.1],b⟩ p.2) (fun q=>FT (h:=fun s=>Ce sg (adv (adv s))) (g:=fun b k s=>Br sg [59] ⟨13,(sgO sg q.pos).text,[k],b⟩ s) (fun _=>Mw))) b7A))))) b s
theorem a5d{sg:List Sg}:BL (Gq sg):=
 FT (h:=GU sg) (g:=fun b t s=>(BG sg [40] s).bind fun s1=>(Bn sg (BB sg) [41] (sg.length+1) [] s1).bind fun q=>(BG sg [41] q.2).bind fun s2=>(EN sg s2).bind fun r=>Ba ⟨20,t,q.1++[r.1],b⟩ r.2) (fun t=>
  XE (h:=BG sg [40]) (g:=fun b s1=>(Bn sg (BB sg) [41] (sg.length+1) [] s1).bind fun q=>(BG sg [41] q.2).bind fun s2=>(EN sg s2).bind fun r=>Ba ⟨20,t,q.1++[r.1],b⟩ r.2)
   (FT (h:=Bn sg (BB sg) [41] (sg.length+1) []) (g:=fun b ks s=>(BG sg [41] s).bind fun s2=>(EN sg s2).bind fun r=>Ba ⟨20,t,ks++[r.1],b⟩ r.2) (fun ks=>
     XE (h:=BG sg [41]) (g:=fun b s2=>(EN sg s2).bind fun r=>Ba ⟨20,t,ks++[r.1],b⟩ r.2) (FT (h:=EN sg) (g:=fun b k s=>Ba ⟨20,t,ks++[k],b⟩ s) (fun _=>Oa)))))
theorem XI{sg:List Sg}:BL (Dn sg):=FU (c:=fun s=>(sgO sg s.pos).kind=5) XF (FU (c:=fun s=>isW sg s [118,97,114]=true) (Mv (a:=adv) XG) a5d)
theorem b7B{sg:List Sg}:BL (Gr sg):=
 FT (h:=GU sg) (g:=fun b t s=>(BG sg [123] s).bind fun s1=>(CW sg (Dn sg) [125] (sg.length+1) [] s1).bind fun q=>Br sg [125] ⟨21,t,q.1,b⟩ q.2) (fun t=>
  XE (h:=BG sg [123]) (g:=fun b s1=>(CW sg (Dn sg) [125] (sg.length+1) [] s1).bind fun q=>Br sg [125] ⟨21,t,q.1,b⟩ q.2)
   (FT (h:=CW sg (Dn sg) [125] (sg.length+1) []) (g:=fun b ks s=>Br sg [125] ⟨21,t,ks,b⟩ s) (fun _=>Mw)))
theorem XJ{sg:List Sg}:BL (DD sg):=FU (c:=fun s=>(sgO sg s.pos).kind=5) XF (FU (c:=fun s=>isW sg s [118,97,114]=true) (Mv (a:=adv) XG) (FU (c:=fun s=>isW sg s [99,108,97,115,115]=true) (Mv (a:=adv) b7B) a5d))
theorem a5e{sg:List Sg}{x y:Gs}{f:Bool→Ps→PR}{k:Int}(hf:BL f)(h:Ag sg x (f false) (k,y))(hb:y.bad=false):1≤y.nodes.length∧k=(y.nodes.length:Int)-1:=by
 obtain⟨⟨a1,a2,a3,a4,a5⟩,_⟩:=h
 simp only at a4 a5
 rw[Dd hb] at a4
 cases hp:(pur x).bind (f false) with
 |none=>rw[hp] at a4;cases a4
 |some p=>
  rw[hp] at a4
  simp only[Option.map_some,Option.some.injEq] at a4
  have e:=a5 p hp
  cases hs:pur x with
  |none=>rw[hs] at hp;cases hp
  |some s=>
   rw[hs] at hp;simp only[Option.bind_some] at hp
   have:=(hf false s).2 p hp
   rw[←a4] at this;simp only at this;rw[e];exact this
theorem XK{sg:List Sg}{x y:Gs}{f:Bool→Ps→PR}{k:Int}{b:Bool}(hf:BL f)(h:Ag sg x (f false) (k,y)):Ag sg x (f b) (k,gBl y k b):=by
 have hk:=a5e hf h
 obtain⟨⟨a1,a2,a3,a4,a5⟩,c⟩:=h
 simp only at a1 a2 a3 a4 a5 c
 have eb:(pur x).bind (f b)=((pur x).bind (f false)).map (To b):=by
  cases pur x with
  |none=>rfl
  |some s=>exact(hf b s).1
 cases hb:y.bad with
 |true=>
  have e:gBl y k b=y:=by rw[gBl,if_neg (by simp [hb])]
  rw[e]
  rw[DU hb] at a4
  have hn:(pur x).bind (f false)=none:=by
   cases hp:(pur x).bind (f false) with
   |none=>rfl
   |some p=>rw[hp] at a4;cases a4
  refine⟨⟨a1,a2,a3,?_,fun p hp=> ?_⟩,c⟩
  ·rw[eb,hn,DU hb];rfl
  ·rw[eb,hn] at hp;cases hp
 |false=>
  obtain⟨k1,k2⟩:=hk hb
  have hlt:k<(y.nodes.length:Int):=by omega
  have e:gBl y k b=⟨y.pos,y.deep,y.bad,y.nodes.set k.toNat (XD (Af y.nodes k) b)⟩:=by rw[gBl,if_pos ⟨hb,hlt⟩];rfl
  rw[e]
  have hat:Cz (Af y.nodes k):=by
   have hkl:k.toNat<y.nodes.length:=by omega
   have:=a1.2.2.2 (y.nodes[k.toNat]) (List.getElem_mem hkl)
   rw[Bw (List.getElem?_eq_getElem hkl)];exact this
  refine⟨⟨⟨a1.1,a1.2.1,by simpa using a1.2.2.1,fun w hw=> ?_⟩,a2,a3,?_,fun p hp=> ?_⟩,c⟩
  ·rcases List.mem_or_eq_of_mem_set hw with hw|hw
   ·exact a1.2.2.2 w hw
   ·subst hw;exact hat
  ·rw[eb]
   rw[Dd hb] at a4
   cases hp:(pur x).bind (f false) with
   |none=>rw[hp] at a4;cases a4
   |some p=>
    rw[hp] at a4
    simp only[Option.map_some,Option.some.injEq] at a4 ⊢
    have:=a5 p hp
    rw[Dd (by exact hb)]
    simp only[To,←a4,this]
  ·rw[eb,Option.map_eq_some_iff] at hp
   obtain⟨q,hq,rfl⟩:=hp
   exact a5 q hq
theorem Ob{sg:List Sg}{x y:Gs}{f:Bool→Ps→PR}{k:Int}(hf:BL f)(h:Ag sg x (f false) (k,y)):y.bad=false→0≤k:=fun hb=>by have:=a5e hf h hb;omega
theorem XL{sg:List Sg}{y:Gs}(hb:y.bad=false):blG sg y=(pkG sg y 0).blank:=by
 rw[blG,pkG]
 by_cases h:y.pos<sg.length
 ·rw[if_neg (by simp [hb];omega)];simp [h]
 ·rw[if_pos (.inr (by omega))];simp [h,EL]
theorem b7C{sg:List Sg}{x:Gs}{one:Bool→Ps→PR}(h:gsOk sg x)(hd:x.deep≤20):restP sg x (BH sg one) (pkX (Aq sg x [123]))
 (fun s1=>(CW sg one [125] (sg.length+1) [] s1).bind fun p=>(Br sg [125] ⟨18,[],p.1,false⟩ p.2).map fun q=>(q.1,dp q.2 (-1))) 1:=by
 have t:=FM (m:=[123]) h
 have a:=a3A (one:=one) h hd
 have t1:=t.1;have t2:=t.2.1
 by_cases h20:x.deep=20
 ·rw[if_pos h20] at a
  have e:pkX (Aq sg x [123])=gDp (Bd (Aq sg x [123])) 1:=by rw[pkX,if_pos (by omega)]
  have e2:Aq sg (gDp (Bd x) 1) [123]=gDp (Bd x) 1:=Tb rfl
  rw[e2] at a
  rw[e]
  refine Xk a ⟨t1.1,by simp only[gDp,Bd];omega,t1.2.2⟩ (by simp only[gDp,Bd];omega) (by simp only[gDp,Bd];omega) rfl
 ·rw[if_neg h20] at a
  have e:pkX (Aq sg x [123])=gDp (Aq sg x [123]) 1:=by rw[pkX,if_neg (by omega)]
  rw[e]
  have e2:Aq sg (gDp x 1) [123]=gDp (Aq sg x [123]) 1:=by
   have:isG sg (gDp x 1) 4 [123]=isG sg x 4 [123]:=rfl
   cases hq:isG sg x 4 [123] with
   |true=>rw[JO hq,JO (by rw[this];exact hq)];rfl
   |false=>rw[PZ hq,PZ (by rw[this];exact hq)];rfl
  rw[e2] at a;exact a
theorem a5f{g:Gs}{d:Int}{w:Nd}:Ah (gDp g d) w=gDp (Ah g w) d∧AQ (gDp g d)=AQ g:=by
 have hf:CX (gDp g d)=CX g:=rfl
 unfold Ah AQ
 rw[hf]
 cases CX g<;>exact⟨rfl,rfl⟩
theorem a5g{sg:List Sg}{one:Bool→Ps→PR}{x:Gs}{l:List Int×Gs}(h:gsOk sg x)(hd:x.deep≤20)(hl:Bl sg (pkX (Aq sg x [123])) (CW sg one [125] (sg.length+1) []) l)(hll:l.1.length≤3001):
 Ag sg x (BH sg one) (AQ (gDp (Aq sg l.2 [125]) (-1)),Ah (gDp (Aq sg l.2 [125]) (-1)) ⟨18,[],l.1,false⟩):=by
 have k1:=BJ (k:=fun ks s=>(Br sg [125] ⟨18,[],ks,false⟩ s).map fun q=>(q.1,dp q.2 (-1))) (b7C h hd) hl (fun _ _=>rfl)
 have hw:Cz ⟨18,[],l.1,false⟩:=⟨by simp,by simp only;omega⟩
 have hc:=It k1.1 hw (KD (m:=[125]) k1.1 hw)
 have k2:=BJ (k:=fun k s=>some (k,dp s (-1))) k1 hc.1 (fun s _=>by cases Br sg [125] ⟨18,[],l.1,false⟩ s<;>rfl)
 simp only at k2
 rw[(a5f (w:=⟨18,[],l.1,false⟩)).1,(a5f (w:=⟨18,[],l.1,false⟩)).2]
 refine⟨FK (KH (e:= -1) k2 ?_ (fun s hs=>rfl)),fun hb=> ?_⟩
 ·have:=k2.2.1;have:=h.2.1;omega
 ·have:=hc.2 hb
  have:=k1.2.2.1
  simp only[gDp] at*;omega
end Go.My
end
section
namespace Go.My
open Go.Eng Go.Proofs
variable {G:GInv}
def okQ(s:ST)(x:Gs):Prop:=okD s x∧sgM s.sg
theorem ED{s:ST}{x:Gs}(h:okQ s x):okD s x:=h.1
theorem Oc{s:ST}{x:Gs}(h:okQ s x):sgM s.sg:=h.2
theorem JR{sg:List Sg}{x:Gs}{m:List UInt8}(h:isG sg x 1 m=false):BF sg x m=x:=by simp [BF,h]
theorem JS{sg:List Sg}{x:Gs}{m:List UInt8}(h:isG sg x 1 m=true):BF sg x m=An x:=by simp [BF,h]
theorem GB{s:ST}{x:Gs}{m:List UInt8}(h:okQ s x)(hq:isG s.sg x 1 m=true):okQ s (An x):=⟨Mj h.1 hq,h.2⟩
theorem XM{s:ST}{x:Gs}(h:okQ s x):rOk s (Be s.sg x 1)∧rOk s (Al s.sg (Be s.sg x 1) [61]):=by
 have a:=HJ (k:=1) h.1.1 (by omega);exact⟨a,Fu a⟩
theorem b7D{s:ST}{x:Gs}(h:okQ s x)(hq:isG s.sg (Be s.sg x 1) 4 [61]=true):okQ s (Al s.sg (Be s.sg x 1) [61]):=by
 rw[Iu.1] at hq ⊢
 exact⟨WO h.1.1 h.1.2 hq,h.2⟩
theorem b7E{s:ST}{x:Gs}{z:Int×Gs}(h:okQ s x)(hq:isG s.sg (Be s.sg x 1) 4 [61]=true)(hz:Ag s.sg (Al s.sg (Be s.sg x 1) [61]) (Ce s.sg) z):
 Ag s.sg x (DC s.sg false) (AQ (Aq s.sg z.2 [59]),Ah (Aq s.sg z.2 [59]) ⟨12,Bz s.sg x 1,[z.1],false⟩):=by
 rw[Iu.1] at hq hz;rw[Iu.2]
 exact It (EC hz) (DN (HF h.1.1.1) (by simp)) (a3T h.1.1 hq hz)
theorem b7F{s:ST}{x:Gs}(h:okQ s x)(hq:isG s.sg (Be s.sg x 1) 4 [61]=false):
 Ag s.sg x (DC s.sg false) (AQ (Aq s.sg (Al s.sg (Be s.sg x 1) [61]) [59]),Ah (Aq s.sg (Al s.sg (Be s.sg x 1) [61]) [59]) ⟨12,Bz s.sg x 1,[],false⟩):=by
 rw[Iu.1] at hq ⊢;rw[Iu.2]
 exact It (a3U h.1.1 hq).2 (DN (HF h.1.1.1) (by simp)) (a3V h.1.1 hq)
def mbS(sg:List Sg)(n:Nat)(x y:Gs)(ks:List Int)(N:Nat):Prop:=
 Ja sg (stR sg n) [125] (pkX (Aq sg x [123])) y ks N∧y.deep=x.deep+1∧(y.bad=false→x.deep≠20)
theorem a5h{s:ST}{x:Gs}{n:Nat}(h:okQ s x):mbS s.sg n x (pkX (Aq s.sg x [123])) [] (s.sg.length+1):=by
 have t:=FM (m:=[123]) h.1.1.2
 obtain⟨p1,p2,p3⟩:= @PF (Aq s.sg x [123])
 have t1:=t.1;have t2:=t.2.1;have hd:=h.1.2
 refine⟨Su ⟨by simp only[pkX] at*;rw[p1];exact t1.1,by simp only[pkX] at*;rw[p2];have:=t1.2.1;omega,?_⟩,by simp only[pkX] at*;rw[p2];omega,fun hb=>by have:=(p3 hb).2;omega⟩
 have e:(pkX (Aq s.sg x [123])).nodes=(Aq s.sg x [123]).nodes:=by unfold pkX;split<;>rfl
 rw[e];exact t1.2.2
theorem b7G{s:ST}{x:Gs}{n:Nat}(h:okQ s x)(h20:(Aq s.sg x [123]).deep+1>20):mbS s.sg n x ⟨(Aq s.sg x [123]).pos,(Aq s.sg x [123]).deep+1,true,(Aq s.sg x [123]).nodes⟩ [] (s.sg.length+1):=by
 have a:=a5h (n:=n) h
 have t2:=(FM (m:=[123]) h.1.1.2).2.1;have hd:=h.1.2
 have e:pkX (Aq s.sg x [123])=⟨(Aq s.sg x [123]).pos,(Aq s.sg x [123]).deep+1,true,(Aq s.sg x [123]).nodes⟩:=by rw[pkX,if_pos (by omega)];rfl
 rw[←e];exact a
theorem b7H{s:ST}{x:Gs}{n:Nat}(h:okQ s x)(h20:¬(Aq s.sg x [123]).deep+1>20):mbS s.sg n x ⟨(Aq s.sg x [123]).pos,(Aq s.sg x [123]).deep+1,(Aq s.sg x [123]).bad,(Aq s.sg x [123]).nodes⟩ [] (s.sg.length+1):=by
 have a:=a5h (n:=n) h
 have e:pkX (Aq s.sg x [123])=⟨(Aq s.sg x [123]).pos,(Aq s.sg x [123]).deep+1,(Aq s.sg x [123]).bad,(Aq s.sg x [123]).nodes⟩:=by rw[pkX,if_neg (by omega)];rfl
 rw[←e];exact a
theorem b7I{s:ST}{x:Gs}(h:okQ s x):0≤(Aq s.sg x [123]).deep∧(Aq s.sg x [123]).deep≤20:=by
 have t:=FM (m:=[123]) h.1.1.2
 have:=t.1.2.1;have:=t.2.1;have:=h.1.2;omega
theorem Tp{s:ST}{x y:Gs}{n:Nat}{ks:List Int}{N:Nat}(h:okQ s x)(hj:mbS s.sg n x y ks N):rOk s y:=⟨h.1.1.1,hj.1.1.1⟩
theorem XN{s:ST}{x y:Gs}{n:Nat}{ks:List Int}{N:Nat}(h:okQ s x)(h2:20-x.deep≤(n:Int))(hj:mbS s.sg n x y ks N)(hb:y.bad=false)(hq:isG s.sg y 4 [125]=false):okQ s (Al s.sg y [125])∧(Al s.sg y [125]).bad=false∧21-(Al s.sg y [125]).deep≤(n:Int):=by
 rw[Df hq]
 have:=hj.2.1;have:=hj.2.2 hb;have:=h.1.2
 exact⟨⟨⟨Tp h hj,by omega⟩,h.2⟩,hb,by omega⟩
theorem XO{s:ST}{x y:Gs}{n:Nat}{ks:List Int}{N:Nat}(h:okQ s x)(hj:mbS s.sg n x y ks N):ks.length≤3001:=by
 have:=hj.1.2.2.1;have:=hj.1.1.1.1;have:=h.1.1.1.1;omega
theorem Tq{s:ST}{x y:Gs}{n:Nat}{ks:List Int}{N:Nat}{b:Bool}{z:Int×Gs}(hj:mbS s.sg n x y ks N)(hb:y.bad=false)(hq:isG s.sg y 4 [125]=false)(hz:Ag s.sg (Al s.sg y [125]) (stR s.sg n false) z)(e:b=(blG s.sg (Al s.sg y [125])&&decide (0<(ks.length:Int)))):
 mbS s.sg n x (gBl z.2 z.1 b) (ks++[z.1]) (N-1)∧N-1<N:=by
 rw[Df hq] at hz e
 rw[XL hb] at e
 have hz2:Ag s.sg y (stR s.sg n b) (z.1,gBl z.2 z.1 b):=XK XH hz
 subst e
 obtain⟨a,b⟩:=HC (Sx hj.1 hb hq (z:=(z.1,gBl z.2 z.1 ((pkG s.sg y 0).blank&&decide (0<(ks.length:Int))))) (by
  have:decide (0<ks.length)=decide (0<(ks.length:Int)):=by simp
  rw[this];exact hz2))
 have:=(CF hz2).1
 exact⟨⟨a,by have:=hj.2.1;simp only at*;omega,fun hw=>hj.2.2 hb⟩,b⟩
theorem b7J{s:ST}{x y:Gs}{n:Nat}{ks:List Int}{N:Nat}(h:okQ s x)(hj:mbS s.sg n x y ks N)(hq:isG s.sg y 4 [125]=true):
 Ag s.sg x (BH s.sg (stR s.sg n)) (AQ (gDp (Al s.sg y [125]) (-1)),Ah (gDp (Al s.sg y [125]) (-1)) ⟨18,[],ks,false⟩):=by
 rw[Dg hq,←JO hq]
 exact a5g (l:=(ks,y)) h.1.1.2 h.1.2 (Sw hj.1 hq) (XO h hj)
theorem b7K{s:ST}{x y:Gs}{n:Nat}{ks:List Int}{N:Nat}(h:okQ s x)(hj:mbS s.sg n x y ks N)(hb:y.bad=true):
 Ag s.sg x (BH s.sg (stR s.sg n)) (AQ (gDp y (-1)),Ah (gDp y (-1)) ⟨18,[],ks,false⟩):=by
 have a:=a5g (l:=(ks,y)) h.1.1.2 h.1.2 (Sv hj.1 hb) (XO h hj)
 simp only[Tb hb] at a;exact a
theorem XP{s:ST}{x y:Gs}{n:Nat}{ks:List Int}{N:Nat}(h:okQ s x)(hj:mbS s.sg n x y ks N):(1≤y.deep∧y.deep≤21)∧rOk s (gDp y (-1))∧rOk s (gDp (Al s.sg y [125]) (-1))∧(Al s.sg y [125]).deep=y.deep:=by
 have h1:=hj.2.1;have h2:=h.1.1.2.2.1;have h3:=h.1.2
 have a:=Tp h hj
 have b:=Fu (m:=[125]) a
 have e:(Al s.sg y [125]).deep=y.deep:=by unfold Al;split<;>rfl
 refine⟨by omega,⟨a.1,a.2.1,by simp only[gDp];omega,a.2.2.2⟩,⟨b.1,b.2.1,by simp only[gDp];omega,b.2.2.2⟩,e⟩
theorem b7L{s:ST}{x:Gs}{n:Nat}(h:okQ s x)(hk:kdG s.sg x 5=true):Ag s.sg x (stR s.sg (n+1) false) (AQ (Be s.sg x 5),Ah (Be s.sg x 5) ⟨19,Bz s.sg x 5,[],false⟩):=by
 have hn:=hk
 rw[PY (by omega)] at hn
 exact NY h.1.1.1 h.1.1.2 (by omega) hk (a3G h.1.1.1 h.1.1.2 (by simpa using hn))
theorem Hd{sg:List Sg}{x:Gs}(h:kdG sg x 5=false):(pkG sg x 0).kind≠5:=JQ h (by omega)
theorem b7M{s:ST}{x:Gs}{n:Nat}{z:Int×Gs}(h:okQ s x)(hk:kdG s.sg x 5=false)(hq:isG s.sg x 1 [118,97,114]=true)(hz:Ag s.sg (An x) (DC s.sg false) z):Ag s.sg x (stR s.sg (n+1) false) z:=a3H h.1.1.2 (Hd hk) hq hz
theorem b7N{s:ST}{x:Gs}{n:Nat}(h:okQ s x)(hk:kdG s.sg x 5=false)(h1:isG s.sg x 1 [118,97,114]=false)(hq:isG s.sg x 1 [114,101,116,117,114,110]=true)(hs:isG s.sg (An x) 4 [59]=true):
 Ag s.sg x (stR s.sg (n+1) false) (AQ (Aq s.sg (An x) [59]),Ah (Aq s.sg (An x) [59]) ⟨15,[],[],false⟩):=by
 have o:=(GB h hq).1.1.2
 exact WI h.1.1.2 (Hd hk) h1 hq (It o (DN (by simp) (by simp)) (a3w o hs))
theorem b7O{s:ST}{x:Gs}{n:Nat}{z:Int×Gs}(h:okQ s x)(hk:kdG s.sg x 5=false)(h1:isG s.sg x 1 [118,97,114]=false)(hq:isG s.sg x 1 [114,101,116,117,114,110]=true)(hs:isG s.sg (An x) 4 [59]=false)(hz:Ag s.sg (An x) (Ce s.sg) z):
 Ag s.sg x (stR s.sg (n+1) false) (AQ (Aq s.sg z.2 [59]),Ah (Aq s.sg z.2 [59]) ⟨15,[],[z.1],false⟩):=by
 have o:=(GB h hq).1.1.2
 exact WI h.1.1.2 (Hd hk) h1 hq (It (EC hz) (DN (by simp) (by simp)) (a3x o hs hz))
theorem b7P{s:ST}{x:Gs}{n:Nat}{c q:Int×Gs}(h:okQ s x)(hk:kdG s.sg x 5=false)(h1:isG s.sg x 1 [118,97,114]=false)(h2:isG s.sg x 1 [114,101,116,117,114,110]=false)(hq:isG s.sg x 1 [105,102]=true)
 (hc:Bl s.sg (An x) (Dx s.sg) c) (hb:Ag s.sg c.2 (BH s.sg (stR s.sg n)) q) (he:isG s.sg q.2 1 [101,108,115,101]=false):
 Ag s.sg x (stR s.sg (n+1) false) (AQ (BF s.sg q.2 [101,108,115,101]),Ah (BF s.sg q.2 [101,108,115,101]) ⟨16,[],[c.1,q.1],false⟩):=by
 rw[JR he]
 exact WJ h.1.1.2 (Hd hk) h1 h2 hq (a3C (GB h hq).1.1.2 hc hb he)
theorem b7Q{s:ST}{x:Gs}{n:Nat}{c q r:Int×Gs}(h:okQ s x)(hk:kdG s.sg x 5=false)(h1:isG s.sg x 1 [118,97,114]=false)(h2:isG s.sg x 1 [114,101,116,117,114,110]=false)(hq:isG s.sg x 1 [105,102]=true)
 (hc:Bl s.sg (An x) (Dx s.sg) c) (hb:Ag s.sg c.2 (BH s.sg (stR s.sg n)) q) (he:isG s.sg q.2 1 [101,108,115,101]=true) (hr:Ag s.sg (BF s.sg q.2 [101,108,115,101]) (BH s.sg (stR s.sg n)) r):
 Ag s.sg x (stR s.sg (n+1) false) (AQ r.2,Ah r.2 ⟨16,[],[c.1,q.1,r.1],false⟩):=by
 rw[JS he] at hr
 exact WJ h.1.1.2 (Hd hk) h1 h2 hq (a3D (GB h hq).1.1.2 hc hb he hr)
theorem b7R{s:ST}{x:Gs}{n:Nat}{c q:Int×Gs}(h:okQ s x)(hk:kdG s.sg x 5=false)(h1:isG s.sg x 1 [118,97,114]=false)(h2:isG s.sg x 1 [114,101,116,117,114,110]=false)(h3:isG s.sg x 1 [105,102]=false)(hq:isG s.sg x 1 [119,104,105,108,101]=true)
 (hc:Bl s.sg (An x) (Dx s.sg) c) (hb:Ag s.sg c.2 (BH s.sg (stR s.sg n)) q):Ag s.sg x (stR s.sg (n+1) false) (AQ q.2,Ah q.2 ⟨17,[],[c.1,q.1],false⟩):=a4b h.1 (Hd hk) h1 h2 h3 hq hc hb
theorem b7S{sg:List Sg}{i k:Int}{e:Sg}(hk:e.kind=k)(he:sg[i.toNat]? =some e):(sgO sg i).kind=k:=by rw[Jv he];exact hk
theorem b7T{sg:List Sg}{i k:Int}{e:Sg}(hk:e.kind≠k)(he:sg[i.toNat]? =some e):(sgO sg i).kind≠k:=by rw[Jv he];exact hk
theorem b7U{sg:List Sg}{i:Int}{e:Sg}{m:List UInt8}(hk:e.text=m)(he:sg[i.toNat]? =some e):((sgO sg i).text==m)=true:=by rw[Jv he];simpa using hk
theorem b7V{sg:List Sg}{i:Int}{e:Sg}{m:List UInt8}(hk:e.text≠m)(he:sg[i.toNat]? =some e):((sgO sg i).text==m)=false:=by rw[Jv he];simpa using hk
theorem b7W{sg:List Sg}{x:Gs}(hk:kdG sg x 1=false):seG sg x=false:=by rw[Jc] at hk;simp [seG,hk]
theorem a5i{sg:List Sg}{x:Gs}{e:Sg}(hb:x.bad=false)(hl:x.pos+1<sg.length)(he:sgO sg (x.pos+1)=e):pkG sg x 1=e:=by
 rw[pkG,if_neg (by simp [hb];omega),he]
theorem b7X{sg:List Sg}{x:Gs}(hl:¬x.pos+1<sg.length):seG sg x=false:=by
 have:pkG sg x 1=EL:=by rw[pkG,if_pos (.inr (by omega))]
 simp [seG,this,EL]
theorem a5j{sg:List Sg}{x:Gs}(hb:x.bad=false)(hl:x.pos+1<sg.length)(hk:(sgO sg (x.pos+1)).kind≠4∨((sgO sg (x.pos+1)).text==[61])=false):seG sg x=false:=by
 rw[seG,a5i hb hl rfl]
 rcases hk with hk|hk<;>simp [hk]
theorem b7Y{sg:List Sg}{x:Gs}(hb:x.bad=false)(hl:x.pos+1<sg.length)(h1:kdG sg x 1=true)(hk:(sgO sg (x.pos+1)).kind=4)(ht:((sgO sg (x.pos+1)).text==[61])=true):seG sg x=true:=by
 rw[Jc] at h1
 rw[seG,a5i hb hl rfl];simp [h1,hk,ht]
theorem b7Z{s:ST}{x:Gs}{n:Nat}{z:Int×Gs}(h:okQ s x)(hk:kdG s.sg x 5=false)(h1:isG s.sg x 1 [118,97,114]=false)(h2:isG s.sg x 1 [114,101,116,117,114,110]=false)(h3:isG s.sg x 1 [105,102]=false)(h4:isG s.sg x 1 [119,104,105,108,101]=false)
 (he:seG s.sg x=true) (hz:Ag s.sg (Aq s.sg (Be s.sg x 1) [61]) (Ce s.sg) z):Ag s.sg x (stR s.sg (n+1) false) (AQ (Aq s.sg z.2 [59]),Ah (Aq s.sg z.2 [59]) ⟨13,Bz s.sg x 1,[z.1],false⟩):=by
 rw[Iu.1] at hz;rw[Iu.2]
 exact a3I h.1.1.2 (Hd hk) h1 h2 h3 h4 he (It (EC hz) (DN (HF h.1.1.1) (by simp)) (a3E h.1.1.1 h.1.1.2 hz))
theorem Tr{s:ST}{x:Gs}{n:Nat}{z:Int×Gs}(h:okQ s x)(hk:kdG s.sg x 5=false)(h1:isG s.sg x 1 [118,97,114]=false)(h2:isG s.sg x 1 [114,101,116,117,114,110]=false)(h3:isG s.sg x 1 [105,102]=false)(h4:isG s.sg x 1 [119,104,105,108,101]=false)
 (he:seG s.sg x=false) (hz:Ag s.sg x (Ce s.sg) z):Ag s.sg x (stR s.sg (n+1) false) (AQ (Aq s.sg z.2 [59]),Ah (Aq s.sg z.2 [59]) ⟨14,[],[z.1],false⟩):=
 a3J h.1.1.2 (Hd hk) h1 h2 h3 h4 he (It (EC hz) (DN (by simp) (by simp)) (a3F h.1.1.2 hz))
theorem a5k{s:ST}{x:Gs}(h:okQ s x):rOk s (Aq s.sg (Be s.sg x 1) [61])∧okQ s (Aq s.sg (Be s.sg x 1) [61]):=by
 have a:=El (m:=[61]) (HJ (k:=1) h.1.1 (by omega))
 have e:(Be s.sg x 1).deep=x.deep:=by unfold Be;split<;>rfl
 exact⟨a.1,⟨a.1,by have:=h.1.2;omega⟩,h.2⟩
theorem b8a{α:Type}{s:ST}{x:Gs}{f:Ps→Option (α×Ps)}{y:α×Gs}(h:okQ s x)(hy:Bl s.sg x f y):okQ s y.2:=⟨Mi h.1 hy,h.2⟩
theorem Od{α:Type}{s:ST}{x:Gs}{f:Ps→Option (α×Ps)}{y:α×Gs}(h:okQ s x)(hy:Ag s.sg x f y):okQ s y.2:=⟨Mi h.1 hy.1,h.2⟩
theorem b8b{α:Type}{s:ST}{x:Gs}{n:Nat}{f:Ps→Option (α×Ps)}{y:α×Gs}(h:21-x.deep≤((n+1:Nat):Int))(hy:Bl s.sg (An x) f y):20-y.2.deep≤(n:Int):=by
 have:=hy.2.1;simp only[An] at this;omega
theorem a5l{sg:List Sg}{x:Gs}{m:List UInt8}:(BF sg x m).deep=x.deep:=by unfold BF;split<;>rfl
theorem a5m{s:ST}{x:Gs}{m:List UInt8}(h:rOk s x):rOk s (BF s.sg x m):=by
 unfold BF;split
 ·rename_i hq;exact⟨h.1,Fc h.2 (CC hq (by omega)).2⟩
 ·exact h
theorem a5n{s:ST}{x:Gs}{m:List UInt8}(h:okQ s x):okQ s (BF s.sg x m):=⟨⟨a5m h.1.1,by rw[a5l];exact h.1.2⟩,h.2⟩
theorem b8c{α:Type}{s:ST}{x:Gs}{n:Nat}{m:List UInt8}{f:Ps→Option (α×Ps)}{y:α×Gs}(h:20-x.deep≤(n:Int))(hy:Ag s.sg x f y):20-(BF s.sg y.2 m).deep≤(n:Int):=by
 rw[a5l];exact a4c h hy
def JT(n:Nat):Sig:= {X:=ST×Int×Int×Bool×List Nd,args:=fun x=>[srd x.1 (xg x)],pre:=fun x=>(okQ x.1 (xg x)∧(xg x).bad=false)∧21-(xg x).deep≤n,Y:=Int×Int×Int×Bool×List Nd,post:=fun x y=>Ag x.1.sg (xg x) (stR x.1.sg n false) (yS y),res:=fun x y=> .int .i64 y.1,outs:=fun x y=>[srd x.1 (yG y.2)],keep:=true}
attribute [local irreducible] pE Bn Dc fnR Ag Bl gsOk Aq Bs Ah BX De Al CD Dp AQ BC pkG isG nmG kdG Be Bz BB vlQ BF gBl blG DC Gv Dx Ce BH stR CW mbS seG okQ sgM
def srf(s:ST)(g:Gs):AV:= .pf [sgs s.sg,.int .i64 g.pos,.bool g.bad,.int .i64 g.deep,nds g.nodes]
theorem a5o{l:List Sg}{p d:Int}{b:Bool}{ns:List Nd}:AV.pf (fzL [AV.sl false 0 4 Sg sgA l,.int .i64 p,.bool b,.int .i64 d,AV.sl true 0 4 Nd (ndA true) ns])=AV.pf [AV.sl false 0 4 Sg sgA l,.int .i64 p,.bool b,.int .i64 d,AV.sl false 0 4 Nd (ndA false) ns]:=rfl
def Je:Sig:= {X:=ST×Int×Int×Bool×List Nd×Int,args:=fun x=>[srf x.1 (xh x),.int .i64 x.2.2.2.2.2],pre:=fun x=>rOk x.1 (xh x)∧x.2.2.2.2.2≠0,Y:=Unit,post:=fun x y=>True,res:=fun x y=> .bool (kdG x.1.sg (xh x) x.2.2.2.2.2),outs:=fun x y=>[.top,.top],keep:=false}
theorem b8d:Ai G Tryz.prog 58 Je:=
 vcFun_okP [(89,0,Gb)] [] false (fun x=>[]) Tryz.func58 rfl (by decide) ⟨Vv,trivial⟩ (fun(x:ST×Int×Int×Bool×List Nd×Int)=>(∀(y:Unit),True→True∧True∧True∧True)∧true=true∧true=true∧Aa (!(xh x).bad) (Aa (decide ((xh x).pos<(↑(List.length x.1.sg):Int))) (((0:Int)≤(xh x).pos∧(xh x).pos<(↑(List.length x.1.sg):Int))∧∀(e:Sg),x.1.sg[Int.toNat (xh x).pos]? =some e→Aa (e.kind==x.2.2.2.2.2) (Aa (x.2.2.2.2.2 != (1:Int)) (rA Je x [.bool true,.top,.top]) (((0:Int)≤(xh x).pos∧(xh x).pos<(↑(List.length x.1.sg):Int))∧∀(e:Sg),x.1.sg[Int.toNat (xh x).pos]? =some e→∃(x_1:List UInt8),True∧e.text=x_1∧∃(y0:Unit),(∀(y:Unit),True→AV.bool (kw x_1)=AV.bool (kw x_1))∧true=true∧rA Je x [.bool !kw x_1,.top,.top])) (rA Je x [.bool false,.top,.top])) (rA Je x [.bool false,.top,.top])) (rA Je x [.bool false,.top,.top])) (fun x=>by kernel_rfl) fun(x:ST×Int×Int×Bool×List Nd×Int) (hx:rOk x.1 (xh x)∧x.2.2.2.2.2≠0)=>(by
 dsimp only[Bc,nds,rA,Je,Bu,sgs,srf,Au,Az]
 obtain⟨s,p,d,b,ns,k⟩:=x;dsimp only[xg,xh] at hx ⊢
 obtain⟨h1,h2⟩:=hx;have hs:=DV h1;dsimp only at hs
 (repeat' first|(with_reducible first|rfl|exact True.intro|apply AK|apply And.intro|((first|apply AA|apply AI|apply AB|apply AJ)<;>intro _))|(apply Ax<;>intro _)|apply AH|refine Ae () ?_ ?_|((first|apply AO|apply AN|apply AM|apply AL|apply AG|apply AF|apply AE|apply AD|apply AC)<;>try dsimp only)|apply Ae|(refine Prod.forall.2 ?_;intro _;try dsimp only)|(intro _;try dsimp only))
 all_goals(try(repeat(rename s.sg[_]? =some _=>hq;revert hq;rename s.sg[_]? =some _=>hr;intro hq;rw[hr] at hq;cases hq)))
 all_goals first
  |rfl
  |exact(NW h2 (.inl ‹_›)).symm
  |exact(NW h2 (.inr (by simp only;omega))).symm
  |(rw[a4E ‹_› ‹_› (by simp only;omega)];simp [*];done)
  |((try simp only[AR]);omega)
  |skip)
def He:Sig:= {X:=ST×Int×Int×Bool×List Nd,args:=fun x=>[srd x.1 (xg x)],pre:=fun x=>okQ x.1 (xg x),Y:=Int×Int×Int×Bool×List Nd,post:=fun x y=>Ag x.1.sg (xg x) (DC x.1.sg false) (yS y),res:=fun x y=> .int .i64 y.1,outs:=fun x y=>[srd x.1 (yG y.2)],keep:=true}
theorem XQ:Ai G Tryz.prog 61 He:=
 vcFun_okP [(59,0,CI),(63,0,Cb),(91,0,FS),(62,0,BO),(36,0,Bo)] [(25,⟨Int,AZ⟩)] false (fun x=>[]) Tryz.func61 rfl (by decide) ⟨KU,HH,XC,Ir,HI,trivial⟩ (fun(x:ST×Int×Int×Bool×List Nd)=>True∧cA CI [srd x.1 (xg x),.int .i64 (1:Int)] fun x_1 y=>cA Cb [srd x_1.1 (Be x_1.1.sg (xh x_1) x_1.2.2.2.2.2),.str #[(61:UInt8)].toList] fun x_2 y=>Aa (isG x_2.1.sg (xh x_2) (4:Int) x_2.2.2.2.2.2) (cA FS [srd x_2.1 (Al x_2.1.sg (xh x_2) x_2.2.2.2.2.2)] fun x_3 y=>∃(x_4:Int),y.1=x_4∧∃(zs:List Int),Ab [x_4]=Ab zs∧Bj AZ∧AW ((0:Nat)+List.length zs) (8:Nat)∧cA BO [srd x_3.1 (yG y.2),.str #[(59:UInt8)].toList] fun x_5 y=>cA Bo [srd x_5.1 (Aq x_5.1.sg (xh x_5) x_5.2.2.2.2.2),.int .i64 (12:Int),.str (Bz x_1.1.sg (xh x_1) x_1.2.2.2.2.2),Ab ([]++zs)] fun x_6 y=>rA He x [.int .i64 (AQ (xh x_6)),srd x_6.1 (Ah (xh x_6) {kind:=x_6.2.2.2.2.2.1,text:=x_6.2.2.2.2.2.2.1,kids:=x_6.2.2.2.2.2.2.2,blank:=false})]) (cA BO [srd x_2.1 (Al x_2.1.sg (xh x_2) x_2.2.2.2.2.2),.str #[(59:UInt8)].toList] fun x_3 y=>cA Bo [srd x_3.1 (Aq x_3.1.sg (xh x_3) x_3.2.2.2.2.2),.int .i64 (12:Int),.str (Bz x_1.1.sg (xh x_1) x_1.2.2.2.2.2),Ab []] fun x_4 y=>rA He x [.int .i64 (AQ (xh x_4)),srd x_4.1 (Ah (xh x_4) {kind:=x_4.2.2.2.2.2.1,text:=x_4.2.2.2.2.2.2.1,kids:=x_4.2.2.2.2.2.2.2,blank:=false})])) (fun x=>by kernel_rfl) fun(x:ST×Int×Int×Bool×List Nd) (hx:okQ x.1 (xg x))=>(by
 dsimp only[cA,Bc,Ab,Av,rA,Cb,Bo,CI,FS,He,BO,Bu,sgs,srd,Au,Az,mvL,lnL,mvE,lnE]
 obtain⟨s,p,d,b,ns⟩:=x;dsimp only[xg,xh] at hx ⊢
 have hx:okQ s ⟨p,d,b,ns⟩:=hx
 have hD:=ED hx;have hM:=Oc hx;have h1:=hD.1
 (repeat' first|(with_reducible first|rfl|exact True.intro|apply AK|apply And.intro|((first|apply AA|apply AI|apply AB|apply AJ)<;>intro _))|(apply Ax<;>intro _)|apply AH|refine Ae () ?_ ?_|((first|apply AO|apply AN|apply AM|apply AL|apply AG|apply AF|apply AE|apply AD|apply AC)<;>try dsimp only)|apply Ae|(refine Prod.forall.2 ?_;intro _;try dsimp only)|(intro _;try dsimp only))
 all_goals(try dsimp only[xg,xh,yG,yS,iG,iF] at*)
 all_goals(try simp only[CP] at*)
 all_goals first
  |rfl
  |exact h1
  |omega
  |exact(XM hx).1
  |exact(XM hx).2
  |exact ED (b7D hx ‹_›)
  |exact hM
  |exact Dt h1 ‹_›
  |exact(El (Dt h1 ‹_›)).1
  |exact(El (XM hx).2).1
  |exact b7E hx ‹_› ‹_›
  |exact b7F hx ‹_›
  |(simp [AW];done)
  |skip)
def Mx:Sig:= {X:=ST×Int×Int×Bool×List Nd,args:=fun x=>[srd x.1 (xg x)],pre:=fun x=>okQ x.1 (xg x),Y:=Int×Int×Int×Bool×List Nd,post:=fun x y=>Bl x.1.sg (xg x) (Dx x.1.sg) (yS y),res:=fun x y=> .int .i64 y.1,outs:=fun x y=>[srd x.1 (yG y.2)],keep:=true}
theorem b8e:Ai G Tryz.prog 111 Mx:=
 vcFun_okP [(91,0,FS),(62,0,BO)] [] false (fun x=>[]) Tryz.func111 rfl (by decide) ⟨XC,Ir,trivial⟩ (fun(x:ST×Int×Int×Bool×List Nd)=>True∧cA BO [srd x.1 (xg x),.str #[(40:UInt8)].toList] fun x_1 y=>cA FS [srd x_1.1 (Aq x_1.1.sg (xh x_1) x_1.2.2.2.2.2)] fun x_2 y=>cA BO [srd x_2.1 (yG y.2),.str #[(41:UInt8)].toList] fun x_3 y_1=>rA Mx x [.int .i64 y.1,srd x_3.1 (Aq x_3.1.sg (xh x_3) x_3.2.2.2.2.2)]) (fun x=>by kernel_rfl) fun(x:ST×Int×Int×Bool×List Nd) (hx:okQ x.1 (xg x))=>(by
 dsimp only[cA,Bc,Av,rA,Mx,FS,BO,Bu,sgs,srd,Au,Az,mvL,lnL,mvE,lnE]
 obtain⟨s,p,d,b,ns⟩:=x;dsimp only[xg,xh] at hx ⊢
 have hx:okQ s ⟨p,d,b,ns⟩:=hx
 have hD:=ED hx;have hM:=Oc hx;have h1:=hD.1
 have t:=El (m:=[40]) h1;have hd:=hD.2;dsimp only at hd
 (repeat' first|(with_reducible first|rfl|exact True.intro|apply AK|apply And.intro|((first|apply AA|apply AI|apply AB|apply AJ)<;>intro _))|(apply Ax<;>intro _)|apply AH|refine Ae () ?_ ?_|((first|apply AO|apply AN|apply AM|apply AL|apply AG|apply AF|apply AE|apply AD|apply AC)<;>try dsimp only)|apply Ae|(refine Prod.forall.2 ?_;intro _;try dsimp only)|(intro _;try dsimp only))
 all_goals(try dsimp only[xg,xh,yG,yS,iG,iF] at*)
 all_goals(try simp only[CP] at*)
 all_goals first
  |rfl
  |exact h1
  |exact t.1
  |exact hM
  |exact⟨t.1,by rw[t.2];exact hd⟩
  |exact Dt h1 ‹_›
  |exact a3y h1.2 ‹_›
  |skip)
def Ix(n:Nat):Sig:= {X:=ST×Int×Int×Bool×List Nd,args:=fun x=>[srd x.1 (xg x)],pre:=fun x=>okQ x.1 (xg x)∧20-(xg x).deep≤(n:Int),Y:=Int×Int×Int×Bool×List Nd,post:=fun x y=>Ag x.1.sg (xg x) (BH x.1.sg (stR x.1.sg n)) (yS y),res:=fun x y=> .int .i64 y.1,outs:=fun x y=>[srd x.1 (yG y.2)],keep:=true}
def KW(n:Nat)(x:ST×Int×Int×Bool×List Nd):LS:= {ι:=Int×Int×Bool×List Nd×List Int×Nat,inv:=fun i=>mbS x.1.sg n (xg x) (iG i) i.2.2.2.2.1 i.2.2.2.2.2,regs:=fun i=>[(0,srd x.1 (iG i)),(3,Ab i.2.2.2.2.1)],als:=[],meas:=fun i=>i.2.2.2.2.2}
theorem a5p(n:Nat)(h:Ai G Go.Proofs.Tryz.prog 92 (JT n)):Ai G Tryz.prog 65 (Ix n):=
 vcFun_okP [(62,0,BO),(63,0,Cb),(33,0,FR),(92,0,(JT n)),(35,0,Em),(36,0,Bo)] [(25,⟨Int,AZ⟩)] false (fun x=>[(6,KW n x)]) Tryz.func65 rfl (by decide) ⟨Ir,HH,SZ,h,Ta,HI,trivial⟩ (fun(x:ST×Int×Int×Bool×List Nd)=>True∧cA BO [srd x.1 (xg x),.str #[(123:UInt8)].toList] fun x_1 y=>inR IntKind.i64 ((Aq x_1.1.sg (xh x_1) x_1.2.2.2.2.2).deep+(1:Int))∧Aa (decide ((Aq x_1.1.sg (xh x_1) x_1.2.2.2.2.2).deep+(1:Int)>(20:Int))) (eA (KW n x) [.box 0 [sgs x_1.1.sg,.int .i64 (Aq x_1.1.sg (xh x_1) x_1.2.2.2.2.2).pos,.bool true,.int .i64 ((Aq x_1.1.sg (xh x_1) x_1.2.2.2.2.2).deep+(1:Int)),Av (Aq x_1.1.sg (xh x_1) x_1.2.2.2.2.2).nodes],Ab []]∧∀(i:Int×Int×Bool×List Nd×List Int×Nat),mbS x.1.sg n (xg x) (iG i) i.2.2.2.2.1 i.2.2.2.2.2→Aa (!(iG i).bad) (cA Cb [srd x.1 (iG i),.str #[(125:UInt8)].toList] fun x_2 y=>Aa (!isG x_2.1.sg (xh x_2) (4:Int) x_2.2.2.2.2.2) (cA FR [srd x_2.1 (Al x_2.1.sg (xh x_2) x_2.2.2.2.2.2)] fun x_3 y=>Aa (blG x_3.1.sg (xg x_3)) (cA (JT n) [srd x_3.1 (xg x_3)] fun x_4 y=>cA Em [srd x_4.1 (yG y.2),.int .i64 y.1,.bool (decide ((↑(List.length i.2.2.2.2.1):Int)>(0:Int)))] fun x_5 y_1=>∃(x_6:Int),y.1=x_6∧∃(zs:List Int),Ab [x_6]=Ab zs∧Bj AZ∧AW (List.length i.2.2.2.2.1+List.length zs) (8:Nat)∧eN (KW n x) i [srd x_5.1 (gBl (xh x_5) x_5.2.2.2.2.2.1 x_5.2.2.2.2.2.2),Ab (i.2.2.2.2.1++zs)]) (cA (JT n) [srd x_3.1 (xg x_3)] fun x_4 y=>cA Em [srd x_4.1 (yG y.2),.int .i64 y.1,.bool false] fun x_5 y_1=>∃(x_6:Int),y.1=x_6∧∃(zs:List Int),Ab [x_6]=Ab zs∧Bj AZ∧AW (List.length i.2.2.2.2.1+List.length zs) (8:Nat)∧eN (KW n x) i [srd x_5.1 (gBl (xh x_5) x_5.2.2.2.2.2.1 x_5.2.2.2.2.2.2),Ab (i.2.2.2.2.1++zs)])) (inR IntKind.i64 ((Al x_2.1.sg (xh x_2) x_2.2.2.2.2.2).deep-(1:Int))∧cA Bo [.box 0 [sgs x_2.1.sg,.int .i64 (Al x_2.1.sg (xh x_2) x_2.2.2.2.2.2).pos,.bool (Al x_2.1.sg (xh x_2) x_2.2.2.2.2.2).bad,.int .i64 ((Al x_2.1.sg (xh x_2) x_2.2.2.2.2.2).deep-(1:Int)),Av (Al x_2.1.sg (xh x_2) x_2.2.2.2.2.2).nodes],.int .i64 (18:Int),.str #[].toList,Ab i.2.2.2.2.1] fun x_3 y=>rA (Ix n) x [.int .i64 (AQ (xh x_3)),srd x_3.1 (Ah (xh x_3) {kind:=x_3.2.2.2.2.2.1,text:=x_3.2.2.2.2.2.2.1,kids:=x_3.2.2.2.2.2.2.2,blank:=false})])) (inR IntKind.i64 ((iG i).deep-(1:Int))∧cA Bo [.box 0 [sgs x.1.sg,.int .i64 (iG i).pos,.bool (iG i).bad,.int .i64 ((iG i).deep-(1:Int)),Av (iG i).nodes],.int .i64 (18:Int),.str #[].toList,Ab i.2.2.2.2.1] fun x_2 y=>rA (Ix n) x [.int .i64 (AQ (xh x_2)),srd x_2.1 (Ah (xh x_2) {kind:=x_2.2.2.2.2.2.1,text:=x_2.2.2.2.2.2.2.1,kids:=x_2.2.2.2.2.2.2.2,blank:=false})])) (eA (KW n x) [.box 0 [sgs x_1.1.sg,.int .i64 (Aq x_1.1.sg (xh x_1) x_1.2.2.2.2.2).pos,.bool (Aq x_1.1.sg (xh x_1) x_1.2.2.2.2.2).bad,.int .i64 ((Aq x_1.1.sg (xh x_1) x_1.2.2.2.2.2).deep+(1:Int)),Av (Aq x_1.1.sg (xh x_1) x_1.2.2.2.2.2).nodes],Ab []]∧∀(i:Int×Int×Bool×List Nd×List Int×Nat),mbS x.1.sg n (xg x) (iG i) i.2.2.2.2.1 i.2.2.2.2.2→Aa (!(iG i).bad) (cA Cb [srd x.1 (iG i),.str #[(125:UInt8)].toList] fun x_2 y=>Aa (!isG x_2.1.sg (xh x_2) (4:Int) x_2.2.2.2.2.2) (cA FR [srd x_2.1 (Al x_2.1.sg (xh x_2) x_2.2.2.2.2.2)] fun x_3 y=>Aa (blG x_3.1.sg (xg x_3)) (cA (JT n) [srd x_3.1 (xg x_3)] fun x_4 y=>cA Em [srd x_4.1 (yG y.2),.int .i64 y.1,.bool (decide ((↑(List.length i.2.2.2.2.1):Int)>(0:Int)))] fun x_5 y_1=>∃(x_6:Int),y.1=x_6∧∃(zs:List Int),Ab [x_6]=Ab zs∧Bj AZ∧AW (List.length i.2.2.2.2.1+List.length zs) (8:Nat)∧eN (KW n x) i [srd x_5.1 (gBl (xh x_5) x_5.2.2.2.2.2.1 x_5.2.2.2.2.2.2),Ab (i.2.2.2.2.1++zs)]) (cA (JT n) [srd x_3.1 (xg x_3)] fun x_4 y=>cA Em [srd x_4.1 (yG y.2),.int .i64 y.1,.bool false] fun x_5 y_1=>∃(x_6:Int),y.1=x_6∧∃(zs:List Int),Ab [x_6]=Ab zs∧Bj AZ∧AW (List.length i.2.2.2.2.1+List.length zs) (8:Nat)∧eN (KW n x) i [srd x_5.1 (gBl (xh x_5) x_5.2.2.2.2.2.1 x_5.2.2.2.2.2.2),Ab (i.2.2.2.2.1++zs)])) (inR IntKind.i64 ((Al x_2.1.sg (xh x_2) x_2.2.2.2.2.2).deep-(1:Int))∧cA Bo [.box 0 [sgs x_2.1.sg,.int .i64 (Al x_2.1.sg (xh x_2) x_2.2.2.2.2.2).pos,.bool (Al x_2.1.sg (xh x_2) x_2.2.2.2.2.2).bad,.int .i64 ((Al x_2.1.sg (xh x_2) x_2.2.2.2.2.2).deep-(1:Int)),Av (Al x_2.1.sg (xh x_2) x_2.2.2.2.2.2).nodes],.int .i64 (18:Int),.str #[].toList,Ab i.2.2.2.2.1] fun x_3 y=>rA (Ix n) x [.int .i64 (AQ (xh x_3)),srd x_3.1 (Ah (xh x_3) {kind:=x_3.2.2.2.2.2.1,text:=x_3.2.2.2.2.2.2.1,kids:=x_3.2.2.2.2.2.2.2,blank:=false})])) (inR IntKind.i64 ((iG i).deep-(1:Int))∧cA Bo [.box 0 [sgs x.1.sg,.int .i64 (iG i).pos,.bool (iG i).bad,.int .i64 ((iG i).deep-(1:Int)),Av (iG i).nodes],.int .i64 (18:Int),.str #[].toList,Ab i.2.2.2.2.1] fun x_2 y=>rA (Ix n) x [.int .i64 (AQ (xh x_2)),srd x_2.1 (Ah (xh x_2) {kind:=x_2.2.2.2.2.2.1,text:=x_2.2.2.2.2.2.2.1,kids:=x_2.2.2.2.2.2.2.2,blank:=false})]))) (fun x=>by kernel_rfl) fun(x:ST×Int×Int×Bool×List Nd) (hx:okQ x.1 (xg x)∧20-(xg x).deep≤(n:Int))=>(by
 dsimp only[cA,eA,eN,KW,Bc,Ab,Av,rA,FR,Em,Ix,Cb,Bo,JT,BO,Bu,sgs,srd,Au,Az,mvL,lnL,mvE,lnE,Bq]
 obtain⟨s,p,d,b,ns⟩:=x;dsimp only[xg,xh] at hx ⊢
 obtain⟨hx,hn⟩:=hx
 have hx:okQ s ⟨p,d,b,ns⟩:=hx
 have hD:=ED hx;have hM:=Oc hx;have h1:=hD.1
 have td:=b7I hx
 (repeat' first|(with_reducible first|rfl|exact True.intro|apply AK|apply And.intro|((first|apply AA|apply AI|apply AB|apply AJ)<;>intro _))|(apply Ax<;>intro _)|apply AH|refine Ae () ?_ ?_|((first|apply AO|apply AN|apply AM|apply AL|apply AG|apply AF|apply AE|apply AD|apply AC)<;>try dsimp only)|apply Ae|(refine Prod.forall.2 ?_;intro _;try dsimp only)|(intro _;try dsimp only))
 all_goals(try dsimp only[xg,xh,yG,yS,iG,iF] at*)
 all_goals(try simp only[CP] at*)
 all_goals first
  |(show Nat;skip)
  |rfl
  |exact h1
  |exact b7G hx ‹_›
  |exact b7H hx ‹_›
  |exact Tp hx ‹_›
  |exact Fu (Tp hx ‹_›)
  |exact(XN hx hn ‹_› ‹_› ‹_›).1
  |exact(XN hx hn ‹_› ‹_› ‹_›).2.1
  |exact(XN hx hn ‹_› ‹_› ‹_›).2.2
  |exact Dt h1 ‹_›
  |exact Ob XH ‹_›
  |exact Ob XH ‹_› ‹_›
  |exact(Tq ‹_› ‹_› ‹_› ‹_› (GZ ‹_›)).1
  |exact(Tq ‹_› ‹_› ‹_› ‹_› (Ha ‹_›)).1
  |exact b7J hx ‹_› ‹_›
  |exact b7K hx ‹_› ‹_›
  |exact(XP hx ‹_›).2.1
  |exact(XP hx ‹_›).2.2.1
  |(simp [AW];done)
  |(have hq:=XO hx (show mbS _ _ _ _ _ _ by assumption);(try simp only[AW,List.length_append,List.length_cons,List.length_nil]);omega)
  |(have hq:=XP hx (show mbS _ _ _ _ _ _ by assumption);(try dsimp only at hq);(try simp only[AR]);omega)
  |((try simp only[AR]);omega)
  |skip
 all_goals first
  |exact(Tq ‹_› ‹_› ‹_› ‹_› (GZ ‹_›)).2
  |exact(Tq ‹_› ‹_› ‹_› ‹_› (Ha ‹_›)).2
  |skip)
def GC(n:Nat):Sig:= {X:=ST×Int×Int×Bool×List Nd,args:=fun x=>[srd x.1 (xg x)],pre:=fun x=>(okQ x.1 (xg x)∧(xg x).bad=false)∧21-(xg x).deep≤(n+1:Nat),Y:=Int×Int×Int×Bool×List Nd,post:=fun x y=>Ag x.1.sg (xg x) (stR x.1.sg (n+1) false) (yS y),res:=fun x y=> .int .i64 y.1,outs:=fun x y=>[srd x.1 (yG y.2)],keep:=true}
theorem b8f(n:Nat)(h:Ai G Go.Proofs.Tryz.prog 92 (JT n)):Ai G Tryz.prog 92 (GC n):=
 vcFun_okP [(58,0,Je),(59,0,CI),(36,0,Bo),(60,0,ER),(61,0,He),(90,0,Ee),(91,0,FS),(62,0,BO),(111,0,Mx),(65,0,(Ix n))] [(25,⟨Int,AZ⟩)] false (fun x=>[]) Tryz.func92 rfl (by decide) ⟨b8d,KU,HI,Xj,XQ,PX,XC,Ir,b8e,(a5p n h),trivial⟩ (fun(x:ST×Int×Int×Bool×List Nd)=>True∧cA Je [srd x.1 (xg x),.int .i64 (5:Int)] fun x_1 y=>Aa (kdG x_1.1.sg (xh x_1) x_1.2.2.2.2.2) (cA CI [srd x.1 (xg x),.int .i64 (5:Int)] fun x_2 y=>cA Bo [srd x_2.1 (Be x_2.1.sg (xh x_2) x_2.2.2.2.2.2),.int .i64 (19:Int),.str (Bz x_2.1.sg (xh x_2) x_2.2.2.2.2.2),Ab []] fun x_3 y=>rA (GC n) x [.int .i64 (AQ (xh x_3)),srd x_3.1 (Ah (xh x_3) {kind:=x_3.2.2.2.2.2.1,text:=x_3.2.2.2.2.2.2.1,kids:=x_3.2.2.2.2.2.2.2,blank:=false})]) (cA ER [srd x.1 (xg x),.str #[(118:UInt8),(97:UInt8),(114:UInt8)].toList] fun x_2 y=>Aa (isG x_2.1.sg (xh x_2) (1:Int) x_2.2.2.2.2.2) (cA He [srd x_2.1 (BF x_2.1.sg (xh x_2) x_2.2.2.2.2.2)] fun x_3 y=>rA (GC n) x [.int .i64 y.1,srd x_3.1 (yG y.2)]) (cA ER [srd x_2.1 (BF x_2.1.sg (xh x_2) x_2.2.2.2.2.2),.str #[(114:UInt8),(101:UInt8),(116:UInt8),(117:UInt8),(114:UInt8),(110:UInt8)].toList] fun x_3 y=>Aa (isG x_3.1.sg (xh x_3) (1:Int) x_3.2.2.2.2.2) (cA Ee [srd x_3.1 (BF x_3.1.sg (xh x_3) x_3.2.2.2.2.2),.int .i64 (4:Int),.str #[(59:UInt8)].toList] fun x_4 y=>Aa (!isG x_4.1.sg (xh x_4) x_4.2.2.2.2.2.1 x_4.2.2.2.2.2.2) (cA FS [srd x_4.1 (xh x_4)] fun x_5 y=>∃(x_6:Int),y.1=x_6∧∃(zs:List Int),Ab [x_6]=Ab zs∧Bj AZ∧AW ((0:Nat)+List.length zs) (8:Nat)∧cA BO [srd x_5.1 (yG y.2),.str #[(59:UInt8)].toList] fun x_7 y=>cA Bo [srd x_7.1 (Aq x_7.1.sg (xh x_7) x_7.2.2.2.2.2),.int .i64 (15:Int),.str #[].toList,Ab ([]++zs)] fun x_8 y=>rA (GC n) x [.int .i64 (AQ (xh x_8)),srd x_8.1 (Ah (xh x_8) {kind:=x_8.2.2.2.2.2.1,text:=x_8.2.2.2.2.2.2.1,kids:=x_8.2.2.2.2.2.2.2,blank:=false})]) (cA BO [srd x_4.1 (xh x_4),.str #[(59:UInt8)].toList] fun x_5 y=>cA Bo [srd x_5.1 (Aq x_5.1.sg (xh x_5) x_5.2.2.2.2.2),.int .i64 (15:Int),.str #[].toList,Ab []] fun x_6 y=>rA (GC n) x [.int .i64 (AQ (xh x_6)),srd x_6.1 (Ah (xh x_6) {kind:=x_6.2.2.2.2.2.1,text:=x_6.2.2.2.2.2.2.1,kids:=x_6.2.2.2.2.2.2.2,blank:=false})])) (cA ER [srd x_3.1 (BF x_3.1.sg (xh x_3) x_3.2.2.2.2.2),.str #[(105:UInt8),(102:UInt8)].toList] fun x_4 y=>Aa (isG x_4.1.sg (xh x_4) (1:Int) x_4.2.2.2.2.2) (cA Mx [srd x_4.1 (BF x_4.1.sg (xh x_4) x_4.2.2.2.2.2)] fun x_5 y=>∃(x_6:Int),y.1=x_6∧cA (Ix n) [srd x_5.1 (yG y.2)] fun x_7 y=>∃(x_8:Int),y.1=x_8∧∃(zs:List Int),Ab [x_8]=Ab zs∧Bj AZ∧AW (List.length [x_6]+List.length zs) (8:Nat)∧cA ER [srd x_7.1 (yG y.2),.str #[(101:UInt8),(108:UInt8),(115:UInt8),(101:UInt8)].toList] fun x_9 y=>Aa (isG x_9.1.sg (xh x_9) (1:Int) x_9.2.2.2.2.2) (cA (Ix n) [srd x_9.1 (BF x_9.1.sg (xh x_9) x_9.2.2.2.2.2)] fun x_10 y=>∃(x_11:Int),y.1=x_11∧∃(Ck:List Int),Ab [x_11]=Ab Ck∧Bj AZ∧AW (List.length (x_6::List.append._f [] PUnit.unit zs)+List.length Ck) (8:Nat)∧cA Bo [srd x_10.1 (yG y.2),.int .i64 (16:Int),.str #[].toList,Ab (x_6::List.append._f [] PUnit.unit zs++Ck)] fun x_12 y=>rA (GC n) x [.int .i64 (AQ (xh x_12)),srd x_12.1 (Ah (xh x_12) {kind:=x_12.2.2.2.2.2.1,text:=x_12.2.2.2.2.2.2.1,kids:=x_12.2.2.2.2.2.2.2,blank:=false})]) (cA Bo [srd x_9.1 (BF x_9.1.sg (xh x_9) x_9.2.2.2.2.2),.int .i64 (16:Int),.str #[].toList,Ab ([x_6]++zs)] fun x_10 y=>rA (GC n) x [.int .i64 (AQ (xh x_10)),srd x_10.1 (Ah (xh x_10) {kind:=x_10.2.2.2.2.2.1,text:=x_10.2.2.2.2.2.2.1,kids:=x_10.2.2.2.2.2.2.2,blank:=false})])) (cA ER [srd x_4.1 (BF x_4.1.sg (xh x_4) x_4.2.2.2.2.2),.str #[(119:UInt8),(104:UInt8),(105:UInt8),(108:UInt8),(101:UInt8)].toList] fun x_5 y=>Aa (isG x_5.1.sg (xh x_5) (1:Int) x_5.2.2.2.2.2) (cA Mx [srd x_5.1 (BF x_5.1.sg (xh x_5) x_5.2.2.2.2.2)] fun x_6 y=>∃(x_7:Int),y.1=x_7∧cA (Ix n) [srd x_6.1 (yG y.2)] fun x_8 y=>∃(x_9:Int),y.1=x_9∧∃(zs:List Int),Ab [x_9]=Ab zs∧Bj AZ∧AW (List.length [x_7]+List.length zs) (8:Nat)∧cA Bo [srd x_8.1 (yG y.2),.int .i64 (17:Int),.str #[].toList,Ab ([x_7]++zs)] fun x_10 y=>rA (GC n) x [.int .i64 (AQ (xh x_10)),srd x_10.1 (Ah (xh x_10) {kind:=x_10.2.2.2.2.2.1,text:=x_10.2.2.2.2.2.2.1,kids:=x_10.2.2.2.2.2.2.2,blank:=false})]) (true=true∧true=true∧∃(x_6:ST×Int×Int×Bool×List Nd×Int),(rOk x_6.1 (xh x_6)∧x_6.2.2.2.2.2≠(0:Int))∧AV.pf [AV.sl false 0 4 Sg (fun(x:Sg)=>fzL._f [.int .i64 x.kind,.str x.text,.int .i64 x.pos,.bool x.blank] ⟨AV.rec (fun(k:IntKind) (n:Int)=>⟨fz._f (AV.int k n) PUnit.unit,PUnit.unit⟩) (fun(b:Bool)=>⟨fz._f (.bool b) PUnit.unit,PUnit.unit⟩) (fun(l:List UInt8)=>⟨fz._f (.str l) PUnit.unit,PUnit.unit⟩) (fun(v:Value)=>⟨fz._f (.val v) PUnit.unit,PUnit.unit⟩) ⟨fz._f AV.any PUnit.unit,PUnit.unit⟩ ⟨fz._f .top PUnit.unit,PUnit.unit⟩ ⟨fz._f .nil PUnit.unit,PUnit.unit⟩ (fun(id:Nat)=>⟨fz._f (AV.hole id) PUnit.unit,PUnit.unit⟩) (fun(id:Nat)=>⟨fz._f (AV.al id) PUnit.unit,PUnit.unit⟩) (fun(id k sz off:Nat)=>⟨fz._f (AV.po id k sz off) PUnit.unit,PUnit.unit⟩) (fun(fs:List AV) (fs_ih:List AV×' AV.below_1 fs)=>⟨fz._f (.agg fs) fs_ih,fs_ih⟩) (fun(vs:List AV) (vs_ih:List AV×' AV.below_1 vs)=>⟨fz._f (.tup vs) vs_ih,vs_ih⟩) (fun(id:Nat) (c:List AV) (c_ih:List AV×' AV.below_1 c)=>⟨fz._f (.box id c) c_ih,c_ih⟩) (fun(x:Value) (c:List AV) (c_ih:List AV×' AV.below_1 c)=>⟨fz._f (AV.bv x c) c_ih,c_ih⟩) (fun(x:Value)=>⟨fz._f (AV.hv x) PUnit.unit,PUnit.unit⟩) (fun(c:List AV) (c_ih:List AV×' AV.below_1 c)=>⟨fz._f (AV.pf c) c_ih,c_ih⟩) (fun(fn:Fn) (caps:List AV) (caps_ih:List AV×' AV.below_1 caps)=>⟨fz._f (AV.clo fn caps) caps_ih,caps_ih⟩) (fun(own:Bool) (id sz:Nat) (α:Type) (f:α→List AV) (xs:List α) (f_ih:(a:α)→List AV×' AV.below_1 (f a))=>⟨fz._f (AV.sl own id sz α f xs) f_ih,f_ih⟩) ⟨fzL._f [] PUnit.unit,PUnit.unit⟩ (fun(head:AV) (tail:List AV) (head_ih:AV×' AV.below head) (tail_ih:List AV×' AV.below_1 tail)=>⟨fzL._f (head::tail) ⟨head_ih,tail_ih⟩,head_ih,tail_ih⟩) (.int .i64 x.kind),AV.rec_1 (fun(k:IntKind) (n:Int)=>⟨fz._f (AV.int k n) PUnit.unit,PUnit.unit⟩) (fun(b:Bool)=>⟨fz._f (.bool b) PUnit.unit,PUnit.unit⟩) (fun(l:List UInt8)=>⟨fz._f (.str l) PUnit.unit,PUnit.unit⟩) (fun(v:Value)=>⟨fz._f (.val v) PUnit.unit,PUnit.unit⟩) ⟨fz._f AV.any PUnit.unit,PUnit.unit⟩ ⟨fz._f .top PUnit.unit,PUnit.unit⟩ ⟨fz._f .nil PUnit.unit,PUnit.unit⟩ (fun(id:Nat)=>⟨fz._f (AV.hole id) PUnit.unit,PUnit.unit⟩) (fun(id:Nat)=>⟨fz._f (AV.al id) PUnit.unit,PUnit.unit⟩) (fun(id k sz off:Nat)=>⟨fz._f (AV.po id k sz off) PUnit.unit,PUnit.unit⟩) (fun(fs:List AV) (fs_ih:List AV×' AV.below_1 fs)=>⟨fz._f (.agg fs) fs_ih,fs_ih⟩) (fun(vs:List AV) (vs_ih:List AV×' AV.below_1 vs)=>⟨fz._f (.tup vs) vs_ih,vs_ih⟩) (fun(id:Nat) (c:List AV) (c_ih:List AV×' AV.below_1 c)=>⟨fz._f (.box id c) c_ih,c_ih⟩) (fun(x:Value) (c:List AV) (c_ih:List AV×' AV.below_1 c)=>⟨fz._f (AV.bv x c) c_ih,c_ih⟩) (fun(x:Value)=>⟨fz._f (AV.hv x) PUnit.unit,PUnit.unit⟩) (fun(c:List AV) (c_ih:List AV×' AV.below_1 c)=>⟨fz._f (AV.pf c) c_ih,c_ih⟩) (fun(fn:Fn) (caps:List AV) (caps_ih:List AV×' AV.below_1 caps)=>⟨fz._f (AV.clo fn caps) caps_ih,caps_ih⟩) (fun(own:Bool) (id sz:Nat) (α:Type) (f:α→List AV) (xs:List α) (f_ih:(a:α)→List AV×' AV.below_1 (f a))=>⟨fz._f (AV.sl own id sz α f xs) f_ih,f_ih⟩) ⟨fzL._f [] PUnit.unit,PUnit.unit⟩ (fun(head:AV) (tail:List AV) (head_ih:AV×' AV.below head) (tail_ih:List AV×' AV.below_1 tail)=>⟨fzL._f (head::tail) ⟨head_ih,tail_ih⟩,head_ih,tail_ih⟩) [.str x.text,.int .i64 x.pos,.bool x.blank]⟩) x_5.1.sg,.int .i64 (BF x_5.1.sg (xh x_5) x_5.2.2.2.2.2).pos,.bool (BF x_5.1.sg (xh x_5) x_5.2.2.2.2.2).bad,.int .i64 (BF x_5.1.sg (xh x_5) x_5.2.2.2.2.2).deep,AV.sl false 0 4 Nd (fun(x:Nd)=>fzL._f [.int .i64 x.kind,.str x.text,Ab x.kids,.bool x.blank] ⟨AV.rec (fun(k:IntKind) (n:Int)=>⟨fz._f (AV.int k n) PUnit.unit,PUnit.unit⟩) (fun(b:Bool)=>⟨fz._f (.bool b) PUnit.unit,PUnit.unit⟩) (fun(l:List UInt8)=>⟨fz._f (.str l) PUnit.unit,PUnit.unit⟩) (fun(v:Value)=>⟨fz._f (.val v) PUnit.unit,PUnit.unit⟩) ⟨fz._f AV.any PUnit.unit,PUnit.unit⟩ ⟨fz._f .top PUnit.unit,PUnit.unit⟩ ⟨fz._f .nil PUnit.unit,PUnit.unit⟩ (fun(id:Nat)=>⟨fz._f (AV.hole id) PUnit.unit,PUnit.unit⟩) (fun(id:Nat)=>⟨fz._f (AV.al id) PUnit.unit,PUnit.unit⟩) (fun(id k sz off:Nat)=>⟨fz._f (AV.po id k sz off) PUnit.unit,PUnit.unit⟩) (fun(fs:List AV) (fs_ih:List AV×' AV.below_1 fs)=>⟨fz._f (.agg fs) fs_ih,fs_ih⟩) (fun(vs:List AV) (vs_ih:List AV×' AV.below_1 vs)=>⟨fz._f (.tup vs) vs_ih,vs_ih⟩) (fun(id:Nat) (c:List AV) (c_ih:List AV×' AV.below_1 c)=>⟨fz._f (.box id c) c_ih,c_ih⟩) (fun(x:Value) (c:List AV) (c_ih:List AV×' AV.below_1 c)=>⟨fz._f (AV.bv x c) c_ih,c_ih⟩) (fun(x:Value)=>⟨fz._f (AV.hv x) PUnit.unit,PUnit.unit⟩) (fun(c:List AV) (c_ih:List AV×' AV.below_1 c)=>⟨fz._f (AV.pf c) c_ih,c_ih⟩) (fun(fn:Fn) (caps:List AV) (caps_ih:List AV×' AV.below_1 caps)=>⟨fz._f (AV.clo fn caps) caps_ih,caps_ih⟩) (fun(own:Bool) (id sz:Nat) (α:Type) (f:α→List AV) (xs:List α) (f_ih:(a:α)→List AV×' AV.below_1 (f a))=>⟨fz._f (AV.sl own id sz α f xs) f_ih,f_ih⟩) ⟨fzL._f [] PUnit.unit,PUnit.unit⟩ (fun(head:AV) (tail:List AV) (head_ih:AV×' AV.below head) (tail_ih:List AV×' AV.below_1 tail)=>⟨fzL._f (head::tail) ⟨head_ih,tail_ih⟩,head_ih,tail_ih⟩) (.int .i64 x.kind),AV.rec_1 (fun(k:IntKind) (n:Int)=>⟨fz._f (AV.int k n) PUnit.unit,PUnit.unit⟩) (fun(b:Bool)=>⟨fz._f (.bool b) PUnit.unit,PUnit.unit⟩) (fun(l:List UInt8)=>⟨fz._f (.str l) PUnit.unit,PUnit.unit⟩) (fun(v:Value)=>⟨fz._f (.val v) PUnit.unit,PUnit.unit⟩) ⟨fz._f AV.any PUnit.unit,PUnit.unit⟩ ⟨fz._f .top PUnit.unit,PUnit.unit⟩ ⟨fz._f .nil PUnit.unit,PUnit.unit⟩ (fun(id:Nat)=>⟨fz._f (AV.hole id) PUnit.unit,PUnit.unit⟩) (fun(id:Nat)=>⟨fz._f (AV.al id) PUnit.unit,PUnit.unit⟩) (fun(id k sz off:Nat)=>⟨fz._f (AV.po id k sz off) PUnit.unit,PUnit.unit⟩) (fun(fs:List AV) (fs_ih:List AV×' AV.below_1 fs)=>⟨fz._f (.agg fs) fs_ih,fs_ih⟩) (fun(vs:List AV) (vs_ih:List AV×' AV.below_1 vs)=>⟨fz._f (.tup vs) vs_ih,vs_ih⟩) (fun(id:Nat) (c:List AV) (c_ih:List AV×' AV.below_1 c)=>⟨fz._f (.box id c) c_ih,c_ih⟩) (fun(x:Value) (c:List AV) (c_ih:List AV×' AV.below_1 c)=>⟨fz._f (AV.bv x c) c_ih,c_ih⟩) (fun(x:Value)=>⟨fz._f (AV.hv x) PUnit.unit,PUnit.unit⟩) (fun(c:List AV) (c_ih:List AV×' AV.below_1 c)=>⟨fz._f (AV.pf c) c_ih,c_ih⟩) (fun(fn:Fn) (caps:List AV) (caps_ih:List AV×' AV.below_1 caps)=>⟨fz._f (AV.clo fn caps) caps_ih,caps_ih⟩) (fun(own:Bool) (id sz:Nat) (α:Type) (f:α→List AV) (xs:List α) (f_ih:(a:α)→List AV×' AV.below_1 (f a))=>⟨fz._f (AV.sl own id sz α f xs) f_ih,f_ih⟩) ⟨fzL._f [] PUnit.unit,PUnit.unit⟩ (fun(head:AV) (tail:List AV) (head_ih:AV×' AV.below head) (tail_ih:List AV×' AV.below_1 tail)=>⟨fzL._f (head::tail) ⟨head_ih,tail_ih⟩,head_ih,tail_ih⟩) [.str x.text,Ab x.kids,.bool x.blank]⟩) (BF x_5.1.sg (xh x_5) x_5.2.2.2.2.2).nodes]=AV.pf [sgs x_6.1.sg,.int .i64 (xh x_6).pos,.bool (xh x_6).bad,.int .i64 (xh x_6).deep,nds (xh x_6).nodes]∧(1:Int)=x_6.2.2.2.2.2∧∃(y0:Unit),(∀(y:Unit),True→AV.bool (kdG x_6.1.sg (xh x_6) x_6.2.2.2.2.2)=AV.bool (kdG x_6.1.sg (xh x_6) x_6.2.2.2.2.2))∧true=true∧Aa (kdG x_6.1.sg (xh x_6) x_6.2.2.2.2.2) (inR IntKind.i64 ((BF x_5.1.sg (xh x_5) x_5.2.2.2.2.2).pos+(1:Int))∧Aa (decide ((BF x_5.1.sg (xh x_5) x_5.2.2.2.2.2).pos+(1:Int)<(↑(List.length x_5.1.sg):Int))) (inR IntKind.i64 ((BF x_5.1.sg (xh x_5) x_5.2.2.2.2.2).pos+(1:Int))∧((0:Int)≤(BF x_5.1.sg (xh x_5) x_5.2.2.2.2.2).pos+(1:Int)∧(BF x_5.1.sg (xh x_5) x_5.2.2.2.2.2).pos+(1:Int)<(↑(List.length x_5.1.sg):Int))∧∀(e:Sg),x_5.1.sg[Int.toNat ((BF x_5.1.sg (xh x_5) x_5.2.2.2.2.2).pos+(1:Int))]? =some e→Aa (e.kind==(4:Int)) (inR IntKind.i64 ((BF x_5.1.sg (xh x_5) x_5.2.2.2.2.2).pos+(1:Int))∧((0:Int)≤(BF x_5.1.sg (xh x_5) x_5.2.2.2.2.2).pos+(1:Int)∧(BF x_5.1.sg (xh x_5) x_5.2.2.2.2.2).pos+(1:Int)<(↑(List.length x_5.1.sg):Int))∧∀(e:Sg),x_5.1.sg[Int.toNat ((BF x_5.1.sg (xh x_5) x_5.2.2.2.2.2).pos+(1:Int))]? =some e→Aa (e.text== #[(61:UInt8)].toList) (cA CI [srd x_5.1 (BF x_5.1.sg (xh x_5) x_5.2.2.2.2.2),.int .i64 (1:Int)] fun x_7 y=>cA BO [srd x_7.1 (Be x_7.1.sg (xh x_7) x_7.2.2.2.2.2),.str #[(61:UInt8)].toList] fun x_8 y=>cA FS [srd x_8.1 (Aq x_8.1.sg (xh x_8) x_8.2.2.2.2.2)] fun x_9 y=>cA BO [srd x_9.1 (yG y.2),.str #[(59:UInt8)].toList] fun x_10 y_1=>∃(x_11:Int),y.1=x_11∧cA Bo [srd x_10.1 (Aq x_10.1.sg (xh x_10) x_10.2.2.2.2.2),.int .i64 (13:Int),.str (Bz x_7.1.sg (xh x_7) x_7.2.2.2.2.2),Ab [x_11]] fun x_12 y=>rA (GC n) x [.int .i64 (AQ (xh x_12)),srd x_12.1 (Ah (xh x_12) {kind:=x_12.2.2.2.2.2.1,text:=x_12.2.2.2.2.2.2.1,kids:=x_12.2.2.2.2.2.2.2,blank:=false})]) (cA FS [srd x_5.1 (BF x_5.1.sg (xh x_5) x_5.2.2.2.2.2)] fun x_7 y=>cA BO [srd x_7.1 (yG y.2),.str #[(59:UInt8)].toList] fun x_8 y_1=>∃(x_9:Int),y.1=x_9∧cA Bo [srd x_8.1 (Aq x_8.1.sg (xh x_8) x_8.2.2.2.2.2),.int .i64 (14:Int),.str #[].toList,Ab [x_9]] fun x_10 y=>rA (GC n) x [.int .i64 (AQ (xh x_10)),srd x_10.1 (Ah (xh x_10) {kind:=x_10.2.2.2.2.2.1,text:=x_10.2.2.2.2.2.2.1,kids:=x_10.2.2.2.2.2.2.2,blank:=false})])) (cA FS [srd x_5.1 (BF x_5.1.sg (xh x_5) x_5.2.2.2.2.2)] fun x_7 y=>cA BO [srd x_7.1 (yG y.2),.str #[(59:UInt8)].toList] fun x_8 y_1=>∃(x_9:Int),y.1=x_9∧cA Bo [srd x_8.1 (Aq x_8.1.sg (xh x_8) x_8.2.2.2.2.2),.int .i64 (14:Int),.str #[].toList,Ab [x_9]] fun x_10 y=>rA (GC n) x [.int .i64 (AQ (xh x_10)),srd x_10.1 (Ah (xh x_10) {kind:=x_10.2.2.2.2.2.1,text:=x_10.2.2.2.2.2.2.1,kids:=x_10.2.2.2.2.2.2.2,blank:=false})])) (cA FS [srd x_5.1 (BF x_5.1.sg (xh x_5) x_5.2.2.2.2.2)] fun x_7 y=>cA BO [srd x_7.1 (yG y.2),.str #[(59:UInt8)].toList] fun x_8 y_1=>∃(x_9:Int),y.1=x_9∧cA Bo [srd x_8.1 (Aq x_8.1.sg (xh x_8) x_8.2.2.2.2.2),.int .i64 (14:Int),.str #[].toList,Ab [x_9]] fun x_10 y=>rA (GC n) x [.int .i64 (AQ (xh x_10)),srd x_10.1 (Ah (xh x_10) {kind:=x_10.2.2.2.2.2.1,text:=x_10.2.2.2.2.2.2.1,kids:=x_10.2.2.2.2.2.2.2,blank:=false})])) (cA FS [srd x_5.1 (BF x_5.1.sg (xh x_5) x_5.2.2.2.2.2)] fun x_7 y=>cA BO [srd x_7.1 (yG y.2),.str #[(59:UInt8)].toList] fun x_8 y_1=>∃(x_9:Int),y.1=x_9∧cA Bo [srd x_8.1 (Aq x_8.1.sg (xh x_8) x_8.2.2.2.2.2),.int .i64 (14:Int),.str #[].toList,Ab [x_9]] fun x_10 y=>rA (GC n) x [.int .i64 (AQ (xh x_10)),srd x_10.1 (Ah (xh x_10) {kind:=x_10.2.2.2.2.2.1,text:=x_10.2.2.2.2.2.2.1,kids:=x_10.2.2.2.2.2.2.2,blank:=false})]))))))) (fun x=>by kernel_rfl) fun(x:ST×Int×Int×Bool×List Nd) (hx:(okQ x.1 (xg x)∧(xg x).bad=false)∧21-(xg x).deep≤(n+1:Nat))=>(by
 dsimp only[cA,Bc,nds,Ab,Av,rA,Ix,Mx,Ee,Je,Bo,GC,CI,FS,He,BO,ER,Bu,sgs,srd,srf,Au,Az,mvL,lnL,mvE,lnE]
 obtain⟨s,p,d,b,ns⟩:=x;dsimp only[xg,xh] at hx ⊢
 obtain⟨⟨hx,hb⟩,hd⟩:=hx
 have hx:okQ s ⟨p,d,b,ns⟩:=hx
 have hD:=ED hx;have hM:=Oc hx;have h1:=hD.1
 (repeat' first|(show AV.pf _=AV.pf _;first|exact a5o|(with_unfolding_all exact a5o)|(with_unfolding_all rfl))|(with_reducible first|rfl|exact True.intro|apply AK|apply And.intro|((first|apply AA|apply AI|apply AB|apply AJ)<;>intro _))|(apply Ax<;>intro _)|apply AH|refine Ae () ?_ ?_|((first|apply AO|apply AN|apply AM|apply AL|apply AG|apply AF|apply AE|apply AD|apply AC)<;>try dsimp only)|apply Ae|(refine Prod.forall.2 ?_;intro _;try dsimp only)|(intro _;try dsimp only))
 all_goals(try dsimp only[xg,xh,yG,yS,iG,iF] at*)
 all_goals(try simp only[CP] at*)
 all_goals(try(have e:=JR (show isG s.sg ⟨p,d,b,ns⟩ 1 [118,97,114]=false by assumption);simp only[e] at*))
 all_goals(try(have e:=JS (show isG s.sg ⟨p,d,b,ns⟩ 1 [118,97,114]=true by assumption);simp only[e] at*))
 all_goals(try(have e:=JR (show isG s.sg ⟨p,d,b,ns⟩ 1 [114,101,116,117,114,110]=false by assumption);simp only[e] at*))
 all_goals(try(have e:=JS (show isG s.sg ⟨p,d,b,ns⟩ 1 [114,101,116,117,114,110]=true by assumption);simp only[e] at*))
 all_goals(try(have e:=JR (show isG s.sg ⟨p,d,b,ns⟩ 1 [105,102]=false by assumption);simp only[e] at*))
 all_goals(try(have e:=JS (show isG s.sg ⟨p,d,b,ns⟩ 1 [105,102]=true by assumption);simp only[e] at*))
 all_goals(try(have e:=JR (show isG s.sg ⟨p,d,b,ns⟩ 1 [119,104,105,108,101]=false by assumption);simp only[e] at*))
 all_goals(try(have e:=JS (show isG s.sg ⟨p,d,b,ns⟩ 1 [119,104,105,108,101]=true by assumption);simp only[e] at*))
 all_goals first
  |rfl
  |exact h1
  |exact hM
  |omega
  |(simp;done)
  |exact b7L hx ‹_›
  |exact HJ h1 (by omega)
  |exact GB hx ‹_›
  |exact ED (GB hx ‹_›)
  |exact(ED (GB hx ‹_›)).1
  |exact b7M hx ‹_› ‹_› ‹_›
  |exact b7O hx ‹_› ‹_› ‹_› ‹_› ‹_›
  |exact b7N hx ‹_› ‹_› ‹_› ‹_›
  |exact Dt h1 ‹_›
  |exact(El (Dt h1 ‹_›)).1
  |exact(El (ED (GB hx ‹_›)).1).1
  |exact b7Z hx ‹_› ‹_› ‹_› ‹_› ‹_› (b7Y (x:=⟨p,d,b,ns⟩) hb ‹_› ‹_› (b7S ‹_› ‹_›) (b7U ‹_› ‹_›)) ‹_›
  |exact Tr hx ‹_› ‹_› ‹_› ‹_› ‹_› (b7W ‹_›) ‹_›
  |exact Tr hx ‹_› ‹_› ‹_› ‹_› ‹_› (b7X (x:=⟨p,d,b,ns⟩) ‹_›) ‹_›
  |exact Tr hx ‹_› ‹_› ‹_› ‹_› ‹_› (a5j (x:=⟨p,d,b,ns⟩) hb ‹_› (.inl (b7T ‹_› ‹_›))) ‹_›
  |exact Tr hx ‹_› ‹_› ‹_› ‹_› ‹_› (a5j (x:=⟨p,d,b,ns⟩) hb ‹_› (.inr (b7V ‹_› ‹_›))) ‹_›
  |(have hq:=DV h1;dsimp only at hq;(try simp only[AR]);omega)
  |exact(a5k hx).1
  |exact ED (a5k hx).2
  |exact hD
  |(simp [AW];done)
  |exact(show AW 2 8 by simp [AW])
  |exact(show AW 3 8 by simp [AW])
  |skip
 all_goals(try(have hc:=(show Bl s.sg (An ⟨p,d,b,ns⟩) (Dx s.sg) _ by assumption);have k0:=GB hx (show isG s.sg ⟨p,d,b,ns⟩ 1 _=true by assumption);have k1:=b8a k0 hc;have k2:=b8b (n:=n) (x:=⟨p,d,b,ns⟩) hd hc))
 all_goals first
  |exact k1
  |exact k2
  |exact(ED (Od k1 ‹_›)).1
  |exact a5m (ED (Od k1 ‹_›)).1
  |exact GB (Od k1 ‹_›) ‹_›
  |exact a5n (Od k1 ‹_›)
  |(have hh:=b8c (m:=[101,108,115,101]) k2 (show Ag s.sg _ (BH s.sg _) _ by assumption);exact hh)
  |exact Dt h1 ‹_›
  |exact b7P hx ‹_› ‹_› ‹_› ‹_› ‹_› ‹_› ‹_›
  |exact b7Q hx ‹_› ‹_› ‹_› ‹_› ‹_› ‹_› ‹_› ‹_›
  |exact b7R hx ‹_› ‹_› ‹_› ‹_› ‹_› ‹_› ‹_›
  |exact(ED (Od (a5n (Od k1 ‹_›)) ‹_›)).1
  |exact h1
  |skip)
end Go.My
end
section
namespace Go.My
open Go.Eng Go.Proofs
variable {G:GInv}
theorem b8g(n:Nat):Ai G Go.Proofs.Tryz.prog 92 (JT n):=by
 induction n with
 |zero=>exact Gx Tryz.func92 rfl (by decide) (fun x h=>by have h1:=h.1.1.1.2;have h2:=h.2;omega)
 |succ n ih=>exact b8f n ih
def Mz:Sig:= {X:=ST×Int×Int×Bool×List Nd,args:=fun x=>[srd x.1 (xg x)],pre:=fun x=>okQ x.1 (xg x),Y:=Int×Int×Int×Bool×List Nd,post:=fun x y=>Ag x.1.sg (xg x) (EN x.1.sg) (yS y),res:=fun x y=> .int .i64 y.1,outs:=fun x y=>[srd x.1 (yG y.2)],keep:=true}
theorem a5q{s:ST}{g:Gs}(h:okQ s g):okQ s g∧20-g.deep≤(stN:Int):=by
 have h1:=h.1.1.2.2.1.1
 exact⟨h,by unfold stN;omega⟩
theorem a5r:Ai G Go.Proofs.Tryz.prog 65 Mz:=
 have c:=a5p (G:=G) stN (b8g stN)
 ⟨⟨c.1.1,fun x y hx hy=>c.1.2 x y (a5q hx) hy⟩,fun x hx=>c.2 x (a5q hx)⟩
theorem a5s{s:ST}{x:Gs}{v:List Int×Gs}(h:okQ s x)(hv:vlQ s.sg (BB s.sg) [41] [] (Aq s.sg (Be s.sg x 1) [40]) v):okQ s v.2:=by
 have a:=El (m:=[40]) (HJ (k:=1) h.1.1 (by omega))
 have e:(Be s.sg x 1).deep=x.deep:=by unfold Be;split<;>rfl
 obtain⟨b1,b2,b3,b4⟩:=Xr h.1.1.1 hv
 exact⟨⟨b1,by have:=h.1.2;omega⟩,h.2⟩
theorem a5t{s:ST}{x:Gs}{v:List Int×Gs}{q:Int×Gs}(h:okQ s x)(hv:vlQ s.sg (BB s.sg) [41] [] (Aq s.sg (Be s.sg x 1) [40]) v)(hq:Ag s.sg v.2 (EN s.sg) q):
 Ag s.sg x (Gq s.sg false) (AQ q.2,Ah q.2 ⟨20,Bz s.sg x 1,v.1++[q.1],false⟩):=by
 rw[Iu.1] at hv;rw[Iu.2]
 obtain⟨l,⟨a,b⟩,rfl⟩:=hv
 exact a3K (l:=l) h.1.1.1 h.1.1.2 a b hq
def clS(sg:List Sg)(x y:Gs)(ks:List Int)(N:Nat):Prop:=Ja sg (Dn sg) [125] (Aq sg (Be sg (An x) 1) [123]) y ks N∧y.deep=x.deep
theorem a5u{s:ST}{x:Gs}(h:okQ s (An x)):clS s.sg x (Aq s.sg (Be s.sg (An x) 1) [123]) [] (s.sg.length+1):=by
 have a:=HJ (k:=1) h.1.1 (by omega)
 refine⟨Su (El a).1.2,?_⟩
 rw[(El a).2];unfold Be;split<;>rfl
theorem b8h{s:ST}{x:Gs}(h:okQ s x)(h1:isG s.sg x 1 [118,97,114]=false)(h2:isG s.sg (BF s.sg x [118,97,114]) 1 [99,108,97,115,115]=true):
 clS s.sg x (Aq s.sg (Be s.sg (BF s.sg (BF s.sg x [118,97,114]) [99,108,97,115,115]) 1) [123]) [] (s.sg.length+1):=by
 rw[JR h1] at h2 ⊢
 rw[JS h2];exact a5u (GB h h2)
theorem b8i{s:ST}{x:Gs}(h:okQ s (An x)):rOk s (Be s.sg (An x) 1)∧rOk s (Aq s.sg (Be s.sg (An x) 1) [123]):=
 have a:=HJ (k:=1) h.1.1 (by omega)
 ⟨a,(El a).1⟩
theorem XR{s:ST}{x y:Gs}{ks:List Int}{N:Nat}(h:okQ s (An x))(hj:clS s.sg x y ks N):okQ s y:=⟨⟨⟨h.1.1.1,hj.1.1.1⟩,by have:=hj.2;have:=h.1.2;simp only[An] at*;omega⟩,h.2⟩
theorem a5v{s:ST}{x y:Gs}{ks:List Int}{N:Nat}(h:okQ s (An x))(hj:clS s.sg x y ks N)(hb:y.bad=false)(hq:isG s.sg y 4 [125]=false):okQ s (Al s.sg y [125])∧(Al s.sg y [125]).bad=false:=by
 rw[Df hq];exact⟨XR h hj,hb⟩
theorem XS{s:ST}{x y:Gs}{ks:List Int}{N:Nat}(h:okQ s (An x))(hj:clS s.sg x y ks N):ks.length≤3001:=by
 have:=hj.1.2.2.1;have:=hj.1.1.1.1;have:=h.1.1.1.1;omega
theorem KX{s:ST}{x y:Gs}{ks:List Int}{N:Nat}{b:Bool}{z:Int×Gs}(hj:clS s.sg x y ks N)(hb:y.bad=false)(hq:isG s.sg y 4 [125]=false)(hz:Ag s.sg (Al s.sg y [125]) (Dn s.sg false) z)(e:b=(blG s.sg (Al s.sg y [125])&&decide (0<(ks.length:Int)))):
 clS s.sg x (gBl z.2 z.1 b) (ks++[z.1]) (N-1)∧N-1<N:=by
 rw[Df hq] at hz e
 rw[XL hb] at e
 have hz2:Ag s.sg y (Dn s.sg b) (z.1,gBl z.2 z.1 b):=XK XI hz
 subst e
 obtain⟨a,b⟩:=HC (Sx hj.1 hb hq (z:=(z.1,gBl z.2 z.1 ((pkG s.sg y 0).blank&&decide (0<(ks.length:Int))))) (by
  have:decide (0<ks.length)=decide (0<(ks.length:Int)):=by simp
  rw[this];exact hz2))
 have:=(CF hz2).1
 exact⟨⟨a,by have:=hj.2;simp only at*;omega⟩,b⟩
theorem a5w{s:ST}{x:Gs}{l:List Int×Gs}(h:okQ s (An x))(hl:Bl s.sg (Aq s.sg (Be s.sg (An x) 1) [123]) (CW s.sg (Dn s.sg) [125] (s.sg.length+1) []) l)(hll:l.1.length≤3001):
 Ag s.sg (An x) (Gr s.sg false) (AQ (Aq s.sg l.2 [125]),Ah (Aq s.sg l.2 [125]) ⟨21,Bz s.sg (An x) 1,l.1,false⟩):=by
 rw[Iu.1] at hl;rw[Iu.2]
 exact It hl.1 (DN (HF h.1.1.1) (by omega)) (a3L h.1.1.1 h.1.1.2 hl hll)
theorem b8j{s:ST}{x y:Gs}{ks:List Int}{N:Nat}(h:okQ s (An x))(hj:clS s.sg x y ks N)(hq:isG s.sg y 4 [125]=true):
 Ag s.sg (An x) (Gr s.sg false) (AQ (Al s.sg y [125]),Ah (Al s.sg y [125]) ⟨21,Bz s.sg (An x) 1,ks,false⟩):=by
 rw[Dg hq,←JO hq];exact a5w (l:=(ks,y)) h (Sw hj.1 hq) (XS h hj)
theorem b8k{s:ST}{x y:Gs}{ks:List Int}{N:Nat}(h:okQ s (An x))(hj:clS s.sg x y ks N)(hb:y.bad=true):
 Ag s.sg (An x) (Gr s.sg false) (AQ y,Ah y ⟨21,Bz s.sg (An x) 1,ks,false⟩):=by
 have a:=a5w (l:=(ks,y)) h (Sv hj.1 hb) (XS h hj)
 simp only[Tb hb] at a;exact a
theorem b8l{s:ST}{x:Gs}(h:okQ s x)(hk:kdG s.sg x 5=true):Ag s.sg x (Dn s.sg false) (AQ (Be s.sg x 5),Ah (Be s.sg x 5) ⟨19,Bz s.sg x 5,[],false⟩):=by
 have hn:=hk
 rw[PY (by omega)] at hn
 exact NY h.1.1.1 h.1.1.2 (by omega) hk (a3M h.1.1.1 h.1.1.2 (by simpa using hn))
theorem b8m{s:ST}{x:Gs}(h:okQ s x)(hk:kdG s.sg x 5=true):Ag s.sg x (DD s.sg false) (AQ (Be s.sg x 5),Ah (Be s.sg x 5) ⟨19,Bz s.sg x 5,[],false⟩):=by
 have hn:=hk
 rw[PY (by omega)] at hn
 exact NY h.1.1.1 h.1.1.2 (by omega) hk (a3P h.1.1.1 h.1.1.2 (by simpa using hn))
theorem b8n{s:ST}{x:Gs}{z:Int×Gs}(h:okQ s x)(hk:kdG s.sg x 5=false)(hq:isG s.sg x 1 [118,97,114]=true)(hz:Ag s.sg (An x) (DC s.sg false) z):Ag s.sg x (Dn s.sg false) z:=a3N h.1.1.2 (Hd hk) hq hz
theorem b8o{s:ST}{x:Gs}{z:Int×Gs}(h:okQ s x)(hk:kdG s.sg x 5=false)(hq:isG s.sg x 1 [118,97,114]=true)(hz:Ag s.sg (An x) (DC s.sg false) z):Ag s.sg x (DD s.sg false) z:=a3Q h.1.1.2 (Hd hk) hq hz
theorem b8p{s:ST}{x:Gs}{z:Int×Gs}(h:okQ s x)(hk:kdG s.sg x 5=false)(hq:isG s.sg x 1 [118,97,114]=false)(hz:Ag s.sg x (Gq s.sg false) z):Ag s.sg x (Dn s.sg false) z:=a3O h.1.1.2 (Hd hk) hq hz
theorem b8q{s:ST}{x:Gs}{z:Int×Gs}(h:okQ s x)(hk:kdG s.sg x 5=false)(h1:isG s.sg x 1 [118,97,114]=false)(hq:isG s.sg x 1 [99,108,97,115,115]=false)(hz:Ag s.sg x (Gq s.sg false) z):Ag s.sg x (DD s.sg false) z:=a3S h.1.1.2 (Hd hk) h1 hq hz
theorem a5x{s:ST}{x:Gs}{z:Int×Gs}(h:okQ s x)(hk:kdG s.sg x 5=false)(h1:isG s.sg x 1 [118,97,114]=false)(hq:isG s.sg x 1 [99,108,97,115,115]=true)(hz:Ag s.sg (An x) (Gr s.sg false) z):Ag s.sg x (DD s.sg false) z:=a3R h.1.1.2 (Hd hk) h1 hq hz
def a5y:Sig:= {X:=ST×Int×Int×Bool×List Nd,args:=fun x=>[srd x.1 (xg x),.bool false],pre:=fun x=>False,Y:=Int×Int×Int×Bool×List Nd,post:=fun x y=>True,res:=fun x y=> .int .i64 y.1,outs:=fun x y=>[srd x.1 (yG y.2),.top],keep:=true}
theorem b8r:Ai G Go.Proofs.Tryz.prog 34 a5y:=Gx Tryz.func34 rfl (by decide) (fun x h=>h)
attribute [local irreducible] pE Bn Dc fnR Ag Bl gsOk Aq Bs Ah BX De Al CD Dp AQ BC pkG isG nmG kdG Be Bz BB vlQ BF gBl blG DC Gv Dx Ce BH stR CW okQ sgM clS Dn DD Gq Gr EN
def JU:Sig:= {X:=ST×Int×Int×Bool×List Nd,args:=fun x=>[srd x.1 (xg x),.bool false],pre:=fun x=>okQ x.1 (xg x)∧(xg x).bad=false,Y:=Int×Int×Int×Bool×List Nd,post:=fun x y=>Ag x.1.sg (xg x) (Dn x.1.sg false) (yS y),res:=fun x y=> .int .i64 y.1,outs:=fun x y=>[srd x.1 (yG y.2),.top],keep:=true}
def b8s(x:ST×Int×Int×Bool×List Nd):LS:= {ι:=Int×Int×Bool×List Nd×List Int×Nat,inv:=fun i=>False,regs:=fun i=>[(0,srd x.1 (iG i)),(5,.str (Bz x.1.sg (An (xg x)) 1)),(6,Ab i.2.2.2.2.1)],als:=[],meas:=fun i=>i.2.2.2.2.2}
theorem b8t:Ai G Tryz.prog 34 JU:=
 vcFun_okP [(58,0,Ef),(59,0,CI),(36,0,Bo),(60,0,ER),(61,0,He),(62,0,BO),(63,0,Cb),(33,0,FR),(34,0,a5y),(35,0,Em),(64,0,GA),(65,0,Mz)] [(25,⟨Int,AZ⟩)] false (fun x=>[(9,b8s x)]) Tryz.func34 rfl (by decide) ⟨SY,KU,HI,Xj,XQ,Ir,HH,SZ,b8r,Ta,Xv,a5r,trivial⟩ (fun(x:ST×Int×Int×Bool×List Nd)=>True∧cA Ef [srd x.1 (xg x),.int .i64 (5:Int)] fun x_1 y=>Aa (kdG x_1.1.sg (xh x_1) x_1.2.2.2.2.2) (cA CI [srd x_1.1 (xh x_1),.int .i64 (5:Int)] fun x_2 y=>cA Bo [srd x_2.1 (Be x_2.1.sg (xh x_2) x_2.2.2.2.2.2),.int .i64 (19:Int),.str (Bz x_2.1.sg (xh x_2) x_2.2.2.2.2.2),Ab []] fun x_3 y=>rA JU x [.int .i64 (AQ (xh x_3)),srd x_3.1 (Ah (xh x_3) {kind:=x_3.2.2.2.2.2.1,text:=x_3.2.2.2.2.2.2.1,kids:=x_3.2.2.2.2.2.2.2,blank:=false}),.top]) (cA ER [srd x_1.1 (xh x_1),.str #[(118:UInt8),(97:UInt8),(114:UInt8)].toList] fun x_2 y=>Aa (isG x_2.1.sg (xh x_2) (1:Int) x_2.2.2.2.2.2) (cA He [srd x_2.1 (BF x_2.1.sg (xh x_2) x_2.2.2.2.2.2)] fun x_3 y=>rA JU x [.int .i64 y.1,srd x_3.1 (yG y.2),.top]) (cA CI [srd x_2.1 (BF x_2.1.sg (xh x_2) x_2.2.2.2.2.2),.int .i64 (1:Int)] fun x_3 y=>cA GA [srd x_3.1 (Be x_3.1.sg (xh x_3) x_3.2.2.2.2.2)] fun x_4 y=>cA Mz [srd x_4.1 (yG y.2)] fun x_5 y_1=>∃(x_6:Int),y_1.1=x_6∧∃(zs:List Int),Ab [x_6]=Ab zs∧Bj AZ∧AW (List.length y.1+List.length zs) (8:Nat)∧cA Bo [srd x_5.1 (yG y_1.2),.int .i64 (20:Int),.str (Bz x_3.1.sg (xh x_3) x_3.2.2.2.2.2),Ab (y.1++zs)] fun x_7 y=>rA JU x [.int .i64 (AQ (xh x_7)),srd x_7.1 (Ah (xh x_7) {kind:=x_7.2.2.2.2.2.1,text:=x_7.2.2.2.2.2.2.1,kids:=x_7.2.2.2.2.2.2.2,blank:=false}),.top]))) (fun x=>by kernel_rfl) fun(x:ST×Int×Int×Bool×List Nd) (hx:okQ x.1 (xg x)∧(xg x).bad=false)=>(by
 dsimp only[cA,Bc,Ab,Av,rA,Mz,Ef,JU,GA,Bo,CI,He,ER,Bu,sgs,srd,Au,Az,mvL,lnL,mvE,lnE]
 obtain⟨s,p,d,b,ns⟩:=x;dsimp only[xg,xh] at hx ⊢
 obtain⟨hx,hb⟩:=hx
 have hx:okQ s ⟨p,d,b,ns⟩:=hx
 have hD:=ED hx;have hM:=Oc hx;have h1:=hD.1;have hs:=h1.1
 (repeat' first|(with_reducible first|rfl|exact True.intro|apply AK|apply And.intro|((first|apply AA|apply AI|apply AB|apply AJ)<;>intro _))|(apply Ax<;>intro _)|apply AH|refine Ae () ?_ ?_|((first|apply AO|apply AN|apply AM|apply AL|apply AG|apply AF|apply AE|apply AD|apply AC)<;>try dsimp only)|apply Ae|(refine Prod.forall.2 ?_;intro _;try dsimp only)|(intro _;try dsimp only))
 all_goals(try dsimp only[xg,xh,yG,yS,iG,iF] at*)
 all_goals(try simp only[CP] at*)
 all_goals(try(have e:=JR (show isG s.sg ⟨p,d,b,ns⟩ 1 [118,97,114]=false by assumption);simp only[e] at*))
 all_goals(try(have e:=JS (show isG s.sg ⟨p,d,b,ns⟩ 1 [118,97,114]=true by assumption);simp only[e] at*))
 all_goals first
  |rfl
  |exact h1
  |omega
  |contradiction
  |exact b8l hx ‹_›
  |exact HJ h1 (by omega)
  |exact GB hx ‹_›
  |exact b8n hx ‹_› ‹_› ‹_›
  |exact a5s hx ‹_›
  |exact Dt h1 ‹_›
  |exact b8p hx ‹_› ‹_› (a5t hx ‹_› ‹_›)
  |(have hq:=Xy hs (show vlQ _ _ _ [] _ _ by assumption);(try simp only[AW,List.length_append,List.length_cons,List.length_nil] at*);omega)
  |skip)
def Iy:Sig:= {X:=ST×Int×Int×Bool×List Nd,args:=fun x=>[srd x.1 (xg x),.bool true],pre:=fun x=>okQ x.1 (xg x)∧(xg x).bad=false,Y:=Int×Int×Int×Bool×List Nd,post:=fun x y=>Ag x.1.sg (xg x) (DD x.1.sg false) (yS y),res:=fun x y=> .int .i64 y.1,outs:=fun x y=>[srd x.1 (yG y.2),.top],keep:=true}
def Qc(x:ST×Int×Int×Bool×List Nd):LS:= {ι:=Int×Int×Bool×List Nd×List Int×Nat,inv:=fun i=>clS x.1.sg (xg x) (iG i) i.2.2.2.2.1 i.2.2.2.2.2,regs:=fun i=>[(0,srd x.1 (iG i)),(5,.str (Bz x.1.sg (An (xg x)) 1)),(6,Ab i.2.2.2.2.1)],als:=[],meas:=fun i=>i.2.2.2.2.2}
theorem b8u:Ai G Tryz.prog 34 Iy:=
 vcFun_okP [(58,0,Ef),(59,0,CI),(36,0,Bo),(60,0,ER),(61,0,He),(62,0,BO),(63,0,Cb),(33,0,FR),(34,0,JU),(35,0,Em),(64,0,GA),(65,0,Mz)] [(25,⟨Int,AZ⟩)] false (fun x=>[(9,Qc x)]) Tryz.func34 rfl (by decide) ⟨SY,KU,HI,Xj,XQ,Ir,HH,SZ,b8t,Ta,Xv,a5r,trivial⟩ (fun(x:ST×Int×Int×Bool×List Nd)=>True∧cA Ef [srd x.1 (xg x),.int .i64 (5:Int)] fun x_1 y=>Aa (kdG x_1.1.sg (xh x_1) x_1.2.2.2.2.2) (cA CI [srd x_1.1 (xh x_1),.int .i64 (5:Int)] fun x_2 y=>cA Bo [srd x_2.1 (Be x_2.1.sg (xh x_2) x_2.2.2.2.2.2),.int .i64 (19:Int),.str (Bz x_2.1.sg (xh x_2) x_2.2.2.2.2.2),Ab []] fun x_3 y=>rA Iy x [.int .i64 (AQ (xh x_3)),srd x_3.1 (Ah (xh x_3) {kind:=x_3.2.2.2.2.2.1,text:=x_3.2.2.2.2.2.2.1,kids:=x_3.2.2.2.2.2.2.2,blank:=false}),.top]) (cA ER [srd x_1.1 (xh x_1),.str #[(118:UInt8),(97:UInt8),(114:UInt8)].toList] fun x_2 y=>Aa (isG x_2.1.sg (xh x_2) (1:Int) x_2.2.2.2.2.2) (cA He [srd x_2.1 (BF x_2.1.sg (xh x_2) x_2.2.2.2.2.2)] fun x_3 y=>rA Iy x [.int .i64 y.1,srd x_3.1 (yG y.2),.top]) (cA ER [srd x_2.1 (BF x_2.1.sg (xh x_2) x_2.2.2.2.2.2),.str #[(99:UInt8),(108:UInt8),(97:UInt8),(115:UInt8),(115:UInt8)].toList] fun x_3 y=>Aa (isG x_3.1.sg (xh x_3) (1:Int) x_3.2.2.2.2.2) (cA CI [srd x_3.1 (BF x_3.1.sg (xh x_3) x_3.2.2.2.2.2),.int .i64 (1:Int)] fun x_4 y=>cA BO [srd x_4.1 (Be x_4.1.sg (xh x_4) x_4.2.2.2.2.2),.str #[(123:UInt8)].toList] fun x_5 y=>eA (Qc x) [srd x_5.1 (Aq x_5.1.sg (xh x_5) x_5.2.2.2.2.2),.str (Bz x_4.1.sg (xh x_4) x_4.2.2.2.2.2),Ab []]∧∀(i:Int×Int×Bool×List Nd×List Int×Nat),clS x.1.sg (xg x) (iG i) i.2.2.2.2.1 i.2.2.2.2.2→Aa (!(iG i).bad) (cA Cb [srd x.1 (iG i),.str #[(125:UInt8)].toList] fun x_6 y=>Aa (!isG x_6.1.sg (xh x_6) (4:Int) x_6.2.2.2.2.2) (cA FR [srd x_6.1 (Al x_6.1.sg (xh x_6) x_6.2.2.2.2.2)] fun x_7 y=>Aa (blG x_7.1.sg (xg x_7)) (cA JU [srd x_7.1 (xg x_7),.bool false] fun x_8 y=>cA Em [srd x_8.1 (yG y.2),.int .i64 y.1,.bool (decide ((↑(List.length i.2.2.2.2.1):Int)>(0:Int)))] fun x_9 y_1=>∃(x_10:Int),y.1=x_10∧∃(zs:List Int),Ab [x_10]=Ab zs∧Bj AZ∧AW (List.length i.2.2.2.2.1+List.length zs) (8:Nat)∧eN (Qc x) i [srd x_9.1 (gBl (xh x_9) x_9.2.2.2.2.2.1 x_9.2.2.2.2.2.2),.str (Bz x.1.sg (An (xg x)) (1:Int)),Ab (i.2.2.2.2.1++zs)]) (cA JU [srd x_7.1 (xg x_7),.bool false] fun x_8 y=>cA Em [srd x_8.1 (yG y.2),.int .i64 y.1,.bool false] fun x_9 y_1=>∃(x_10:Int),y.1=x_10∧∃(zs:List Int),Ab [x_10]=Ab zs∧Bj AZ∧AW (List.length i.2.2.2.2.1+List.length zs) (8:Nat)∧eN (Qc x) i [srd x_9.1 (gBl (xh x_9) x_9.2.2.2.2.2.1 x_9.2.2.2.2.2.2),.str (Bz x.1.sg (An (xg x)) (1:Int)),Ab (i.2.2.2.2.1++zs)])) (cA Bo [srd x_6.1 (Al x_6.1.sg (xh x_6) x_6.2.2.2.2.2),.int .i64 (21:Int),.str (Bz x.1.sg (An (xg x)) (1:Int)),Ab i.2.2.2.2.1] fun x_7 y=>rA Iy x [.int .i64 (AQ (xh x_7)),srd x_7.1 (Ah (xh x_7) {kind:=x_7.2.2.2.2.2.1,text:=x_7.2.2.2.2.2.2.1,kids:=x_7.2.2.2.2.2.2.2,blank:=false}),.top])) (cA Bo [srd x.1 (iG i),.int .i64 (21:Int),.str (Bz x.1.sg (An (xg x)) (1:Int)),Ab i.2.2.2.2.1] fun x_6 y=>rA Iy x [.int .i64 (AQ (xh x_6)),srd x_6.1 (Ah (xh x_6) {kind:=x_6.2.2.2.2.2.1,text:=x_6.2.2.2.2.2.2.1,kids:=x_6.2.2.2.2.2.2.2,blank:=false}),.top])) (cA CI [srd x_3.1 (BF x_3.1.sg (xh x_3) x_3.2.2.2.2.2),.int .i64 (1:Int)] fun x_4 y=>cA GA [srd x_4.1 (Be x_4.1.sg (xh x_4) x_4.2.2.2.2.2)] fun x_5 y=>cA Mz [srd x_5.1 (yG y.2)] fun x_6 y_1=>∃(x_7:Int),y_1.1=x_7∧∃(zs:List Int),Ab [x_7]=Ab zs∧Bj AZ∧AW (List.length y.1+List.length zs) (8:Nat)∧cA Bo [srd x_6.1 (yG y_1.2),.int .i64 (20:Int),.str (Bz x_4.1.sg (xh x_4) x_4.2.2.2.2.2),Ab (y.1++zs)] fun x_8 y=>rA Iy x [.int .i64 (AQ (xh x_8)),srd x_8.1 (Ah (xh x_8) {kind:=x_8.2.2.2.2.2.1,text:=x_8.2.2.2.2.2.2.1,kids:=x_8.2.2.2.2.2.2.2,blank:=false}),.top])))) (fun x=>by kernel_rfl) fun(x:ST×Int×Int×Bool×List Nd) (hx:okQ x.1 (xg x)∧(xg x).bad=false)=>(by
 dsimp only[cA,eA,eN,Qc,Bc,Ab,Av,rA,Mz,FR,Em,Ef,Cb,Iy,JU,GA,Bo,CI,He,BO,ER,Bu,sgs,srd,Au,Az,mvL,lnL,mvE,lnE,Bq]
 obtain⟨s,p,d,b,ns⟩:=x;dsimp only[xg,xh] at hx ⊢
 obtain⟨hx,hb⟩:=hx
 have hx:okQ s ⟨p,d,b,ns⟩:=hx
 have hD:=ED hx;have hM:=Oc hx;have h1:=hD.1;have hs:=h1.1
 (repeat' first|(with_reducible first|rfl|exact True.intro|apply AK|apply And.intro|((first|apply AA|apply AI|apply AB|apply AJ)<;>intro _))|(apply Ax<;>intro _)|apply AH|refine Ae () ?_ ?_|((first|apply AO|apply AN|apply AM|apply AL|apply AG|apply AF|apply AE|apply AD|apply AC)<;>try dsimp only)|apply Ae|(refine Prod.forall.2 ?_;intro _;try dsimp only)|(intro _;try dsimp only))
 all_goals(try dsimp only[xg,xh,yG,yS,iG,iF] at*)
 all_goals(try simp only[CP] at*)
 all_goals first
  |(show Nat;skip)
  |exact b8h hx ‹_› ‹_›
  |exact(KX ‹_› ‹_› ‹_› ‹_› (GZ ‹_›)).1
  |exact(KX ‹_› ‹_› ‹_› ‹_› (Ha ‹_›)).1
  |skip
 all_goals(try(first|exact(KX ‹_› ‹_› ‹_› ‹_› (GZ ‹_›)).2|exact(KX ‹_› ‹_› ‹_› ‹_› (Ha ‹_›)).2))
 all_goals(try(have e:=JR (show isG s.sg ⟨p,d,b,ns⟩ 1 [118,97,114]=false by assumption);simp only[e] at*))
 all_goals(try(have e:=JS (show isG s.sg ⟨p,d,b,ns⟩ 1 [118,97,114]=true by assumption);simp only[e] at*))
 all_goals(try(have e:=JR (show isG s.sg ⟨p,d,b,ns⟩ 1 [99,108,97,115,115]=false by assumption);simp only[e] at*))
 all_goals(try(have e:=JS (show isG s.sg ⟨p,d,b,ns⟩ 1 [99,108,97,115,115]=true by assumption);simp only[e] at*))
 all_goals(try(have hw:=GB hx (show isG s.sg ⟨p,d,b,ns⟩ 1 [99,108,97,115,115]=true by assumption)))
 all_goals first
  |(show Nat;skip)
  |rfl
  |exact h1
  |omega
  |contradiction
  |exact b8m hx ‹_›
  |exact HJ h1 (by omega)
  |exact GB hx ‹_›
  |exact b8o hx ‹_› ‹_› ‹_›
  |exact a5s hx ‹_›
  |exact(ED hw).1
  |exact(b8i hw).1
  |exact a5u hw
  |exact(ED (XR hw ‹_›)).1
  |exact(a5v hw ‹_› ‹_› ‹_›).1
  |exact(a5v hw ‹_› ‹_› ‹_›).2
  |exact Fu (ED (XR hw ‹_›)).1
  |exact Dt h1 ‹_›
  |exact Ob XI ‹_›
  |exact Ob XI ‹_› ‹_›
  |exact(KX ‹_› ‹_› ‹_› ‹_› (GZ ‹_›)).1
  |exact(KX ‹_› ‹_› ‹_› ‹_› (Ha ‹_›)).1
  |exact a5x hx ‹_› ‹_› ‹_› (b8j hw ‹_› ‹_›)
  |exact a5x hx ‹_› ‹_› ‹_› (b8k hw ‹_› ‹_›)
  |exact b8q hx ‹_› ‹_› ‹_› (a5t hx ‹_› ‹_›)
  |(have hq:=Xy hs (show vlQ _ _ _ [] _ _ by assumption);(try simp only[AW,List.length_append,List.length_cons,List.length_nil] at*);omega)
  |(have hq:=XS hw (show clS _ _ _ _ _ by assumption);(try simp only[AW,List.length_append,List.length_cons,List.length_nil]);omega)
  |skip
 all_goals first
  |exact(KX ‹_› ‹_› ‹_› ‹_› (GZ ‹_›)).2
  |exact(KX ‹_› ‹_› ‹_› ‹_› (Ha ‹_›)).2
  |skip)
end Go.My
end
