/- joined -/
import Derived.Test.YtglbamflbnldhaaGreatDoorQL
set_option linter.unusedSimpArgs false
set_option linter.unusedVariables false
section
namespace Go.My
open Go.Eng Go.Proofs
variable {G:GInv}
theorem bt{a b:List UInt8}(h:(a==b)=true):a=b:=by simpa using h
theorem bf{a b:List UInt8}(h:(a==b)=false):a≠b:=by simpa using h
def csJ(sg:List Sg)(n l:Nat)(x y:Gs)(t:List UInt8)(ks:List Int)(N:Nat):Prop:=chS sg n l x y t ks N∧(y.bad=false→y.deep≤20)
theorem c1A{s:ST}{x:Gs}{n:Nat}{l:Int}(hx:wQ (9-l.toNat) (n+1) s x)(hl:l>5)(h6:l≤6):wQ 2 n s x:=by
 have e:l.toNat=6:=by omega
 have a:=hx.1.2
 rw[e] at a
 exact⟨⟨hx.1.1,by omega⟩,hx.2⟩
theorem c1B{s:ST}{x:Gs}{n:Nat}{l:Int}{z:Int×Gs}(hl:l>5)(h6:l≤6)(h:Ag s.sg x (pE s.sg n .fin) z):Ag s.sg x (pE s.sg (n+1) (.chain l.toNat)) z:=b5x (by omega) h
theorem c1C{s:ST}{x:Gs}{n:Nat}{l:Int}(hx:wQ (9-l.toNat) (n+1) s x)(h0:0≤l)(hl:¬l>5):wQ (9-(l+1).toNat) n s x:=⟨⟨hx.1.1,by have:=hx.1.2;omega⟩,hx.2⟩
theorem c1D{s:ST}{x:Gs}{n:Nat}{l:Int}{z:Int×Gs}(hx:wQ (9-l.toNat) (n+1) s x)(h0:0≤l)(hl:¬l>5)(hz:Ag s.sg x (pE s.sg n (.chain (l+1).toNat)) z):csJ s.sg n l.toNat x z.2 [] [z.1] (2*s.sg.length+4):=by
 rw[show(l+1).toNat=l.toNat+1 by omega] at hz
 exact⟨c0P hx.1.1.1.2 (by omega) hz,Qi hz hx.1.1.2⟩
theorem a6O{s:ST}{x y:Gs}{n l:Nat}{t:List UInt8}{ks:List Int}{N:Nat}(hs:sgB s.sg)(h:csJ s.sg n l x y t ks N):rOk s y:=⟨hs,h.1.1.1⟩
theorem a6P{s:ST}{x y:Gs}{n l:Nat}{t:List UInt8}{ks:List Int}{N:Nat}{i:Int}{m:List UInt8}(hs:sgB s.sg)(h:csJ s.sg n l x y t ks N)(hq:mkQ s.sg y l i m):rOk s (gM y m):=by
 unfold gM;split
 ·exact a6O hs h
 ·rename_i hm
  rcases hq.2 with h2|h2
  ·exact(hm h2.1).elim
  ·have hg:=(KJ (sg:=s.sg) (l:=l) (g:=y) (by rw[←h2.2];exact hm)).1
   exact⟨hs,GC h.1.1.1 (Dp hg (by omega)).2⟩
theorem a6Q{s:ST}{x y:Gs}{n:Nat}{l:Int}{t:List UInt8}{ks:List Int}{N:Nat}{i:Int}{m:List UInt8}(hx:wQ (9-l.toNat) (n+1) s x)(h0:0≤l)(hl:¬l>5)(h:csJ s.sg n l.toNat x y t ks N)(hq:mkQ s.sg y l.toNat i m)(hm:m≠[]):wQ (9-(l+1).toNat) n s (gM y m):=by
 have hr:=a6P hx.1.1.1.1 h hq
 rw[TG hm] at hr ⊢
 rcases hq.2 with h2|h2
 ·exact(hm h2.1).elim
 ·have hg:=(KJ (sg:=s.sg) (l:=l.toNat) (g:=y) (by rw[←h2.2];exact hm)).1
  have hb:=Dp hg (by omega)
  have e1:(An y).pos=y.pos+1:=rfl
  have e2:(An y).deep=y.deep:=rfl
  have:=h.1.1.2.2.1;have:=hx.1.2;have:=h.2 hb.1
  exact⟨⟨⟨hr,fun _=>by omega⟩,by omega⟩,hx.2⟩
theorem c1E{s:ST}{x y:Gs}{n:Nat}{l:Int}{t:List UInt8}{ks:List Int}{N:Nat}{i:Int}{m:List UInt8}(hx:wQ (9-l.toNat) (n+1) s x)(h0:0≤l)(hl:¬l>5)(h:csJ s.sg n l.toNat x y t ks N)(hq:mkQ s.sg y l.toNat i m)(hm:m≠[])(ht:t≠[]):wQ (9-(l+1).toNat) n s (Am (gM y m) ⟨7,t,ks,false⟩):=by
 have a:=a6Q hx h0 hl h hq hm
 obtain⟨d1,d2,d3⟩:= @JR (gM y m) ⟨7,t,ks,false⟩
 have hw:=Yu (ks:=ks) hx.1.1.1.1 (h.1.2.2.2.2.2 ht).2 (by have:=h.1.2.2.1;have:=h.1.1.1.1;omega)
 exact⟨⟨⟨⟨a.1.1.1.1,Qb a.1.1.1.2 hw⟩,fun hb=>by rw[d1];exact a.1.1.2 (d3 hb)⟩,by rw[d2];exact a.1.2⟩,a.2⟩
theorem TP{s:ST}{x y:Gs}{n:Nat}{l:Int}{t:List UInt8}{ks:List Int}{N:Nat}{i:Int}{m:List UInt8}{z:Int×Gs}(h0:0≤l)(h:csJ s.sg n l.toNat x y t ks N)(hq:mkQ s.sg y l.toNat i m)(hi:¬i<((BJ l.toNat).length:Int))(hm:m≠[])(ht:t=[]∨m=t)
 (hz:Ag s.sg (gM y m) (pE s.sg n (.chain (l+1).toNat)) z):csJ s.sg n l.toNat x z.2 m (ks++[z.1]) (N-1)∧N-1<N:=by
 have e:=TH hq hi
 rw[TG hm,show(l+1).toNat=l.toNat+1 by omega] at hz
 obtain⟨a,b⟩:=c0Q h.1 (by rw[←e];exact hm) (by rw[←e];exact ht) hz
 rw[←e] at a
 have hg:=(KJ (sg:=s.sg) (l:=l.toNat) (g:=y) (by rw[←e];exact hm)).1
 exact⟨⟨a,Qi hz (fun _=>h.2 (Dp hg (by omega)).1)⟩,b⟩
theorem a6R{s:ST}{x y:Gs}{n:Nat}{l:Int}{t:List UInt8}{ks:List Int}{N:Nat}{i:Int}{m:List UInt8}{z:Int×Gs}(hs:sgB s.sg)(h0:0≤l)(h:csJ s.sg n l.toNat x y t ks N)(hq:mkQ s.sg y l.toNat i m)(hi:¬i<((BJ l.toNat).length:Int))(hm:m≠[])(ht:t≠[])(hne:m≠t)
 (hz:Ag s.sg (Am (gM y m) ⟨7,t,ks,false⟩) (pE s.sg n (.chain (l+1).toNat)) z):csJ s.sg n l.toNat x z.2 m ([AU (gM y m)]++[z.1]) (N-2)∧N-2<N:=by
 have e:=TH hq hi
 rw[TG hm] at hz ⊢
 rw[show(l+1).toNat=l.toNat+1 by omega] at hz
 obtain⟨a,b⟩:=c0R hs h.1 (by rw[←e];exact hm) ht (by rw[←e];exact hne) hz
 rw[←e] at a
 have hg:=(KJ (sg:=s.sg) (l:=l.toNat) (g:=y) (by rw[←e];exact hm)).1
 refine⟨⟨a,Qi hz (fun hb=> ?_)⟩,b⟩
 rw[Xf];exact h.2 (Dp hg (by omega)).1
theorem c1F{s:ST}{x y:Gs}{n l:Nat}{t:List UInt8}{ks:List Int}{N:Nat}{i:Int}{m:List UInt8}{k:Int}(h:csJ s.sg n l x y t ks N)(hq:mkQ s.sg y l i m)(hi:¬i<((BJ l).length:Int))(hm:m=[])(hl:(ks.length:Int)=1)(hk:ks[(0:Int).toNat]? =some k):Ag s.sg x (pE s.sg (n+1) (.chain l)) (k,gM y m):=by
 have e:=TH hq hi
 subst hm
 exact a6z h.1 (.inr e.symm) (by omega) hk
theorem c1G{s:ST}{x y:Gs}{n l:Nat}{t:List UInt8}{ks:List Int}{N:Nat}{i:Int}{m:List UInt8}(hs:sgB s.sg)(h:csJ s.sg n l x y t ks N)(hq:mkQ s.sg y l i m)(hi:¬i<((BJ l).length:Int))(hm:m=[])(hl:(ks.length:Int)≠1):Ag s.sg x (pE s.sg (n+1) (.chain l)) (AU (gM y m),Am (gM y m) ⟨7,t,ks,false⟩):=by
 have e:=TH hq hi
 subst hm
 exact a6A hs h.1 (.inr e.symm) (by omega)
theorem c1H{s:ST}{x y:Gs}{n l:Nat}{t:List UInt8}{ks:List Int}{N:Nat}{k:Int}(h:csJ s.sg n l x y t ks N)(hb:y.bad=true)(hl:(ks.length:Int)=1)(hk:ks[(0:Int).toNat]? =some k):Ag s.sg x (pE s.sg (n+1) (.chain l)) (k,y):=a6z h.1 (.inl hb) (by omega) hk
theorem c1I{s:ST}{x y:Gs}{n l:Nat}{t:List UInt8}{ks:List Int}{N:Nat}(hs:sgB s.sg)(h:csJ s.sg n l x y t ks N)(hb:y.bad=true)(hl:(ks.length:Int)≠1):Ag s.sg x (pE s.sg (n+1) (.chain l)) (AU y,Am y ⟨7,t,ks,false⟩):=a6A hs h.1 (.inl hb) (by omega)
theorem c1J{s:ST}{x y:Gs}{n l:Nat}{t:List UInt8}{ks:List Int}{N:Nat}(hs:sgB s.sg)(h:csJ s.sg n l x y t ks N):ks.length≤3001∧1≤ks.length:=by
 have h1:=h.1.2.2.1;have h2:=h.1.1.1.1.2;have h3:=hs.1
 refine⟨by omega,?_⟩
 rcases Classical.em (t=[]) with e|e
 ·have:=h.1.2.2.2.2.1 e;omega
 ·have:=(h.1.2.2.2.2.2 e).1;omega
theorem c1K{sg:List Sg}{y:Gs}{l:Nat}{i:Int}{m:List UInt8}(h:mkQ sg y l i m):(0≤i∧i≤(BJ l).length)∧(BJ l).length≤2:=⟨h.1,b5s⟩
theorem KZ{sg:List Sg}{y:Gs}{l:Nat}{i:Int}{m v:List UInt8}(h:mkQ sg y l i m)(hm:m=[])(ha:(BJ l)[i.toNat]? =some v)(hg:isG sg (gM y m) 4 v=true):
 (Aw sg (gM y m) v).pos=(gM y v).pos∧(Aw sg (gM y m) v).bad=(gM y v).bad∧(Aw sg (gM y m) v).deep=(gM y v).deep∧(Aw sg (gM y m) v).nodes=(gM y v).nodes:=by
 rw[(Yw h hm ha hg).2];exact⟨rfl,rfl,rfl,rfl⟩
theorem c1L{sg:List Sg}{p d:Int}{b:Bool}{ns:List Nd}{f:Ps→PR}{z:Int×Gs}(hd:d≤20)(h:d+1>20)(hz:Ag sg ⟨p,d+1,true,ns⟩ f z):Ag sg (pkX ⟨p,d,b,ns⟩) f z:=by
 have e:pkX ⟨p,d,b,ns⟩=⟨p,d+1,true,ns⟩:=by simp only[pkX];rw[if_pos (show d=20 by omega)];rfl
 rw[e];exact hz
theorem c1M{sg:List Sg}{p d:Int}{b:Bool}{ns:List Nd}{f:Ps→PR}{z:Int×Gs}(h:¬d+1>20)(hz:Ag sg ⟨p,d+1,b,ns⟩ f z):Ag sg (pkX ⟨p,d,b,ns⟩) f z:=by
 have e:pkX ⟨p,d,b,ns⟩=⟨p,d+1,b,ns⟩:=by simp only[pkX];rw[if_neg (show¬d=20 by omega)];rfl
 rw[e];exact hz
theorem c1N{s:ST}{p d:Int}{b:Bool}{ns:List Nd}{n:Nat}(hx:vQ 10 (n+1) s ⟨p,d,b,ns⟩)(h:d+1>20):wQ (9-(0:Int).toNat) n s ⟨p,d+1,true,ns⟩:=by
 have a:=(a4y hx.1.1.1 hx.1.1.2 hx.1.2).1
 have hd:=hx.1.1.2;simp only at hd
 have e:pkX ⟨p,d,b,ns⟩=⟨p,d+1,true,ns⟩:=by simp only[pkX];rw[if_pos (show d=20 by omega)];rfl
 rw[e] at a;exact⟨a,hx.2⟩
theorem c1O{s:ST}{p d:Int}{b:Bool}{ns:List Nd}{n:Nat}(hx:vQ 10 (n+1) s ⟨p,d,b,ns⟩)(h:¬d+1>20):wQ (9-(0:Int).toNat) n s ⟨p,d+1,b,ns⟩:=by
 have a:=(a4y hx.1.1.1 hx.1.1.2 hx.1.2).1
 have e:pkX ⟨p,d,b,ns⟩=⟨p,d+1,b,ns⟩:=by simp only[pkX];rw[if_neg (show¬d=20 by omega)];rfl
 rw[e] at a;exact⟨a,hx.2⟩
theorem c1P{s:ST}{x y:Gs}{n:Nat}{ks:List Int}{N:Nat}(hx:vQ 11 (n+1) s x)(h:vaJ s.sg n x y ks N)(hq:isG s.sg y 4 [46,46]=true):
 wQ 11 n s (Aq s.sg (Am (Bh s.sg (Aw s.sg y [46,46]) 1) ⟨1,BC s.sg (Aw s.sg y [46,46]) 1,[],false⟩) [40]):=by
 have hr:=Xg hx.1.1.1 h
 have a:=Ow (m:=[46,46]) hr
 have e:=CX a
 have t:=HV (m:=[40]) (Gi a)
 rw[EH hq] at a e t ⊢
 simp only at e t
 have e1:(An y).pos=y.pos+1:=rfl
 have e2:(An y).deep=y.deep:=rfl
 have:=h.1.1.2.2.1;have:=h.2;have:=hx.1.2
 exact⟨⟨⟨⟨hx.1.1.1.1,t.1⟩,fun _=>by omega⟩,by omega⟩,hx.2⟩
theorem a6S{s:ST}{x y:Gs}{n:Nat}{ks:List Int}{N:Nat}{v:List Int×Gs}(hs:sgB s.sg)(h:vaJ s.sg n x y ks N)(hq:isG s.sg y 4 [46,46]=true)
 (hv:vlQ s.sg (pE s.sg n .value) [41] [AU (Bh s.sg (Aw s.sg y [46,46]) 1)] (Aq s.sg (Am (Bh s.sg (Aw s.sg y [46,46]) 1) ⟨1,BC s.sg (Aw s.sg y [46,46]) 1,[],false⟩) [40]) v):
 vaJ s.sg n x (Am v.2 ⟨5,[],v.1,false⟩) (ks++[AU v.2]) (N-1)∧N-1<N:=by
 have a:=Ow (m:=[46,46]) (show rOk s y from⟨hs,h.1.1.1⟩)
 have hw:=a6C (Gi a) hv
 have e:=(CX a).1
 rw[EH hq] at a e
 obtain⟨c1,c2⟩:=Oc (c0Y h.1 hq a (by rw[EH hq] at hw;exact hw))
 have e2:(An y).deep=y.deep:=rfl
 have e3:=(CX hw).1
 rw[EH hq] at e3
 have:=h.2
 exact⟨a4A ⟨c1,by simp only at*;omega⟩,c2⟩
theorem YH{s:ST}{x y:Gs}{n:Nat}{ks:List Int}{N:Nat}(hs:sgB s.sg)(h:vaJ s.sg n x y ks N):rOk s (Aw s.sg y [46,46])∧rOk s (Bh s.sg (Aw s.sg y [46,46]) 1)∧rOk s (Am (Bh s.sg (Aw s.sg y [46,46]) 1) ⟨1,BC s.sg (Aw s.sg y [46,46]) 1,[],false⟩):=
 have hr:rOk s y:=⟨hs,h.1.1.1⟩
 ⟨FT hr,Ig (FT hr) (by omega),Yz hr⟩
def lqI(s:ST)(e:Int)(j:Int×Int×Bool×List Nd×List UInt8×List Int×Nat):LS:= {
 ι:=Int×List UInt8,inv:=fun i=>mkQ s.sg (iF j) e.toNat i.1 i.2,regs:=fun i=>[(0,srd s (gM (iF j) i.2)),(1,.int .i64 e),(5,Ab j.2.2.2.2.2.1),(6,.str j.2.2.2.2.1),(7,.sl false 0 1 (List UInt8) Ck (BJ e.toNat)),(8,.str i.2),(9,.int .i64 i.1)],als:=[],meas:=fun i=>(BJ e.toNat).length-i.1.toNat}
def lqO(n:Nat)(x:ST×Int×Int×Bool×List Nd×Int):LS:= {
 ι:=Int×Int×Bool×List Nd×List UInt8×List Int×Nat,inv:=fun i=>csJ x.1.sg n x.2.2.2.2.2.toNat (xh x) (iF i) i.2.2.2.2.1 i.2.2.2.2.2.1 i.2.2.2.2.2.2,regs:=fun i=>[(0,srd x.1 (iF i)),(1,.int .i64 x.2.2.2.2.2),(5,Ab i.2.2.2.2.2.1),(6,.str i.2.2.2.2.1),(7,.sl false 0 1 (List UInt8) Ck (BJ x.2.2.2.2.2.toNat))],als:=[],meas:=fun i=>i.2.2.2.2.2.2,
 sub:=fun j=>[(9,lqI x.1 x.2.2.2.2.2 j)]}
attribute [local irreducible] pE Bx Dg fnR Ag BF gsOk Aq CS Am Dq EE Aw Ec En AU CT pkG isG nmG kdG Bh BC BS vlQ lqJ saI arG eqJ csJ mkQ gM vaJ
def IQ:Sig:= {X:=Int,args:=fun x=>[.int .i64 x],pre:=fun x=>0≤x∧x≤5,Y:=Unit,post:=fun x y=>True,res:=fun x y=> .sl false 0 1 (List UInt8) Ck (BJ x.toNat),outs:=fun x y=>[.top],keep:=true}
theorem c1Q:Aj G Tryz.prog 181 IQ:=
 vcFun_okP [] [(91,⟨List UInt8,Ck⟩)] false (fun x=>[]) Tryz.func181 rfl (by decide) trivial (fun(x:Int)=>True∧Aa (x==(0:Int)) (∃(x_1:List UInt8),#[(124:UInt8),(124:UInt8)].toList=x_1∧rA IQ x [AV.sl true 0 1 (List UInt8) Ck [x_1],.top]) (Aa (x==(1:Int)) (∃(x_1:List UInt8),#[(38:UInt8),(38:UInt8)].toList=x_1∧rA IQ x [AV.sl true 0 1 (List UInt8) Ck [x_1],.top]) (Aa (x==(2:Int)) (∃(x_1:List UInt8),#[(61:UInt8),(61:UInt8)].toList=x_1∧rA IQ x [AV.sl true 0 1 (List UInt8) Ck [x_1],.top]) (Aa (x==(3:Int)) (∃(x_1:List UInt8),#[(60:UInt8)].toList=x_1∧rA IQ x [AV.sl true 0 1 (List UInt8) Ck [x_1],.top]) (Aa (x==(4:Int)) (∃(x_1:List UInt8),#[(43:UInt8)].toList=x_1∧∃(x_2:List UInt8),#[(45:UInt8)].toList=x_2∧rA IQ x [AV.sl true 0 1 (List UInt8) Ck [x_1,x_2],.top]) (∃(x_1:List UInt8),#[(42:UInt8)].toList=x_1∧rA IQ x [AV.sl true 0 1 (List UInt8) Ck [x_1],.top])))))) (fun x=>by kernel_rfl) fun(x:Int) (hx:0≤x∧x≤5)=>(by
 dsimp only[rA,IQ,Au,Az]
 obtain⟨h1,h2⟩:=hx
 have hh:x=0∨x=1∨x=2∨x=3∨x=4∨x=5:=by omega
 rcases hh with rfl|rfl|rfl|rfl|rfl|rfl
 all_goals(repeat' first|(with_reducible first|rfl|exact True.intro|apply AK|apply And.intro|((first|apply AA|apply AI|apply AB|apply AJ)<;>intro _))|(apply Ax<;>intro _)|apply AH|refine Ae () ?_ ?_|((first|apply AO|apply AN|apply AM|apply AL|apply AG|apply AF|apply AE|apply AD|apply AC)<;>try dsimp only)|apply Ae|(refine Prod.forall.2 ?_;intro _;try dsimp only)|(intro _;try dsimp only))
 all_goals first
  |rfl
  |omega
  |(simp [AY];done)
  |skip)
def MB(n:Nat):Sig:= {X:=ST×Int×Int×Bool×List Nd×Int,args:=fun x=>[srd x.1 (xh x),.int .i64 x.2.2.2.2.2],pre:=fun x=>wQ (9-x.2.2.2.2.2.toNat) (n+1) x.1 (xh x)∧0≤x.2.2.2.2.2∧x.2.2.2.2.2≤6,Y:=Int×Int×Int×Bool×List Nd,post:=fun x y=>Ag x.1.sg (xh x) (pE x.1.sg (n+1) (.chain x.2.2.2.2.2.toNat)) (yS y),res:=fun x y=> .int .i64 y.1,outs:=fun x y=>[srd x.1 (yG y.2),.top],keep:=true}
theorem c1R(n:Nat)(h:qAll G n):Aj G Tryz.prog 137 (MB n):=
 vcFun_okP [(180,0,(TI n)),(137,0,(IP n)),(181,0,IQ),(63,0,Ch),(36,0,Bt)] [(25,⟨Int,AZ⟩),(91,⟨List UInt8,Ck⟩)] false (fun x=>[(6,lqO n x)]) Tryz.func137 rfl (by decide) ⟨h.fin,h.chain,c1Q,Ic,Ie,trivial⟩ (fun(x:ST×Int×Int×Bool×List Nd×Int)=>True∧Aa (decide (x.2.2.2.2.2>(5:Int))) (cA (TI n) [srd x.1 (xh x)] fun x_1 y=>rA (MB n) x [.int .i64 y.1,srd x_1.1 (yG y.2),.top]) (inR IntKind.i64 (x.2.2.2.2.2+(1:Int))∧cA (IP n) [srd x.1 (xh x),.int .i64 (x.2.2.2.2.2+(1:Int))] fun x_1 y=>∃(x_2:Int),y.1=x_2∧cA IQ [.int .i64 x.2.2.2.2.2] fun x_3 y_1=>eA (lqO n x) [srd x_1.1 (yG y.2),.int .i64 x.2.2.2.2.2,Ab [x_2],.str #[].toList,AV.sl false 0 1 (List UInt8) Ck (BJ (Int.toNat x_3))]∧∀(i:Int×Int×Bool×List Nd×List UInt8×List Int×Nat),csJ x.1.sg n (Int.toNat x.2.2.2.2.2) (xh x) (iF i) i.2.2.2.2.1 i.2.2.2.2.2.1 i.2.2.2.2.2.2→Aa (!(iF i).bad) (eA (lqI x.1 x.2.2.2.2.2 i) [srd x.1 (iF i),.int .i64 x.2.2.2.2.2,Ab i.2.2.2.2.2.1,.str i.2.2.2.2.1,AV.sl false 0 1 (List UInt8) Ck (BJ (Int.toNat x.2.2.2.2.2)),.str #[].toList,.int .i64 (0:Int)]∧∀(i_1:Int×List UInt8),mkQ x.1.sg (iF i) (Int.toNat x.2.2.2.2.2) i_1.1 i_1.2→Aa (decide (i_1.1<(↑(List.length (BJ (Int.toNat x.2.2.2.2.2))):Int))) (Aa (i_1.2== #[].toList) (((0:Int)≤i_1.1∧i_1.1<(↑(List.length (BJ (Int.toNat x.2.2.2.2.2))):Int))∧∀(e:List UInt8),(BJ (Int.toNat x.2.2.2.2.2))[Int.toNat i_1.1]? =some e→cA Ch [srd x.1 (gM (iF i) i_1.2),.str e] fun x_4 y=>Aa (isG x_4.1.sg (xh x_4) (4:Int) x_4.2.2.2.2.2) (((0:Int)≤i_1.1∧i_1.1<(↑(List.length (BJ (Int.toNat x.2.2.2.2.2))):Int))∧∀(e:List UInt8),(BJ (Int.toNat x.2.2.2.2.2))[Int.toNat i_1.1]? =some e→inR IntKind.i64 (i_1.1+(1:Int))∧eN (lqI x.1 x.2.2.2.2.2 i) i_1 [srd x_4.1 (Aw x_4.1.sg (xh x_4) x_4.2.2.2.2.2),.int .i64 x.2.2.2.2.2,Ab i.2.2.2.2.2.1,.str i.2.2.2.2.1,AV.sl false 0 1 (List UInt8) Ck (BJ (Int.toNat x.2.2.2.2.2)),.str e,.int .i64 (i_1.1+(1:Int))]) (inR IntKind.i64 (i_1.1+(1:Int))∧eN (lqI x.1 x.2.2.2.2.2 i) i_1 [srd x_4.1 (Aw x_4.1.sg (xh x_4) x_4.2.2.2.2.2),.int .i64 x.2.2.2.2.2,Ab i.2.2.2.2.2.1,.str i.2.2.2.2.1,AV.sl false 0 1 (List UInt8) Ck (BJ (Int.toNat x.2.2.2.2.2)),.str i_1.2,.int .i64 (i_1.1+(1:Int))])) (inR IntKind.i64 (i_1.1+(1:Int))∧eN (lqI x.1 x.2.2.2.2.2 i) i_1 [srd x.1 (gM (iF i) i_1.2),.int .i64 x.2.2.2.2.2,Ab i.2.2.2.2.2.1,.str i.2.2.2.2.1,AV.sl false 0 1 (List UInt8) Ck (BJ (Int.toNat x.2.2.2.2.2)),.str i_1.2,.int .i64 (i_1.1+(1:Int))])) (Aa (i_1.2== #[].toList) (Aa ((↑(List.length i.2.2.2.2.2.1):Int)==(1:Int)) (((0:Int)≤(0:Int)∧(0:Int)<(↑(List.length i.2.2.2.2.2.1):Int))∧(0:Nat)<List.length i.2.2.2.2.2.1∧∀(x_4:Int),i.2.2.2.2.2.1[(0:Nat)]? =some x_4→rA (MB n) x [.int .i64 x_4,srd x.1 (gM (iF i) i_1.2),.top]) (cA Bt [srd x.1 (gM (iF i) i_1.2),.int .i64 (7:Int),.str i.2.2.2.2.1,Ab i.2.2.2.2.2.1] fun x_4 y=>rA (MB n) x [.int .i64 (AU (xh x_4)),srd x_4.1 (Am (xh x_4) {kind:=x_4.2.2.2.2.2.1,text:=x_4.2.2.2.2.2.2.1,kids:=x_4.2.2.2.2.2.2.2,blank:=false}),.top])) (Aa (!i.2.2.2.2.1== #[].toList) (Aa (!i_1.2==i.2.2.2.2.1) (cA Bt [srd x.1 (gM (iF i) i_1.2),.int .i64 (7:Int),.str i.2.2.2.2.1,Ab i.2.2.2.2.2.1] fun x_4 y=>∃(x_5:Int),AU (xh x_4)=x_5∧inR IntKind.i64 (x.2.2.2.2.2+(1:Int))∧cA (IP n) [srd x_4.1 (Am (xh x_4) {kind:=x_4.2.2.2.2.2.1,text:=x_4.2.2.2.2.2.2.1,kids:=x_4.2.2.2.2.2.2.2,blank:=false}),.int .i64 (x.2.2.2.2.2+(1:Int))] fun x_6 y=>∃(x_7:Int),y.1=x_7∧∃(zs:List Int),Ab [x_7]=Ab zs∧Bo AZ∧AY (List.length [x_5]+List.length zs) (8:Nat)∧eN (lqO n x) i [srd x_6.1 (yG y.2),.int .i64 x.2.2.2.2.2,Ab ([x_5]++zs),.str i_1.2,AV.sl false 0 1 (List UInt8) Ck (BJ (Int.toNat x.2.2.2.2.2))]) (inR IntKind.i64 (x.2.2.2.2.2+(1:Int))∧cA (IP n) [srd x.1 (gM (iF i) i_1.2),.int .i64 (x.2.2.2.2.2+(1:Int))] fun x_4 y=>∃(x_5:Int),y.1=x_5∧∃(zs:List Int),Ab [x_5]=Ab zs∧Bo AZ∧AY (List.length i.2.2.2.2.2.1+List.length zs) (8:Nat)∧eN (lqO n x) i [srd x_4.1 (yG y.2),.int .i64 x.2.2.2.2.2,Ab (i.2.2.2.2.2.1++zs),.str i_1.2,AV.sl false 0 1 (List UInt8) Ck (BJ (Int.toNat x.2.2.2.2.2))])) (inR IntKind.i64 (x.2.2.2.2.2+(1:Int))∧cA (IP n) [srd x.1 (gM (iF i) i_1.2),.int .i64 (x.2.2.2.2.2+(1:Int))] fun x_4 y=>∃(x_5:Int),y.1=x_5∧∃(zs:List Int),Ab [x_5]=Ab zs∧Bo AZ∧AY (List.length i.2.2.2.2.2.1+List.length zs) (8:Nat)∧eN (lqO n x) i [srd x_4.1 (yG y.2),.int .i64 x.2.2.2.2.2,Ab (i.2.2.2.2.2.1++zs),.str i_1.2,AV.sl false 0 1 (List UInt8) Ck (BJ (Int.toNat x.2.2.2.2.2))])))) (Aa ((↑(List.length i.2.2.2.2.2.1):Int)==(1:Int)) (((0:Int)≤(0:Int)∧(0:Int)<(↑(List.length i.2.2.2.2.2.1):Int))∧(0:Nat)<List.length i.2.2.2.2.2.1∧∀(x_4:Int),i.2.2.2.2.2.1[(0:Nat)]? =some x_4→rA (MB n) x [.int .i64 x_4,srd x.1 (iF i),.top]) (cA Bt [srd x.1 (iF i),.int .i64 (7:Int),.str i.2.2.2.2.1,Ab i.2.2.2.2.2.1] fun x_4 y=>rA (MB n) x [.int .i64 (AU (xh x_4)),srd x_4.1 (Am (xh x_4) {kind:=x_4.2.2.2.2.2.1,text:=x_4.2.2.2.2.2.2.1,kids:=x_4.2.2.2.2.2.2.2,blank:=false}),.top])))) (fun x=>by kernel_rfl) fun(x:ST×Int×Int×Bool×List Nd×Int) (hx:wQ (9-x.2.2.2.2.2.toNat) (n+1) x.1 (xh x)∧0≤x.2.2.2.2.2∧x.2.2.2.2.2≤6)=>(by
 dsimp only[cA,eA,eN,lqI,lqO,Bu,Ab,Ba,rA,IP,MB,TI,IQ,Ch,Bt,Db,sgs,srd,Au,Az,mvL,lnL,mvE,lnE,Br]
 obtain⟨s,p,d,b,ns,e⟩:=x;dsimp only[xg,xh] at hx ⊢
 obtain⟨hx,h4,h5⟩:=hx
 have hx:wQ (9-e.toNat) (n+1) s ⟨p,d,b,ns⟩:=hx
 have h1:=hx.1.1.1;have hs:=h1.1
 (repeat' first|(with_reducible first|rfl|exact True.intro|apply AK|apply And.intro|((first|apply AA|apply AI|apply AB|apply AJ)<;>intro _))|(apply Ax<;>intro _)|apply AH|refine Ae () ?_ ?_|((first|apply AO|apply AN|apply AM|apply AL|apply AG|apply AF|apply AE|apply AD|apply AC)<;>try dsimp only)|apply Ae|(refine Prod.forall.2 ?_;intro _;try dsimp only)|(intro _;try dsimp only))
 all_goals(try dsimp only[xg,xh,yG,yS,iG,iF] at*)
 all_goals(try simp only[GD] at*)
 all_goals first
  |(show Nat;skip)
  |rfl
  |assumption
  |exact h1
  |exact c1A hx ‹_› h5
  |exact c1B ‹_› h5 ‹_›
  |exact c1C hx h4 ‹_›
  |exact c1D hx h4 ‹_› ‹_›
  |exact a6O hs ‹_›
  |exact a6P hs ‹_› ‹_›
  |exact c0S
  |(simp only[Yv];done)
  |exact(KZ ‹_› ‹_› ‹_› ‹_›).1
  |exact(KZ ‹_› ‹_› ‹_› ‹_›).2.1
  |exact(KZ ‹_› ‹_› ‹_› ‹_›).2.2.1
  |exact(KZ ‹_› ‹_› ‹_› ‹_›).2.2.2
  |exact c0T ‹_› ‹_› ‹_› ‹_›
  |exact(Yw ‹_› ‹_› ‹_› ‹_›).1
  |exact c0U ‹_› ‹_› ‹_›
  |exact a6Q hx h4 ‹_› ‹_› ‹_› ‹_›
  |exact c1E hx h4 ‹_› ‹_› ‹_› ‹_› (bf ‹_›)
  |exact(a6R hs h4 ‹_› ‹_› ‹_› ‹_› (bf ‹_›) (bf ‹_›) ‹_›).1
  |exact(TP h4 ‹_› ‹_› ‹_› ‹_› (.inl (bt ‹_›)) ‹_›).1
  |exact(TP h4 ‹_› ‹_› ‹_› ‹_› (.inr (bt ‹_›)) ‹_›).1
  |exact c1F ‹_› ‹_› ‹_› ‹_› ‹_› ‹_›
  |exact c1G hs ‹_› ‹_› ‹_› ‹_› ‹_›
  |exact c1H ‹_› ‹_› ‹_› ‹_›
  |exact c1I hs ‹_› ‹_› ‹_›
  |((try simp only[AQ]);omega)
  |(have hq:=c1K (show mkQ _ _ _ _ _ by assumption);(try simp only[AQ]);omega)
  |(have hq:=c1J hs (show csJ _ _ _ _ _ _ _ _ by assumption);(try simp only[AY,List.length_append,List.length_cons,List.length_nil]);omega)
  |skip
 all_goals first
  |exact(a6R hs h4 ‹_› ‹_› ‹_› ‹_› (bf ‹_›) (bf ‹_›) ‹_›).2
  |exact(TP h4 ‹_› ‹_› ‹_› ‹_› (.inl (bt ‹_›)) ‹_›).2
  |exact(TP h4 ‹_› ‹_› ‹_› ‹_› (.inr (bt ‹_›)) ‹_›).2
  |(simp only[Yv];done)
  |skip
 all_goals(try(repeat(rename(BJ _)[_]? =some _=>hq;revert hq;rename(BJ _)[_]? =some _=>hr;intro hq;rw[hr] at hq;cases hq)))
 all_goals first
  |exact(Yw ‹_› ‹_› ‹_› ‹_›).1
  |exact(KZ ‹_› ‹_› ‹_› ‹_›).1
  |exact(KZ ‹_› ‹_› ‹_› ‹_›).2.1
  |exact(KZ ‹_› ‹_› ‹_› ‹_›).2.2.1
  |exact(KZ ‹_› ‹_› ‹_› ‹_›).2.2.2
  |(rw[DI ‹_›];done)
  |skip)
def MC(n:Nat):Sig:= {X:=ST×Int×Int×Bool×List Nd,args:=fun x=>[srd x.1 (xg x)],pre:=fun x=>vQ 10 (n+1) x.1 (xg x),Y:=Int×Int×Int×Bool×List Nd,post:=fun x y=>Ag x.1.sg (xg x) (pE x.1.sg (n+1) .pick) (yS y),res:=fun x y=> .int .i64 y.1,outs:=fun x y=>[srd x.1 (yG y.2)],keep:=true}
theorem c1S(n:Nat)(h:qAll G n):Aj G Tryz.prog 109 (MC n):=
 vcFun_okP [(137,0,(IP n)),(63,0,Ch),(109,0,(Hu n)),(62,0,BQ),(36,0,Bt)] [(25,⟨Int,AZ⟩)] false (fun x=>[]) Tryz.func109 rfl (by decide) ⟨h.chain,Ic,h.pick,IK,Ie,trivial⟩ (fun(x:ST×Int×Int×Bool×List Nd)=>True∧Aa (xg x).bad (rA (MC n) x [.int .i64 (0:Int),srd x.1 (xg x)]) (inR IntKind.i64 ((xg x).deep+(1:Int))∧Aa (decide ((xg x).deep+(1:Int)>(20:Int))) (cA (IP n) [.box 0 [sgs x.1.sg,.int .i64 (xg x).pos,.bool true,.int .i64 ((xg x).deep+(1:Int)),Ba (xg x).nodes],.int .i64 (0:Int)] fun x_1 y=>cA Ch [srd x_1.1 (yG y.2),.str #[(63:UInt8)].toList] fun x_2 y_1=>Aa (isG x_2.1.sg (xh x_2) (4:Int) x_2.2.2.2.2.2) (cA (Hu n) [srd x_2.1 (Aw x_2.1.sg (xh x_2) x_2.2.2.2.2.2)] fun x_3 y_2=>cA BQ [srd x_3.1 (yG y_2.2),.str #[(58:UInt8)].toList] fun x_4 y_3=>cA (Hu n) [srd x_4.1 (Aq x_4.1.sg (xh x_4) x_4.2.2.2.2.2)] fun x_5 y_4=>∃(x_6:Int),y.1=x_6∧∃(x_7:Int),y_2.1=x_7∧∃(x_8:Int),y_4.1=x_8∧cA Bt [srd x_5.1 (yG y_4.2),.int .i64 (8:Int),.str #[].toList,Ab [x_6,x_7,x_8]] fun x_9 y=>inR IntKind.i64 ((Am (xh x_9) {kind:=x_9.2.2.2.2.2.1,text:=x_9.2.2.2.2.2.2.1,kids:=x_9.2.2.2.2.2.2.2,blank:=false}).deep-(1:Int))∧rA (MC n) x [.int .i64 (AU (xh x_9)),.box 0 [sgs x_9.1.sg,.int .i64 (Am (xh x_9) {kind:=x_9.2.2.2.2.2.1,text:=x_9.2.2.2.2.2.2.1,kids:=x_9.2.2.2.2.2.2.2,blank:=false}).pos,.bool (Am (xh x_9) {kind:=x_9.2.2.2.2.2.1,text:=x_9.2.2.2.2.2.2.1,kids:=x_9.2.2.2.2.2.2.2,blank:=false}).bad,.int .i64 ((Am (xh x_9) {kind:=x_9.2.2.2.2.2.1,text:=x_9.2.2.2.2.2.2.1,kids:=x_9.2.2.2.2.2.2.2,blank:=false}).deep-(1:Int)),Ba (Am (xh x_9) {kind:=x_9.2.2.2.2.2.1,text:=x_9.2.2.2.2.2.2.1,kids:=x_9.2.2.2.2.2.2.2,blank:=false}).nodes]]) (inR IntKind.i64 ((Aw x_2.1.sg (xh x_2) x_2.2.2.2.2.2).deep-(1:Int))∧rA (MC n) x [.int .i64 y.1,.box 0 [sgs x_2.1.sg,.int .i64 (Aw x_2.1.sg (xh x_2) x_2.2.2.2.2.2).pos,.bool (Aw x_2.1.sg (xh x_2) x_2.2.2.2.2.2).bad,.int .i64 ((Aw x_2.1.sg (xh x_2) x_2.2.2.2.2.2).deep-(1:Int)),Ba (Aw x_2.1.sg (xh x_2) x_2.2.2.2.2.2).nodes]])) (cA (IP n) [.box 0 [sgs x.1.sg,.int .i64 (xg x).pos,.bool (xg x).bad,.int .i64 ((xg x).deep+(1:Int)),Ba (xg x).nodes],.int .i64 (0:Int)] fun x_1 y=>cA Ch [srd x_1.1 (yG y.2),.str #[(63:UInt8)].toList] fun x_2 y_1=>Aa (isG x_2.1.sg (xh x_2) (4:Int) x_2.2.2.2.2.2) (cA (Hu n) [srd x_2.1 (Aw x_2.1.sg (xh x_2) x_2.2.2.2.2.2)] fun x_3 y_2=>cA BQ [srd x_3.1 (yG y_2.2),.str #[(58:UInt8)].toList] fun x_4 y_3=>cA (Hu n) [srd x_4.1 (Aq x_4.1.sg (xh x_4) x_4.2.2.2.2.2)] fun x_5 y_4=>∃(x_6:Int),y.1=x_6∧∃(x_7:Int),y_2.1=x_7∧∃(x_8:Int),y_4.1=x_8∧cA Bt [srd x_5.1 (yG y_4.2),.int .i64 (8:Int),.str #[].toList,Ab [x_6,x_7,x_8]] fun x_9 y=>inR IntKind.i64 ((Am (xh x_9) {kind:=x_9.2.2.2.2.2.1,text:=x_9.2.2.2.2.2.2.1,kids:=x_9.2.2.2.2.2.2.2,blank:=false}).deep-(1:Int))∧rA (MC n) x [.int .i64 (AU (xh x_9)),.box 0 [sgs x_9.1.sg,.int .i64 (Am (xh x_9) {kind:=x_9.2.2.2.2.2.1,text:=x_9.2.2.2.2.2.2.1,kids:=x_9.2.2.2.2.2.2.2,blank:=false}).pos,.bool (Am (xh x_9) {kind:=x_9.2.2.2.2.2.1,text:=x_9.2.2.2.2.2.2.1,kids:=x_9.2.2.2.2.2.2.2,blank:=false}).bad,.int .i64 ((Am (xh x_9) {kind:=x_9.2.2.2.2.2.1,text:=x_9.2.2.2.2.2.2.1,kids:=x_9.2.2.2.2.2.2.2,blank:=false}).deep-(1:Int)),Ba (Am (xh x_9) {kind:=x_9.2.2.2.2.2.1,text:=x_9.2.2.2.2.2.2.1,kids:=x_9.2.2.2.2.2.2.2,blank:=false}).nodes]]) (inR IntKind.i64 ((Aw x_2.1.sg (xh x_2) x_2.2.2.2.2.2).deep-(1:Int))∧rA (MC n) x [.int .i64 y.1,.box 0 [sgs x_2.1.sg,.int .i64 (Aw x_2.1.sg (xh x_2) x_2.2.2.2.2.2).pos,.bool (Aw x_2.1.sg (xh x_2) x_2.2.2.2.2.2).bad,.int .i64 ((Aw x_2.1.sg (xh x_2) x_2.2.2.2.2.2).deep-(1:Int)),Ba (Aw x_2.1.sg (xh x_2) x_2.2.2.2.2.2).nodes]])))) (fun x=>by kernel_rfl) fun(x:ST×Int×Int×Bool×List Nd) (hx:vQ 10 (n+1) x.1 (xg x))=>(by
 dsimp only[cA,Bu,Ab,Ba,rA,IP,Ch,Hu,MC,Bt,BQ,Db,sgs,srd,Au,Az,mvL,lnL,mvE,lnE]
 obtain⟨s,p,d,b,ns⟩:=x;dsimp only[xg,xh] at hx ⊢
 have hx:vQ 10 (n+1) s ⟨p,d,b,ns⟩:=hx
 have h1:=hx.1.1.1;have h2:=hx.1.1.2;have h3:=hx.1.2;have hs:=h1.1;dsimp only at h2 h3
 (repeat' first|(with_reducible first|rfl|exact True.intro|apply AK|apply And.intro|((first|apply AA|apply AI|apply AB|apply AJ)<;>intro _))|(apply Ax<;>intro _)|apply AH|refine Ae () ?_ ?_|((first|apply AO|apply AN|apply AM|apply AL|apply AG|apply AF|apply AE|apply AD|apply AC)<;>try dsimp only)|apply Ae|(refine Prod.forall.2 ?_;intro _;try dsimp only)|(intro _;try dsimp only))
 all_goals(try dsimp only[xg,xh,yG,yS,iG,iF] at*)
 all_goals(try simp only[GD] at*)
 all_goals(try(first|(have hz:=c1L (b:=b) h2 ‹_› (show Ag s.sg ⟨p,d+1,true,ns⟩ (pE s.sg n (.chain _)) _ by assumption))|(have hz:=c1M ‹_› (show Ag s.sg ⟨p,d+1,b,ns⟩ (pE s.sg n (.chain _)) _ by assumption))))
 all_goals first
  |rfl
  |assumption
  |exact a6B h1.2 ‹_›
  |exact c1N hx ‹_›
  |exact c1O hx ‹_›
  |exact Fm h1 hz
  |(clear hz;exact Fm h1 ‹_›)
  |exact⟨a4z h1 h2 h3 hz ‹_›,hx.2⟩
  |exact⟨b5y h1 h2 h3 hz ‹_› ‹_›,hx.2⟩
  |exact b5z h1 h2 hz ‹_› ‹_› ‹_›
  |exact b5A h1 h2 hz ‹_›
  |(have hq:=b5B h1 hz ‹_›;(try dsimp only at hq);(try simp only[AQ]);omega)
  |(have hq:=b5C (show Ag s.sg (Aq s.sg _ _) _ _ by assumption);(try dsimp only at hq);(try simp only[AQ,Xf]);omega)
  |(have hq:=(Hl h1).1.2;dsimp only at hq;(try simp only[AQ]);omega)
  |skip)
def TQ(n:Nat):Sig:= {X:=ST×Int×Int×Bool×List Nd,args:=fun x=>[srd x.1 (xg x)],pre:=fun x=>vQ 11 (n+1) x.1 (xg x),Y:=Int×Int×Int×Bool×List Nd,post:=fun x y=>Ag x.1.sg (xg x) (pE x.1.sg (n+1) .value) (yS y),res:=fun x y=> .int .i64 y.1,outs:=fun x y=>[srd x.1 (yG y.2)],keep:=true}
def TR(n:Nat)(x:ST×Int×Int×Bool×List Nd):LS:= {ι:=Int×Int×Bool×List Nd×List Int×Nat,inv:=fun i=>vaJ x.1.sg n (xg x) (iG i) i.2.2.2.2.1 i.2.2.2.2.2,regs:=fun i=>[(0,srd x.1 (iG i)),(4,Ab i.2.2.2.2.1)],als:=[],meas:=fun i=>i.2.2.2.2.2}
theorem c1T(n:Nat)(h:qAll G n):Aj G Tryz.prog 91 (TQ n):=
 vcFun_okP [(109,0,(Hu n)),(90,0,Ee),(63,0,Ch),(59,0,CH),(36,0,Bt),(62,0,BQ),(110,0,(GL n))] [(25,⟨Int,AZ⟩)] false (fun x=>[(5,TR n x)]) Tryz.func91 rfl (by decide) ⟨h.pick,QA,Ic,KY,Ie,IK,(YB n h),trivial⟩ (fun(x:ST×Int×Int×Bool×List Nd)=>True∧cA (Hu n) [srd x.1 (xg x)] fun x_1 y=>cA Ee [srd x_1.1 (yG y.2),.int .i64 (4:Int),.str #[(46:UInt8),(46:UInt8)].toList] fun x_2 y_1=>Aa (!isG x_2.1.sg (xh x_2) x_2.2.2.2.2.2.1 x_2.2.2.2.2.2.2) (rA (TQ n) x [.int .i64 y.1,srd x_2.1 (xh x_2)]) (∃(x_3:Int),y.1=x_3∧eA (TR n x) [srd x_2.1 (xh x_2),Ab [x_3]]∧∀(i:Int×Int×Bool×List Nd×List Int×Nat),vaJ x.1.sg n (xg x) (iG i) i.2.2.2.2.1 i.2.2.2.2.2→cA Ch [srd x.1 (iG i),.str #[(46:UInt8),(46:UInt8)].toList] fun x_4 y=>Aa (isG x_4.1.sg (xh x_4) (4:Int) x_4.2.2.2.2.2) (cA CH [srd x_4.1 (Aw x_4.1.sg (xh x_4) x_4.2.2.2.2.2),.int .i64 (1:Int)] fun x_5 y=>cA Bt [srd x_5.1 (Bh x_5.1.sg (xh x_5) x_5.2.2.2.2.2),.int .i64 (1:Int),.str (BC x_5.1.sg (xh x_5) x_5.2.2.2.2.2),Ab []] fun x_6 y=>cA BQ [srd x_6.1 (Am (xh x_6) {kind:=x_6.2.2.2.2.2.1,text:=x_6.2.2.2.2.2.2.1,kids:=x_6.2.2.2.2.2.2.2,blank:=false}),.str #[(40:UInt8)].toList] fun x_7 y=>∃(x_8:Int),AU (xh x_6)=x_8∧cA (GL n) [srd x_7.1 (Aq x_7.1.sg (xh x_7) x_7.2.2.2.2.2),.str #[(41:UInt8)].toList,Ab [x_8]] fun x_9 y=>cA Bt [srd x_9.1 (yG y.2),.int .i64 (5:Int),.str #[].toList,Ab y.1] fun x_10 y=>∃(x_11:Int),AU (xh x_10)=x_11∧∃(zs:List Int),Ab [x_11]=Ab zs∧Bo AZ∧AY (List.length i.2.2.2.2.1+List.length zs) (8:Nat)∧eN (TR n x) i [srd x_10.1 (Am (xh x_10) {kind:=x_10.2.2.2.2.2.1,text:=x_10.2.2.2.2.2.2.1,kids:=x_10.2.2.2.2.2.2.2,blank:=false}),Ab (i.2.2.2.2.1++zs)]) (cA Bt [srd x_4.1 (Aw x_4.1.sg (xh x_4) x_4.2.2.2.2.2),.int .i64 (10:Int),.str #[].toList,Ab i.2.2.2.2.1] fun x_5 y=>rA (TQ n) x [.int .i64 (AU (xh x_5)),srd x_5.1 (Am (xh x_5) {kind:=x_5.2.2.2.2.2.1,text:=x_5.2.2.2.2.2.2.1,kids:=x_5.2.2.2.2.2.2.2,blank:=false})]))) (fun x=>by kernel_rfl) fun(x:ST×Int×Int×Bool×List Nd) (hx:vQ 11 (n+1) x.1 (xg x))=>(by
 dsimp only[cA,eA,eN,TR,Bu,Ab,Ba,rA,Ee,Ch,Hu,Bt,CH,TQ,GL,BQ,Db,sgs,srd,Au,Az,mvL,lnL,mvE,lnE,Br]
 obtain⟨s,p,d,b,ns⟩:=x;dsimp only[xg,xh] at hx ⊢
 have hx:vQ 11 (n+1) s ⟨p,d,b,ns⟩:=hx
 have h1:=hx.1.1.1;have h2:=hx.1.1.2;have h3:=hx.1.2;have hs:=h1.1;dsimp only at h2 h3
 (repeat' first|(with_reducible first|rfl|exact True.intro|apply AK|apply And.intro|((first|apply AA|apply AI|apply AB|apply AJ)<;>intro _))|(apply Ax<;>intro _)|apply AH|refine Ae () ?_ ?_|((first|apply AO|apply AN|apply AM|apply AL|apply AG|apply AF|apply AE|apply AD|apply AC)<;>try dsimp only)|apply Ae|(refine Prod.forall.2 ?_;intro _;try dsimp only)|(intro _;try dsimp only))
 all_goals(try dsimp only[xg,xh,yG,yS,iG] at*)
 all_goals(try simp only[GD] at*)
 all_goals first
  |(show Nat;skip)
  |rfl
  |assumption
  |exact⟨b5D h1 h2 h3,hx.2⟩
  |exact Fm h1 ‹_›
  |exact b5E h1 ‹_› ‹_›
  |exact b5F h1 h2 ‹_› ‹_›
  |exact Xg h1 ‹_›
  |exact(YH hs ‹_›).1
  |exact(YH hs ‹_›).2.1
  |exact(YH hs ‹_›).2.2
  |exact c1P hx ‹_› ‹_›
  |exact YE hs ‹_›
  |exact(a6S hs ‹_› ‹_› ‹_›).1
  |exact b5H h1 ‹_› ‹_›
  |exact b5I h1 ‹_› ‹_›
  |omega
  |(simp;done)
  |(have hq:=b5G hs (show vaJ _ _ _ _ _ _ by assumption);(try simp only[AY,List.length_append,List.length_cons,List.length_nil]);omega)
  |skip
 all_goals first
  |exact(a6S hs ‹_› ‹_› ‹_›).2
  |skip)
theorem YI{r:Nat}{s:ST}{g:Gs}(hr:1≤r)(h:wQ r 0 s g):False:=b6p hr h.1
theorem a6T{r:Nat}{s:ST}{g:Gs}(hr:1≤r)(h:vQ r 0 s g):False:=b6q hr h.1
theorem c1U:qAll G 0:=
 ⟨Mk Tryz.func91 rfl (by decide) (fun x h=>a6T (by omega) h),Mk Tryz.func109 rfl (by decide) (fun x h=>a6T (by omega) h),
  Mk Tryz.func137 rfl (by decide) (fun x h=>YI (by have:=h.2;omega) h.1),Mk Tryz.func180 rfl (by decide) (fun x h=>YI (by omega) h),Mk Tryz.func206 rfl (by decide) (fun x h=>YI (by omega) h)⟩
theorem c1V(n:Nat):qAll G n:=by
 induction n with
 |zero=>exact c1U
 |succ n ih=>exact⟨c1T n ih,c1S n ih,c1R n ih,c1z n ih,c1y n ih⟩
def Gl:Sig:= {X:=ST×Int×Int×Bool×List Nd,args:=fun x=>[srd x.1 (xg x)],pre:=fun x=>okD x.1 (xg x)∧sgM x.1.sg,Y:=Int×Int×Int×Bool×List Nd,post:=fun x y=>Ag x.1.sg (xg x) (Cn x.1.sg) (yS y),res:=fun x y=> .int .i64 y.1,outs:=fun x y=>[srd x.1 (yG y.2)],keep:=true}
theorem a6U{s:ST}{g:Gs}(h:okD s g∧sgM s.sg):vQ 11 peN s g:=⟨b6r h.1,h.2⟩
theorem YJ:Aj G Go.Proofs.Tryz.prog 91 Gl:=
 have c:=(c1V (G:=G) peN).val
 ⟨⟨c.1.1,fun x y hx hy=>c.1.2 x y (a6U hx) hy⟩,fun x hx=>c.2 x (a6U hx)⟩
end Go.My
end
section
namespace Go.My
open Go.Eng
def YK(e:Nd)(b:Bool):Nd:=⟨e.kind,e.text,e.kids,b⟩
def TS(b:Bool)(p:Int×Ps):Int×Ps:=(p.1,⟨p.2.pos,p.2.deep,p.2.nodes.set p.1.toNat (YK (ndAt p.2.nodes p.1) b)⟩)
def BL(f:Bool→Ps→PR):Prop:=∀b s,f b s=(f false s).map (TS b)∧∀p,f b s=some p→1≤p.2.nodes.length∧p.1=(p.2.nodes.length:Int)-1
theorem Ox{k:Int}{t:List UInt8}{ks:List Int}:BL (fun b=>Be ⟨k,t,ks,b⟩):=by
 intro b s
 by_cases h:300≤s.nodes.length
 ·simp only[Yt h];exact⟨rfl,fun p hp=>by cases hp⟩
 ·simp only[Ys h]
  refine⟨?_,fun p hp=>by simp only[Option.some.injEq] at hp;subst hp;simp⟩
  simp only[Option.map_some,TS,Int.toNat_natCast]
  congr 3
  have e:ndAt (s.nodes++[⟨k,t,ks,false⟩]) (s.nodes.length:Int)=⟨k,t,ks,false⟩:=Bn (by simp)
  rw[e]
  simp [YK]
theorem a6V{f:Bool→Ps→PR}(h:BL f):BL (fun b s=>Gf (f b s)):=by
 intro b s
 obtain⟨h1,h2⟩:=h b s
 refine⟨?_,fun p hp=> ?_⟩
 ·simp only[Gf];rw[h1]
  cases f false s with
  |none=>rfl
  |some p=>rfl
 ·simp only[Gf,Option.map_eq_some_iff] at hp
  obtain⟨q,hq,rfl⟩:=hp
  exact h2 q hq
theorem Gm{α:Type}{h:Ps→Option (α×Ps)}{g:Bool→α→Ps→PR}(hg:∀a,BL (fun b=>g b a)):BL (fun b s=>(h s).bind fun p=>g b p.1 p.2):=by
 intro b s
 simp only
 cases h s with
 |none=>exact⟨rfl,fun p hp=>by cases hp⟩
 |some p=>exact hg p.1 b p.2
theorem YL{h:Ps→Option Ps}{g:Bool→Ps→PR}(hg:BL g):BL (fun b s=>(h s).bind fun p=>g b p):=by
 intro b s
 simp only
 cases h s with
 |none=>exact⟨rfl,fun p hp=>by cases hp⟩
 |some p=>exact hg b p
theorem Gn{c:Ps→Prop}[inst:∀s,Decidable (c s)]{f g:Bool→Ps→PR}(hf:BL f)(hg:BL g):BL (fun b s=>if c s then f b s else g b s):=by
 intro b s
 by_cases h:c s
 ·simp only[if_pos h];exact hf b s
 ·simp only[if_neg h];exact hg b s
theorem a6W:BL (fun _ _=>none):=fun b s=>⟨rfl,fun p hp=>by cases hp⟩
theorem MD{f:Bool→Ps→PR}{a:Ps→Ps}(h:BL f):BL (fun b s=>f b (a s)):=fun b s=>h b (a s)
theorem c1W{f:Ps→Bool→Ps→PR}(h:∀q,BL (f q)):BL (fun b s=>f s b s):=fun b s=>h s b s
theorem YM{sg:List Sg}{k:Int}:BL (FL sg k):=fun b s=>a6V (Ox (k:=k) (t:=(sgO sg s.pos).text) (ks:=[])) b s
theorem ME{sg:List Sg}{m:List UInt8}{k:Int}{t:List UInt8}{ks:List Int}:BL (fun b=>Bs sg m ⟨k,t,ks,b⟩):=Gn (c:=fun s=>isM sg s m=true) (a6V Ox) a6W
theorem YN{sg:List Sg}:BL (DA sg):=
 Gm (h:=EU sg) (g:=fun b t s=>if isM sg s [61] then(Cn sg (adv s)).bind fun q=>Bs sg [59] ⟨12,t,[q.1],b⟩ q.2 else Bs sg [59] ⟨12,t,[],b⟩ s) (fun t=>
  Gn (c:=fun s=>isM sg s [61]=true) (Gm (h:=fun s=>Cn sg (adv s)) (g:=fun b k s=>Bs sg [59] ⟨12,t,[k],b⟩ s) (fun _=>ME)) ME)
theorem c1X{sg:List Sg}:BL (Ho sg):=
 Gn (c:=fun s=>isM sg s [59]=true) ME (Gm (h:=Cn sg) (g:=fun b k s=>Bs sg [59] ⟨15,[],[k],b⟩ s) (fun _=>ME))
theorem c1Y{sg:List Sg}{n:Nat}:BL (ifR sg n):=
 Gm (h:=DH sg) (g:=fun b c s=>(BN sg (stR sg n) s).bind fun q=>if isW sg q.2 [101,108,115,101] then(BN sg (stR sg n) (adv q.2)).bind fun r=>Be ⟨16,[],[c,q.1,r.1],b⟩ r.2 else Be ⟨16,[],[c,q.1],b⟩ q.2) (fun c=>
  Gm (h:=BN sg (stR sg n)) (g:=fun b k s=>if isW sg s [101,108,115,101] then(BN sg (stR sg n) (adv s)).bind fun r=>Be ⟨16,[],[c,k,r.1],b⟩ r.2 else Be ⟨16,[],[c,k],b⟩ s) (fun k=>
   Gn (c:=fun s=>isW sg s [101,108,115,101]=true) (Gm (h:=fun s=>BN sg (stR sg n) (adv s)) (g:=fun b r s=>Be ⟨16,[],[c,k,r],b⟩ s) (fun _=>Ox)) Ox))
theorem c1Z{sg:List Sg}{n:Nat}:BL (whR sg n):=
 Gm (h:=DH sg) (g:=fun b c s=>(BN sg (stR sg n) s).bind fun q=>Be ⟨17,[],[c,q.1],b⟩ q.2) (fun c=>Gm (h:=BN sg (stR sg n)) (g:=fun b k s=>Be ⟨17,[],[c,k],b⟩ s) (fun _=>Ox))
theorem c2a{sg:List Sg}:BL (doR sg):=Gm (h:=Cn sg) (g:=fun b k s=>Bs sg [59] ⟨14,[],[k],b⟩ s) (fun _=>ME)
theorem YO{sg:List Sg}:∀ {n:Nat},BL (stR sg n)
 |0=>a6W
 |n+1=>by
  intro b s
  rw[JT,JT]
  exact Gn (c:=fun s=>(sgO sg s.pos).kind=5) YM (Gn (c:=fun s=>isW sg s [118,97,114]=true) (MD (a:=adv) YN) (Gn (c:=fun s=>isW sg s [114,101,116,117,114,110]=true) (MD (a:=adv) c1X)
   (Gn (c:=fun s=>isW sg s [105,102]=true) (MD (a:=adv) c1Y) (Gn (c:=fun s=>isW sg s [119,104,105,108,101]=true) (MD (a:=adv) c1Z)
     (Gn (c:=fun s=>(DG sg s.pos&&isM sg (adv s) [61])=true) (c1W (f:=fun q b s=>(Cn sg (adv (adv s))).bind fun p=>Bs sg [59] ⟨13,(sgO sg q.pos).text,[p.1],b⟩ p.2) (fun q=>Gm (h:=fun s=>Cn sg (adv (adv s))) (g:=fun b k s=>Bs sg [59] ⟨13,(sgO sg q.pos).text,[k],b⟩ s) (fun _=>ME))) c2a))))) b s
theorem a6X{sg:List Sg}:BL (EV sg):=
 Gm (h:=EU sg) (g:=fun b t s=>(BE sg [40] s).bind fun s1=>(Bx sg (BS sg) [41] (sg.length+1) [] s1).bind fun q=>(BE sg [41] q.2).bind fun s2=>(FO sg s2).bind fun r=>Be ⟨20,t,q.1++[r.1],b⟩ r.2) (fun t=>
  YL (h:=BE sg [40]) (g:=fun b s1=>(Bx sg (BS sg) [41] (sg.length+1) [] s1).bind fun q=>(BE sg [41] q.2).bind fun s2=>(FO sg s2).bind fun r=>Be ⟨20,t,q.1++[r.1],b⟩ r.2)
   (Gm (h:=Bx sg (BS sg) [41] (sg.length+1) []) (g:=fun b ks s=>(BE sg [41] s).bind fun s2=>(FO sg s2).bind fun r=>Be ⟨20,t,ks++[r.1],b⟩ r.2) (fun ks=>
     YL (h:=BE sg [41]) (g:=fun b s2=>(FO sg s2).bind fun r=>Be ⟨20,t,ks++[r.1],b⟩ r.2) (Gm (h:=FO sg) (g:=fun b k s=>Be ⟨20,t,ks++[k],b⟩ s) (fun _=>Ox)))))
theorem YP{sg:List Sg}:BL (Dl sg):=Gn (c:=fun s=>(sgO sg s.pos).kind=5) YM (Gn (c:=fun s=>isW sg s [118,97,114]=true) (MD (a:=adv) YN) a6X)
theorem c2b{sg:List Sg}:BL (Hk sg):=
 Gm (h:=EU sg) (g:=fun b t s=>(BE sg [123] s).bind fun s1=>(CR sg (Dl sg) [125] (sg.length+1) [] s1).bind fun q=>Bs sg [125] ⟨21,t,q.1,b⟩ q.2) (fun t=>
  YL (h:=BE sg [123]) (g:=fun b s1=>(CR sg (Dl sg) [125] (sg.length+1) [] s1).bind fun q=>Bs sg [125] ⟨21,t,q.1,b⟩ q.2)
   (Gm (h:=CR sg (Dl sg) [125] (sg.length+1) []) (g:=fun b ks s=>Bs sg [125] ⟨21,t,ks,b⟩ s) (fun _=>ME)))
theorem YQ{sg:List Sg}:BL (CW sg):=Gn (c:=fun s=>(sgO sg s.pos).kind=5) YM (Gn (c:=fun s=>isW sg s [118,97,114]=true) (MD (a:=adv) YN) (Gn (c:=fun s=>isW sg s [99,108,97,115,115]=true) (MD (a:=adv) c2b) a6X))
theorem a6Y{sg:List Sg}{x y:Gs}{f:Bool→Ps→PR}{k:Int}(hf:BL f)(h:Ag sg x (f false) (k,y))(hb:y.bad=false):1≤y.nodes.length∧k=(y.nodes.length:Int)-1:=by
 obtain⟨⟨a1,a2,a3,a4,a5⟩,_⟩:=h
 simp only at a4 a5
 rw[Dn hb] at a4
 cases hp:(pur x).bind (f false) with
 |none=>rw[hp] at a4;cases a4
 |some p=>
  rw[hp] at a4
  simp only[Option.map_some,Option.some.injEq] at a4
  have e:=a5 p hp
  cases hs:pur x with
  |none=>rw[hs] at hp;cases hp
  |some s=>
   rw[hs] at hp;simp only[Option.bind_some] at hp
   have:=(hf false s).2 p hp
   rw[←a4] at this;simp only at this;rw[e];exact this
theorem YR{sg:List Sg}{x y:Gs}{f:Bool→Ps→PR}{k:Int}{b:Bool}(hf:BL f)(h:Ag sg x (f false) (k,y)):Ag sg x (f b) (k,gBl y k b):=by
 have hk:=a6Y hf h
 obtain⟨⟨a1,a2,a3,a4,a5⟩,c⟩:=h
 simp only at a1 a2 a3 a4 a5 c
 have eb:(pur x).bind (f b)=((pur x).bind (f false)).map (TS b):=by
  cases pur x with
  |none=>rfl
  |some s=>exact(hf b s).1
 cases hb:y.bad with
 |true=>
  have e:gBl y k b=y:=by rw[gBl,if_neg (by simp [hb])]
  rw[e]
  rw[Eb hb] at a4
  have hn:(pur x).bind (f false)=none:=by
   cases hp:(pur x).bind (f false) with
   |none=>rfl
   |some p=>rw[hp] at a4;cases a4
  refine⟨⟨a1,a2,a3,?_,fun p hp=> ?_⟩,c⟩
  ·rw[eb,hn,Eb hb];rfl
  ·rw[eb,hn] at hp;cases hp
 |false=>
  obtain⟨k1,k2⟩:=hk hb
  have hlt:k<(y.nodes.length:Int):=by omega
  have e:gBl y k b=⟨y.pos,y.deep,y.bad,y.nodes.set k.toNat (YK (ndAt y.nodes k) b)⟩:=by rw[gBl,if_pos ⟨hb,hlt⟩];rfl
  rw[e]
  have hat:Dm (ndAt y.nodes k):=by
   have hkl:k.toNat<y.nodes.length:=by omega
   have:=a1.2.2.2 (y.nodes[k.toNat]) (List.getElem_mem hkl)
   rw[Bn (List.getElem?_eq_getElem hkl)];exact this
  refine⟨⟨⟨a1.1,a1.2.1,by simpa using a1.2.2.1,fun w hw=> ?_⟩,a2,a3,?_,fun p hp=> ?_⟩,c⟩
  ·rcases List.mem_or_eq_of_mem_set hw with hw|hw
   ·exact a1.2.2.2 w hw
   ·subst hw;exact hat
  ·rw[eb]
   rw[Dn hb] at a4
   cases hp:(pur x).bind (f false) with
   |none=>rw[hp] at a4;cases a4
   |some p=>
    rw[hp] at a4
    simp only[Option.map_some,Option.some.injEq] at a4 ⊢
    have:=a5 p hp
    rw[Dn (by exact hb)]
    simp only[TS,←a4,this]
  ·rw[eb,Option.map_eq_some_iff] at hp
   obtain⟨q,hq,rfl⟩:=hp
   exact a5 q hq
theorem Oy{sg:List Sg}{x y:Gs}{f:Bool→Ps→PR}{k:Int}(hf:BL f)(h:Ag sg x (f false) (k,y)):y.bad=false→0≤k:=fun hb=>by have:=a6Y hf h hb;omega
theorem YS{sg:List Sg}{y:Gs}(hb:y.bad=false):blG sg y=(pkG sg y 0).blank:=by
 rw[blG,pkG]
 by_cases h:y.pos<sg.length
 ·rw[if_neg (by simp [hb];omega)];simp [h]
 ·rw[if_pos (.inr (by omega))];simp [h,ED]
theorem c2c{sg:List Sg}{x:Gs}{one:Bool→Ps→PR}(h:gsOk sg x)(hd:x.deep≤20):restP sg x (BN sg one) (pkX (Aq sg x [123]))
 (fun s1=>(CR sg one [125] (sg.length+1) [] s1).bind fun p=>(Bs sg [125] ⟨18,[],p.1,false⟩ p.2).map fun q=>(q.1,dp q.2 (-1))) 1:=by
 have t:=HV (m:=[123]) h
 have a:=b5Q (one:=one) h hd
 have t1:=t.1;have t2:=t.2.1
 by_cases h20:x.deep=20
 ·rw[if_pos h20] at a
  have e:pkX (Aq sg x [123])=gDp (Bw (Aq sg x [123])) 1:=by rw[pkX,if_pos (by omega)]
  have e2:Aq sg (gDp (Bw x) 1) [123]=gDp (Bw x) 1:=TF rfl
  rw[e2] at a
  rw[e]
  refine Yq a ⟨t1.1,by simp only[gDp,Bw];omega,t1.2.2⟩ (by simp only[gDp,Bw];omega) (by simp only[gDp,Bw];omega) rfl
 ·rw[if_neg h20] at a
  have e:pkX (Aq sg x [123])=gDp (Aq sg x [123]) 1:=by rw[pkX,if_neg (by omega)]
  rw[e]
  have e2:Aq sg (gDp x 1) [123]=gDp (Aq sg x [123]) 1:=by
   have:isG sg (gDp x 1) 4 [123]=isG sg x 4 [123]:=rfl
   cases hq:isG sg x 4 [123] with
   |true=>rw[JX hq,JX (by rw[this];exact hq)];rfl
   |false=>rw[QC hq,QC (by rw[this];exact hq)];rfl
  rw[e2] at a;exact a
theorem a6Z{g:Gs}{d:Int}{w:Nd}:Am (gDp g d) w=gDp (Am g w) d∧AU (gDp g d)=AU g:=by
 have hf:DP (gDp g d)=DP g:=rfl
 unfold Am AU
 rw[hf]
 cases DP g<;>exact⟨rfl,rfl⟩
theorem a7a{sg:List Sg}{one:Bool→Ps→PR}{x:Gs}{l:List Int×Gs}(h:gsOk sg x)(hd:x.deep≤20)(hl:BF sg (pkX (Aq sg x [123])) (CR sg one [125] (sg.length+1) []) l)(hll:l.1.length≤3001):
 Ag sg x (BN sg one) (AU (gDp (Aq sg l.2 [125]) (-1)),Am (gDp (Aq sg l.2 [125]) (-1)) ⟨18,[],l.1,false⟩):=by
 have k1:=BT (k:=fun ks s=>(Bs sg [125] ⟨18,[],ks,false⟩ s).map fun q=>(q.1,dp q.2 (-1))) (c2c h hd) hl (fun _ _=>rfl)
 have hw:Dm ⟨18,[],l.1,false⟩:=⟨by simp,by simp only;omega⟩
 have hc:=IL k1.1 hw (NY (m:=[125]) k1.1 hw)
 have k2:=BT (k:=fun k s=>some (k,dp s (-1))) k1 hc.1 (fun s _=>by cases Bs sg [125] ⟨18,[],l.1,false⟩ s<;>rfl)
 simp only at k2
 rw[(a6Z (w:=⟨18,[],l.1,false⟩)).1,(a6Z (w:=⟨18,[],l.1,false⟩)).2]
 refine⟨Hm (Mh (e:= -1) k2 ?_ (fun s hs=>rfl)),fun hb=> ?_⟩
 ·have:=k2.2.1;have:=h.2.1;omega
 ·have:=hc.2 hb
  have:=k1.2.2.1
  simp only[gDp] at*;omega
end Go.My
end
section
namespace Go.My
open Go.Eng Go.Proofs
variable {G:GInv}
def okQ(s:ST)(x:Gs):Prop:=okD s x∧sgM s.sg
theorem EJ{s:ST}{x:Gs}(h:okQ s x):okD s x:=h.1
theorem Oz{s:ST}{x:Gs}(h:okQ s x):sgM s.sg:=h.2
theorem Ka{sg:List Sg}{x:Gs}{m:List UInt8}(h:isG sg x 1 m=false):BD sg x m=x:=by simp [BD,h]
theorem Kb{sg:List Sg}{x:Gs}{m:List UInt8}(h:isG sg x 1 m=true):BD sg x m=An x:=by simp [BD,h]
theorem GN{s:ST}{x:Gs}{m:List UInt8}(h:okQ s x)(hq:isG s.sg x 1 m=true):okQ s (An x):=⟨a4O h.1 hq,h.2⟩
theorem YT{s:ST}{x:Gs}(h:okQ s x):rOk s (Bh s.sg x 1)∧rOk s (Aw s.sg (Bh s.sg x 1) [61]):=by
 have a:=Ig (k:=1) h.1.1 (by omega);exact⟨a,FT a⟩
theorem c2d{s:ST}{x:Gs}(h:okQ s x)(hq:isG s.sg (Bh s.sg x 1) 4 [61]=true):okQ s (Aw s.sg (Bh s.sg x 1) [61]):=by
 rw[IM.1] at hq ⊢
 exact⟨b6t h.1.1 h.1.2 hq,h.2⟩
theorem c2e{s:ST}{x:Gs}{z:Int×Gs}(h:okQ s x)(hq:isG s.sg (Bh s.sg x 1) 4 [61]=true)(hz:Ag s.sg (Aw s.sg (Bh s.sg x 1) [61]) (Cn s.sg) z):
 Ag s.sg x (DA s.sg false) (AU (Aq s.sg z.2 [59]),Am (Aq s.sg z.2 [59]) ⟨12,BC s.sg x 1,[z.1],false⟩):=by
 rw[IM.1] at hq hz;rw[IM.2]
 exact IL (Gi hz) (EY (JS h.1.1.1) (by simp)) (b6u h.1.1 hq hz)
theorem c2f{s:ST}{x:Gs}(h:okQ s x)(hq:isG s.sg (Bh s.sg x 1) 4 [61]=false):
 Ag s.sg x (DA s.sg false) (AU (Aq s.sg (Aw s.sg (Bh s.sg x 1) [61]) [59]),Am (Aq s.sg (Aw s.sg (Bh s.sg x 1) [61]) [59]) ⟨12,BC s.sg x 1,[],false⟩):=by
 rw[IM.1] at hq ⊢;rw[IM.2]
 exact IL (b6v h.1.1 hq).2 (EY (JS h.1.1.1) (by simp)) (b6w h.1.1 hq)
def mbS(sg:List Sg)(n:Nat)(x y:Gs)(ks:List Int)(N:Nat):Prop:=
 KL sg (stR sg n) [125] (pkX (Aq sg x [123])) y ks N∧y.deep=x.deep+1∧(y.bad=false→x.deep≠20)
theorem a7b{s:ST}{x:Gs}{n:Nat}(h:okQ s x):mbS s.sg n x (pkX (Aq s.sg x [123])) [] (s.sg.length+1):=by
 have t:=HV (m:=[123]) h.1.1.2
 obtain⟨p1,p2,p3⟩:= @Qf (Aq s.sg x [123])
 have t1:=t.1;have t2:=t.2.1;have hd:=h.1.2
 refine⟨a4C ⟨by simp only[pkX] at*;rw[p1];exact t1.1,by simp only[pkX] at*;rw[p2];have:=t1.2.1;omega,?_⟩,by simp only[pkX] at*;rw[p2];omega,fun hb=>by have:=(p3 hb).2;omega⟩
 have e:(pkX (Aq s.sg x [123])).nodes=(Aq s.sg x [123]).nodes:=by unfold pkX;split<;>rfl
 rw[e];exact t1.2.2
theorem c2g{s:ST}{x:Gs}{n:Nat}(h:okQ s x)(h20:(Aq s.sg x [123]).deep+1>20):mbS s.sg n x ⟨(Aq s.sg x [123]).pos,(Aq s.sg x [123]).deep+1,true,(Aq s.sg x [123]).nodes⟩ [] (s.sg.length+1):=by
 have a:=a7b (n:=n) h
 have t2:=(HV (m:=[123]) h.1.1.2).2.1;have hd:=h.1.2
 have e:pkX (Aq s.sg x [123])=⟨(Aq s.sg x [123]).pos,(Aq s.sg x [123]).deep+1,true,(Aq s.sg x [123]).nodes⟩:=by rw[pkX,if_pos (by omega)];rfl
 rw[←e];exact a
theorem c2h{s:ST}{x:Gs}{n:Nat}(h:okQ s x)(h20:¬(Aq s.sg x [123]).deep+1>20):mbS s.sg n x ⟨(Aq s.sg x [123]).pos,(Aq s.sg x [123]).deep+1,(Aq s.sg x [123]).bad,(Aq s.sg x [123]).nodes⟩ [] (s.sg.length+1):=by
 have a:=a7b (n:=n) h
 have e:pkX (Aq s.sg x [123])=⟨(Aq s.sg x [123]).pos,(Aq s.sg x [123]).deep+1,(Aq s.sg x [123]).bad,(Aq s.sg x [123]).nodes⟩:=by rw[pkX,if_neg (by omega)];rfl
 rw[←e];exact a
theorem c2i{s:ST}{x:Gs}(h:okQ s x):0≤(Aq s.sg x [123]).deep∧(Aq s.sg x [123]).deep≤20:=by
 have t:=HV (m:=[123]) h.1.1.2
 have:=t.1.2.1;have:=t.2.1;have:=h.1.2;omega
theorem TT{s:ST}{x y:Gs}{n:Nat}{ks:List Int}{N:Nat}(h:okQ s x)(hj:mbS s.sg n x y ks N):rOk s y:=⟨h.1.1.1,hj.1.1.1⟩
theorem YU{s:ST}{x y:Gs}{n:Nat}{ks:List Int}{N:Nat}(h:okQ s x)(h2:20-x.deep≤(n:Int))(hj:mbS s.sg n x y ks N)(hb:y.bad=false)(hq:isG s.sg y 4 [125]=false):okQ s (Aw s.sg y [125])∧(Aw s.sg y [125]).bad=false∧21-(Aw s.sg y [125]).deep≤(n:Int):=by
 rw[DI hq]
 have:=hj.2.1;have:=hj.2.2 hb;have:=h.1.2
 exact⟨⟨⟨TT h hj,by omega⟩,h.2⟩,hb,by omega⟩
theorem YV{s:ST}{x y:Gs}{n:Nat}{ks:List Int}{N:Nat}(h:okQ s x)(hj:mbS s.sg n x y ks N):ks.length≤3001:=by
 have:=hj.1.2.2.1;have:=hj.1.1.1.1;have:=h.1.1.1.1;omega
theorem TU{s:ST}{x y:Gs}{n:Nat}{ks:List Int}{N:Nat}{b:Bool}{z:Int×Gs}(hj:mbS s.sg n x y ks N)(hb:y.bad=false)(hq:isG s.sg y 4 [125]=false)(hz:Ag s.sg (Aw s.sg y [125]) (stR s.sg n false) z)(e:b=(blG s.sg (Aw s.sg y [125])&&decide (0<(ks.length:Int)))):
 mbS s.sg n x (gBl z.2 z.1 b) (ks++[z.1]) (N-1)∧N-1<N:=by
 rw[DI hq] at hz e
 rw[YS hb] at e
 have hz2:Ag s.sg y (stR s.sg n b) (z.1,gBl z.2 z.1 b):=YR YO hz
 subst e
 obtain⟨a,b⟩:=Oc (a4G hj.1 hb hq (z:=(z.1,gBl z.2 z.1 ((pkG s.sg y 0).blank&&decide (0<(ks.length:Int))))) (by
  have:decide (0<ks.length)=decide (0<(ks.length:Int)):=by simp
  rw[this];exact hz2))
 have:=(CX hz2).1
 exact⟨⟨a,by have:=hj.2.1;simp only at*;omega,fun hw=>hj.2.2 hb⟩,b⟩
theorem c2j{s:ST}{x y:Gs}{n:Nat}{ks:List Int}{N:Nat}(h:okQ s x)(hj:mbS s.sg n x y ks N)(hq:isG s.sg y 4 [125]=true):
 Ag s.sg x (BN s.sg (stR s.sg n)) (AU (gDp (Aw s.sg y [125]) (-1)),Am (gDp (Aw s.sg y [125]) (-1)) ⟨18,[],ks,false⟩):=by
 rw[EH hq,←JX hq]
 exact a7a (l:=(ks,y)) h.1.1.2 h.1.2 (a4F hj.1 hq) (YV h hj)
theorem c2k{s:ST}{x y:Gs}{n:Nat}{ks:List Int}{N:Nat}(h:okQ s x)(hj:mbS s.sg n x y ks N)(hb:y.bad=true):
 Ag s.sg x (BN s.sg (stR s.sg n)) (AU (gDp y (-1)),Am (gDp y (-1)) ⟨18,[],ks,false⟩):=by
 have a:=a7a (l:=(ks,y)) h.1.1.2 h.1.2 (a4D hj.1 hb) (YV h hj)
 simp only[TF hb] at a;exact a
theorem YW{s:ST}{x y:Gs}{n:Nat}{ks:List Int}{N:Nat}(h:okQ s x)(hj:mbS s.sg n x y ks N):(1≤y.deep∧y.deep≤21)∧rOk s (gDp y (-1))∧rOk s (gDp (Aw s.sg y [125]) (-1))∧(Aw s.sg y [125]).deep=y.deep:=by
 have h1:=hj.2.1;have h2:=h.1.1.2.2.1;have h3:=h.1.2
 have a:=TT h hj
 have b:=FT (m:=[125]) a
 have e:(Aw s.sg y [125]).deep=y.deep:=by unfold Aw;split<;>rfl
 refine⟨by omega,⟨a.1,a.2.1,by simp only[gDp];omega,a.2.2.2⟩,⟨b.1,b.2.1,by simp only[gDp];omega,b.2.2.2⟩,e⟩
theorem c2l{s:ST}{x:Gs}{n:Nat}(h:okQ s x)(hk:kdG s.sg x 5=true):Ag s.sg x (stR s.sg (n+1) false) (AU (Bh s.sg x 5),Am (Bh s.sg x 5) ⟨19,BC s.sg x 5,[],false⟩):=by
 have hn:=hk
 rw[QB (by omega)] at hn
 exact Ov h.1.1.1 h.1.1.2 (by omega) hk (b5W h.1.1.1 h.1.1.2 (by simpa using hn))
theorem Hv{sg:List Sg}{x:Gs}(h:kdG sg x 5=false):(pkG sg x 0).kind≠5:=JZ h (by omega)
theorem c2m{s:ST}{x:Gs}{n:Nat}{z:Int×Gs}(h:okQ s x)(hk:kdG s.sg x 5=false)(hq:isG s.sg x 1 [118,97,114]=true)(hz:Ag s.sg (An x) (DA s.sg false) z):Ag s.sg x (stR s.sg (n+1) false) z:=b5X h.1.1.2 (Hv hk) hq hz
theorem c2n{s:ST}{x:Gs}{n:Nat}(h:okQ s x)(hk:kdG s.sg x 5=false)(h1:isG s.sg x 1 [118,97,114]=false)(hq:isG s.sg x 1 [114,101,116,117,114,110]=true)(hs:isG s.sg (An x) 4 [59]=true):
 Ag s.sg x (stR s.sg (n+1) false) (AU (Aq s.sg (An x) [59]),Am (Aq s.sg (An x) [59]) ⟨15,[],[],false⟩):=by
 have o:=(GN h hq).1.1.2
 exact a4I h.1.1.2 (Hv hk) h1 hq (IL o (EY (by simp) (by simp)) (b5L o hs))
theorem c2o{s:ST}{x:Gs}{n:Nat}{z:Int×Gs}(h:okQ s x)(hk:kdG s.sg x 5=false)(h1:isG s.sg x 1 [118,97,114]=false)(hq:isG s.sg x 1 [114,101,116,117,114,110]=true)(hs:isG s.sg (An x) 4 [59]=false)(hz:Ag s.sg (An x) (Cn s.sg) z):
 Ag s.sg x (stR s.sg (n+1) false) (AU (Aq s.sg z.2 [59]),Am (Aq s.sg z.2 [59]) ⟨15,[],[z.1],false⟩):=by
 have o:=(GN h hq).1.1.2
 exact a4I h.1.1.2 (Hv hk) h1 hq (IL (Gi hz) (EY (by simp) (by simp)) (b5M o hs hz))
theorem c2p{s:ST}{x:Gs}{n:Nat}{c q:Int×Gs}(h:okQ s x)(hk:kdG s.sg x 5=false)(h1:isG s.sg x 1 [118,97,114]=false)(h2:isG s.sg x 1 [114,101,116,117,114,110]=false)(hq:isG s.sg x 1 [105,102]=true)
 (hc:BF s.sg (An x) (DH s.sg) c) (hb:Ag s.sg c.2 (BN s.sg (stR s.sg n)) q) (he:isG s.sg q.2 1 [101,108,115,101]=false):
 Ag s.sg x (stR s.sg (n+1) false) (AU (BD s.sg q.2 [101,108,115,101]),Am (BD s.sg q.2 [101,108,115,101]) ⟨16,[],[c.1,q.1],false⟩):=by
 rw[Ka he]
 exact a4J h.1.1.2 (Hv hk) h1 h2 hq (b5R (GN h hq).1.1.2 hc hb he)
theorem c2q{s:ST}{x:Gs}{n:Nat}{c q r:Int×Gs}(h:okQ s x)(hk:kdG s.sg x 5=false)(h1:isG s.sg x 1 [118,97,114]=false)(h2:isG s.sg x 1 [114,101,116,117,114,110]=false)(hq:isG s.sg x 1 [105,102]=true)
 (hc:BF s.sg (An x) (DH s.sg) c) (hb:Ag s.sg c.2 (BN s.sg (stR s.sg n)) q) (he:isG s.sg q.2 1 [101,108,115,101]=true) (hr:Ag s.sg (BD s.sg q.2 [101,108,115,101]) (BN s.sg (stR s.sg n)) r):
 Ag s.sg x (stR s.sg (n+1) false) (AU r.2,Am r.2 ⟨16,[],[c.1,q.1,r.1],false⟩):=by
 rw[Kb he] at hr
 exact a4J h.1.1.2 (Hv hk) h1 h2 hq (b5S (GN h hq).1.1.2 hc hb he hr)
theorem c2r{s:ST}{x:Gs}{n:Nat}{c q:Int×Gs}(h:okQ s x)(hk:kdG s.sg x 5=false)(h1:isG s.sg x 1 [118,97,114]=false)(h2:isG s.sg x 1 [114,101,116,117,114,110]=false)(h3:isG s.sg x 1 [105,102]=false)(hq:isG s.sg x 1 [119,104,105,108,101]=true)
 (hc:BF s.sg (An x) (DH s.sg) c) (hb:Ag s.sg c.2 (BN s.sg (stR s.sg n)) q):Ag s.sg x (stR s.sg (n+1) false) (AU q.2,Am q.2 ⟨17,[],[c.1,q.1],false⟩):=b6x h.1 (Hv hk) h1 h2 h3 hq hc hb
theorem c2s{sg:List Sg}{i k:Int}{e:Sg}(hk:e.kind=k)(he:sg[i.toNat]? =some e):(sgO sg i).kind=k:=by rw[JM he];exact hk
theorem c2t{sg:List Sg}{i k:Int}{e:Sg}(hk:e.kind≠k)(he:sg[i.toNat]? =some e):(sgO sg i).kind≠k:=by rw[JM he];exact hk
theorem c2u{sg:List Sg}{i:Int}{e:Sg}{m:List UInt8}(hk:e.text=m)(he:sg[i.toNat]? =some e):((sgO sg i).text==m)=true:=by rw[JM he];simpa using hk
theorem c2v{sg:List Sg}{i:Int}{e:Sg}{m:List UInt8}(hk:e.text≠m)(he:sg[i.toNat]? =some e):((sgO sg i).text==m)=false:=by rw[JM he];simpa using hk
theorem c2w{sg:List Sg}{x:Gs}(hk:kdG sg x 1=false):seG sg x=false:=by rw[Jp] at hk;simp [seG,hk]
theorem a7c{sg:List Sg}{x:Gs}{e:Sg}(hb:x.bad=false)(hl:x.pos+1<sg.length)(he:sgO sg (x.pos+1)=e):pkG sg x 1=e:=by
 rw[pkG,if_neg (by simp [hb];omega),he]
theorem c2x{sg:List Sg}{x:Gs}(hl:¬x.pos+1<sg.length):seG sg x=false:=by
 have:pkG sg x 1=ED:=by rw[pkG,if_pos (.inr (by omega))]
 simp [seG,this,ED]
theorem a7d{sg:List Sg}{x:Gs}(hb:x.bad=false)(hl:x.pos+1<sg.length)(hk:(sgO sg (x.pos+1)).kind≠4∨((sgO sg (x.pos+1)).text==[61])=false):seG sg x=false:=by
 rw[seG,a7c hb hl rfl]
 rcases hk with hk|hk<;>simp [hk]
theorem c2y{sg:List Sg}{x:Gs}(hb:x.bad=false)(hl:x.pos+1<sg.length)(h1:kdG sg x 1=true)(hk:(sgO sg (x.pos+1)).kind=4)(ht:((sgO sg (x.pos+1)).text==[61])=true):seG sg x=true:=by
 rw[Jp] at h1
 rw[seG,a7c hb hl rfl];simp [h1,hk,ht]
theorem c2z{s:ST}{x:Gs}{n:Nat}{z:Int×Gs}(h:okQ s x)(hk:kdG s.sg x 5=false)(h1:isG s.sg x 1 [118,97,114]=false)(h2:isG s.sg x 1 [114,101,116,117,114,110]=false)(h3:isG s.sg x 1 [105,102]=false)(h4:isG s.sg x 1 [119,104,105,108,101]=false)
 (he:seG s.sg x=true) (hz:Ag s.sg (Aq s.sg (Bh s.sg x 1) [61]) (Cn s.sg) z):Ag s.sg x (stR s.sg (n+1) false) (AU (Aq s.sg z.2 [59]),Am (Aq s.sg z.2 [59]) ⟨13,BC s.sg x 1,[z.1],false⟩):=by
 rw[IM.1] at hz;rw[IM.2]
 exact b5Z h.1.1.2 (Hv hk) h1 h2 h3 h4 he (IL (Gi hz) (EY (JS h.1.1.1) (by simp)) (b5U h.1.1.1 h.1.1.2 hz))
theorem TV{s:ST}{x:Gs}{n:Nat}{z:Int×Gs}(h:okQ s x)(hk:kdG s.sg x 5=false)(h1:isG s.sg x 1 [118,97,114]=false)(h2:isG s.sg x 1 [114,101,116,117,114,110]=false)(h3:isG s.sg x 1 [105,102]=false)(h4:isG s.sg x 1 [119,104,105,108,101]=false)
 (he:seG s.sg x=false) (hz:Ag s.sg x (Cn s.sg) z):Ag s.sg x (stR s.sg (n+1) false) (AU (Aq s.sg z.2 [59]),Am (Aq s.sg z.2 [59]) ⟨14,[],[z.1],false⟩):=
 b6a h.1.1.2 (Hv hk) h1 h2 h3 h4 he (IL (Gi hz) (EY (by simp) (by simp)) (b5V h.1.1.2 hz))
theorem a7e{s:ST}{x:Gs}(h:okQ s x):rOk s (Aq s.sg (Bh s.sg x 1) [61])∧okQ s (Aq s.sg (Bh s.sg x 1) [61]):=by
 have a:=Hp (m:=[61]) (Ig (k:=1) h.1.1 (by omega))
 have e:(Bh s.sg x 1).deep=x.deep:=by unfold Bh;split<;>rfl
 exact⟨a.1,⟨a.1,by have:=h.1.2;omega⟩,h.2⟩
theorem c2A{α:Type}{s:ST}{x:Gs}{f:Ps→Option (α×Ps)}{y:α×Gs}(h:okQ s x)(hy:BF s.sg x f y):okQ s y.2:=⟨a4M h.1 hy,h.2⟩
theorem OA{α:Type}{s:ST}{x:Gs}{f:Ps→Option (α×Ps)}{y:α×Gs}(h:okQ s x)(hy:Ag s.sg x f y):okQ s y.2:=⟨a4M h.1 hy.1,h.2⟩
theorem c2B{α:Type}{s:ST}{x:Gs}{n:Nat}{f:Ps→Option (α×Ps)}{y:α×Gs}(h:21-x.deep≤((n+1:Nat):Int))(hy:BF s.sg (An x) f y):20-y.2.deep≤(n:Int):=by
 have:=hy.2.1;simp only[An] at this;omega
theorem a7f{sg:List Sg}{x:Gs}{m:List UInt8}:(BD sg x m).deep=x.deep:=by unfold BD;split<;>rfl
theorem a7g{s:ST}{x:Gs}{m:List UInt8}(h:rOk s x):rOk s (BD s.sg x m):=by
 unfold BD;split
 ·rename_i hq;exact⟨h.1,GC h.2 (Dp hq (by omega)).2⟩
 ·exact h
theorem a7h{s:ST}{x:Gs}{m:List UInt8}(h:okQ s x):okQ s (BD s.sg x m):=⟨⟨a7g h.1.1,by rw[a7f];exact h.1.2⟩,h.2⟩
theorem c2C{α:Type}{s:ST}{x:Gs}{n:Nat}{m:List UInt8}{f:Ps→Option (α×Ps)}{y:α×Gs}(h:20-x.deep≤(n:Int))(hy:Ag s.sg x f y):20-(BD s.sg y.2 m).deep≤(n:Int):=by
 rw[a7f];exact b6z h hy
def MF(n:Nat):Sig:= {X:=ST×Int×Int×Bool×List Nd,args:=fun x=>[srd x.1 (xg x)],pre:=fun x=>(okQ x.1 (xg x)∧(xg x).bad=false)∧21-(xg x).deep≤n,Y:=Int×Int×Int×Bool×List Nd,post:=fun x y=>Ag x.1.sg (xg x) (stR x.1.sg n false) (yS y),res:=fun x y=> .int .i64 y.1,outs:=fun x y=>[srd x.1 (yG y.2)],keep:=true}
attribute [local irreducible] pE Bx Dg fnR Ag BF gsOk Aq CS Am Dq EE Aw Ec En AU CT pkG isG nmG kdG Bh BC BS vlQ BD gBl blG DA Ho DH Cn BN stR CR mbS seG okQ sgM
def srf(s:ST)(g:Gs):AV:= .pf [sgs s.sg,.int .i64 g.pos,.bool g.bad,.int .i64 g.deep,nds g.nodes]
theorem a7i{l:List Sg}{p d:Int}{b:Bool}{ns:List Nd}:AV.pf (fzL [AV.sl false 0 4 Sg sgA l,.int .i64 p,.bool b,.int .i64 d,AV.sl true 0 4 Nd (ndA true) ns])=AV.pf [AV.sl false 0 4 Sg sgA l,.int .i64 p,.bool b,.int .i64 d,AV.sl false 0 4 Nd (ndA false) ns]:=rfl
def Jr:Sig:= {X:=ST×Int×Int×Bool×List Nd×Int,args:=fun x=>[srf x.1 (xh x),.int .i64 x.2.2.2.2.2],pre:=fun x=>rOk x.1 (xh x)∧x.2.2.2.2.2≠0,Y:=Unit,post:=fun x y=>True,res:=fun x y=> .bool (kdG x.1.sg (xh x) x.2.2.2.2.2),outs:=fun x y=>[.top,.top],keep:=false}
theorem c2D:Aj G Tryz.prog 58 Jr:=
 vcFun_okP [(89,0,Gw)] [] false (fun x=>[]) Tryz.func58 rfl (by decide) ⟨Wk,trivial⟩ (fun(x:ST×Int×Int×Bool×List Nd×Int)=>(∀(y:Unit),True→True∧True∧True∧True)∧true=true∧true=true∧Aa (!(xh x).bad) (Aa (decide ((xh x).pos<(↑(List.length x.1.sg):Int))) (((0:Int)≤(xh x).pos∧(xh x).pos<(↑(List.length x.1.sg):Int))∧∀(e:Sg),x.1.sg[Int.toNat (xh x).pos]? =some e→Aa (e.kind==x.2.2.2.2.2) (Aa (x.2.2.2.2.2 != (1:Int)) (rA Jr x [.bool true,.top,.top]) (((0:Int)≤(xh x).pos∧(xh x).pos<(↑(List.length x.1.sg):Int))∧∀(e:Sg),x.1.sg[Int.toNat (xh x).pos]? =some e→∃(x_1:List UInt8),True∧e.text=x_1∧∃(y0:Unit),(∀(y:Unit),True→AV.bool (kw x_1)=AV.bool (kw x_1))∧true=true∧rA Jr x [.bool !kw x_1,.top,.top])) (rA Jr x [.bool false,.top,.top])) (rA Jr x [.bool false,.top,.top])) (rA Jr x [.bool false,.top,.top])) (fun x=>by kernel_rfl) fun(x:ST×Int×Int×Bool×List Nd×Int) (hx:rOk x.1 (xh x)∧x.2.2.2.2.2≠0)=>(by
 dsimp only[Bu,nds,rA,Jr,Db,sgs,srf,Au,Az]
 obtain⟨s,p,d,b,ns,k⟩:=x;dsimp only[xg,xh] at hx ⊢
 obtain⟨h1,h2⟩:=hx;have hs:=Hl h1;dsimp only at hs
 (repeat' first|(with_reducible first|rfl|exact True.intro|apply AK|apply And.intro|((first|apply AA|apply AI|apply AB|apply AJ)<;>intro _))|(apply Ax<;>intro _)|apply AH|refine Ae () ?_ ?_|((first|apply AO|apply AN|apply AM|apply AL|apply AG|apply AF|apply AE|apply AD|apply AC)<;>try dsimp only)|apply Ae|(refine Prod.forall.2 ?_;intro _;try dsimp only)|(intro _;try dsimp only))
 all_goals(try(repeat(rename s.sg[_]? =some _=>hq;revert hq;rename s.sg[_]? =some _=>hr;intro hq;rw[hr] at hq;cases hq)))
 all_goals first
  |rfl
  |exact(Ot h2 (.inl ‹_›)).symm
  |exact(Ot h2 (.inr (by simp only;omega))).symm
  |(rw[a6y ‹_› ‹_› (by simp only;omega)];simp [*];done)
  |((try simp only[AQ]);omega)
  |skip)
def Hw:Sig:= {X:=ST×Int×Int×Bool×List Nd,args:=fun x=>[srd x.1 (xg x)],pre:=fun x=>okQ x.1 (xg x),Y:=Int×Int×Int×Bool×List Nd,post:=fun x y=>Ag x.1.sg (xg x) (DA x.1.sg false) (yS y),res:=fun x y=> .int .i64 y.1,outs:=fun x y=>[srd x.1 (yG y.2)],keep:=true}
theorem YX:Aj G Tryz.prog 61 Hw:=
 vcFun_okP [(59,0,CH),(63,0,Ch),(91,0,Gl),(62,0,BQ),(36,0,Bt)] [(25,⟨Int,AZ⟩)] false (fun x=>[]) Tryz.func61 rfl (by decide) ⟨KY,Ic,YJ,IK,Ie,trivial⟩ (fun(x:ST×Int×Int×Bool×List Nd)=>True∧cA CH [srd x.1 (xg x),.int .i64 (1:Int)] fun x_1 y=>cA Ch [srd x_1.1 (Bh x_1.1.sg (xh x_1) x_1.2.2.2.2.2),.str #[(61:UInt8)].toList] fun x_2 y=>Aa (isG x_2.1.sg (xh x_2) (4:Int) x_2.2.2.2.2.2) (cA Gl [srd x_2.1 (Aw x_2.1.sg (xh x_2) x_2.2.2.2.2.2)] fun x_3 y=>∃(x_4:Int),y.1=x_4∧∃(zs:List Int),Ab [x_4]=Ab zs∧Bo AZ∧AY ((0:Nat)+List.length zs) (8:Nat)∧cA BQ [srd x_3.1 (yG y.2),.str #[(59:UInt8)].toList] fun x_5 y=>cA Bt [srd x_5.1 (Aq x_5.1.sg (xh x_5) x_5.2.2.2.2.2),.int .i64 (12:Int),.str (BC x_1.1.sg (xh x_1) x_1.2.2.2.2.2),Ab ([]++zs)] fun x_6 y=>rA Hw x [.int .i64 (AU (xh x_6)),srd x_6.1 (Am (xh x_6) {kind:=x_6.2.2.2.2.2.1,text:=x_6.2.2.2.2.2.2.1,kids:=x_6.2.2.2.2.2.2.2,blank:=false})]) (cA BQ [srd x_2.1 (Aw x_2.1.sg (xh x_2) x_2.2.2.2.2.2),.str #[(59:UInt8)].toList] fun x_3 y=>cA Bt [srd x_3.1 (Aq x_3.1.sg (xh x_3) x_3.2.2.2.2.2),.int .i64 (12:Int),.str (BC x_1.1.sg (xh x_1) x_1.2.2.2.2.2),Ab []] fun x_4 y=>rA Hw x [.int .i64 (AU (xh x_4)),srd x_4.1 (Am (xh x_4) {kind:=x_4.2.2.2.2.2.1,text:=x_4.2.2.2.2.2.2.1,kids:=x_4.2.2.2.2.2.2.2,blank:=false})])) (fun x=>by kernel_rfl) fun(x:ST×Int×Int×Bool×List Nd) (hx:okQ x.1 (xg x))=>(by
 dsimp only[cA,Bu,Ab,Ba,rA,Ch,Bt,CH,Gl,Hw,BQ,Db,sgs,srd,Au,Az,mvL,lnL,mvE,lnE]
 obtain⟨s,p,d,b,ns⟩:=x;dsimp only[xg,xh] at hx ⊢
 have hx:okQ s ⟨p,d,b,ns⟩:=hx
 have hD:=EJ hx;have hM:=Oz hx;have h1:=hD.1
 (repeat' first|(with_reducible first|rfl|exact True.intro|apply AK|apply And.intro|((first|apply AA|apply AI|apply AB|apply AJ)<;>intro _))|(apply Ax<;>intro _)|apply AH|refine Ae () ?_ ?_|((first|apply AO|apply AN|apply AM|apply AL|apply AG|apply AF|apply AE|apply AD|apply AC)<;>try dsimp only)|apply Ae|(refine Prod.forall.2 ?_;intro _;try dsimp only)|(intro _;try dsimp only))
 all_goals(try dsimp only[xg,xh,yG,yS,iG,iF] at*)
 all_goals(try simp only[GD] at*)
 all_goals first
  |rfl
  |exact h1
  |omega
  |exact(YT hx).1
  |exact(YT hx).2
  |exact EJ (c2d hx ‹_›)
  |exact hM
  |exact Fm h1 ‹_›
  |exact(Hp (Fm h1 ‹_›)).1
  |exact(Hp (YT hx).2).1
  |exact c2e hx ‹_› ‹_›
  |exact c2f hx ‹_›
  |(simp [AY];done)
  |skip)
def MG:Sig:= {X:=ST×Int×Int×Bool×List Nd,args:=fun x=>[srd x.1 (xg x)],pre:=fun x=>okQ x.1 (xg x),Y:=Int×Int×Int×Bool×List Nd,post:=fun x y=>BF x.1.sg (xg x) (DH x.1.sg) (yS y),res:=fun x y=> .int .i64 y.1,outs:=fun x y=>[srd x.1 (yG y.2)],keep:=true}
theorem c2E:Aj G Tryz.prog 111 MG:=
 vcFun_okP [(91,0,Gl),(62,0,BQ)] [] false (fun x=>[]) Tryz.func111 rfl (by decide) ⟨YJ,IK,trivial⟩ (fun(x:ST×Int×Int×Bool×List Nd)=>True∧cA BQ [srd x.1 (xg x),.str #[(40:UInt8)].toList] fun x_1 y=>cA Gl [srd x_1.1 (Aq x_1.1.sg (xh x_1) x_1.2.2.2.2.2)] fun x_2 y=>cA BQ [srd x_2.1 (yG y.2),.str #[(41:UInt8)].toList] fun x_3 y_1=>rA MG x [.int .i64 y.1,srd x_3.1 (Aq x_3.1.sg (xh x_3) x_3.2.2.2.2.2)]) (fun x=>by kernel_rfl) fun(x:ST×Int×Int×Bool×List Nd) (hx:okQ x.1 (xg x))=>(by
 dsimp only[cA,Bu,Ba,rA,MG,Gl,BQ,Db,sgs,srd,Au,Az,mvL,lnL,mvE,lnE]
 obtain⟨s,p,d,b,ns⟩:=x;dsimp only[xg,xh] at hx ⊢
 have hx:okQ s ⟨p,d,b,ns⟩:=hx
 have hD:=EJ hx;have hM:=Oz hx;have h1:=hD.1
 have t:=Hp (m:=[40]) h1;have hd:=hD.2;dsimp only at hd
 (repeat' first|(with_reducible first|rfl|exact True.intro|apply AK|apply And.intro|((first|apply AA|apply AI|apply AB|apply AJ)<;>intro _))|(apply Ax<;>intro _)|apply AH|refine Ae () ?_ ?_|((first|apply AO|apply AN|apply AM|apply AL|apply AG|apply AF|apply AE|apply AD|apply AC)<;>try dsimp only)|apply Ae|(refine Prod.forall.2 ?_;intro _;try dsimp only)|(intro _;try dsimp only))
 all_goals(try dsimp only[xg,xh,yG,yS,iG,iF] at*)
 all_goals(try simp only[GD] at*)
 all_goals first
  |rfl
  |exact h1
  |exact t.1
  |exact hM
  |exact⟨t.1,by rw[t.2];exact hd⟩
  |exact Fm h1 ‹_›
  |exact b5N h1.2 ‹_›
  |skip)
def Js(n:Nat):Sig:= {X:=ST×Int×Int×Bool×List Nd,args:=fun x=>[srd x.1 (xg x)],pre:=fun x=>okQ x.1 (xg x)∧20-(xg x).deep≤(n:Int),Y:=Int×Int×Int×Bool×List Nd,post:=fun x y=>Ag x.1.sg (xg x) (BN x.1.sg (stR x.1.sg n)) (yS y),res:=fun x y=> .int .i64 y.1,outs:=fun x y=>[srd x.1 (yG y.2)],keep:=true}
def OB(n:Nat)(x:ST×Int×Int×Bool×List Nd):LS:= {ι:=Int×Int×Bool×List Nd×List Int×Nat,inv:=fun i=>mbS x.1.sg n (xg x) (iG i) i.2.2.2.2.1 i.2.2.2.2.2,regs:=fun i=>[(0,srd x.1 (iG i)),(3,Ab i.2.2.2.2.1)],als:=[],meas:=fun i=>i.2.2.2.2.2}
def YY(n:Nat)(x:ST×Int×Int×Bool×List Nd)(i:Int×Int×Bool×List Nd×List Int×Nat):Prop:=cA Ch [srd x.1 (iG i),.str #[(125:UInt8)].toList] fun x_2 y=>Aa (!isG x_2.1.sg (xh x_2) (4:Int) x_2.2.2.2.2.2) (cA GK [srd x_2.1 (Aw x_2.1.sg (xh x_2) x_2.2.2.2.2.2)] fun x_3 y=>Aa (blG x_3.1.sg (xg x_3)) (cA (MF n) [srd x_3.1 (xg x_3)] fun x_4 y=>cA Fb [srd x_4.1 (yG y.2),.int .i64 y.1,.bool (decide ((↑(List.length i.2.2.2.2.1):Int)>(0:Int)))] fun x_5 y_1=>∃(x_6:Int),y.1=x_6∧∃(zs:List Int),Ab [x_6]=Ab zs∧Bo AZ∧AY (List.length i.2.2.2.2.1+List.length zs) (8:Nat)∧eN (OB n x) i [srd x_5.1 (gBl (xh x_5) x_5.2.2.2.2.2.1 x_5.2.2.2.2.2.2),Ab (i.2.2.2.2.1++zs)]) (cA (MF n) [srd x_3.1 (xg x_3)] fun x_4 y=>cA Fb [srd x_4.1 (yG y.2),.int .i64 y.1,.bool false] fun x_5 y_1=>∃(x_6:Int),y.1=x_6∧∃(zs:List Int),Ab [x_6]=Ab zs∧Bo AZ∧AY (List.length i.2.2.2.2.1+List.length zs) (8:Nat)∧eN (OB n x) i [srd x_5.1 (gBl (xh x_5) x_5.2.2.2.2.2.1 x_5.2.2.2.2.2.2),Ab (i.2.2.2.2.1++zs)])) (inR IntKind.i64 ((Aw x_2.1.sg (xh x_2) x_2.2.2.2.2.2).deep-(1:Int))∧cA Bt [.box 0 [sgs x_2.1.sg,.int .i64 (Aw x_2.1.sg (xh x_2) x_2.2.2.2.2.2).pos,.bool (Aw x_2.1.sg (xh x_2) x_2.2.2.2.2.2).bad,.int .i64 ((Aw x_2.1.sg (xh x_2) x_2.2.2.2.2.2).deep-(1:Int)),Ba (Aw x_2.1.sg (xh x_2) x_2.2.2.2.2.2).nodes],.int .i64 (18:Int),.str #[].toList,Ab i.2.2.2.2.1] fun x_3 y=>rA (Js n) x [.int .i64 (AU (xh x_3)),srd x_3.1 (Am (xh x_3) {kind:=x_3.2.2.2.2.2.1,text:=x_3.2.2.2.2.2.2.1,kids:=x_3.2.2.2.2.2.2.2,blank:=false})])
theorem a7j(n:Nat)(h:Aj G Go.Proofs.Tryz.prog 92 (MF n)):Aj G Tryz.prog 65 (Js n):=
 vcFun_okP [(62,0,BQ),(63,0,Ch),(33,0,GK),(92,0,(MF n)),(35,0,Fb),(36,0,Bt)] [(25,⟨Int,AZ⟩)] false (fun x=>[(6,OB n x)]) Tryz.func65 rfl (by decide) ⟨IK,Ic,TD,h,TE,Ie,trivial⟩ (fun(x:ST×Int×Int×Bool×List Nd)=>True∧cA BQ [srd x.1 (xg x),.str #[(123:UInt8)].toList] fun x_1 y=>inR IntKind.i64 ((Aq x_1.1.sg (xh x_1) x_1.2.2.2.2.2).deep+(1:Int))∧Aa (decide ((Aq x_1.1.sg (xh x_1) x_1.2.2.2.2.2).deep+(1:Int)>(20:Int))) (eA (OB n x) [.box 0 [sgs x_1.1.sg,.int .i64 (Aq x_1.1.sg (xh x_1) x_1.2.2.2.2.2).pos,.bool true,.int .i64 ((Aq x_1.1.sg (xh x_1) x_1.2.2.2.2.2).deep+(1:Int)),Ba (Aq x_1.1.sg (xh x_1) x_1.2.2.2.2.2).nodes],Ab []]∧∀(i:Int×Int×Bool×List Nd×List Int×Nat),mbS x.1.sg n (xg x) (iG i) i.2.2.2.2.1 i.2.2.2.2.2→Aa (!(iG i).bad) (YY n x i) (inR IntKind.i64 ((iG i).deep-(1:Int))∧cA Bt [.box 0 [sgs x.1.sg,.int .i64 (iG i).pos,.bool (iG i).bad,.int .i64 ((iG i).deep-(1:Int)),Ba (iG i).nodes],.int .i64 (18:Int),.str #[].toList,Ab i.2.2.2.2.1] fun x_2 y=>rA (Js n) x [.int .i64 (AU (xh x_2)),srd x_2.1 (Am (xh x_2) {kind:=x_2.2.2.2.2.2.1,text:=x_2.2.2.2.2.2.2.1,kids:=x_2.2.2.2.2.2.2.2,blank:=false})])) (eA (OB n x) [.box 0 [sgs x_1.1.sg,.int .i64 (Aq x_1.1.sg (xh x_1) x_1.2.2.2.2.2).pos,.bool (Aq x_1.1.sg (xh x_1) x_1.2.2.2.2.2).bad,.int .i64 ((Aq x_1.1.sg (xh x_1) x_1.2.2.2.2.2).deep+(1:Int)),Ba (Aq x_1.1.sg (xh x_1) x_1.2.2.2.2.2).nodes],Ab []]∧∀(i:Int×Int×Bool×List Nd×List Int×Nat),mbS x.1.sg n (xg x) (iG i) i.2.2.2.2.1 i.2.2.2.2.2→Aa (!(iG i).bad) (YY n x i) (inR IntKind.i64 ((iG i).deep-(1:Int))∧cA Bt [.box 0 [sgs x.1.sg,.int .i64 (iG i).pos,.bool (iG i).bad,.int .i64 ((iG i).deep-(1:Int)),Ba (iG i).nodes],.int .i64 (18:Int),.str #[].toList,Ab i.2.2.2.2.1] fun x_2 y=>rA (Js n) x [.int .i64 (AU (xh x_2)),srd x_2.1 (Am (xh x_2) {kind:=x_2.2.2.2.2.2.1,text:=x_2.2.2.2.2.2.2.1,kids:=x_2.2.2.2.2.2.2.2,blank:=false})]))) (fun x=>by kernel_rfl) fun(x:ST×Int×Int×Bool×List Nd) (hx:okQ x.1 (xg x)∧20-(xg x).deep≤(n:Int))=>(by
 dsimp only[YY,cA,eA,eN,OB,Bu,Ab,Ba,rA,GK,Fb,Js,Ch,Bt,MF,BQ,Db,sgs,srd,Au,Az,mvL,lnL,mvE,lnE,Br]
 obtain⟨s,p,d,b,ns⟩:=x;dsimp only[xg,xh] at hx ⊢
 obtain⟨hx,hn⟩:=hx
 have hx:okQ s ⟨p,d,b,ns⟩:=hx
 have hD:=EJ hx;have hM:=Oz hx;have h1:=hD.1
 have td:=c2i hx
 (repeat' first|(with_reducible first|rfl|exact True.intro|apply AK|apply And.intro|((first|apply AA|apply AI|apply AB|apply AJ)<;>intro _))|(apply Ax<;>intro _)|apply AH|refine Ae () ?_ ?_|((first|apply AO|apply AN|apply AM|apply AL|apply AG|apply AF|apply AE|apply AD|apply AC)<;>try dsimp only)|apply Ae|(refine Prod.forall.2 ?_;intro _;try dsimp only)|(intro _;try dsimp only))
 all_goals(try dsimp only[xg,xh,yG,yS,iG,iF] at*)
 all_goals(try simp only[GD] at*)
 all_goals first
  |(show Nat;skip)
  |rfl
  |exact h1
  |exact c2g hx ‹_›
  |exact c2h hx ‹_›
  |exact TT hx ‹_›
  |exact FT (TT hx ‹_›)
  |exact(YU hx hn ‹_› ‹_› ‹_›).1
  |exact(YU hx hn ‹_› ‹_› ‹_›).2.1
  |exact(YU hx hn ‹_› ‹_› ‹_›).2.2
  |exact Fm h1 ‹_›
  |exact Oy YO ‹_›
  |exact Oy YO ‹_› ‹_›
  |exact(TU ‹_› ‹_› ‹_› ‹_› (KM ‹_›)).1
  |exact(TU ‹_› ‹_› ‹_› ‹_› (KN ‹_›)).1
  |exact c2j hx ‹_› ‹_›
  |exact c2k hx ‹_› ‹_›
  |exact(YW hx ‹_›).2.1
  |exact(YW hx ‹_›).2.2.1
  |(simp [AY];done)
  |(have hq:=YV hx (show mbS _ _ _ _ _ _ by assumption);(try simp only[AY,List.length_append,List.length_cons,List.length_nil]);omega)
  |(have hq:=YW hx (show mbS _ _ _ _ _ _ by assumption);(try dsimp only at hq);(try simp only[AQ]);omega)
  |((try simp only[AQ]);omega)
  |skip
 all_goals first
  |exact(TU ‹_› ‹_› ‹_› ‹_› (KM ‹_›)).2
  |exact(TU ‹_› ‹_› ‹_› ‹_› (KN ‹_›)).2
  |skip)
def GP(n:Nat):Sig:= {X:=ST×Int×Int×Bool×List Nd,args:=fun x=>[srd x.1 (xg x)],pre:=fun x=>(okQ x.1 (xg x)∧(xg x).bad=false)∧21-(xg x).deep≤(n+1:Nat),Y:=Int×Int×Int×Bool×List Nd,post:=fun x y=>Ag x.1.sg (xg x) (stR x.1.sg (n+1) false) (yS y),res:=fun x y=> .int .i64 y.1,outs:=fun x y=>[srd x.1 (yG y.2)],keep:=true}
theorem c2F(n:Nat)(h:Aj G Go.Proofs.Tryz.prog 92 (MF n)):Aj G Tryz.prog 92 (GP n):=
 vcFun_okP [(58,0,Jr),(59,0,CH),(36,0,Bt),(60,0,Fa),(61,0,Hw),(90,0,Ee),(91,0,Gl),(62,0,BQ),(111,0,MG),(65,0,(Js n))] [(25,⟨Int,AZ⟩)] false (fun x=>[]) Tryz.func92 rfl (by decide) ⟨c2D,KY,Ie,Yp,YX,QA,YJ,IK,c2E,(a7j n h),trivial⟩ (fun(x:ST×Int×Int×Bool×List Nd)=>True∧cA Jr [srd x.1 (xg x),.int .i64 (5:Int)] fun x_1 y=>Aa (kdG x_1.1.sg (xh x_1) x_1.2.2.2.2.2) (cA CH [srd x.1 (xg x),.int .i64 (5:Int)] fun x_2 y=>cA Bt [srd x_2.1 (Bh x_2.1.sg (xh x_2) x_2.2.2.2.2.2),.int .i64 (19:Int),.str (BC x_2.1.sg (xh x_2) x_2.2.2.2.2.2),Ab []] fun x_3 y=>rA (GP n) x [.int .i64 (AU (xh x_3)),srd x_3.1 (Am (xh x_3) {kind:=x_3.2.2.2.2.2.1,text:=x_3.2.2.2.2.2.2.1,kids:=x_3.2.2.2.2.2.2.2,blank:=false})]) (cA Fa [srd x.1 (xg x),.str #[(118:UInt8),(97:UInt8),(114:UInt8)].toList] fun x_2 y=>Aa (isG x_2.1.sg (xh x_2) (1:Int) x_2.2.2.2.2.2) (cA Hw [srd x_2.1 (BD x_2.1.sg (xh x_2) x_2.2.2.2.2.2)] fun x_3 y=>rA (GP n) x [.int .i64 y.1,srd x_3.1 (yG y.2)]) (cA Fa [srd x_2.1 (BD x_2.1.sg (xh x_2) x_2.2.2.2.2.2),.str #[(114:UInt8),(101:UInt8),(116:UInt8),(117:UInt8),(114:UInt8),(110:UInt8)].toList] fun x_3 y=>Aa (isG x_3.1.sg (xh x_3) (1:Int) x_3.2.2.2.2.2) (cA Ee [srd x_3.1 (BD x_3.1.sg (xh x_3) x_3.2.2.2.2.2),.int .i64 (4:Int),.str #[(59:UInt8)].toList] fun x_4 y=>Aa (!isG x_4.1.sg (xh x_4) x_4.2.2.2.2.2.1 x_4.2.2.2.2.2.2) (cA Gl [srd x_4.1 (xh x_4)] fun x_5 y=>∃(x_6:Int),y.1=x_6∧∃(zs:List Int),Ab [x_6]=Ab zs∧Bo AZ∧AY ((0:Nat)+List.length zs) (8:Nat)∧cA BQ [srd x_5.1 (yG y.2),.str #[(59:UInt8)].toList] fun x_7 y=>cA Bt [srd x_7.1 (Aq x_7.1.sg (xh x_7) x_7.2.2.2.2.2),.int .i64 (15:Int),.str #[].toList,Ab ([]++zs)] fun x_8 y=>rA (GP n) x [.int .i64 (AU (xh x_8)),srd x_8.1 (Am (xh x_8) {kind:=x_8.2.2.2.2.2.1,text:=x_8.2.2.2.2.2.2.1,kids:=x_8.2.2.2.2.2.2.2,blank:=false})]) (cA BQ [srd x_4.1 (xh x_4),.str #[(59:UInt8)].toList] fun x_5 y=>cA Bt [srd x_5.1 (Aq x_5.1.sg (xh x_5) x_5.2.2.2.2.2),.int .i64 (15:Int),.str #[].toList,Ab []] fun x_6 y=>rA (GP n) x [.int .i64 (AU (xh x_6)),srd x_6.1 (Am (xh x_6) {kind:=x_6.2.2.2.2.2.1,text:=x_6.2.2.2.2.2.2.1,kids:=x_6.2.2.2.2.2.2.2,blank:=false})])) (cA Fa [srd x_3.1 (BD x_3.1.sg (xh x_3) x_3.2.2.2.2.2),.str #[(105:UInt8),(102:UInt8)].toList] fun x_4 y=>Aa (isG x_4.1.sg (xh x_4) (1:Int) x_4.2.2.2.2.2) (cA MG [srd x_4.1 (BD x_4.1.sg (xh x_4) x_4.2.2.2.2.2)] fun x_5 y=>∃(x_6:Int),y.1=x_6∧cA (Js n) [srd x_5.1 (yG y.2)] fun x_7 y=>∃(x_8:Int),y.1=x_8∧∃(zs:List Int),Ab [x_8]=Ab zs∧Bo AZ∧AY (List.length [x_6]+List.length zs) (8:Nat)∧cA Fa [srd x_7.1 (yG y.2),.str #[(101:UInt8),(108:UInt8),(115:UInt8),(101:UInt8)].toList] fun x_9 y=>Aa (isG x_9.1.sg (xh x_9) (1:Int) x_9.2.2.2.2.2) (cA (Js n) [srd x_9.1 (BD x_9.1.sg (xh x_9) x_9.2.2.2.2.2)] fun x_10 y=>∃(x_11:Int),y.1=x_11∧∃(Co:List Int),Ab [x_11]=Ab Co∧Bo AZ∧AY (List.length (x_6::List.append._f [] PUnit.unit zs)+List.length Co) (8:Nat)∧cA Bt [srd x_10.1 (yG y.2),.int .i64 (16:Int),.str #[].toList,Ab (x_6::List.append._f [] PUnit.unit zs++Co)] fun x_12 y=>rA (GP n) x [.int .i64 (AU (xh x_12)),srd x_12.1 (Am (xh x_12) {kind:=x_12.2.2.2.2.2.1,text:=x_12.2.2.2.2.2.2.1,kids:=x_12.2.2.2.2.2.2.2,blank:=false})]) (cA Bt [srd x_9.1 (BD x_9.1.sg (xh x_9) x_9.2.2.2.2.2),.int .i64 (16:Int),.str #[].toList,Ab ([x_6]++zs)] fun x_10 y=>rA (GP n) x [.int .i64 (AU (xh x_10)),srd x_10.1 (Am (xh x_10) {kind:=x_10.2.2.2.2.2.1,text:=x_10.2.2.2.2.2.2.1,kids:=x_10.2.2.2.2.2.2.2,blank:=false})])) (cA Fa [srd x_4.1 (BD x_4.1.sg (xh x_4) x_4.2.2.2.2.2),.str #[(119:UInt8),(104:UInt8),(105:UInt8),(108:UInt8),(101:UInt8)].toList] fun x_5 y=>Aa (isG x_5.1.sg (xh x_5) (1:Int) x_5.2.2.2.2.2) (cA MG [srd x_5.1 (BD x_5.1.sg (xh x_5) x_5.2.2.2.2.2)] fun x_6 y=>∃(x_7:Int),y.1=x_7∧cA (Js n) [srd x_6.1 (yG y.2)] fun x_8 y=>∃(x_9:Int),y.1=x_9∧∃(zs:List Int),Ab [x_9]=Ab zs∧Bo AZ∧AY (List.length [x_7]+List.length zs) (8:Nat)∧cA Bt [srd x_8.1 (yG y.2),.int .i64 (17:Int),.str #[].toList,Ab ([x_7]++zs)] fun x_10 y=>rA (GP n) x [.int .i64 (AU (xh x_10)),srd x_10.1 (Am (xh x_10) {kind:=x_10.2.2.2.2.2.1,text:=x_10.2.2.2.2.2.2.1,kids:=x_10.2.2.2.2.2.2.2,blank:=false})]) (true=true∧true=true∧∃(x_6:ST×Int×Int×Bool×List Nd×Int),(rOk x_6.1 (xh x_6)∧x_6.2.2.2.2.2≠(0:Int))∧AV.pf [AV.sl false 0 4 Sg (fun(x:Sg)=>fzL._f [.int .i64 x.kind,.str x.text,.int .i64 x.pos,.bool x.blank] ⟨AV.rec (fun(k:IntKind) (n:Int)=>⟨fz._f (AV.int k n) PUnit.unit,PUnit.unit⟩) (fun(b:Bool)=>⟨fz._f (.bool b) PUnit.unit,PUnit.unit⟩) (fun(l:List UInt8)=>⟨fz._f (.str l) PUnit.unit,PUnit.unit⟩) (fun(v:Value)=>⟨fz._f (.val v) PUnit.unit,PUnit.unit⟩) ⟨fz._f AV.any PUnit.unit,PUnit.unit⟩ ⟨fz._f .top PUnit.unit,PUnit.unit⟩ ⟨fz._f .nil PUnit.unit,PUnit.unit⟩ (fun(id:Nat)=>⟨fz._f (AV.hole id) PUnit.unit,PUnit.unit⟩) (fun(id:Nat)=>⟨fz._f (AV.al id) PUnit.unit,PUnit.unit⟩) (fun(id k sz off:Nat)=>⟨fz._f (AV.po id k sz off) PUnit.unit,PUnit.unit⟩) (fun(fs:List AV) (fs_ih:List AV×' AV.below_1 fs)=>⟨fz._f (.agg fs) fs_ih,fs_ih⟩) (fun(vs:List AV) (vs_ih:List AV×' AV.below_1 vs)=>⟨fz._f (.tup vs) vs_ih,vs_ih⟩) (fun(id:Nat) (c:List AV) (c_ih:List AV×' AV.below_1 c)=>⟨fz._f (.box id c) c_ih,c_ih⟩) (fun(x:Value) (c:List AV) (c_ih:List AV×' AV.below_1 c)=>⟨fz._f (AV.bv x c) c_ih,c_ih⟩) (fun(x:Value)=>⟨fz._f (AV.hv x) PUnit.unit,PUnit.unit⟩) (fun(c:List AV) (c_ih:List AV×' AV.below_1 c)=>⟨fz._f (AV.pf c) c_ih,c_ih⟩) (fun(fn:Fn) (caps:List AV) (caps_ih:List AV×' AV.below_1 caps)=>⟨fz._f (AV.clo fn caps) caps_ih,caps_ih⟩) (fun(own:Bool) (id sz:Nat) (α:Type) (f:α→List AV) (xs:List α) (f_ih:(a:α)→List AV×' AV.below_1 (f a))=>⟨fz._f (AV.sl own id sz α f xs) f_ih,f_ih⟩) ⟨fzL._f [] PUnit.unit,PUnit.unit⟩ (fun(head:AV) (tail:List AV) (head_ih:AV×' AV.below head) (tail_ih:List AV×' AV.below_1 tail)=>⟨fzL._f (head::tail) ⟨head_ih,tail_ih⟩,head_ih,tail_ih⟩) (.int .i64 x.kind),AV.rec_1 (fun(k:IntKind) (n:Int)=>⟨fz._f (AV.int k n) PUnit.unit,PUnit.unit⟩) (fun(b:Bool)=>⟨fz._f (.bool b) PUnit.unit,PUnit.unit⟩) (fun(l:List UInt8)=>⟨fz._f (.str l) PUnit.unit,PUnit.unit⟩) (fun(v:Value)=>⟨fz._f (.val v) PUnit.unit,PUnit.unit⟩) ⟨fz._f AV.any PUnit.unit,PUnit.unit⟩ ⟨fz._f .top PUnit.unit,PUnit.unit⟩ ⟨fz._f .nil PUnit.unit,PUnit.unit⟩ (fun(id:Nat)=>⟨fz._f (AV.hole id) PUnit.unit,PUnit.unit⟩) (fun(id:Nat)=>⟨fz._f (AV.al id) PUnit.unit,PUnit.unit⟩) (fun(id k sz off:Nat)=>⟨fz._f (AV.po id k sz off) PUnit.unit,PUnit.unit⟩) (fun(fs:List AV) (fs_ih:List AV×' AV.below_1 fs)=>⟨fz._f (.agg fs) fs_ih,fs_ih⟩) (fun(vs:List AV) (vs_ih:List AV×' AV.below_1 vs)=>⟨fz._f (.tup vs) vs_ih,vs_ih⟩) (fun(id:Nat) (c:List AV) (c_ih:List AV×' AV.below_1 c)=>⟨fz._f (.box id c) c_ih,c_ih⟩) (fun(x:Value) (c:List AV) (c_ih:List AV×' AV.below_1 c)=>⟨fz._f (AV.bv x c) c_ih,c_ih⟩) (fun(x:Value)=>⟨fz._f (AV.hv x) PUnit.unit,PUnit.unit⟩) (fun(c:List AV) (c_ih:List AV×' AV.below_1 c)=>⟨fz._f (AV.pf c) c_ih,c_ih⟩) (fun(fn:Fn) (caps:List AV) (caps_ih:List AV×' AV.below_1 caps)=>⟨fz._f (AV.clo fn caps) caps_ih,caps_ih⟩) (fun(own:Bool) (id sz:Nat) (α:Type) (f:α→List AV) (xs:List α) (f_ih:(a:α)→List AV×' AV.below_1 (f a))=>⟨fz._f (AV.sl own id sz α f xs) f_ih,f_ih⟩) ⟨fzL._f [] PUnit.unit,PUnit.unit⟩ (fun(head:AV) (tail:List AV) (head_ih:AV×' AV.below head) (tail_ih:List AV×' AV.below_1 tail)=>⟨fzL._f (head::tail) ⟨head_ih,tail_ih⟩,head_ih,tail_ih⟩) [.str x.text,.int .i64 x.pos,.bool x.blank]⟩) x_5.1.sg,.int .i64 (BD x_5.1.sg (xh x_5) x_5.2.2.2.2.2).pos,.bool (BD x_5.1.sg (xh x_5) x_5.2.2.2.2.2).bad,.int .i64 (BD x_5.1.sg (xh x_5) x_5.2.2.2.2.2).deep,AV.sl false 0 4 Nd (fun(x:Nd)=>fzL._f [.int .i64 x.kind,.str x.text,Ab x.kids,.bool x.blank] ⟨AV.rec (fun(k:IntKind) (n:Int)=>⟨fz._f (AV.int k n) PUnit.unit,PUnit.unit⟩) (fun(b:Bool)=>⟨fz._f (.bool b) PUnit.unit,PUnit.unit⟩) (fun(l:List UInt8)=>⟨fz._f (.str l) PUnit.unit,PUnit.unit⟩) (fun(v:Value)=>⟨fz._f (.val v) PUnit.unit,PUnit.unit⟩) ⟨fz._f AV.any PUnit.unit,PUnit.unit⟩ ⟨fz._f .top PUnit.unit,PUnit.unit⟩ ⟨fz._f .nil PUnit.unit,PUnit.unit⟩ (fun(id:Nat)=>⟨fz._f (AV.hole id) PUnit.unit,PUnit.unit⟩) (fun(id:Nat)=>⟨fz._f (AV.al id) PUnit.unit,PUnit.unit⟩) (fun(id k sz off:Nat)=>⟨fz._f (AV.po id k sz off) PUnit.unit,PUnit.unit⟩) (fun(fs:List AV) (fs_ih:List AV×' AV.below_1 fs)=>⟨fz._f (.agg fs) fs_ih,fs_ih⟩) (fun(vs:List AV) (vs_ih:List AV×' AV.below_1 vs)=>⟨fz._f (.tup vs) vs_ih,vs_ih⟩) (fun(id:Nat) (c:List AV) (c_ih:List AV×' AV.below_1 c)=>⟨fz._f (.box id c) c_ih,c_ih⟩) (fun(x:Value) (c:List AV) (c_ih:List AV×' AV.below_1 c)=>⟨fz._f (AV.bv x c) c_ih,c_ih⟩) (fun(x:Value)=>⟨fz._f (AV.hv x) PUnit.unit,PUnit.unit⟩) (fun(c:List AV) (c_ih:List AV×' AV.below_1 c)=>⟨fz._f (AV.pf c) c_ih,c_ih⟩) (fun(fn:Fn) (caps:List AV) (caps_ih:List AV×' AV.below_1 caps)=>⟨fz._f (AV.clo fn caps) caps_ih,caps_ih⟩) (fun(own:Bool) (id sz:Nat) (α:Type) (f:α→List AV) (xs:List α) (f_ih:(a:α)→List AV×' AV.below_1 (f a))=>⟨fz._f (AV.sl own id sz α f xs) f_ih,f_ih⟩) ⟨fzL._f [] PUnit.unit,PUnit.unit⟩ (fun(head:AV) (tail:List AV) (head_ih:AV×' AV.below head) (tail_ih:List AV×' AV.below_1 tail)=>⟨fzL._f (head::tail) ⟨head_ih,tail_ih⟩,head_ih,tail_ih⟩) (.int .i64 x.kind),AV.rec_1 (fun(k:IntKind) (n:Int)=>⟨fz._f (AV.int k n) PUnit.unit,PUnit.unit⟩) (fun(b:Bool)=>⟨fz._f (.bool b) PUnit.unit,PUnit.unit⟩) (fun(l:List UInt8)=>⟨fz._f (.str l) PUnit.unit,PUnit.unit⟩) (fun(v:Value)=>⟨fz._f (.val v) PUnit.unit,PUnit.unit⟩) ⟨fz._f AV.any PUnit.unit,PUnit.unit⟩ ⟨fz._f .top PUnit.unit,PUnit.unit⟩ ⟨fz._f .nil PUnit.unit,PUnit.unit⟩ (fun(id:Nat)=>⟨fz._f (AV.hole id) PUnit.unit,PUnit.unit⟩) (fun(id:Nat)=>⟨fz._f (AV.al id) PUnit.unit,PUnit.unit⟩) (fun(id k sz off:Nat)=>⟨fz._f (AV.po id k sz off) PUnit.unit,PUnit.unit⟩) (fun(fs:List AV) (fs_ih:List AV×' AV.below_1 fs)=>⟨fz._f (.agg fs) fs_ih,fs_ih⟩) (fun(vs:List AV) (vs_ih:List AV×' AV.below_1 vs)=>⟨fz._f (.tup vs) vs_ih,vs_ih⟩) (fun(id:Nat) (c:List AV) (c_ih:List AV×' AV.below_1 c)=>⟨fz._f (.box id c) c_ih,c_ih⟩) (fun(x:Value) (c:List AV) (c_ih:List AV×' AV.below_1 c)=>⟨fz._f (AV.bv x c) c_ih,c_ih⟩) (fun(x:Value)=>⟨fz._f (AV.hv x) PUnit.unit,PUnit.unit⟩) (fun(c:List AV) (c_ih:List AV×' AV.below_1 c)=>⟨fz._f (AV.pf c) c_ih,c_ih⟩) (fun(fn:Fn) (caps:List AV) (caps_ih:List AV×' AV.below_1 caps)=>⟨fz._f (AV.clo fn caps) caps_ih,caps_ih⟩) (fun(own:Bool) (id sz:Nat) (α:Type) (f:α→List AV) (xs:List α) (f_ih:(a:α)→List AV×' AV.below_1 (f a))=>⟨fz._f (AV.sl own id sz α f xs) f_ih,f_ih⟩) ⟨fzL._f [] PUnit.unit,PUnit.unit⟩ (fun(head:AV) (tail:List AV) (head_ih:AV×' AV.below head) (tail_ih:List AV×' AV.below_1 tail)=>⟨fzL._f (head::tail) ⟨head_ih,tail_ih⟩,head_ih,tail_ih⟩) [.str x.text,Ab x.kids,.bool x.blank]⟩) (BD x_5.1.sg (xh x_5) x_5.2.2.2.2.2).nodes]=AV.pf [sgs x_6.1.sg,.int .i64 (xh x_6).pos,.bool (xh x_6).bad,.int .i64 (xh x_6).deep,nds (xh x_6).nodes]∧(1:Int)=x_6.2.2.2.2.2∧∃(y0:Unit),(∀(y:Unit),True→AV.bool (kdG x_6.1.sg (xh x_6) x_6.2.2.2.2.2)=AV.bool (kdG x_6.1.sg (xh x_6) x_6.2.2.2.2.2))∧true=true∧Aa (kdG x_6.1.sg (xh x_6) x_6.2.2.2.2.2) (inR IntKind.i64 ((BD x_5.1.sg (xh x_5) x_5.2.2.2.2.2).pos+(1:Int))∧Aa (decide ((BD x_5.1.sg (xh x_5) x_5.2.2.2.2.2).pos+(1:Int)<(↑(List.length x_5.1.sg):Int))) (inR IntKind.i64 ((BD x_5.1.sg (xh x_5) x_5.2.2.2.2.2).pos+(1:Int))∧((0:Int)≤(BD x_5.1.sg (xh x_5) x_5.2.2.2.2.2).pos+(1:Int)∧(BD x_5.1.sg (xh x_5) x_5.2.2.2.2.2).pos+(1:Int)<(↑(List.length x_5.1.sg):Int))∧∀(e:Sg),x_5.1.sg[Int.toNat ((BD x_5.1.sg (xh x_5) x_5.2.2.2.2.2).pos+(1:Int))]? =some e→Aa (e.kind==(4:Int)) (inR IntKind.i64 ((BD x_5.1.sg (xh x_5) x_5.2.2.2.2.2).pos+(1:Int))∧((0:Int)≤(BD x_5.1.sg (xh x_5) x_5.2.2.2.2.2).pos+(1:Int)∧(BD x_5.1.sg (xh x_5) x_5.2.2.2.2.2).pos+(1:Int)<(↑(List.length x_5.1.sg):Int))∧∀(e:Sg),x_5.1.sg[Int.toNat ((BD x_5.1.sg (xh x_5) x_5.2.2.2.2.2).pos+(1:Int))]? =some e→Aa (e.text== #[(61:UInt8)].toList) (cA CH [srd x_5.1 (BD x_5.1.sg (xh x_5) x_5.2.2.2.2.2),.int .i64 (1:Int)] fun x_7 y=>cA BQ [srd x_7.1 (Bh x_7.1.sg (xh x_7) x_7.2.2.2.2.2),.str #[(61:UInt8)].toList] fun x_8 y=>cA Gl [srd x_8.1 (Aq x_8.1.sg (xh x_8) x_8.2.2.2.2.2)] fun x_9 y=>cA BQ [srd x_9.1 (yG y.2),.str #[(59:UInt8)].toList] fun x_10 y_1=>∃(x_11:Int),y.1=x_11∧cA Bt [srd x_10.1 (Aq x_10.1.sg (xh x_10) x_10.2.2.2.2.2),.int .i64 (13:Int),.str (BC x_7.1.sg (xh x_7) x_7.2.2.2.2.2),Ab [x_11]] fun x_12 y=>rA (GP n) x [.int .i64 (AU (xh x_12)),srd x_12.1 (Am (xh x_12) {kind:=x_12.2.2.2.2.2.1,text:=x_12.2.2.2.2.2.2.1,kids:=x_12.2.2.2.2.2.2.2,blank:=false})]) (cA Gl [srd x_5.1 (BD x_5.1.sg (xh x_5) x_5.2.2.2.2.2)] fun x_7 y=>cA BQ [srd x_7.1 (yG y.2),.str #[(59:UInt8)].toList] fun x_8 y_1=>∃(x_9:Int),y.1=x_9∧cA Bt [srd x_8.1 (Aq x_8.1.sg (xh x_8) x_8.2.2.2.2.2),.int .i64 (14:Int),.str #[].toList,Ab [x_9]] fun x_10 y=>rA (GP n) x [.int .i64 (AU (xh x_10)),srd x_10.1 (Am (xh x_10) {kind:=x_10.2.2.2.2.2.1,text:=x_10.2.2.2.2.2.2.1,kids:=x_10.2.2.2.2.2.2.2,blank:=false})])) (cA Gl [srd x_5.1 (BD x_5.1.sg (xh x_5) x_5.2.2.2.2.2)] fun x_7 y=>cA BQ [srd x_7.1 (yG y.2),.str #[(59:UInt8)].toList] fun x_8 y_1=>∃(x_9:Int),y.1=x_9∧cA Bt [srd x_8.1 (Aq x_8.1.sg (xh x_8) x_8.2.2.2.2.2),.int .i64 (14:Int),.str #[].toList,Ab [x_9]] fun x_10 y=>rA (GP n) x [.int .i64 (AU (xh x_10)),srd x_10.1 (Am (xh x_10) {kind:=x_10.2.2.2.2.2.1,text:=x_10.2.2.2.2.2.2.1,kids:=x_10.2.2.2.2.2.2.2,blank:=false})])) (cA Gl [srd x_5.1 (BD x_5.1.sg (xh x_5) x_5.2.2.2.2.2)] fun x_7 y=>cA BQ [srd x_7.1 (yG y.2),.str #[(59:UInt8)].toList] fun x_8 y_1=>∃(x_9:Int),y.1=x_9∧cA Bt [srd x_8.1 (Aq x_8.1.sg (xh x_8) x_8.2.2.2.2.2),.int .i64 (14:Int),.str #[].toList,Ab [x_9]] fun x_10 y=>rA (GP n) x [.int .i64 (AU (xh x_10)),srd x_10.1 (Am (xh x_10) {kind:=x_10.2.2.2.2.2.1,text:=x_10.2.2.2.2.2.2.1,kids:=x_10.2.2.2.2.2.2.2,blank:=false})])) (cA Gl [srd x_5.1 (BD x_5.1.sg (xh x_5) x_5.2.2.2.2.2)] fun x_7 y=>cA BQ [srd x_7.1 (yG y.2),.str #[(59:UInt8)].toList] fun x_8 y_1=>∃(x_9:Int),y.1=x_9∧cA Bt [srd x_8.1 (Aq x_8.1.sg (xh x_8) x_8.2.2.2.2.2),.int .i64 (14:Int),.str #[].toList,Ab [x_9]] fun x_10 y=>rA (GP n) x [.int .i64 (AU (xh x_10)),srd x_10.1 (Am (xh x_10) {kind:=x_10.2.2.2.2.2.1,text:=x_10.2.2.2.2.2.2.1,kids:=x_10.2.2.2.2.2.2.2,blank:=false})]))))))) (fun x=>by kernel_rfl) fun(x:ST×Int×Int×Bool×List Nd) (hx:(okQ x.1 (xg x)∧(xg x).bad=false)∧21-(xg x).deep≤(n+1:Nat))=>(by
 dsimp only[cA,Bu,nds,Ab,Ba,rA,Js,MG,Ee,Jr,Bt,GP,CH,Gl,Hw,BQ,Fa,Db,sgs,srd,srf,Au,Az,mvL,lnL,mvE,lnE]
 obtain⟨s,p,d,b,ns⟩:=x;dsimp only[xg,xh] at hx ⊢
 obtain⟨⟨hx,hb⟩,hd⟩:=hx
 have hx:okQ s ⟨p,d,b,ns⟩:=hx
 have hD:=EJ hx;have hM:=Oz hx;have h1:=hD.1
 (repeat' first|(show AV.pf _=AV.pf _;first|exact a7i|(with_unfolding_all exact a7i)|(with_unfolding_all rfl))|(with_reducible first|rfl|exact True.intro|apply AK|apply And.intro|((first|apply AA|apply AI|apply AB|apply AJ)<;>intro _))|(apply Ax<;>intro _)|apply AH|refine Ae () ?_ ?_|((first|apply AO|apply AN|apply AM|apply AL|apply AG|apply AF|apply AE|apply AD|apply AC)<;>try dsimp only)|apply Ae|(refine Prod.forall.2 ?_;intro _;try dsimp only)|(intro _;try dsimp only))
 all_goals(try dsimp only[xg,xh,yG,yS,iG,iF] at*)
 all_goals(try simp only[GD] at*)
 all_goals(try(have e:=Ka (show isG s.sg ⟨p,d,b,ns⟩ 1 [118,97,114]=false by assumption);simp only[e] at*))
 all_goals(try(have e:=Kb (show isG s.sg ⟨p,d,b,ns⟩ 1 [118,97,114]=true by assumption);simp only[e] at*))
 all_goals(try(have e:=Ka (show isG s.sg ⟨p,d,b,ns⟩ 1 [114,101,116,117,114,110]=false by assumption);simp only[e] at*))
 all_goals(try(have e:=Kb (show isG s.sg ⟨p,d,b,ns⟩ 1 [114,101,116,117,114,110]=true by assumption);simp only[e] at*))
 all_goals(try(have e:=Ka (show isG s.sg ⟨p,d,b,ns⟩ 1 [105,102]=false by assumption);simp only[e] at*))
 all_goals(try(have e:=Kb (show isG s.sg ⟨p,d,b,ns⟩ 1 [105,102]=true by assumption);simp only[e] at*))
 all_goals(try(have e:=Ka (show isG s.sg ⟨p,d,b,ns⟩ 1 [119,104,105,108,101]=false by assumption);simp only[e] at*))
 all_goals(try(have e:=Kb (show isG s.sg ⟨p,d,b,ns⟩ 1 [119,104,105,108,101]=true by assumption);simp only[e] at*))
 all_goals first
  |rfl
  |exact h1
  |exact hM
  |omega
  |(simp;done)
  |exact c2l hx ‹_›
  |exact Ig h1 (by omega)
  |exact GN hx ‹_›
  |exact EJ (GN hx ‹_›)
  |exact(EJ (GN hx ‹_›)).1
  |exact c2m hx ‹_› ‹_› ‹_›
  |exact c2o hx ‹_› ‹_› ‹_› ‹_› ‹_›
  |exact c2n hx ‹_› ‹_› ‹_› ‹_›
  |exact Fm h1 ‹_›
  |exact(Hp (Fm h1 ‹_›)).1
  |exact(Hp (EJ (GN hx ‹_›)).1).1
  |exact c2z hx ‹_› ‹_› ‹_› ‹_› ‹_› (c2y (x:=⟨p,d,b,ns⟩) hb ‹_› ‹_› (c2s ‹_› ‹_›) (c2u ‹_› ‹_›)) ‹_›
  |exact TV hx ‹_› ‹_› ‹_› ‹_› ‹_› (c2w ‹_›) ‹_›
  |exact TV hx ‹_› ‹_› ‹_› ‹_› ‹_› (c2x (x:=⟨p,d,b,ns⟩) ‹_›) ‹_›
  |exact TV hx ‹_› ‹_› ‹_› ‹_› ‹_› (a7d (x:=⟨p,d,b,ns⟩) hb ‹_› (.inl (c2t ‹_› ‹_›))) ‹_›
  |exact TV hx ‹_› ‹_› ‹_› ‹_› ‹_› (a7d (x:=⟨p,d,b,ns⟩) hb ‹_› (.inr (c2v ‹_› ‹_›))) ‹_›
  |(have hq:=Hl h1;dsimp only at hq;(try simp only[AQ]);omega)
  |exact(a7e hx).1
  |exact EJ (a7e hx).2
  |exact hD
  |(simp [AY];done)
  |exact(show AY 2 8 by simp [AY])
  |exact(show AY 3 8 by simp [AY])
  |skip
 all_goals(try(have hc:=(show BF s.sg (An ⟨p,d,b,ns⟩) (DH s.sg) _ by assumption);have k0:=GN hx (show isG s.sg ⟨p,d,b,ns⟩ 1 _=true by assumption);have k1:=c2A k0 hc;have k2:=c2B (n:=n) (x:=⟨p,d,b,ns⟩) hd hc))
 all_goals first
  |exact k1
  |exact k2
  |exact(EJ (OA k1 ‹_›)).1
  |exact a7g (EJ (OA k1 ‹_›)).1
  |exact GN (OA k1 ‹_›) ‹_›
  |exact a7h (OA k1 ‹_›)
  |(have hh:=c2C (m:=[101,108,115,101]) k2 (show Ag s.sg _ (BN s.sg _) _ by assumption);exact hh)
  |exact Fm h1 ‹_›
  |exact c2p hx ‹_› ‹_› ‹_› ‹_› ‹_› ‹_› ‹_›
  |exact c2q hx ‹_› ‹_› ‹_› ‹_› ‹_› ‹_› ‹_› ‹_›
  |exact c2r hx ‹_› ‹_› ‹_› ‹_› ‹_› ‹_› ‹_›
  |exact(EJ (OA (a7h (OA k1 ‹_›)) ‹_›)).1
  |exact h1
  |skip)
end Go.My
end
section
namespace Go.My
open Go.Eng Go.Proofs
variable {G:GInv}
theorem c2G(n:Nat):Aj G Go.Proofs.Tryz.prog 92 (MF n):=by
 induction n with
 |zero=>exact Mk Tryz.func92 rfl (by decide) (fun x h=>by have h1:=h.1.1.1.2;have h2:=h.2;omega)
 |succ n ih=>exact c2F n ih
def MH:Sig:= {X:=ST×Int×Int×Bool×List Nd,args:=fun x=>[srd x.1 (xg x)],pre:=fun x=>okQ x.1 (xg x),Y:=Int×Int×Int×Bool×List Nd,post:=fun x y=>Ag x.1.sg (xg x) (FO x.1.sg) (yS y),res:=fun x y=> .int .i64 y.1,outs:=fun x y=>[srd x.1 (yG y.2)],keep:=true}
theorem a7k{s:ST}{g:Gs}(h:okQ s g):okQ s g∧20-g.deep≤(stN:Int):=by
 have h1:=h.1.1.2.2.1.1
 exact⟨h,by unfold stN;omega⟩
theorem a7l:Aj G Go.Proofs.Tryz.prog 65 MH:=
 have c:=a7j (G:=G) stN (c2G stN)
 ⟨⟨c.1.1,fun x y hx hy=>c.1.2 x y (a7k hx) hy⟩,fun x hx=>c.2 x (a7k hx)⟩
theorem a7m{s:ST}{x:Gs}{v:List Int×Gs}(h:okQ s x)(hv:vlQ s.sg (BS s.sg) [41] [] (Aq s.sg (Bh s.sg x 1) [40]) v):okQ s v.2:=by
 have a:=Hp (m:=[40]) (Ig (k:=1) h.1.1 (by omega))
 have e:(Bh s.sg x 1).deep=x.deep:=by unfold Bh;split<;>rfl
 obtain⟨b1,b2,b3,b4⟩:=Yx h.1.1.1 hv
 exact⟨⟨b1,by have:=h.1.2;omega⟩,h.2⟩
theorem a7n{s:ST}{x:Gs}{v:List Int×Gs}{q:Int×Gs}(h:okQ s x)(hv:vlQ s.sg (BS s.sg) [41] [] (Aq s.sg (Bh s.sg x 1) [40]) v)(hq:Ag s.sg v.2 (FO s.sg) q):
 Ag s.sg x (EV s.sg false) (AU q.2,Am q.2 ⟨20,BC s.sg x 1,v.1++[q.1],false⟩):=by
 rw[IM.1] at hv;rw[IM.2]
 obtain⟨l,⟨a,b⟩,rfl⟩:=hv
 exact b6b (l:=l) h.1.1.1 h.1.1.2 a b hq
def clS(sg:List Sg)(x y:Gs)(ks:List Int)(N:Nat):Prop:=KL sg (Dl sg) [125] (Aq sg (Bh sg (An x) 1) [123]) y ks N∧y.deep=x.deep
theorem a7o{s:ST}{x:Gs}(h:okQ s (An x)):clS s.sg x (Aq s.sg (Bh s.sg (An x) 1) [123]) [] (s.sg.length+1):=by
 have a:=Ig (k:=1) h.1.1 (by omega)
 refine⟨a4C (Hp a).1.2,?_⟩
 rw[(Hp a).2];unfold Bh;split<;>rfl
theorem c2H{s:ST}{x:Gs}(h:okQ s x)(h1:isG s.sg x 1 [118,97,114]=false)(h2:isG s.sg (BD s.sg x [118,97,114]) 1 [99,108,97,115,115]=true):
 clS s.sg x (Aq s.sg (Bh s.sg (BD s.sg (BD s.sg x [118,97,114]) [99,108,97,115,115]) 1) [123]) [] (s.sg.length+1):=by
 rw[Ka h1] at h2 ⊢
 rw[Kb h2];exact a7o (GN h h2)
theorem c2I{s:ST}{x:Gs}(h:okQ s (An x)):rOk s (Bh s.sg (An x) 1)∧rOk s (Aq s.sg (Bh s.sg (An x) 1) [123]):=
 have a:=Ig (k:=1) h.1.1 (by omega)
 ⟨a,(Hp a).1⟩
theorem YZ{s:ST}{x y:Gs}{ks:List Int}{N:Nat}(h:okQ s (An x))(hj:clS s.sg x y ks N):okQ s y:=⟨⟨⟨h.1.1.1,hj.1.1.1⟩,by have:=hj.2;have:=h.1.2;simp only[An] at*;omega⟩,h.2⟩
theorem a7p{s:ST}{x y:Gs}{ks:List Int}{N:Nat}(h:okQ s (An x))(hj:clS s.sg x y ks N)(hb:y.bad=false)(hq:isG s.sg y 4 [125]=false):okQ s (Aw s.sg y [125])∧(Aw s.sg y [125]).bad=false:=by
 rw[DI hq];exact⟨YZ h hj,hb⟩
theorem Za{s:ST}{x y:Gs}{ks:List Int}{N:Nat}(h:okQ s (An x))(hj:clS s.sg x y ks N):ks.length≤3001:=by
 have:=hj.1.2.2.1;have:=hj.1.1.1.1;have:=h.1.1.1.1;omega
theorem La{s:ST}{x y:Gs}{ks:List Int}{N:Nat}{b:Bool}{z:Int×Gs}(hj:clS s.sg x y ks N)(hb:y.bad=false)(hq:isG s.sg y 4 [125]=false)(hz:Ag s.sg (Aw s.sg y [125]) (Dl s.sg false) z)(e:b=(blG s.sg (Aw s.sg y [125])&&decide (0<(ks.length:Int)))):
 clS s.sg x (gBl z.2 z.1 b) (ks++[z.1]) (N-1)∧N-1<N:=by
 rw[DI hq] at hz e
 rw[YS hb] at e
 have hz2:Ag s.sg y (Dl s.sg b) (z.1,gBl z.2 z.1 b):=YR YP hz
 subst e
 obtain⟨a,b⟩:=Oc (a4G hj.1 hb hq (z:=(z.1,gBl z.2 z.1 ((pkG s.sg y 0).blank&&decide (0<(ks.length:Int))))) (by
  have:decide (0<ks.length)=decide (0<(ks.length:Int)):=by simp
  rw[this];exact hz2))
 have:=(CX hz2).1
 exact⟨⟨a,by have:=hj.2;simp only at*;omega⟩,b⟩
theorem a7q{s:ST}{x:Gs}{l:List Int×Gs}(h:okQ s (An x))(hl:BF s.sg (Aq s.sg (Bh s.sg (An x) 1) [123]) (CR s.sg (Dl s.sg) [125] (s.sg.length+1) []) l)(hll:l.1.length≤3001):
 Ag s.sg (An x) (Hk s.sg false) (AU (Aq s.sg l.2 [125]),Am (Aq s.sg l.2 [125]) ⟨21,BC s.sg (An x) 1,l.1,false⟩):=by
 rw[IM.1] at hl;rw[IM.2]
 exact IL hl.1 (EY (JS h.1.1.1) (by omega)) (b6c h.1.1.1 h.1.1.2 hl hll)
theorem c2J{s:ST}{x y:Gs}{ks:List Int}{N:Nat}(h:okQ s (An x))(hj:clS s.sg x y ks N)(hq:isG s.sg y 4 [125]=true):
 Ag s.sg (An x) (Hk s.sg false) (AU (Aw s.sg y [125]),Am (Aw s.sg y [125]) ⟨21,BC s.sg (An x) 1,ks,false⟩):=by
 rw[EH hq,←JX hq];exact a7q (l:=(ks,y)) h (a4F hj.1 hq) (Za h hj)
theorem c2K{s:ST}{x y:Gs}{ks:List Int}{N:Nat}(h:okQ s (An x))(hj:clS s.sg x y ks N)(hb:y.bad=true):
 Ag s.sg (An x) (Hk s.sg false) (AU y,Am y ⟨21,BC s.sg (An x) 1,ks,false⟩):=by
 have a:=a7q (l:=(ks,y)) h (a4D hj.1 hb) (Za h hj)
 simp only[TF hb] at a;exact a
theorem c2L{s:ST}{x:Gs}(h:okQ s x)(hk:kdG s.sg x 5=true):Ag s.sg x (Dl s.sg false) (AU (Bh s.sg x 5),Am (Bh s.sg x 5) ⟨19,BC s.sg x 5,[],false⟩):=by
 have hn:=hk
 rw[QB (by omega)] at hn
 exact Ov h.1.1.1 h.1.1.2 (by omega) hk (b6d h.1.1.1 h.1.1.2 (by simpa using hn))
theorem c2M{s:ST}{x:Gs}(h:okQ s x)(hk:kdG s.sg x 5=true):Ag s.sg x (CW s.sg false) (AU (Bh s.sg x 5),Am (Bh s.sg x 5) ⟨19,BC s.sg x 5,[],false⟩):=by
 have hn:=hk
 rw[QB (by omega)] at hn
 exact Ov h.1.1.1 h.1.1.2 (by omega) hk (b6g h.1.1.1 h.1.1.2 (by simpa using hn))
theorem c2N{s:ST}{x:Gs}{z:Int×Gs}(h:okQ s x)(hk:kdG s.sg x 5=false)(hq:isG s.sg x 1 [118,97,114]=true)(hz:Ag s.sg (An x) (DA s.sg false) z):Ag s.sg x (Dl s.sg false) z:=b6e h.1.1.2 (Hv hk) hq hz
theorem c2O{s:ST}{x:Gs}{z:Int×Gs}(h:okQ s x)(hk:kdG s.sg x 5=false)(hq:isG s.sg x 1 [118,97,114]=true)(hz:Ag s.sg (An x) (DA s.sg false) z):Ag s.sg x (CW s.sg false) z:=b6h h.1.1.2 (Hv hk) hq hz
theorem c2P{s:ST}{x:Gs}{z:Int×Gs}(h:okQ s x)(hk:kdG s.sg x 5=false)(hq:isG s.sg x 1 [118,97,114]=false)(hz:Ag s.sg x (EV s.sg false) z):Ag s.sg x (Dl s.sg false) z:=b6f h.1.1.2 (Hv hk) hq hz
theorem c2Q{s:ST}{x:Gs}{z:Int×Gs}(h:okQ s x)(hk:kdG s.sg x 5=false)(h1:isG s.sg x 1 [118,97,114]=false)(hq:isG s.sg x 1 [99,108,97,115,115]=false)(hz:Ag s.sg x (EV s.sg false) z):Ag s.sg x (CW s.sg false) z:=b6j h.1.1.2 (Hv hk) h1 hq hz
theorem a7r{s:ST}{x:Gs}{z:Int×Gs}(h:okQ s x)(hk:kdG s.sg x 5=false)(h1:isG s.sg x 1 [118,97,114]=false)(hq:isG s.sg x 1 [99,108,97,115,115]=true)(hz:Ag s.sg (An x) (Hk s.sg false) z):Ag s.sg x (CW s.sg false) z:=b6i h.1.1.2 (Hv hk) h1 hq hz
def a7s:Sig:= {X:=ST×Int×Int×Bool×List Nd,args:=fun x=>[srd x.1 (xg x),.bool false],pre:=fun x=>False,Y:=Int×Int×Int×Bool×List Nd,post:=fun x y=>True,res:=fun x y=> .int .i64 y.1,outs:=fun x y=>[srd x.1 (yG y.2),.top],keep:=true}
theorem c2R:Aj G Go.Proofs.Tryz.prog 34 a7s:=Mk Tryz.func34 rfl (by decide) (fun x h=>h)
attribute [local irreducible] pE Bx Dg fnR Ag BF gsOk Aq CS Am Dq EE Aw Ec En AU CT pkG isG nmG kdG Bh BC BS vlQ BD gBl blG DA Ho DH Cn BN stR CR okQ sgM clS Dl CW EV Hk FO
def Kc:Sig:= {X:=ST×Int×Int×Bool×List Nd,args:=fun x=>[srd x.1 (xg x),.bool false],pre:=fun x=>okQ x.1 (xg x)∧(xg x).bad=false,Y:=Int×Int×Int×Bool×List Nd,post:=fun x y=>Ag x.1.sg (xg x) (Dl x.1.sg false) (yS y),res:=fun x y=> .int .i64 y.1,outs:=fun x y=>[srd x.1 (yG y.2),.top],keep:=true}
def c2S(x:ST×Int×Int×Bool×List Nd):LS:= {ι:=Int×Int×Bool×List Nd×List Int×Nat,inv:=fun i=>False,regs:=fun i=>[(0,srd x.1 (iG i)),(5,.str (BC x.1.sg (An (xg x)) 1)),(6,Ab i.2.2.2.2.1)],als:=[],meas:=fun i=>i.2.2.2.2.2}
theorem c2T:Aj G Tryz.prog 34 Kc:=
 vcFun_okP [(58,0,Ef),(59,0,CH),(36,0,Bt),(60,0,Fa),(61,0,Hw),(62,0,BQ),(63,0,Ch),(33,0,GK),(34,0,a7s),(35,0,Fb),(64,0,GM),(65,0,MH)] [(25,⟨Int,AZ⟩)] false (fun x=>[(9,c2S x)]) Tryz.func34 rfl (by decide) ⟨TC,KY,Ie,Yp,YX,IK,Ic,TD,c2R,TE,YC,a7l,trivial⟩ (fun(x:ST×Int×Int×Bool×List Nd)=>True∧cA Ef [srd x.1 (xg x),.int .i64 (5:Int)] fun x_1 y=>Aa (kdG x_1.1.sg (xh x_1) x_1.2.2.2.2.2) (cA CH [srd x_1.1 (xh x_1),.int .i64 (5:Int)] fun x_2 y=>cA Bt [srd x_2.1 (Bh x_2.1.sg (xh x_2) x_2.2.2.2.2.2),.int .i64 (19:Int),.str (BC x_2.1.sg (xh x_2) x_2.2.2.2.2.2),Ab []] fun x_3 y=>rA Kc x [.int .i64 (AU (xh x_3)),srd x_3.1 (Am (xh x_3) {kind:=x_3.2.2.2.2.2.1,text:=x_3.2.2.2.2.2.2.1,kids:=x_3.2.2.2.2.2.2.2,blank:=false}),.top]) (cA Fa [srd x_1.1 (xh x_1),.str #[(118:UInt8),(97:UInt8),(114:UInt8)].toList] fun x_2 y=>Aa (isG x_2.1.sg (xh x_2) (1:Int) x_2.2.2.2.2.2) (cA Hw [srd x_2.1 (BD x_2.1.sg (xh x_2) x_2.2.2.2.2.2)] fun x_3 y=>rA Kc x [.int .i64 y.1,srd x_3.1 (yG y.2),.top]) (cA CH [srd x_2.1 (BD x_2.1.sg (xh x_2) x_2.2.2.2.2.2),.int .i64 (1:Int)] fun x_3 y=>cA GM [srd x_3.1 (Bh x_3.1.sg (xh x_3) x_3.2.2.2.2.2)] fun x_4 y=>cA MH [srd x_4.1 (yG y.2)] fun x_5 y_1=>∃(x_6:Int),y_1.1=x_6∧∃(zs:List Int),Ab [x_6]=Ab zs∧Bo AZ∧AY (List.length y.1+List.length zs) (8:Nat)∧cA Bt [srd x_5.1 (yG y_1.2),.int .i64 (20:Int),.str (BC x_3.1.sg (xh x_3) x_3.2.2.2.2.2),Ab (y.1++zs)] fun x_7 y=>rA Kc x [.int .i64 (AU (xh x_7)),srd x_7.1 (Am (xh x_7) {kind:=x_7.2.2.2.2.2.1,text:=x_7.2.2.2.2.2.2.1,kids:=x_7.2.2.2.2.2.2.2,blank:=false}),.top]))) (fun x=>by kernel_rfl) fun(x:ST×Int×Int×Bool×List Nd) (hx:okQ x.1 (xg x)∧(xg x).bad=false)=>(by
 dsimp only[cA,Bu,Ab,Ba,rA,MH,Ef,Kc,GM,Bt,CH,Hw,Fa,Db,sgs,srd,Au,Az,mvL,lnL,mvE,lnE]
 obtain⟨s,p,d,b,ns⟩:=x;dsimp only[xg,xh] at hx ⊢
 obtain⟨hx,hb⟩:=hx
 have hx:okQ s ⟨p,d,b,ns⟩:=hx
 have hD:=EJ hx;have hM:=Oz hx;have h1:=hD.1;have hs:=h1.1
 (repeat' first|(with_reducible first|rfl|exact True.intro|apply AK|apply And.intro|((first|apply AA|apply AI|apply AB|apply AJ)<;>intro _))|(apply Ax<;>intro _)|apply AH|refine Ae () ?_ ?_|((first|apply AO|apply AN|apply AM|apply AL|apply AG|apply AF|apply AE|apply AD|apply AC)<;>try dsimp only)|apply Ae|(refine Prod.forall.2 ?_;intro _;try dsimp only)|(intro _;try dsimp only))
 all_goals(try dsimp only[xg,xh,yG,yS,iG,iF] at*)
 all_goals(try simp only[GD] at*)
 all_goals(try(have e:=Ka (show isG s.sg ⟨p,d,b,ns⟩ 1 [118,97,114]=false by assumption);simp only[e] at*))
 all_goals(try(have e:=Kb (show isG s.sg ⟨p,d,b,ns⟩ 1 [118,97,114]=true by assumption);simp only[e] at*))
 all_goals first
  |rfl
  |exact h1
  |omega
  |contradiction
  |exact c2L hx ‹_›
  |exact Ig h1 (by omega)
  |exact GN hx ‹_›
  |exact c2N hx ‹_› ‹_› ‹_›
  |exact a7m hx ‹_›
  |exact Fm h1 ‹_›
  |exact c2P hx ‹_› ‹_› (a7n hx ‹_› ‹_›)
  |(have hq:=YF hs (show vlQ _ _ _ [] _ _ by assumption);(try simp only[AY,List.length_append,List.length_cons,List.length_nil] at*);omega)
  |skip)
def IR:Sig:= {X:=ST×Int×Int×Bool×List Nd,args:=fun x=>[srd x.1 (xg x),.bool true],pre:=fun x=>okQ x.1 (xg x)∧(xg x).bad=false,Y:=Int×Int×Int×Bool×List Nd,post:=fun x y=>Ag x.1.sg (xg x) (CW x.1.sg false) (yS y),res:=fun x y=> .int .i64 y.1,outs:=fun x y=>[srd x.1 (yG y.2),.top],keep:=true}
def QF(x:ST×Int×Int×Bool×List Nd):LS:= {ι:=Int×Int×Bool×List Nd×List Int×Nat,inv:=fun i=>clS x.1.sg (xg x) (iG i) i.2.2.2.2.1 i.2.2.2.2.2,regs:=fun i=>[(0,srd x.1 (iG i)),(5,.str (BC x.1.sg (An (xg x)) 1)),(6,Ab i.2.2.2.2.1)],als:=[],meas:=fun i=>i.2.2.2.2.2}
theorem c2U:Aj G Tryz.prog 34 IR:=
 vcFun_okP [(58,0,Ef),(59,0,CH),(36,0,Bt),(60,0,Fa),(61,0,Hw),(62,0,BQ),(63,0,Ch),(33,0,GK),(34,0,Kc),(35,0,Fb),(64,0,GM),(65,0,MH)] [(25,⟨Int,AZ⟩)] false (fun x=>[(9,QF x)]) Tryz.func34 rfl (by decide) ⟨TC,KY,Ie,Yp,YX,IK,Ic,TD,c2T,TE,YC,a7l,trivial⟩ (fun(x:ST×Int×Int×Bool×List Nd)=>True∧cA Ef [srd x.1 (xg x),.int .i64 (5:Int)] fun x_1 y=>Aa (kdG x_1.1.sg (xh x_1) x_1.2.2.2.2.2) (cA CH [srd x_1.1 (xh x_1),.int .i64 (5:Int)] fun x_2 y=>cA Bt [srd x_2.1 (Bh x_2.1.sg (xh x_2) x_2.2.2.2.2.2),.int .i64 (19:Int),.str (BC x_2.1.sg (xh x_2) x_2.2.2.2.2.2),Ab []] fun x_3 y=>rA IR x [.int .i64 (AU (xh x_3)),srd x_3.1 (Am (xh x_3) {kind:=x_3.2.2.2.2.2.1,text:=x_3.2.2.2.2.2.2.1,kids:=x_3.2.2.2.2.2.2.2,blank:=false}),.top]) (cA Fa [srd x_1.1 (xh x_1),.str #[(118:UInt8),(97:UInt8),(114:UInt8)].toList] fun x_2 y=>Aa (isG x_2.1.sg (xh x_2) (1:Int) x_2.2.2.2.2.2) (cA Hw [srd x_2.1 (BD x_2.1.sg (xh x_2) x_2.2.2.2.2.2)] fun x_3 y=>rA IR x [.int .i64 y.1,srd x_3.1 (yG y.2),.top]) (cA Fa [srd x_2.1 (BD x_2.1.sg (xh x_2) x_2.2.2.2.2.2),.str #[(99:UInt8),(108:UInt8),(97:UInt8),(115:UInt8),(115:UInt8)].toList] fun x_3 y=>Aa (isG x_3.1.sg (xh x_3) (1:Int) x_3.2.2.2.2.2) (cA CH [srd x_3.1 (BD x_3.1.sg (xh x_3) x_3.2.2.2.2.2),.int .i64 (1:Int)] fun x_4 y=>cA BQ [srd x_4.1 (Bh x_4.1.sg (xh x_4) x_4.2.2.2.2.2),.str #[(123:UInt8)].toList] fun x_5 y=>eA (QF x) [srd x_5.1 (Aq x_5.1.sg (xh x_5) x_5.2.2.2.2.2),.str (BC x_4.1.sg (xh x_4) x_4.2.2.2.2.2),Ab []]∧∀(i:Int×Int×Bool×List Nd×List Int×Nat),clS x.1.sg (xg x) (iG i) i.2.2.2.2.1 i.2.2.2.2.2→Aa (!(iG i).bad) (cA Ch [srd x.1 (iG i),.str #[(125:UInt8)].toList] fun x_6 y=>Aa (!isG x_6.1.sg (xh x_6) (4:Int) x_6.2.2.2.2.2) (cA GK [srd x_6.1 (Aw x_6.1.sg (xh x_6) x_6.2.2.2.2.2)] fun x_7 y=>Aa (blG x_7.1.sg (xg x_7)) (cA Kc [srd x_7.1 (xg x_7),.bool false] fun x_8 y=>cA Fb [srd x_8.1 (yG y.2),.int .i64 y.1,.bool (decide ((↑(List.length i.2.2.2.2.1):Int)>(0:Int)))] fun x_9 y_1=>∃(x_10:Int),y.1=x_10∧∃(zs:List Int),Ab [x_10]=Ab zs∧Bo AZ∧AY (List.length i.2.2.2.2.1+List.length zs) (8:Nat)∧eN (QF x) i [srd x_9.1 (gBl (xh x_9) x_9.2.2.2.2.2.1 x_9.2.2.2.2.2.2),.str (BC x.1.sg (An (xg x)) (1:Int)),Ab (i.2.2.2.2.1++zs)]) (cA Kc [srd x_7.1 (xg x_7),.bool false] fun x_8 y=>cA Fb [srd x_8.1 (yG y.2),.int .i64 y.1,.bool false] fun x_9 y_1=>∃(x_10:Int),y.1=x_10∧∃(zs:List Int),Ab [x_10]=Ab zs∧Bo AZ∧AY (List.length i.2.2.2.2.1+List.length zs) (8:Nat)∧eN (QF x) i [srd x_9.1 (gBl (xh x_9) x_9.2.2.2.2.2.1 x_9.2.2.2.2.2.2),.str (BC x.1.sg (An (xg x)) (1:Int)),Ab (i.2.2.2.2.1++zs)])) (cA Bt [srd x_6.1 (Aw x_6.1.sg (xh x_6) x_6.2.2.2.2.2),.int .i64 (21:Int),.str (BC x.1.sg (An (xg x)) (1:Int)),Ab i.2.2.2.2.1] fun x_7 y=>rA IR x [.int .i64 (AU (xh x_7)),srd x_7.1 (Am (xh x_7) {kind:=x_7.2.2.2.2.2.1,text:=x_7.2.2.2.2.2.2.1,kids:=x_7.2.2.2.2.2.2.2,blank:=false}),.top])) (cA Bt [srd x.1 (iG i),.int .i64 (21:Int),.str (BC x.1.sg (An (xg x)) (1:Int)),Ab i.2.2.2.2.1] fun x_6 y=>rA IR x [.int .i64 (AU (xh x_6)),srd x_6.1 (Am (xh x_6) {kind:=x_6.2.2.2.2.2.1,text:=x_6.2.2.2.2.2.2.1,kids:=x_6.2.2.2.2.2.2.2,blank:=false}),.top])) (cA CH [srd x_3.1 (BD x_3.1.sg (xh x_3) x_3.2.2.2.2.2),.int .i64 (1:Int)] fun x_4 y=>cA GM [srd x_4.1 (Bh x_4.1.sg (xh x_4) x_4.2.2.2.2.2)] fun x_5 y=>cA MH [srd x_5.1 (yG y.2)] fun x_6 y_1=>∃(x_7:Int),y_1.1=x_7∧∃(zs:List Int),Ab [x_7]=Ab zs∧Bo AZ∧AY (List.length y.1+List.length zs) (8:Nat)∧cA Bt [srd x_6.1 (yG y_1.2),.int .i64 (20:Int),.str (BC x_4.1.sg (xh x_4) x_4.2.2.2.2.2),Ab (y.1++zs)] fun x_8 y=>rA IR x [.int .i64 (AU (xh x_8)),srd x_8.1 (Am (xh x_8) {kind:=x_8.2.2.2.2.2.1,text:=x_8.2.2.2.2.2.2.1,kids:=x_8.2.2.2.2.2.2.2,blank:=false}),.top])))) (fun x=>by kernel_rfl) fun(x:ST×Int×Int×Bool×List Nd) (hx:okQ x.1 (xg x)∧(xg x).bad=false)=>(by
 dsimp only[cA,eA,eN,QF,Bu,Ab,Ba,rA,MH,GK,Fb,Ef,Ch,IR,Kc,GM,Bt,CH,Hw,BQ,Fa,Db,sgs,srd,Au,Az,mvL,lnL,mvE,lnE,Br]
 obtain⟨s,p,d,b,ns⟩:=x;dsimp only[xg,xh] at hx ⊢
 obtain⟨hx,hb⟩:=hx
 have hx:okQ s ⟨p,d,b,ns⟩:=hx
 have hD:=EJ hx;have hM:=Oz hx;have h1:=hD.1;have hs:=h1.1
 (repeat' first|(with_reducible first|rfl|exact True.intro|apply AK|apply And.intro|((first|apply AA|apply AI|apply AB|apply AJ)<;>intro _))|(apply Ax<;>intro _)|apply AH|refine Ae () ?_ ?_|((first|apply AO|apply AN|apply AM|apply AL|apply AG|apply AF|apply AE|apply AD|apply AC)<;>try dsimp only)|apply Ae|(refine Prod.forall.2 ?_;intro _;try dsimp only)|(intro _;try dsimp only))
 all_goals(try dsimp only[xg,xh,yG,yS,iG,iF] at*)
 all_goals(try simp only[GD] at*)
 all_goals first
  |(show Nat;skip)
  |exact c2H hx ‹_› ‹_›
  |exact(La ‹_› ‹_› ‹_› ‹_› (KM ‹_›)).1
  |exact(La ‹_› ‹_› ‹_› ‹_› (KN ‹_›)).1
  |skip
 all_goals(try(first|exact(La ‹_› ‹_› ‹_› ‹_› (KM ‹_›)).2|exact(La ‹_› ‹_› ‹_› ‹_› (KN ‹_›)).2))
 all_goals(try(have e:=Ka (show isG s.sg ⟨p,d,b,ns⟩ 1 [118,97,114]=false by assumption);simp only[e] at*))
 all_goals(try(have e:=Kb (show isG s.sg ⟨p,d,b,ns⟩ 1 [118,97,114]=true by assumption);simp only[e] at*))
 all_goals(try(have e:=Ka (show isG s.sg ⟨p,d,b,ns⟩ 1 [99,108,97,115,115]=false by assumption);simp only[e] at*))
 all_goals(try(have e:=Kb (show isG s.sg ⟨p,d,b,ns⟩ 1 [99,108,97,115,115]=true by assumption);simp only[e] at*))
 all_goals(try(have hw:=GN hx (show isG s.sg ⟨p,d,b,ns⟩ 1 [99,108,97,115,115]=true by assumption)))
 all_goals first
  |(show Nat;skip)
  |rfl
  |exact h1
  |omega
  |contradiction
  |exact c2M hx ‹_›
  |exact Ig h1 (by omega)
  |exact GN hx ‹_›
  |exact c2O hx ‹_› ‹_› ‹_›
  |exact a7m hx ‹_›
  |exact(EJ hw).1
  |exact(c2I hw).1
  |exact a7o hw
  |exact(EJ (YZ hw ‹_›)).1
  |exact(a7p hw ‹_› ‹_› ‹_›).1
  |exact(a7p hw ‹_› ‹_› ‹_›).2
  |exact FT (EJ (YZ hw ‹_›)).1
  |exact Fm h1 ‹_›
  |exact Oy YP ‹_›
  |exact Oy YP ‹_› ‹_›
  |exact(La ‹_› ‹_› ‹_› ‹_› (KM ‹_›)).1
  |exact(La ‹_› ‹_› ‹_› ‹_› (KN ‹_›)).1
  |exact a7r hx ‹_› ‹_› ‹_› (c2J hw ‹_› ‹_›)
  |exact a7r hx ‹_› ‹_› ‹_› (c2K hw ‹_› ‹_›)
  |exact c2Q hx ‹_› ‹_› ‹_› (a7n hx ‹_› ‹_›)
  |(have hq:=YF hs (show vlQ _ _ _ [] _ _ by assumption);(try simp only[AY,List.length_append,List.length_cons,List.length_nil] at*);omega)
  |(have hq:=Za hw (show clS _ _ _ _ _ by assumption);(try simp only[AY,List.length_append,List.length_cons,List.length_nil]);omega)
  |skip
 all_goals first
  |exact(La ‹_› ‹_› ‹_› ‹_› (KM ‹_›)).2
  |exact(La ‹_› ‹_› ‹_› ‹_› (KN ‹_›)).2
  |skip)
end Go.My
end
