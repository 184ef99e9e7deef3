/- A part of the proof: the engine and the contracts, joined. -/
import Derived.Test.YtplklcfglbkfhaaGreatDoorQI
section
set_option linter.unusedVariables false
set_option linter.unusedSimpArgs false
namespace Go.My
open Go.Eng Go.Proofs
variable {G:GInv}
theorem bt{a b:List UInt8}(h:(a==b)=true):a=b:=by simpa using h
theorem bf{a b:List UInt8}(h:(a==b)=false):a≠b:=by simpa using h
def csJ(sg:List Sg)(n l:Nat)(x y:Gs)(t:List UInt8)(ks:List Int)(N:Nat):Prop:=chS sg n l x y t ks N∧(y.bad=false→y.deep≤20)
theorem a6S{s:ST}{x:Gs}{n:Nat}{l:Int}(hx:wQ (9-l.toNat) (n+1) s x)(hl:l>5)(h6:l≤6):wQ 2 n s x:=by
 have e:l.toNat=6:=by omega
 have a:=hx.1.2
 rw[e] at a
 exact⟨⟨hx.1.1,by omega⟩,hx.2⟩
theorem a6T{s:ST}{x:Gs}{n:Nat}{l:Int}{z:Int×Gs}(hl:l>5)(h6:l≤6)(h:Af s.sg x (pE s.sg n .fin) z):Af s.sg x (pE s.sg (n+1) (.chain l.toNat)) z:=a4r (by omega) h
theorem a6U{s:ST}{x:Gs}{n:Nat}{l:Int}(hx:wQ (9-l.toNat) (n+1) s x)(h0:0≤l)(hl:¬l>5):wQ (9-(l+1).toNat) n s x:=⟨⟨hx.1.1,by have:=hx.1.2;omega⟩,hx.2⟩
theorem a6V{s:ST}{x:Gs}{n:Nat}{l:Int}{z:Int×Gs}(hx:wQ (9-l.toNat) (n+1) s x)(h0:0≤l)(hl:¬l>5)(hz:Af s.sg x (pE s.sg n (.chain (l+1).toNat)) z):csJ s.sg n l.toNat x z.2 [] [z.1] (2*s.sg.length+4):=by
 rw[show(l+1).toNat=l.toNat+1 by omega] at hz
 exact⟨a6h hx.1.1.1.2 (by omega) hz,MI hz hx.1.1.2⟩
theorem Xy{s:ST}{x y:Gs}{n l:Nat}{t:List UInt8}{ks:List Int}{N:Nat}(hs:sgB s.sg)(h:csJ s.sg n l x y t ks N):rOk s y:=⟨hs,h.1.1.1⟩
theorem Xz{s:ST}{x y:Gs}{n l:Nat}{t:List UInt8}{ks:List Int}{N:Nat}{i:Int}{m:List UInt8}(hs:sgB s.sg)(h:csJ s.sg n l x y t ks N)(hq:mkQ s.sg y l i m):rOk s (gM y m):=by
 unfold gM;split
 ·exact Xy hs h
 ·rename_i hm
  rcases hq.2 with h2|h2
  ·exact(hm h2.1).elim
  ·have hg:=(Iz (sg:=s.sg) (l:=l) (g:=y) (by rw[←h2.2];exact hm)).1
   exact⟨hs,Fi h.1.1.1 (CI hg (by omega)).2⟩
theorem XA{s:ST}{x y:Gs}{n:Nat}{l:Int}{t:List UInt8}{ks:List Int}{N:Nat}{i:Int}{m:List UInt8}(hx:wQ (9-l.toNat) (n+1) s x)(h0:0≤l)(hl:¬l>5)(h:csJ s.sg n l.toNat x y t ks N)(hq:mkQ s.sg y l.toNat i m)(hm:m≠[]):wQ (9-(l+1).toNat) n s (gM y m):=by
 have hr:=Xz hx.1.1.1.1 h hq
 rw[OP hm] at hr ⊢
 rcases hq.2 with h2|h2
 ·exact(hm h2.1).elim
 ·have hg:=(Iz (sg:=s.sg) (l:=l.toNat) (g:=y) (by rw[←h2.2];exact hm)).1
  have hb:=CI hg (by omega)
  have e1:(An y).pos=y.pos+1:=rfl
  have e2:(An y).deep=y.deep:=rfl
  have:=h.1.1.2.2.1;have:=hx.1.2;have:=h.2 hb.1
  exact⟨⟨⟨hr,fun _=>by omega⟩,by omega⟩,hx.2⟩
theorem a6W{s:ST}{x y:Gs}{n:Nat}{l:Int}{t:List UInt8}{ks:List Int}{N:Nat}{i:Int}{m:List UInt8}(hx:wQ (9-l.toNat) (n+1) s x)(h0:0≤l)(hl:¬l>5)(h:csJ s.sg n l.toNat x y t ks N)(hq:mkQ s.sg y l.toNat i m)(hm:m≠[])(ht:t≠[]):wQ (9-(l+1).toNat) n s (Al (gM y m) ⟨7,t,ks,false⟩):=by
 have a:=XA hx h0 hl h hq hm
 obtain⟨d1,d2,d3⟩:= @HF (gM y m) ⟨7,t,ks,false⟩
 have hw:=Si (ks:=ks) hx.1.1.1.1 (h.1.2.2.2.2.2 ht).2 (by have:=h.1.2.2.1;have:=h.1.1.1.1;omega)
 exact⟨⟨⟨⟨a.1.1.1.1,MB a.1.1.1.2 hw⟩,fun hb=>by rw[d1];exact a.1.1.2 (d3 hb)⟩,by rw[d2];exact a.1.2⟩,a.2⟩
theorem Pa{s:ST}{x y:Gs}{n:Nat}{l:Int}{t:List UInt8}{ks:List Int}{N:Nat}{i:Int}{m:List UInt8}{z:Int×Gs}(h0:0≤l)(h:csJ s.sg n l.toNat x y t ks N)(hq:mkQ s.sg y l.toNat i m)(hi:¬i<((BE l.toNat).length:Int))(hm:m≠[])(ht:t=[]∨m=t)
 (hz:Af s.sg (gM y m) (pE s.sg n (.chain (l+1).toNat)) z):csJ s.sg n l.toNat x z.2 m (ks++[z.1]) (N-1)∧N-1<N:=by
 have e:=OQ hq hi
 rw[OP hm,show(l+1).toNat=l.toNat+1 by omega] at hz
 obtain⟨a,b⟩:=a6i h.1 (by rw[←e];exact hm) (by rw[←e];exact ht) hz
 rw[←e] at a
 have hg:=(Iz (sg:=s.sg) (l:=l.toNat) (g:=y) (by rw[←e];exact hm)).1
 exact⟨⟨a,MI hz (fun _=>h.2 (CI hg (by omega)).1)⟩,b⟩
theorem XB{s:ST}{x y:Gs}{n:Nat}{l:Int}{t:List UInt8}{ks:List Int}{N:Nat}{i:Int}{m:List UInt8}{z:Int×Gs}(hs:sgB s.sg)(h0:0≤l)(h:csJ s.sg n l.toNat x y t ks N)(hq:mkQ s.sg y l.toNat i m)(hi:¬i<((BE l.toNat).length:Int))(hm:m≠[])(ht:t≠[])(hne:m≠t)
 (hz:Af s.sg (Al (gM y m) ⟨7,t,ks,false⟩) (pE s.sg n (.chain (l+1).toNat)) z):csJ s.sg n l.toNat x z.2 m ([AB (gM y m)]++[z.1]) (N-2)∧N-2<N:=by
 have e:=OQ hq hi
 rw[OP hm] at hz ⊢
 rw[show(l+1).toNat=l.toNat+1 by omega] at hz
 obtain⟨a,b⟩:=a6j hs h.1 (by rw[←e];exact hm) ht (by rw[←e];exact hne) hz
 rw[←e] at a
 have hg:=(Iz (sg:=s.sg) (l:=l.toNat) (g:=y) (by rw[←e];exact hm)).1
 refine⟨⟨a,MI hz (fun hb=> ?_)⟩,b⟩
 rw[RV];exact h.2 (CI hg (by omega)).1
theorem a6X{s:ST}{x y:Gs}{n l:Nat}{t:List UInt8}{ks:List Int}{N:Nat}{i:Int}{m:List UInt8}{k:Int}(h:csJ s.sg n l x y t ks N)(hq:mkQ s.sg y l i m)(hi:¬i<((BE l).length:Int))(hm:m=[])(hl:(ks.length:Int)=1)(hk:ks[(0:Int).toNat]? =some k):Af s.sg x (pE s.sg (n+1) (.chain l)) (k,gM y m):=by
 have e:=OQ hq hi
 subst hm
 exact Xj h.1 (.inr e.symm) (by omega) hk
theorem a6Y{s:ST}{x y:Gs}{n l:Nat}{t:List UInt8}{ks:List Int}{N:Nat}{i:Int}{m:List UInt8}(hs:sgB s.sg)(h:csJ s.sg n l x y t ks N)(hq:mkQ s.sg y l i m)(hi:¬i<((BE l).length:Int))(hm:m=[])(hl:(ks.length:Int)≠1):Af s.sg x (pE s.sg (n+1) (.chain l)) (AB (gM y m),Al (gM y m) ⟨7,t,ks,false⟩):=by
 have e:=OQ hq hi
 subst hm
 exact Xk hs h.1 (.inr e.symm) (by omega)
theorem a6Z{s:ST}{x y:Gs}{n l:Nat}{t:List UInt8}{ks:List Int}{N:Nat}{k:Int}(h:csJ s.sg n l x y t ks N)(hb:y.bad=true)(hl:(ks.length:Int)=1)(hk:ks[(0:Int).toNat]? =some k):Af s.sg x (pE s.sg (n+1) (.chain l)) (k,y):=Xj h.1 (.inl hb) (by omega) hk
theorem a7a{s:ST}{x y:Gs}{n l:Nat}{t:List UInt8}{ks:List Int}{N:Nat}(hs:sgB s.sg)(h:csJ s.sg n l x y t ks N)(hb:y.bad=true)(hl:(ks.length:Int)≠1):Af s.sg x (pE s.sg (n+1) (.chain l)) (AB y,Al y ⟨7,t,ks,false⟩):=Xk hs h.1 (.inl hb) (by omega)
theorem a7b{s:ST}{x y:Gs}{n l:Nat}{t:List UInt8}{ks:List Int}{N:Nat}(hs:sgB s.sg)(h:csJ s.sg n l x y t ks N):ks.length≤3001∧1≤ks.length:=by
 have h1:=h.1.2.2.1;have h2:=h.1.1.1.1.2;have h3:=hs.1
 refine⟨by omega,?_⟩
 rcases Classical.em (t=[]) with e|e
 ·have:=h.1.2.2.2.2.1 e;omega
 ·have:=(h.1.2.2.2.2.2 e).1;omega
theorem a7c{sg:List Sg}{y:Gs}{l:Nat}{i:Int}{m:List UInt8}(h:mkQ sg y l i m):(0≤i∧i≤(BE l).length)∧(BE l).length≤2:=⟨h.1,a4m⟩
theorem IH{sg:List Sg}{y:Gs}{l:Nat}{i:Int}{m v:List UInt8}(h:mkQ sg y l i m)(hm:m=[])(ha:(BE l)[i.toNat]? =some v)(hg:isG sg (gM y m) 4 v=true):
 (Au sg (gM y m) v).pos=(gM y v).pos∧(Au sg (gM y m) v).bad=(gM y v).bad∧(Au sg (gM y m) v).deep=(gM y v).deep∧(Au sg (gM y m) v).nodes=(gM y v).nodes:=by
 rw[(Sk h hm ha hg).2];exact⟨rfl,rfl,rfl,rfl⟩
theorem a7d{sg:List Sg}{p d:Int}{b:Bool}{ns:List Nd}{f:Ps→PR}{z:Int×Gs}(hd:d≤20)(h:d+1>20)(hz:Af sg ⟨p,d+1,true,ns⟩ f z):Af sg (pkX ⟨p,d,b,ns⟩) f z:=by
 have e:pkX ⟨p,d,b,ns⟩=⟨p,d+1,true,ns⟩:=by simp only[pkX];rw[if_pos (show d=20 by omega)];rfl
 rw[e];exact hz
theorem a7e{sg:List Sg}{p d:Int}{b:Bool}{ns:List Nd}{f:Ps→PR}{z:Int×Gs}(h:¬d+1>20)(hz:Af sg ⟨p,d+1,b,ns⟩ f z):Af sg (pkX ⟨p,d,b,ns⟩) f z:=by
 have e:pkX ⟨p,d,b,ns⟩=⟨p,d+1,b,ns⟩:=by simp only[pkX];rw[if_neg (show¬d=20 by omega)];rfl
 rw[e];exact hz
theorem a7f{s:ST}{p d:Int}{b:Bool}{ns:List Nd}{n:Nat}(hx:vQ 10 (n+1) s ⟨p,d,b,ns⟩)(h:d+1>20):wQ (9-(0:Int).toNat) n s ⟨p,d+1,true,ns⟩:=by
 have a:=(WA hx.1.1.1 hx.1.1.2 hx.1.2).1
 have hd:=hx.1.1.2;simp only at hd
 have e:pkX ⟨p,d,b,ns⟩=⟨p,d+1,true,ns⟩:=by simp only[pkX];rw[if_pos (show d=20 by omega)];rfl
 rw[e] at a;exact⟨a,hx.2⟩
theorem a7g{s:ST}{p d:Int}{b:Bool}{ns:List Nd}{n:Nat}(hx:vQ 10 (n+1) s ⟨p,d,b,ns⟩)(h:¬d+1>20):wQ (9-(0:Int).toNat) n s ⟨p,d+1,b,ns⟩:=by
 have a:=(WA hx.1.1.1 hx.1.1.2 hx.1.2).1
 have e:pkX ⟨p,d,b,ns⟩=⟨p,d+1,b,ns⟩:=by simp only[pkX];rw[if_neg (show¬d=20 by omega)];rfl
 rw[e] at a;exact⟨a,hx.2⟩
theorem a7h{s:ST}{x y:Gs}{n:Nat}{ks:List Int}{N:Nat}(hx:vQ 11 (n+1) s x)(h:vaJ s.sg n x y ks N)(hq:isG s.sg y 4 [46,46]=true):
 wQ 11 n s (Aq s.sg (Al (Bc s.sg (Au s.sg y [46,46]) 1) ⟨1,Bq s.sg (Au s.sg y [46,46]) 1,[],false⟩) [40]):=by
 have hr:=RW hx.1.1.1 h
 have a:=Lm (m:=[46,46]) hr
 have e:=Ct a
 have t:=Gl (m:=[40]) (EM a)
 rw[DM hq] at a e t ⊢
 simp only at e t
 have e1:(An y).pos=y.pos+1:=rfl
 have e2:(An y).deep=y.deep:=rfl
 have:=h.1.1.2.2.1;have:=h.2;have:=hx.1.2
 exact⟨⟨⟨⟨hx.1.1.1.1,t.1⟩,fun _=>by omega⟩,by omega⟩,hx.2⟩
theorem XC{s:ST}{x y:Gs}{n:Nat}{ks:List Int}{N:Nat}{v:List Int×Gs}(hs:sgB s.sg)(h:vaJ s.sg n x y ks N)(hq:isG s.sg y 4 [46,46]=true)
 (hv:vlQ s.sg (pE s.sg n .value) [41] [AB (Bc s.sg (Au s.sg y [46,46]) 1)] (Aq s.sg (Al (Bc s.sg (Au s.sg y [46,46]) 1) ⟨1,Bq s.sg (Au s.sg y [46,46]) 1,[],false⟩) [40]) v):
 vaJ s.sg n x (Al v.2 ⟨5,[],v.1,false⟩) (ks++[AB v.2]) (N-1)∧N-1<N:=by
 have a:=Lm (m:=[46,46]) (show rOk s y from⟨hs,h.1.1.1⟩)
 have hw:=Xm (EM a) hv
 have e:=(Ct a).1
 rw[DM hq] at a e
 obtain⟨c1,c2⟩:=Le (a6q h.1 hq a (by rw[DM hq] at hw;exact hw))
 have e2:(An y).deep=y.deep:=rfl
 have e3:=(Ct hw).1
 rw[DM hq] at e3
 have:=h.2
 exact⟨WC ⟨c1,by simp only at*;omega⟩,c2⟩
theorem Sv{s:ST}{x y:Gs}{n:Nat}{ks:List Int}{N:Nat}(hs:sgB s.sg)(h:vaJ s.sg n x y ks N):rOk s (Au s.sg y [46,46])∧rOk s (Bc s.sg (Au s.sg y [46,46]) 1)∧rOk s (Al (Bc s.sg (Au s.sg y [46,46]) 1) ⟨1,Bq s.sg (Au s.sg y [46,46]) 1,[],false⟩):=
 have hr:rOk s y:=⟨hs,h.1.1.1⟩
 ⟨Ez hr,Gp (Ez hr) (by omega),Sn hr⟩
def lqI(s:ST)(e:Int)(j:Int×Int×Bool×List Nd×List UInt8×List Int×Nat):LS:= {
 ι:=Int×List UInt8,inv:=fun i=>mkQ s.sg (iF j) e.toNat i.1 i.2,regs:=fun i=>[(0,srd s (gM (iF j) i.2)),(1,.int .i64 e),(5,Ag j.2.2.2.2.2.1),(6,.str j.2.2.2.2.1),(7,.sl false 0 1 (List UInt8) As (BE e.toNat)),(8,.str i.2),(9,.int .i64 i.1)],als:=[],meas:=fun i=>(BE e.toNat).length-i.1.toNat}
def lqO(n:Nat)(x:ST×Int×Int×Bool×List Nd×Int):LS:= {
 ι:=Int×Int×Bool×List Nd×List UInt8×List Int×Nat,inv:=fun i=>csJ x.1.sg n x.2.2.2.2.2.toNat (xh x) (iF i) i.2.2.2.2.1 i.2.2.2.2.2.1 i.2.2.2.2.2.2,regs:=fun i=>[(0,srd x.1 (iF i)),(1,.int .i64 x.2.2.2.2.2),(5,Ag i.2.2.2.2.2.1),(6,.str i.2.2.2.2.1),(7,.sl false 0 1 (List UInt8) As (BE x.2.2.2.2.2.toNat))],als:=[],meas:=fun i=>i.2.2.2.2.2.2,
 sub:=fun j=>[(9,lqI x.1 x.2.2.2.2.2 j)]}
attribute [local irreducible] pE Bo CF fnR Af Bu gsOk Aq Co Al CJ DJ Au Dr DA AB Cp pkG isG nmG kdG Bc Bq BM vlQ lqJ saI arG eqJ csJ mkQ gM vaJ
def GQ:Sig:= {X:=Int,args:=fun x=>[.int .i64 x],pre:=fun x=>0≤x∧x≤5,Y:=Unit,post:=fun x y=>True,res:=fun x y=> .sl false 0 1 (List UInt8) As (BE x.toNat),outs:=fun x y=>[.top],keep:=true}
theorem a7i:Am G Tryz.prog 213 GQ:=
 vcFun_okP [] [(38,⟨List UInt8,As⟩)] false (fun x=>[]) Tryz.func213 rfl (by decide) trivial (fun(x:Int)=>True∧Aa (x==(0:Int)) (∃(x_1:List UInt8),#[(124:UInt8),(124:UInt8)].toList=x_1∧rA GQ x [AV.sl true (0:Nat) (1:Nat) (List UInt8) As [x_1],.top]) (Aa (x==(1:Int)) (∃(x_1:List UInt8),#[(38:UInt8),(38:UInt8)].toList=x_1∧rA GQ x [AV.sl true (0:Nat) (1:Nat) (List UInt8) As [x_1],.top]) (Aa (x==(2:Int)) (∃(x_1:List UInt8),#[(61:UInt8),(61:UInt8)].toList=x_1∧rA GQ x [AV.sl true (0:Nat) (1:Nat) (List UInt8) As [x_1],.top]) (Aa (x==(3:Int)) (∃(x_1:List UInt8),#[(60:UInt8)].toList=x_1∧rA GQ x [AV.sl true (0:Nat) (1:Nat) (List UInt8) As [x_1],.top]) (Aa (x==(4:Int)) (∃(x_1:List UInt8),#[(43:UInt8)].toList=x_1∧∃(x_2:List UInt8),#[(45:UInt8)].toList=x_2∧rA GQ x [AV.sl true (0:Nat) (1:Nat) (List UInt8) As [x_1,x_2],.top]) (∃(x_1:List UInt8),#[(42:UInt8)].toList=x_1∧rA GQ x [AV.sl true (0:Nat) (1:Nat) (List UInt8) As [x_1],.top])))))) (fun x=>by kernel_rfl) fun(x:Int) (hx:0≤x∧x≤5)=>(by
 dsimp only[rA,GQ,Az,AC]
 obtain⟨h1,h2⟩:=hx
 have hh:x=0∨x=1∨x=2∨x=3∨x=4∨x=5:=by omega
 rcases hh with rfl|rfl|rfl|rfl|rfl|rfl
 all_goals(repeat' first|(with_reducible first|rfl|exact True.intro|apply AN|apply And.intro|((first|apply AD|apply AL|apply AE|apply AM)<;>intro _))|(apply AA<;>intro _)|apply AK|refine Ae () ?_ ?_|((first|apply AR|apply AQ|apply AP|apply AO|apply AJ|apply AI|apply AH|apply AG|apply AF)<;>try dsimp only)|apply Ae|(refine Prod.forall.2 ?_;intro _;try dsimp only)|(intro _;try dsimp only))
 all_goals first
  |rfl
  |omega
  |(simp [Bf];done)
  |skip)
def JQ(n:Nat):Sig:= {X:=ST×Int×Int×Bool×List Nd×Int,args:=fun x=>[srd x.1 (xh x),.int .i64 x.2.2.2.2.2],pre:=fun x=>wQ (9-x.2.2.2.2.2.toNat) (n+1) x.1 (xh x)∧0≤x.2.2.2.2.2∧x.2.2.2.2.2≤6,Y:=Int×Int×Int×Bool×List Nd,post:=fun x y=>Af x.1.sg (xh x) (pE x.1.sg (n+1) (.chain x.2.2.2.2.2.toNat)) (yS y),res:=fun x y=> .int .i64 y.1,outs:=fun x y=>[srd x.1 (yG y.2),.top],keep:=true}
theorem a7j(n:Nat)(h:qAll G n):Am G Tryz.prog 202 (JQ n):=
 vcFun_okP [(212,0,(OT n)),(202,0,(GP n)),(213,0,GQ),(142,0,BO),(117,0,Bg)] [(26,⟨Int,Bi⟩),(38,⟨List UInt8,As⟩)] false (fun x=>[(6,lqO n x)]) Tryz.func202 rfl (by decide) ⟨h.fin,h.chain,a7i,Gm,Gn,trivial⟩ (fun(x:ST×Int×Int×Bool×List Nd×Int)=>True∧Aa (decide (x.2.2.2.2.2>(5:Int))) (cA (OT n) [srd x.1 (xh x)] fun x_1 y=>rA (JQ n) x [.int .i64 y.1,srd x_1.1 (yG y.2),.top]) (inR IntKind.i64 (x.2.2.2.2.2+(1:Int))∧cA (GP n) [srd x.1 (xh x),.int .i64 (x.2.2.2.2.2+(1:Int))] fun x_1 y=>∃(x_2:Int),y.1=x_2∧cA GQ [.int .i64 x.2.2.2.2.2] fun x_3 y_1=>eA (lqO n x) [srd x_1.1 (yG y.2),.int .i64 x.2.2.2.2.2,Ag [x_2],.str #[].toList,AV.sl false (0:Nat) (1:Nat) (List UInt8) As (BE (Int.toNat x_3))]∧∀(i:Int×Int×Bool×List Nd×List UInt8×List Int×Nat),csJ x.1.sg n (Int.toNat x.2.2.2.2.2) (xh x) (iF i) i.2.2.2.2.1 i.2.2.2.2.2.1 i.2.2.2.2.2.2→Aa (!(iF i).bad) (eA (lqI x.1 x.2.2.2.2.2 i) [srd x.1 (iF i),.int .i64 x.2.2.2.2.2,Ag i.2.2.2.2.2.1,.str i.2.2.2.2.1,AV.sl false (0:Nat) (1:Nat) (List UInt8) As (BE (Int.toNat x.2.2.2.2.2)),.str #[].toList,.int .i64 (0:Int)]∧∀(i_1:Int×List UInt8),mkQ x.1.sg (iF i) (Int.toNat x.2.2.2.2.2) i_1.1 i_1.2→Aa (decide (i_1.1<(↑(List.length (BE (Int.toNat x.2.2.2.2.2))):Int))) (Aa (i_1.2== #[].toList) (((0:Int)≤i_1.1∧i_1.1<(↑(List.length (BE (Int.toNat x.2.2.2.2.2))):Int))∧∀(e:List UInt8),(BE (Int.toNat x.2.2.2.2.2))[Int.toNat i_1.1]? =some e→cA BO [srd x.1 (gM (iF i) i_1.2),.str e] fun x_4 y=>Aa (isG x_4.1.sg (xh x_4) (4:Int) x_4.2.2.2.2.2) (((0:Int)≤i_1.1∧i_1.1<(↑(List.length (BE (Int.toNat x.2.2.2.2.2))):Int))∧∀(e:List UInt8),(BE (Int.toNat x.2.2.2.2.2))[Int.toNat i_1.1]? =some e→inR IntKind.i64 (i_1.1+(1:Int))∧eN (lqI x.1 x.2.2.2.2.2 i) i_1 [srd x_4.1 (Au x_4.1.sg (xh x_4) x_4.2.2.2.2.2),.int .i64 x.2.2.2.2.2,Ag i.2.2.2.2.2.1,.str i.2.2.2.2.1,AV.sl false (0:Nat) (1:Nat) (List UInt8) As (BE (Int.toNat x.2.2.2.2.2)),.str e,.int .i64 (i_1.1+(1:Int))]) (inR IntKind.i64 (i_1.1+(1:Int))∧eN (lqI x.1 x.2.2.2.2.2 i) i_1 [srd x_4.1 (Au x_4.1.sg (xh x_4) x_4.2.2.2.2.2),.int .i64 x.2.2.2.2.2,Ag i.2.2.2.2.2.1,.str i.2.2.2.2.1,AV.sl false (0:Nat) (1:Nat) (List UInt8) As (BE (Int.toNat x.2.2.2.2.2)),.str i_1.2,.int .i64 (i_1.1+(1:Int))])) (inR IntKind.i64 (i_1.1+(1:Int))∧eN (lqI x.1 x.2.2.2.2.2 i) i_1 [srd x.1 (gM (iF i) i_1.2),.int .i64 x.2.2.2.2.2,Ag i.2.2.2.2.2.1,.str i.2.2.2.2.1,AV.sl false (0:Nat) (1:Nat) (List UInt8) As (BE (Int.toNat x.2.2.2.2.2)),.str i_1.2,.int .i64 (i_1.1+(1:Int))])) (Aa (i_1.2== #[].toList) (Aa ((↑(List.length i.2.2.2.2.2.1):Int)==(1:Int)) (((0:Int)≤(0:Int)∧(0:Int)<(↑(List.length i.2.2.2.2.2.1):Int))∧(0:Nat)<List.length i.2.2.2.2.2.1∧∀(x_4:Int),i.2.2.2.2.2.1[(0:Nat)]? =some x_4→rA (JQ n) x [.int .i64 x_4,srd x.1 (gM (iF i) i_1.2),.top]) (cA Bg [srd x.1 (gM (iF i) i_1.2),.int .i64 (7:Int),.str i.2.2.2.2.1,Ag i.2.2.2.2.2.1] fun x_4 y=>rA (JQ n) x [.int .i64 (AB (xh x_4)),srd x_4.1 (Al (xh x_4) {kind:=x_4.2.2.2.2.2.1,text:=x_4.2.2.2.2.2.2.1,kids:=x_4.2.2.2.2.2.2.2,blank:=false}),.top])) (Aa (!i.2.2.2.2.1== #[].toList) (Aa (!i_1.2==i.2.2.2.2.1) (cA Bg [srd x.1 (gM (iF i) i_1.2),.int .i64 (7:Int),.str i.2.2.2.2.1,Ag i.2.2.2.2.2.1] fun x_4 y=>∃(x_5:Int),AB (xh x_4)=x_5∧inR IntKind.i64 (x.2.2.2.2.2+(1:Int))∧cA (GP n) [srd x_4.1 (Al (xh x_4) {kind:=x_4.2.2.2.2.2.1,text:=x_4.2.2.2.2.2.2.1,kids:=x_4.2.2.2.2.2.2.2,blank:=false}),.int .i64 (x.2.2.2.2.2+(1:Int))] fun x_6 y=>∃(x_7:Int),y.1=x_7∧∃(zs:List Int),Ag [x_7]=Ag zs∧Cd Bi∧Bf (List.length [x_5]+List.length zs) (8:Nat)∧eN (lqO n x) i [srd x_6.1 (yG y.2),.int .i64 x.2.2.2.2.2,Ag ([x_5]++zs),.str i_1.2,AV.sl false (0:Nat) (1:Nat) (List UInt8) As (BE (Int.toNat x.2.2.2.2.2))]) (inR IntKind.i64 (x.2.2.2.2.2+(1:Int))∧cA (GP n) [srd x.1 (gM (iF i) i_1.2),.int .i64 (x.2.2.2.2.2+(1:Int))] fun x_4 y=>∃(x_5:Int),y.1=x_5∧∃(zs:List Int),Ag [x_5]=Ag zs∧Cd Bi∧Bf (List.length i.2.2.2.2.2.1+List.length zs) (8:Nat)∧eN (lqO n x) i [srd x_4.1 (yG y.2),.int .i64 x.2.2.2.2.2,Ag (i.2.2.2.2.2.1++zs),.str i_1.2,AV.sl false (0:Nat) (1:Nat) (List UInt8) As (BE (Int.toNat x.2.2.2.2.2))])) (inR IntKind.i64 (x.2.2.2.2.2+(1:Int))∧cA (GP n) [srd x.1 (gM (iF i) i_1.2),.int .i64 (x.2.2.2.2.2+(1:Int))] fun x_4 y=>∃(x_5:Int),y.1=x_5∧∃(zs:List Int),Ag [x_5]=Ag zs∧Cd Bi∧Bf (List.length i.2.2.2.2.2.1+List.length zs) (8:Nat)∧eN (lqO n x) i [srd x_4.1 (yG y.2),.int .i64 x.2.2.2.2.2,Ag (i.2.2.2.2.2.1++zs),.str i_1.2,AV.sl false (0:Nat) (1:Nat) (List UInt8) As (BE (Int.toNat x.2.2.2.2.2))])))) (Aa ((↑(List.length i.2.2.2.2.2.1):Int)==(1:Int)) (((0:Int)≤(0:Int)∧(0:Int)<(↑(List.length i.2.2.2.2.2.1):Int))∧(0:Nat)<List.length i.2.2.2.2.2.1∧∀(x_4:Int),i.2.2.2.2.2.1[(0:Nat)]? =some x_4→rA (JQ n) x [.int .i64 x_4,srd x.1 (iF i),.top]) (cA Bg [srd x.1 (iF i),.int .i64 (7:Int),.str i.2.2.2.2.1,Ag i.2.2.2.2.2.1] fun x_4 y=>rA (JQ n) x [.int .i64 (AB (xh x_4)),srd x_4.1 (Al (xh x_4) {kind:=x_4.2.2.2.2.2.1,text:=x_4.2.2.2.2.2.2.1,kids:=x_4.2.2.2.2.2.2.2,blank:=false}),.top])))) (fun x=>by kernel_rfl) fun(x:ST×Int×Int×Bool×List Nd×Int) (hx:wQ (9-x.2.2.2.2.2.toNat) (n+1) x.1 (xh x)∧0≤x.2.2.2.2.2∧x.2.2.2.2.2≤6)=>(by
 dsimp only[cA,eA,eN,lqI,lqO,Bx,Ag,AX,rA,GP,JQ,OT,GQ,BO,Bg,CE,sgs,srd,Az,AC,mvL,lnL,mvE,lnE,Bt]
 obtain⟨s,p,d,b,ns,e⟩:=x;dsimp only[xg,xh] at hx ⊢
 obtain⟨hx,h4,h5⟩:=hx
 have hx:wQ (9-e.toNat) (n+1) s ⟨p,d,b,ns⟩:=hx
 have h1:=hx.1.1.1;have hs:=h1.1
 (repeat' first|(with_reducible first|rfl|exact True.intro|apply AN|apply And.intro|((first|apply AD|apply AL|apply AE|apply AM)<;>intro _))|(apply AA<;>intro _)|apply AK|refine Ae () ?_ ?_|((first|apply AR|apply AQ|apply AP|apply AO|apply AJ|apply AI|apply AH|apply AG|apply AF)<;>try dsimp only)|apply Ae|(refine Prod.forall.2 ?_;intro _;try dsimp only)|(intro _;try dsimp only))
 all_goals(try dsimp only[xg,xh,yG,yS,iG,iF] at*)
 all_goals(try simp only[Fj] at*)
 all_goals first
  |(show Nat;skip)
  |rfl
  |assumption
  |exact h1
  |exact a6S hx ‹_› h5
  |exact a6T ‹_› h5 ‹_›
  |exact a6U hx h4 ‹_›
  |exact a6V hx h4 ‹_› ‹_›
  |exact Xy hs ‹_›
  |exact Xz hs ‹_› ‹_›
  |exact a6k
  |(simp only[Sj];done)
  |exact(IH ‹_› ‹_› ‹_› ‹_›).1
  |exact(IH ‹_› ‹_› ‹_› ‹_›).2.1
  |exact(IH ‹_› ‹_› ‹_› ‹_›).2.2.1
  |exact(IH ‹_› ‹_› ‹_› ‹_›).2.2.2
  |exact a6l ‹_› ‹_› ‹_› ‹_›
  |exact(Sk ‹_› ‹_› ‹_› ‹_›).1
  |exact a6m ‹_› ‹_› ‹_›
  |exact XA hx h4 ‹_› ‹_› ‹_› ‹_›
  |exact a6W hx h4 ‹_› ‹_› ‹_› ‹_› (bf ‹_›)
  |exact(XB hs h4 ‹_› ‹_› ‹_› ‹_› (bf ‹_›) (bf ‹_›) ‹_›).1
  |exact(Pa h4 ‹_› ‹_› ‹_› ‹_› (.inl (bt ‹_›)) ‹_›).1
  |exact(Pa h4 ‹_› ‹_› ‹_› ‹_› (.inr (bt ‹_›)) ‹_›).1
  |exact a6X ‹_› ‹_› ‹_› ‹_› ‹_› ‹_›
  |exact a6Y hs ‹_› ‹_› ‹_› ‹_› ‹_›
  |exact a6Z ‹_› ‹_› ‹_› ‹_›
  |exact a7a hs ‹_› ‹_› ‹_›
  |((try simp only[AU]);omega)
  |(have hq:=a7c (show mkQ _ _ _ _ _ by assumption);(try simp only[AU]);omega)
  |(have hq:=a7b hs (show csJ _ _ _ _ _ _ _ _ by assumption);(try simp only[Bf,List.length_append,List.length_cons,List.length_nil]);omega)
  |skip
 all_goals first
  |exact(XB hs h4 ‹_› ‹_› ‹_› ‹_› (bf ‹_›) (bf ‹_›) ‹_›).2
  |exact(Pa h4 ‹_› ‹_› ‹_› ‹_› (.inl (bt ‹_›)) ‹_›).2
  |exact(Pa h4 ‹_› ‹_› ‹_› ‹_› (.inr (bt ‹_›)) ‹_›).2
  |(simp only[Sj];done)
  |skip
 all_goals(try(repeat(rename(BE _)[_]? =some _=>hq;revert hq;rename(BE _)[_]? =some _=>hr;intro hq;rw[hr] at hq;cases hq)))
 all_goals first
  |exact(Sk ‹_› ‹_› ‹_› ‹_›).1
  |exact(IH ‹_› ‹_› ‹_› ‹_›).1
  |exact(IH ‹_› ‹_› ‹_› ‹_›).2.1
  |exact(IH ‹_› ‹_› ‹_› ‹_›).2.2.1
  |exact(IH ‹_› ‹_› ‹_› ‹_›).2.2.2
  |(rw[CY ‹_›];done)
  |skip)
def JR(n:Nat):Sig:= {X:=ST×Int×Int×Bool×List Nd,args:=fun x=>[srd x.1 (xg x)],pre:=fun x=>vQ 10 (n+1) x.1 (xg x),Y:=Int×Int×Int×Bool×List Nd,post:=fun x y=>Af x.1.sg (xg x) (pE x.1.sg (n+1) .pick) (yS y),res:=fun x y=> .int .i64 y.1,outs:=fun x y=>[srd x.1 (yG y.2)],keep:=true}
theorem a7k(n:Nat)(h:qAll G n):Am G Tryz.prog 187 (JR n):=
 vcFun_okP [(202,0,(GP n)),(142,0,BO),(187,0,(FL n)),(141,0,BB),(117,0,Bg)] [(26,⟨Int,Bi⟩)] false (fun x=>[]) Tryz.func187 rfl (by decide) ⟨h.chain,Gm,h.pick,GL,Gn,trivial⟩ (fun(x:ST×Int×Int×Bool×List Nd)=>True∧Aa (xg x).bad (rA (JR n) x [.int .i64 (0:Int),srd x.1 (xg x)]) (inR IntKind.i64 ((xg x).deep+(1:Int))∧Aa (decide ((xg x).deep+(1:Int)>(20:Int))) (cA (GP n) [.box 0 [sgs x.1.sg,.int .i64 (xg x).pos,.bool true,.int .i64 ((xg x).deep+(1:Int)),AX (xg x).nodes],.int .i64 (0:Int)] fun x_1 y=>cA BO [srd x_1.1 (yG y.2),.str #[(63:UInt8)].toList] fun x_2 y_1=>Aa (isG x_2.1.sg (xh x_2) (4:Int) x_2.2.2.2.2.2) (cA (FL n) [srd x_2.1 (Au x_2.1.sg (xh x_2) x_2.2.2.2.2.2)] fun x_3 y_2=>cA BB [srd x_3.1 (yG y_2.2),.str #[(58:UInt8)].toList] fun x_4 y_3=>cA (FL n) [srd x_4.1 (Aq x_4.1.sg (xh x_4) x_4.2.2.2.2.2)] fun x_5 y_4=>∃(x_6:Int),y.1=x_6∧∃(x_7:Int),y_2.1=x_7∧∃(x_8:Int),y_4.1=x_8∧cA Bg [srd x_5.1 (yG y_4.2),.int .i64 (8:Int),.str #[].toList,Ag [x_6,x_7,x_8]] fun x_9 y=>inR IntKind.i64 ((Al (xh x_9) {kind:=x_9.2.2.2.2.2.1,text:=x_9.2.2.2.2.2.2.1,kids:=x_9.2.2.2.2.2.2.2,blank:=false}).deep-(1:Int))∧rA (JR n) x [.int .i64 (AB (xh x_9)),.box 0 [sgs x_9.1.sg,.int .i64 (Al (xh x_9) {kind:=x_9.2.2.2.2.2.1,text:=x_9.2.2.2.2.2.2.1,kids:=x_9.2.2.2.2.2.2.2,blank:=false}).pos,.bool (Al (xh x_9) {kind:=x_9.2.2.2.2.2.1,text:=x_9.2.2.2.2.2.2.1,kids:=x_9.2.2.2.2.2.2.2,blank:=false}).bad,.int .i64 ((Al (xh x_9) {kind:=x_9.2.2.2.2.2.1,text:=x_9.2.2.2.2.2.2.1,kids:=x_9.2.2.2.2.2.2.2,blank:=false}).deep-(1:Int)),AX (Al (xh x_9) {kind:=x_9.2.2.2.2.2.1,text:=x_9.2.2.2.2.2.2.1,kids:=x_9.2.2.2.2.2.2.2,blank:=false}).nodes]]) (inR IntKind.i64 ((Au x_2.1.sg (xh x_2) x_2.2.2.2.2.2).deep-(1:Int))∧rA (JR n) x [.int .i64 y.1,.box 0 [sgs x_2.1.sg,.int .i64 (Au x_2.1.sg (xh x_2) x_2.2.2.2.2.2).pos,.bool (Au x_2.1.sg (xh x_2) x_2.2.2.2.2.2).bad,.int .i64 ((Au x_2.1.sg (xh x_2) x_2.2.2.2.2.2).deep-(1:Int)),AX (Au x_2.1.sg (xh x_2) x_2.2.2.2.2.2).nodes]])) (cA (GP n) [.box 0 [sgs x.1.sg,.int .i64 (xg x).pos,.bool (xg x).bad,.int .i64 ((xg x).deep+(1:Int)),AX (xg x).nodes],.int .i64 (0:Int)] fun x_1 y=>cA BO [srd x_1.1 (yG y.2),.str #[(63:UInt8)].toList] fun x_2 y_1=>Aa (isG x_2.1.sg (xh x_2) (4:Int) x_2.2.2.2.2.2) (cA (FL n) [srd x_2.1 (Au x_2.1.sg (xh x_2) x_2.2.2.2.2.2)] fun x_3 y_2=>cA BB [srd x_3.1 (yG y_2.2),.str #[(58:UInt8)].toList] fun x_4 y_3=>cA (FL n) [srd x_4.1 (Aq x_4.1.sg (xh x_4) x_4.2.2.2.2.2)] fun x_5 y_4=>∃(x_6:Int),y.1=x_6∧∃(x_7:Int),y_2.1=x_7∧∃(x_8:Int),y_4.1=x_8∧cA Bg [srd x_5.1 (yG y_4.2),.int .i64 (8:Int),.str #[].toList,Ag [x_6,x_7,x_8]] fun x_9 y=>inR IntKind.i64 ((Al (xh x_9) {kind:=x_9.2.2.2.2.2.1,text:=x_9.2.2.2.2.2.2.1,kids:=x_9.2.2.2.2.2.2.2,blank:=false}).deep-(1:Int))∧rA (JR n) x [.int .i64 (AB (xh x_9)),.box 0 [sgs x_9.1.sg,.int .i64 (Al (xh x_9) {kind:=x_9.2.2.2.2.2.1,text:=x_9.2.2.2.2.2.2.1,kids:=x_9.2.2.2.2.2.2.2,blank:=false}).pos,.bool (Al (xh x_9) {kind:=x_9.2.2.2.2.2.1,text:=x_9.2.2.2.2.2.2.1,kids:=x_9.2.2.2.2.2.2.2,blank:=false}).bad,.int .i64 ((Al (xh x_9) {kind:=x_9.2.2.2.2.2.1,text:=x_9.2.2.2.2.2.2.1,kids:=x_9.2.2.2.2.2.2.2,blank:=false}).deep-(1:Int)),AX (Al (xh x_9) {kind:=x_9.2.2.2.2.2.1,text:=x_9.2.2.2.2.2.2.1,kids:=x_9.2.2.2.2.2.2.2,blank:=false}).nodes]]) (inR IntKind.i64 ((Au x_2.1.sg (xh x_2) x_2.2.2.2.2.2).deep-(1:Int))∧rA (JR n) x [.int .i64 y.1,.box 0 [sgs x_2.1.sg,.int .i64 (Au x_2.1.sg (xh x_2) x_2.2.2.2.2.2).pos,.bool (Au x_2.1.sg (xh x_2) x_2.2.2.2.2.2).bad,.int .i64 ((Au x_2.1.sg (xh x_2) x_2.2.2.2.2.2).deep-(1:Int)),AX (Au x_2.1.sg (xh x_2) x_2.2.2.2.2.2).nodes]])))) (fun x=>by kernel_rfl) fun(x:ST×Int×Int×Bool×List Nd) (hx:vQ 10 (n+1) x.1 (xg x))=>(by
 dsimp only[cA,Bx,Ag,AX,rA,GP,BO,FL,JR,Bg,BB,CE,sgs,srd,Az,AC,mvL,lnL,mvE,lnE]
 obtain⟨s,p,d,b,ns⟩:=x;dsimp only[xg,xh] at hx ⊢
 have hx:vQ 10 (n+1) s ⟨p,d,b,ns⟩:=hx
 have h1:=hx.1.1.1;have h2:=hx.1.1.2;have h3:=hx.1.2;have hs:=h1.1;dsimp only at h2 h3
 (repeat' first|(with_reducible first|rfl|exact True.intro|apply AN|apply And.intro|((first|apply AD|apply AL|apply AE|apply AM)<;>intro _))|(apply AA<;>intro _)|apply AK|refine Ae () ?_ ?_|((first|apply AR|apply AQ|apply AP|apply AO|apply AJ|apply AI|apply AH|apply AG|apply AF)<;>try dsimp only)|apply Ae|(refine Prod.forall.2 ?_;intro _;try dsimp only)|(intro _;try dsimp only))
 all_goals(try dsimp only[xg,xh,yG,yS,iG,iF] at*)
 all_goals(try simp only[Fj] at*)
 all_goals(try(first|(have hz:=a7d (b:=b) h2 ‹_› (show Af s.sg ⟨p,d+1,true,ns⟩ (pE s.sg n (.chain _)) _ by assumption))|(have hz:=a7e ‹_› (show Af s.sg ⟨p,d+1,b,ns⟩ (pE s.sg n (.chain _)) _ by assumption))))
 all_goals first
  |rfl
  |assumption
  |exact Xl h1.2 ‹_›
  |exact a7f hx ‹_›
  |exact a7g hx ‹_›
  |exact Ei h1 hz
  |(clear hz;exact Ei h1 ‹_›)
  |exact⟨WB h1 h2 h3 hz ‹_›,hx.2⟩
  |exact⟨a4s h1 h2 h3 hz ‹_› ‹_›,hx.2⟩
  |exact a4t h1 h2 hz ‹_› ‹_› ‹_›
  |exact a4u h1 h2 hz ‹_›
  |(have hq:=a4v h1 hz ‹_›;(try dsimp only at hq);(try simp only[AU]);omega)
  |(have hq:=a4w (show Af s.sg (Aq s.sg _ _) _ _ by assumption);(try dsimp only at hq);(try simp only[AU,RV]);omega)
  |(have hq:=(FG h1).1.2;dsimp only at hq;(try simp only[AU]);omega)
  |skip)
def Pb(n:Nat):Sig:= {X:=ST×Int×Int×Bool×List Nd,args:=fun x=>[srd x.1 (xg x)],pre:=fun x=>vQ 11 (n+1) x.1 (xg x),Y:=Int×Int×Int×Bool×List Nd,post:=fun x y=>Af x.1.sg (xg x) (pE x.1.sg (n+1) .value) (yS y),res:=fun x y=> .int .i64 y.1,outs:=fun x y=>[srd x.1 (yG y.2)],keep:=true}
def Pc(n:Nat)(x:ST×Int×Int×Bool×List Nd):LS:= {ι:=Int×Int×Bool×List Nd×List Int×Nat,inv:=fun i=>vaJ x.1.sg n (xg x) (iG i) i.2.2.2.2.1 i.2.2.2.2.2,regs:=fun i=>[(0,srd x.1 (iG i)),(4,Ag i.2.2.2.2.1)],als:=[],meas:=fun i=>i.2.2.2.2.2}
theorem a7l(n:Nat)(h:qAll G n):Am G Tryz.prog 172 (Pb n):=
 vcFun_okP [(187,0,(FL n)),(171,0,Dt),(142,0,BO),(138,0,Ci),(117,0,Bg),(141,0,BB),(188,0,(Fl n))] [(26,⟨Int,Bi⟩)] false (fun x=>[(5,Pc n x)]) Tryz.func172 rfl (by decide) ⟨h.pick,MM,Gm,IG,Gn,GL,(So n h),trivial⟩ (fun(x:ST×Int×Int×Bool×List Nd)=>True∧cA (FL n) [srd x.1 (xg x)] fun x_1 y=>cA Dt [srd x_1.1 (yG y.2),.int .i64 (4:Int),.str #[(46:UInt8),(46:UInt8)].toList] fun x_2 y_1=>Aa (!isG x_2.1.sg (xh x_2) x_2.2.2.2.2.2.1 x_2.2.2.2.2.2.2) (rA (Pb n) x [.int .i64 y.1,srd x_2.1 (xh x_2)]) (∃(x_3:Int),y.1=x_3∧eA (Pc n x) [srd x_2.1 (xh x_2),Ag [x_3]]∧∀(i:Int×Int×Bool×List Nd×List Int×Nat),vaJ x.1.sg n (xg x) (iG i) i.2.2.2.2.1 i.2.2.2.2.2→cA BO [srd x.1 (iG i),.str #[(46:UInt8),(46:UInt8)].toList] fun x_4 y=>Aa (isG x_4.1.sg (xh x_4) (4:Int) x_4.2.2.2.2.2) (cA Ci [srd x_4.1 (Au x_4.1.sg (xh x_4) x_4.2.2.2.2.2),.int .i64 (1:Int)] fun x_5 y=>cA Bg [srd x_5.1 (Bc x_5.1.sg (xh x_5) x_5.2.2.2.2.2),.int .i64 (1:Int),.str (Bq x_5.1.sg (xh x_5) x_5.2.2.2.2.2),Ag []] fun x_6 y=>cA BB [srd x_6.1 (Al (xh x_6) {kind:=x_6.2.2.2.2.2.1,text:=x_6.2.2.2.2.2.2.1,kids:=x_6.2.2.2.2.2.2.2,blank:=false}),.str #[(40:UInt8)].toList] fun x_7 y=>∃(x_8:Int),AB (xh x_6)=x_8∧cA (Fl n) [srd x_7.1 (Aq x_7.1.sg (xh x_7) x_7.2.2.2.2.2),.str #[(41:UInt8)].toList,Ag [x_8]] fun x_9 y=>cA Bg [srd x_9.1 (yG y.2),.int .i64 (5:Int),.str #[].toList,Ag y.1] fun x_10 y=>∃(x_11:Int),AB (xh x_10)=x_11∧∃(zs:List Int),Ag [x_11]=Ag zs∧Cd Bi∧Bf (List.length i.2.2.2.2.1+List.length zs) (8:Nat)∧eN (Pc n x) i [srd x_10.1 (Al (xh x_10) {kind:=x_10.2.2.2.2.2.1,text:=x_10.2.2.2.2.2.2.1,kids:=x_10.2.2.2.2.2.2.2,blank:=false}),Ag (i.2.2.2.2.1++zs)]) (cA Bg [srd x_4.1 (Au x_4.1.sg (xh x_4) x_4.2.2.2.2.2),.int .i64 (10:Int),.str #[].toList,Ag i.2.2.2.2.1] fun x_5 y=>rA (Pb n) x [.int .i64 (AB (xh x_5)),srd x_5.1 (Al (xh x_5) {kind:=x_5.2.2.2.2.2.1,text:=x_5.2.2.2.2.2.2.1,kids:=x_5.2.2.2.2.2.2.2,blank:=false})]))) (fun x=>by kernel_rfl) fun(x:ST×Int×Int×Bool×List Nd) (hx:vQ 11 (n+1) x.1 (xg x))=>(by
 dsimp only[cA,eA,eN,Pc,Bx,Ag,AX,rA,Dt,BO,FL,Bg,Ci,Pb,Fl,BB,CE,sgs,srd,Az,AC,mvL,lnL,mvE,lnE,Bt]
 obtain⟨s,p,d,b,ns⟩:=x;dsimp only[xg,xh] at hx ⊢
 have hx:vQ 11 (n+1) s ⟨p,d,b,ns⟩:=hx
 have h1:=hx.1.1.1;have h2:=hx.1.1.2;have h3:=hx.1.2;have hs:=h1.1;dsimp only at h2 h3
 (repeat' first|(with_reducible first|rfl|exact True.intro|apply AN|apply And.intro|((first|apply AD|apply AL|apply AE|apply AM)<;>intro _))|(apply AA<;>intro _)|apply AK|refine Ae () ?_ ?_|((first|apply AR|apply AQ|apply AP|apply AO|apply AJ|apply AI|apply AH|apply AG|apply AF)<;>try dsimp only)|apply Ae|(refine Prod.forall.2 ?_;intro _;try dsimp only)|(intro _;try dsimp only))
 all_goals(try dsimp only[xg,xh,yG,yS,iG] at*)
 all_goals(try simp only[Fj] at*)
 all_goals first
  |(show Nat;skip)
  |rfl
  |assumption
  |exact⟨a4x h1 h2 h3,hx.2⟩
  |exact Ei h1 ‹_›
  |exact a4y h1 ‹_› ‹_›
  |exact a4z h1 h2 ‹_› ‹_›
  |exact RW h1 ‹_›
  |exact(Sv hs ‹_›).1
  |exact(Sv hs ‹_›).2.1
  |exact(Sv hs ‹_›).2.2
  |exact a7h hx ‹_› ‹_›
  |exact Sr hs ‹_›
  |exact(XC hs ‹_› ‹_› ‹_›).1
  |exact a4B h1 ‹_› ‹_›
  |exact a4C h1 ‹_› ‹_›
  |omega
  |(simp;done)
  |(have hq:=a4A hs (show vaJ _ _ _ _ _ _ by assumption);(try simp only[Bf,List.length_append,List.length_cons,List.length_nil]);omega)
  |skip
 all_goals first
  |exact(XC hs ‹_› ‹_› ‹_›).2
  |skip)
theorem Sw{r:Nat}{s:ST}{g:Gs}(hr:1≤r)(h:wQ r 0 s g):False:=a5j hr h.1
theorem XD{r:Nat}{s:ST}{g:Gs}(hr:1≤r)(h:vQ r 0 s g):False:=a5k hr h.1
theorem a7m:qAll G 0:=
 ⟨JM Tryz.func172 rfl (by decide) (fun x h=>XD (by omega) h),JM Tryz.func187 rfl (by decide) (fun x h=>XD (by omega) h),
  JM Tryz.func202 rfl (by decide) (fun x h=>Sw (by have:=h.2;omega) h.1),JM Tryz.func212 rfl (by decide) (fun x h=>Sw (by omega) h),JM Tryz.func222 rfl (by decide) (fun x h=>Sw (by omega) h)⟩
theorem a7n(n:Nat):qAll G n:=by
 induction n with
 |zero=>exact a7m
 |succ n ih=>exact⟨a7l n ih,a7k n ih,a7j n ih,a6R n ih,a6Q n ih⟩
def EP:Sig:= {X:=ST×Int×Int×Bool×List Nd,args:=fun x=>[srd x.1 (xg x)],pre:=fun x=>okD x.1 (xg x)∧sgM x.1.sg,Y:=Int×Int×Int×Bool×List Nd,post:=fun x y=>Af x.1.sg (xg x) (Ca x.1.sg) (yS y),res:=fun x y=> .int .i64 y.1,outs:=fun x y=>[srd x.1 (yG y.2)],keep:=true}
theorem XE{s:ST}{g:Gs}(h:okD s g∧sgM s.sg):vQ 11 peN s g:=⟨a5l h.1,h.2⟩
theorem Sx:Am G Go.Proofs.Tryz.prog 172 EP:=
 have c:=(a7n (G:=G) peN).val
 ⟨⟨c.1.1,fun x y hx hy=>c.1.2 x y (XE hx) hy⟩,fun x hx=>c.2 x (XE hx)⟩
end Go.My
end
section
set_option linter.unusedVariables false
set_option linter.unusedSimpArgs false
namespace Go.My
open Go.Eng
def Sy(e:Nd)(b:Bool):Nd:=⟨e.kind,e.text,e.kids,b⟩
def Pd(b:Bool)(p:Int×Ps):Int×Ps:=(p.1,⟨p.2.pos,p.2.deep,p.2.nodes.set p.1.toNat (Sy (Ai p.2.nodes p.1) b)⟩)
def BL(f:Bool→Ps→PR):Prop:=∀b s,f b s=(f false s).map (Pd b)∧∀p,f b s=some p→1≤p.2.nodes.length∧p.1=(p.2.nodes.length:Int)-1
theorem Ln{k:Int}{t:List UInt8}{ks:List Int}:BL (fun b=>AZ ⟨k,t,ks,b⟩):=by
 intro b s
 by_cases h:300≤s.nodes.length
 ·simp only[Sh h];exact⟨rfl,fun p hp=>by cases hp⟩
 ·simp only[Sf h]
  refine⟨?_,fun p hp=>by simp only[Option.some.injEq] at hp;subst hp;simp⟩
  simp only[Option.map_some,Pd,Int.toNat_natCast]
  congr 3
  have e:Ai (s.nodes++[⟨k,t,ks,false⟩]) (s.nodes.length:Int)=⟨k,t,ks,false⟩:=Br (by simp)
  rw[e]
  simp [Sy]
theorem XF{f:Bool→Ps→PR}(h:BL f):BL (fun b s=>Fg (f b s)):=by
 intro b s
 obtain⟨h1,h2⟩:=h b s
 refine⟨?_,fun p hp=> ?_⟩
 ·simp only[Fg];rw[h1]
  cases f false s with
  |none=>rfl
  |some p=>rfl
 ·simp only[Fg,Option.map_eq_some_iff] at hp
  obtain⟨q,hq,rfl⟩:=hp
  exact h2 q hq
theorem EQ{α:Type}{h:Ps→Option (α×Ps)}{g:Bool→α→Ps→PR}(hg:∀a,BL (fun b=>g b a)):BL (fun b s=>(h s).bind fun p=>g b p.1 p.2):=by
 intro b s
 simp only
 cases h s with
 |none=>exact⟨rfl,fun p hp=>by cases hp⟩
 |some p=>exact hg p.1 b p.2
theorem Sz{h:Ps→Option Ps}{g:Bool→Ps→PR}(hg:BL g):BL (fun b s=>(h s).bind fun p=>g b p):=by
 intro b s
 simp only
 cases h s with
 |none=>exact⟨rfl,fun p hp=>by cases hp⟩
 |some p=>exact hg b p
theorem ER{c:Ps→Prop}[inst:∀s,Decidable (c s)]{f g:Bool→Ps→PR}(hf:BL f)(hg:BL g):BL (fun b s=>if c s then f b s else g b s):=by
 intro b s
 by_cases h:c s
 ·simp only[if_pos h];exact hf b s
 ·simp only[if_neg h];exact hg b s
theorem XG:BL (fun _ _=>none):=fun b s=>⟨rfl,fun p hp=>by cases hp⟩
theorem JS{f:Bool→Ps→PR}{a:Ps→Ps}(h:BL f):BL (fun b s=>f b (a s)):=fun b s=>h b (a s)
theorem a7o{f:Ps→Bool→Ps→PR}(h:∀q,BL (f q)):BL (fun b s=>f s b s):=fun b s=>h s b s
theorem SA{sg:List Sg}{k:Int}:BL (EK sg k):=fun b s=>XF (Ln (k:=k) (t:=(sgO sg s.pos).text) (ks:=[])) b s
theorem JT{sg:List Sg}{m:List UInt8}{k:Int}{t:List UInt8}{ks:List Int}:BL (fun b=>Bm sg m ⟨k,t,ks,b⟩):=ER (c:=fun s=>isM sg s m=true) (XF Ln) XG
theorem SB{sg:List Sg}:BL (CW sg):=
 EQ (h:=FD sg) (g:=fun b t s=>if isM sg s [61] then(Ca sg (adv s)).bind fun q=>Bm sg [59] ⟨12,t,[q.1],b⟩ q.2 else Bm sg [59] ⟨12,t,[],b⟩ s) (fun t=>
  ER (c:=fun s=>isM sg s [61]=true) (EQ (h:=fun s=>Ca sg (adv s)) (g:=fun b k s=>Bm sg [59] ⟨12,t,[k],b⟩ s) (fun _=>JT)) JT)
theorem a7p{sg:List Sg}:BL (FJ sg):=
 ER (c:=fun s=>isM sg s [59]=true) JT (EQ (h:=Ca sg) (g:=fun b k s=>Bm sg [59] ⟨15,[],[k],b⟩ s) (fun _=>JT))
theorem a7q{sg:List Sg}{n:Nat}:BL (ifR sg n):=
 EQ (h:=Dc sg) (g:=fun b c s=>(BF sg (stR sg n) s).bind fun q=>if isW sg q.2 [101,108,115,101] then(BF sg (stR sg n) (adv q.2)).bind fun r=>AZ ⟨16,[],[c,q.1,r.1],b⟩ r.2 else AZ ⟨16,[],[c,q.1],b⟩ q.2) (fun c=>
  EQ (h:=BF sg (stR sg n)) (g:=fun b k s=>if isW sg s [101,108,115,101] then(BF sg (stR sg n) (adv s)).bind fun r=>AZ ⟨16,[],[c,k,r.1],b⟩ r.2 else AZ ⟨16,[],[c,k],b⟩ s) (fun k=>
   ER (c:=fun s=>isW sg s [101,108,115,101]=true) (EQ (h:=fun s=>BF sg (stR sg n) (adv s)) (g:=fun b r s=>AZ ⟨16,[],[c,k,r],b⟩ s) (fun _=>Ln)) Ln))
theorem a7r{sg:List Sg}{n:Nat}:BL (whR sg n):=
 EQ (h:=Dc sg) (g:=fun b c s=>(BF sg (stR sg n) s).bind fun q=>AZ ⟨17,[],[c,q.1],b⟩ q.2) (fun c=>EQ (h:=BF sg (stR sg n)) (g:=fun b k s=>AZ ⟨17,[],[c,k],b⟩ s) (fun _=>Ln))
theorem a7s{sg:List Sg}:BL (doR sg):=EQ (h:=Ca sg) (g:=fun b k s=>Bm sg [59] ⟨14,[],[k],b⟩ s) (fun _=>JT)
theorem SC{sg:List Sg}:∀ {n:Nat},BL (stR sg n)
 |0=>XG
 |n+1=>by
  intro b s
  rw[HH,HH]
  exact ER (c:=fun s=>(sgO sg s.pos).kind=5) SA (ER (c:=fun s=>isW sg s [118,97,114]=true) (JS (a:=adv) SB) (ER (c:=fun s=>isW sg s [114,101,116,117,114,110]=true) (JS (a:=adv) a7p)
   (ER (c:=fun s=>isW sg s [105,102]=true) (JS (a:=adv) a7q) (ER (c:=fun s=>isW sg s [119,104,105,108,101]=true) (JS (a:=adv) a7r)
     (ER (c:=fun s=>(CV sg s.pos&&isM sg (adv s) [61])=true) (a7o (f:=fun q b s=>(Ca sg (adv (adv s))).bind fun p=>Bm sg [59] ⟨13,(sgO sg q.pos).text,[p.1],b⟩ p.2) (fun q=>EQ (h:=fun s=>Ca sg (adv (adv s))) (g:=fun b k s=>Bm sg [59] ⟨13,(sgO sg q.pos).text,[k],b⟩ s) (fun _=>JT))) a7s))))) b s
theorem XH{sg:List Sg}:BL (FF sg):=
 EQ (h:=FD sg) (g:=fun b t s=>(Bv sg [40] s).bind fun s1=>(Bo sg (BM sg) [41] (sg.length+1) [] s1).bind fun q=>(Bv sg [41] q.2).bind fun s2=>(Ev sg s2).bind fun r=>AZ ⟨20,t,q.1++[r.1],b⟩ r.2) (fun t=>
  Sz (h:=Bv sg [40]) (g:=fun b s1=>(Bo sg (BM sg) [41] (sg.length+1) [] s1).bind fun q=>(Bv sg [41] q.2).bind fun s2=>(Ev sg s2).bind fun r=>AZ ⟨20,t,q.1++[r.1],b⟩ r.2)
   (EQ (h:=Bo sg (BM sg) [41] (sg.length+1) []) (g:=fun b ks s=>(Bv sg [41] s).bind fun s2=>(Ev sg s2).bind fun r=>AZ ⟨20,t,ks++[r.1],b⟩ r.2) (fun ks=>
     Sz (h:=Bv sg [41]) (g:=fun b s2=>(Ev sg s2).bind fun r=>AZ ⟨20,t,ks++[r.1],b⟩ r.2) (EQ (h:=Ev sg) (g:=fun b k s=>AZ ⟨20,t,ks++[k],b⟩ s) (fun _=>Ln)))))
theorem SD{sg:List Sg}:BL (CP sg):=ER (c:=fun s=>(sgO sg s.pos).kind=5) SA (ER (c:=fun s=>isW sg s [118,97,114]=true) (JS (a:=adv) SB) XH)
theorem a7t{sg:List Sg}:BL (Gj sg):=
 EQ (h:=FD sg) (g:=fun b t s=>(Bv sg [123] s).bind fun s1=>(Cs sg (CP sg) [125] (sg.length+1) [] s1).bind fun q=>Bm sg [125] ⟨21,t,q.1,b⟩ q.2) (fun t=>
  Sz (h:=Bv sg [123]) (g:=fun b s1=>(Cs sg (CP sg) [125] (sg.length+1) [] s1).bind fun q=>Bm sg [125] ⟨21,t,q.1,b⟩ q.2)
   (EQ (h:=Cs sg (CP sg) [125] (sg.length+1) []) (g:=fun b ks s=>Bm sg [125] ⟨21,t,ks,b⟩ s) (fun _=>JT)))
theorem SE{sg:List Sg}:BL (CX sg):=ER (c:=fun s=>(sgO sg s.pos).kind=5) SA (ER (c:=fun s=>isW sg s [118,97,114]=true) (JS (a:=adv) SB) (ER (c:=fun s=>isW sg s [99,108,97,115,115]=true) (JS (a:=adv) a7t) XH))
theorem XI{sg:List Sg}{x y:Gs}{f:Bool→Ps→PR}{k:Int}(hf:BL f)(h:Af sg x (f false) (k,y))(hb:y.bad=false):1≤y.nodes.length∧k=(y.nodes.length:Int)-1:=by
 obtain⟨⟨a1,a2,a3,a4,a5⟩,_⟩:=h
 simp only at a4 a5
 rw[CH hb] at a4
 cases hp:(pur x).bind (f false) with
 |none=>rw[hp] at a4;cases a4
 |some p=>
  rw[hp] at a4
  simp only[Option.map_some,Option.some.injEq] at a4
  have e:=a5 p hp
  cases hs:pur x with
  |none=>rw[hs] at hp;cases hp
  |some s=>
   rw[hs] at hp;simp only[Option.bind_some] at hp
   have:=(hf false s).2 p hp
   rw[←a4] at this;simp only at this;rw[e];exact this
theorem SF{sg:List Sg}{x y:Gs}{f:Bool→Ps→PR}{k:Int}{b:Bool}(hf:BL f)(h:Af sg x (f false) (k,y)):Af sg x (f b) (k,gBl y k b):=by
 have hk:=XI hf h
 obtain⟨⟨a1,a2,a3,a4,a5⟩,c⟩:=h
 simp only at a1 a2 a3 a4 a5 c
 have eb:(pur x).bind (f b)=((pur x).bind (f false)).map (Pd b):=by
  cases pur x with
  |none=>rfl
  |some s=>exact(hf b s).1
 cases hb:y.bad with
 |true=>
  have e:gBl y k b=y:=by rw[gBl,if_neg (by simp [hb])]
  rw[e]
  rw[Dq hb] at a4
  have hn:(pur x).bind (f false)=none:=by
   cases hp:(pur x).bind (f false) with
   |none=>rfl
   |some p=>rw[hp] at a4;cases a4
  refine⟨⟨a1,a2,a3,?_,fun p hp=> ?_⟩,c⟩
  ·rw[eb,hn,Dq hb];rfl
  ·rw[eb,hn] at hp;cases hp
 |false=>
  obtain⟨k1,k2⟩:=hk hb
  have hlt:k<(y.nodes.length:Int):=by omega
  have e:gBl y k b=⟨y.pos,y.deep,y.bad,y.nodes.set k.toNat (Sy (Ai y.nodes k) b)⟩:=by rw[gBl,if_pos ⟨hb,hlt⟩];rfl
  rw[e]
  have hat:CG (Ai y.nodes k):=by
   have hkl:k.toNat<y.nodes.length:=by omega
   have:=a1.2.2.2 (y.nodes[k.toNat]) (List.getElem_mem hkl)
   rw[Br (List.getElem?_eq_getElem hkl)];exact this
  refine⟨⟨⟨a1.1,a1.2.1,by simpa using a1.2.2.1,fun w hw=> ?_⟩,a2,a3,?_,fun p hp=> ?_⟩,c⟩
  ·rcases List.mem_or_eq_of_mem_set hw with hw|hw
   ·exact a1.2.2.2 w hw
   ·subst hw;exact hat
  ·rw[eb]
   rw[CH hb] at a4
   cases hp:(pur x).bind (f false) with
   |none=>rw[hp] at a4;cases a4
   |some p=>
    rw[hp] at a4
    simp only[Option.map_some,Option.some.injEq] at a4 ⊢
    have:=a5 p hp
    rw[CH (by exact hb)]
    simp only[Pd,←a4,this]
  ·rw[eb,Option.map_eq_some_iff] at hp
   obtain⟨q,hq,rfl⟩:=hp
   exact a5 q hq
theorem Lo{sg:List Sg}{x y:Gs}{f:Bool→Ps→PR}{k:Int}(hf:BL f)(h:Af sg x (f false) (k,y)):y.bad=false→0≤k:=fun hb=>by have:=XI hf h hb;omega
theorem SG{sg:List Sg}{y:Gs}(hb:y.bad=false):blG sg y=(pkG sg y 0).blank:=by
 rw[blG,pkG]
 by_cases h:y.pos<sg.length
 ·rw[if_neg (by simp [hb];omega)];simp [h]
 ·rw[if_pos (.inr (by omega))];simp [h,DW]
theorem a7u{sg:List Sg}{x:Gs}{one:Bool→Ps→PR}(h:gsOk sg x)(hd:x.deep≤20):restP sg x (BF sg one) (pkX (Aq sg x [123]))
 (fun s1=>(Cs sg one [125] (sg.length+1) [] s1).bind fun p=>(Bm sg [125] ⟨18,[],p.1,false⟩ p.2).map fun q=>(q.1,dp q.2 (-1))) 1:=by
 have t:=Gl (m:=[123]) h
 have a:=a4K (one:=one) h hd
 have t1:=t.1;have t2:=t.2.1
 by_cases h20:x.deep=20
 ·rw[if_pos h20] at a
  have e:pkX (Aq sg x [123])=gDp (Bn (Aq sg x [123])) 1:=by rw[pkX,if_pos (by omega)]
  have e2:Aq sg (gDp (Bn x) 1) [123]=gDp (Bn x) 1:=OO rfl
  rw[e2] at a
  rw[e]
  refine Sd a ⟨t1.1,by simp only[gDp,Bn];omega,t1.2.2⟩ (by simp only[gDp,Bn];omega) (by simp only[gDp,Bn];omega) rfl
 ·rw[if_neg h20] at a
  have e:pkX (Aq sg x [123])=gDp (Aq sg x [123]) 1:=by rw[pkX,if_neg (by omega)]
  rw[e]
  have e2:Aq sg (gDp x 1) [123]=gDp (Aq sg x [123]) 1:=by
   have:isG sg (gDp x 1) 4 [123]=isG sg x 4 [123]:=rfl
   cases hq:isG sg x 4 [123] with
   |true=>rw[HI hq,HI (by rw[this];exact hq)];rfl
   |false=>rw[MO hq,MO (by rw[this];exact hq)];rfl
  rw[e2] at a;exact a
theorem XJ{g:Gs}{d:Int}{w:Nd}:Al (gDp g d) w=gDp (Al g w) d∧AB (gDp g d)=AB g:=by
 have hf:Dd (gDp g d)=Dd g:=rfl
 unfold Al AB
 rw[hf]
 cases Dd g<;>exact⟨rfl,rfl⟩
theorem XK{sg:List Sg}{one:Bool→Ps→PR}{x:Gs}{l:List Int×Gs}(h:gsOk sg x)(hd:x.deep≤20)(hl:Bu sg (pkX (Aq sg x [123])) (Cs sg one [125] (sg.length+1) []) l)(hll:l.1.length≤3001):
 Af sg x (BF sg one) (AB (gDp (Aq sg l.2 [125]) (-1)),Al (gDp (Aq sg l.2 [125]) (-1)) ⟨18,[],l.1,false⟩):=by
 have k1:=BH (k:=fun ks s=>(Bm sg [125] ⟨18,[],ks,false⟩ s).map fun q=>(q.1,dp q.2 (-1))) (a7u h hd) hl (fun _ _=>rfl)
 have hw:CG ⟨18,[],l.1,false⟩:=⟨by simp,by simp only;omega⟩
 have hc:=GM k1.1 hw (La (m:=[125]) k1.1 hw)
 have k2:=BH (k:=fun k s=>some (k,dp s (-1))) k1 hc.1 (fun s _=>by cases Bm sg [125] ⟨18,[],l.1,false⟩ s<;>rfl)
 simp only at k2
 rw[(XJ (w:=⟨18,[],l.1,false⟩)).1,(XJ (w:=⟨18,[],l.1,false⟩)).2]
 refine⟨FH (JJ (e:= -1) k2 ?_ (fun s hs=>rfl)),fun hb=> ?_⟩
 ·have:=k2.2.1;have:=h.2.1;omega
 ·have:=hc.2 hb
  have:=k1.2.2.1
  simp only[gDp] at*;omega
end Go.My
end
section
set_option linter.unusedVariables false
set_option linter.unusedSimpArgs false
namespace Go.My
open Go.Eng Go.Proofs
variable {G:GInv}
def okQ(s:ST)(x:Gs):Prop:=okD s x∧sgM s.sg
theorem DN{s:ST}{x:Gs}(h:okQ s x):okD s x:=h.1
theorem Lp{s:ST}{x:Gs}(h:okQ s x):sgM s.sg:=h.2
theorem HL{sg:List Sg}{x:Gs}{m:List UInt8}(h:isG sg x 1 m=false):Bs sg x m=x:=by simp [Bs,h]
theorem HM{sg:List Sg}{x:Gs}{m:List UInt8}(h:isG sg x 1 m=true):Bs sg x m=An x:=by simp [Bs,h]
theorem Fo{s:ST}{x:Gs}{m:List UInt8}(h:okQ s x)(hq:isG s.sg x 1 m=true):okQ s (An x):=⟨WQ h.1 hq,h.2⟩
theorem SH{s:ST}{x:Gs}(h:okQ s x):rOk s (Bc s.sg x 1)∧rOk s (Au s.sg (Bc s.sg x 1) [61]):=by
 have a:=Gp (k:=1) h.1.1 (by omega);exact⟨a,Ez a⟩
theorem a7v{s:ST}{x:Gs}(h:okQ s x)(hq:isG s.sg (Bc s.sg x 1) 4 [61]=true):okQ s (Au s.sg (Bc s.sg x 1) [61]):=by
 rw[GN.1] at hq ⊢
 exact⟨a5n h.1.1 h.1.2 hq,h.2⟩
theorem a7w{s:ST}{x:Gs}{z:Int×Gs}(h:okQ s x)(hq:isG s.sg (Bc s.sg x 1) 4 [61]=true)(hz:Af s.sg (Au s.sg (Bc s.sg x 1) [61]) (Ca s.sg) z):
 Af s.sg x (CW s.sg false) (AB (Aq s.sg z.2 [59]),Al (Aq s.sg z.2 [59]) ⟨12,Bq s.sg x 1,[z.1],false⟩):=by
 rw[GN.1] at hq hz;rw[GN.2]
 exact GM (EM hz) (DZ (HG h.1.1.1) (by simp)) (a5o h.1.1 hq hz)
theorem a7x{s:ST}{x:Gs}(h:okQ s x)(hq:isG s.sg (Bc s.sg x 1) 4 [61]=false):
 Af s.sg x (CW s.sg false) (AB (Aq s.sg (Au s.sg (Bc s.sg x 1) [61]) [59]),Al (Aq s.sg (Au s.sg (Bc s.sg x 1) [61]) [59]) ⟨12,Bq s.sg x 1,[],false⟩):=by
 rw[GN.1] at hq ⊢;rw[GN.2]
 exact GM (a5p h.1.1 hq).2 (DZ (HG h.1.1.1) (by simp)) (a5q h.1.1 hq)
def mbS(sg:List Sg)(n:Nat)(x y:Gs)(ks:List Int)(N:Nat):Prop:=
 IB sg (stR sg n) [125] (pkX (Aq sg x [123])) y ks N∧y.deep=x.deep+1∧(y.bad=false→x.deep≠20)
theorem XL{s:ST}{x:Gs}{n:Nat}(h:okQ s x):mbS s.sg n x (pkX (Aq s.sg x [123])) [] (s.sg.length+1):=by
 have t:=Gl (m:=[123]) h.1.1.2
 obtain⟨p1,p2,p3⟩:= @MF (Aq s.sg x [123])
 have t1:=t.1;have t2:=t.2.1;have hd:=h.1.2
 refine⟨WE ⟨by simp only[pkX] at*;rw[p1];exact t1.1,by simp only[pkX] at*;rw[p2];have:=t1.2.1;omega,?_⟩,by simp only[pkX] at*;rw[p2];omega,fun hb=>by have:=(p3 hb).2;omega⟩
 have e:(pkX (Aq s.sg x [123])).nodes=(Aq s.sg x [123]).nodes:=by unfold pkX;split<;>rfl
 rw[e];exact t1.2.2
theorem a7y{s:ST}{x:Gs}{n:Nat}(h:okQ s x)(h20:(Aq s.sg x [123]).deep+1>20):mbS s.sg n x ⟨(Aq s.sg x [123]).pos,(Aq s.sg x [123]).deep+1,true,(Aq s.sg x [123]).nodes⟩ [] (s.sg.length+1):=by
 have a:=XL (n:=n) h
 have t2:=(Gl (m:=[123]) h.1.1.2).2.1;have hd:=h.1.2
 have e:pkX (Aq s.sg x [123])=⟨(Aq s.sg x [123]).pos,(Aq s.sg x [123]).deep+1,true,(Aq s.sg x [123]).nodes⟩:=by rw[pkX,if_pos (by omega)];rfl
 rw[←e];exact a
theorem a7z{s:ST}{x:Gs}{n:Nat}(h:okQ s x)(h20:¬(Aq s.sg x [123]).deep+1>20):mbS s.sg n x ⟨(Aq s.sg x [123]).pos,(Aq s.sg x [123]).deep+1,(Aq s.sg x [123]).bad,(Aq s.sg x [123]).nodes⟩ [] (s.sg.length+1):=by
 have a:=XL (n:=n) h
 have e:pkX (Aq s.sg x [123])=⟨(Aq s.sg x [123]).pos,(Aq s.sg x [123]).deep+1,(Aq s.sg x [123]).bad,(Aq s.sg x [123]).nodes⟩:=by rw[pkX,if_neg (by omega)];rfl
 rw[←e];exact a
theorem a7A{s:ST}{x:Gs}(h:okQ s x):0≤(Aq s.sg x [123]).deep∧(Aq s.sg x [123]).deep≤20:=by
 have t:=Gl (m:=[123]) h.1.1.2
 have:=t.1.2.1;have:=t.2.1;have:=h.1.2;omega
theorem Pe{s:ST}{x y:Gs}{n:Nat}{ks:List Int}{N:Nat}(h:okQ s x)(hj:mbS s.sg n x y ks N):rOk s y:=⟨h.1.1.1,hj.1.1.1⟩
theorem SI{s:ST}{x y:Gs}{n:Nat}{ks:List Int}{N:Nat}(h:okQ s x)(h2:20-x.deep≤(n:Int))(hj:mbS s.sg n x y ks N)(hb:y.bad=false)(hq:isG s.sg y 4 [125]=false):okQ s (Au s.sg y [125])∧(Au s.sg y [125]).bad=false∧21-(Au s.sg y [125]).deep≤(n:Int):=by
 rw[CY hq]
 have:=hj.2.1;have:=hj.2.2 hb;have:=h.1.2
 exact⟨⟨⟨Pe h hj,by omega⟩,h.2⟩,hb,by omega⟩
theorem SJ{s:ST}{x y:Gs}{n:Nat}{ks:List Int}{N:Nat}(h:okQ s x)(hj:mbS s.sg n x y ks N):ks.length≤3001:=by
 have:=hj.1.2.2.1;have:=hj.1.1.1.1;have:=h.1.1.1.1;omega
theorem Pf{s:ST}{x y:Gs}{n:Nat}{ks:List Int}{N:Nat}{b:Bool}{z:Int×Gs}(hj:mbS s.sg n x y ks N)(hb:y.bad=false)(hq:isG s.sg y 4 [125]=false)(hz:Af s.sg (Au s.sg y [125]) (stR s.sg n false) z)(e:b=(blG s.sg (Au s.sg y [125])&&decide (0<(ks.length:Int)))):
 mbS s.sg n x (gBl z.2 z.1 b) (ks++[z.1]) (N-1)∧N-1<N:=by
 rw[CY hq] at hz e
 rw[SG hb] at e
 have hz2:Af s.sg y (stR s.sg n b) (z.1,gBl z.2 z.1 b):=SF SC hz
 subst e
 obtain⟨a,b⟩:=Le (WI hj.1 hb hq (z:=(z.1,gBl z.2 z.1 ((pkG s.sg y 0).blank&&decide (0<(ks.length:Int))))) (by
  have:decide (0<ks.length)=decide (0<(ks.length:Int)):=by simp
  rw[this];exact hz2))
 have:=(Ct hz2).1
 exact⟨⟨a,by have:=hj.2.1;simp only at*;omega,fun hw=>hj.2.2 hb⟩,b⟩
theorem a7B{s:ST}{x y:Gs}{n:Nat}{ks:List Int}{N:Nat}(h:okQ s x)(hj:mbS s.sg n x y ks N)(hq:isG s.sg y 4 [125]=true):
 Af s.sg x (BF s.sg (stR s.sg n)) (AB (gDp (Au s.sg y [125]) (-1)),Al (gDp (Au s.sg y [125]) (-1)) ⟨18,[],ks,false⟩):=by
 rw[DM hq,←HI hq]
 exact XK (l:=(ks,y)) h.1.1.2 h.1.2 (WH hj.1 hq) (SJ h hj)
theorem a7C{s:ST}{x y:Gs}{n:Nat}{ks:List Int}{N:Nat}(h:okQ s x)(hj:mbS s.sg n x y ks N)(hb:y.bad=true):
 Af s.sg x (BF s.sg (stR s.sg n)) (AB (gDp y (-1)),Al (gDp y (-1)) ⟨18,[],ks,false⟩):=by
 have a:=XK (l:=(ks,y)) h.1.1.2 h.1.2 (WF hj.1 hb) (SJ h hj)
 simp only[OO hb] at a;exact a
theorem SK{s:ST}{x y:Gs}{n:Nat}{ks:List Int}{N:Nat}(h:okQ s x)(hj:mbS s.sg n x y ks N):(1≤y.deep∧y.deep≤21)∧rOk s (gDp y (-1))∧rOk s (gDp (Au s.sg y [125]) (-1))∧(Au s.sg y [125]).deep=y.deep:=by
 have h1:=hj.2.1;have h2:=h.1.1.2.2.1;have h3:=h.1.2
 have a:=Pe h hj
 have b:=Ez (m:=[125]) a
 have e:(Au s.sg y [125]).deep=y.deep:=by unfold Au;split<;>rfl
 refine⟨by omega,⟨a.1,a.2.1,by simp only[gDp];omega,a.2.2.2⟩,⟨b.1,b.2.1,by simp only[gDp];omega,b.2.2.2⟩,e⟩
theorem a7D{s:ST}{x:Gs}{n:Nat}(h:okQ s x)(hk:kdG s.sg x 5=true):Af s.sg x (stR s.sg (n+1) false) (AB (Bc s.sg x 5),Al (Bc s.sg x 5) ⟨19,Bq s.sg x 5,[],false⟩):=by
 have hn:=hk
 rw[MN (by omega)] at hn
 exact Ll h.1.1.1 h.1.1.2 (by omega) hk (a4Q h.1.1.1 h.1.1.2 (by simpa using hn))
theorem FM{sg:List Sg}{x:Gs}(h:kdG sg x 5=false):(pkG sg x 0).kind≠5:=HK h (by omega)
theorem a7E{s:ST}{x:Gs}{n:Nat}{z:Int×Gs}(h:okQ s x)(hk:kdG s.sg x 5=false)(hq:isG s.sg x 1 [118,97,114]=true)(hz:Af s.sg (An x) (CW s.sg false) z):Af s.sg x (stR s.sg (n+1) false) z:=a4R h.1.1.2 (FM hk) hq hz
theorem a7F{s:ST}{x:Gs}{n:Nat}(h:okQ s x)(hk:kdG s.sg x 5=false)(h1:isG s.sg x 1 [118,97,114]=false)(hq:isG s.sg x 1 [114,101,116,117,114,110]=true)(hs:isG s.sg (An x) 4 [59]=true):
 Af s.sg x (stR s.sg (n+1) false) (AB (Aq s.sg (An x) [59]),Al (Aq s.sg (An x) [59]) ⟨15,[],[],false⟩):=by
 have o:=(Fo h hq).1.1.2
 exact WK h.1.1.2 (FM hk) h1 hq (GM o (DZ (by simp) (by simp)) (a4F o hs))
theorem a7G{s:ST}{x:Gs}{n:Nat}{z:Int×Gs}(h:okQ s x)(hk:kdG s.sg x 5=false)(h1:isG s.sg x 1 [118,97,114]=false)(hq:isG s.sg x 1 [114,101,116,117,114,110]=true)(hs:isG s.sg (An x) 4 [59]=false)(hz:Af s.sg (An x) (Ca s.sg) z):
 Af s.sg x (stR s.sg (n+1) false) (AB (Aq s.sg z.2 [59]),Al (Aq s.sg z.2 [59]) ⟨15,[],[z.1],false⟩):=by
 have o:=(Fo h hq).1.1.2
 exact WK h.1.1.2 (FM hk) h1 hq (GM (EM hz) (DZ (by simp) (by simp)) (a4G o hs hz))
theorem a7H{s:ST}{x:Gs}{n:Nat}{c q:Int×Gs}(h:okQ s x)(hk:kdG s.sg x 5=false)(h1:isG s.sg x 1 [118,97,114]=false)(h2:isG s.sg x 1 [114,101,116,117,114,110]=false)(hq:isG s.sg x 1 [105,102]=true)
 (hc:Bu s.sg (An x) (Dc s.sg) c) (hb:Af s.sg c.2 (BF s.sg (stR s.sg n)) q) (he:isG s.sg q.2 1 [101,108,115,101]=false):
 Af s.sg x (stR s.sg (n+1) false) (AB (Bs s.sg q.2 [101,108,115,101]),Al (Bs s.sg q.2 [101,108,115,101]) ⟨16,[],[c.1,q.1],false⟩):=by
 rw[HL he]
 exact WL h.1.1.2 (FM hk) h1 h2 hq (a4L (Fo h hq).1.1.2 hc hb he)
theorem a7I{s:ST}{x:Gs}{n:Nat}{c q r:Int×Gs}(h:okQ s x)(hk:kdG s.sg x 5=false)(h1:isG s.sg x 1 [118,97,114]=false)(h2:isG s.sg x 1 [114,101,116,117,114,110]=false)(hq:isG s.sg x 1 [105,102]=true)
 (hc:Bu s.sg (An x) (Dc s.sg) c) (hb:Af s.sg c.2 (BF s.sg (stR s.sg n)) q) (he:isG s.sg q.2 1 [101,108,115,101]=true) (hr:Af s.sg (Bs s.sg q.2 [101,108,115,101]) (BF s.sg (stR s.sg n)) r):
 Af s.sg x (stR s.sg (n+1) false) (AB r.2,Al r.2 ⟨16,[],[c.1,q.1,r.1],false⟩):=by
 rw[HM he] at hr
 exact WL h.1.1.2 (FM hk) h1 h2 hq (a4M (Fo h hq).1.1.2 hc hb he hr)
theorem a7J{s:ST}{x:Gs}{n:Nat}{c q:Int×Gs}(h:okQ s x)(hk:kdG s.sg x 5=false)(h1:isG s.sg x 1 [118,97,114]=false)(h2:isG s.sg x 1 [114,101,116,117,114,110]=false)(h3:isG s.sg x 1 [105,102]=false)(hq:isG s.sg x 1 [119,104,105,108,101]=true)
 (hc:Bu s.sg (An x) (Dc s.sg) c) (hb:Af s.sg c.2 (BF s.sg (stR s.sg n)) q):Af s.sg x (stR s.sg (n+1) false) (AB q.2,Al q.2 ⟨17,[],[c.1,q.1],false⟩):=a5r h.1 (FM hk) h1 h2 h3 hq hc hb
theorem a7K{sg:List Sg}{i k:Int}{e:Sg}(hk:e.kind=k)(he:sg[i.toNat]? =some e):(sgO sg i).kind=k:=by rw[HA he];exact hk
theorem a7L{sg:List Sg}{i k:Int}{e:Sg}(hk:e.kind≠k)(he:sg[i.toNat]? =some e):(sgO sg i).kind≠k:=by rw[HA he];exact hk
theorem a7M{sg:List Sg}{i:Int}{e:Sg}{m:List UInt8}(hk:e.text=m)(he:sg[i.toNat]? =some e):((sgO sg i).text==m)=true:=by rw[HA he];simpa using hk
theorem a7N{sg:List Sg}{i:Int}{e:Sg}{m:List UInt8}(hk:e.text≠m)(he:sg[i.toNat]? =some e):((sgO sg i).text==m)=false:=by rw[HA he];simpa using hk
theorem a7O{sg:List Sg}{x:Gs}(hk:kdG sg x 1=false):seG sg x=false:=by rw[Hj] at hk;simp [seG,hk]
theorem XM{sg:List Sg}{x:Gs}{e:Sg}(hb:x.bad=false)(hl:x.pos+1<sg.length)(he:sgO sg (x.pos+1)=e):pkG sg x 1=e:=by
 rw[pkG,if_neg (by simp [hb];omega),he]
theorem a7P{sg:List Sg}{x:Gs}(hl:¬x.pos+1<sg.length):seG sg x=false:=by
 have:pkG sg x 1=DW:=by rw[pkG,if_pos (.inr (by omega))]
 simp [seG,this,DW]
theorem XN{sg:List Sg}{x:Gs}(hb:x.bad=false)(hl:x.pos+1<sg.length)(hk:(sgO sg (x.pos+1)).kind≠4∨((sgO sg (x.pos+1)).text==[61])=false):seG sg x=false:=by
 rw[seG,XM hb hl rfl]
 rcases hk with hk|hk<;>simp [hk]
theorem a7Q{sg:List Sg}{x:Gs}(hb:x.bad=false)(hl:x.pos+1<sg.length)(h1:kdG sg x 1=true)(hk:(sgO sg (x.pos+1)).kind=4)(ht:((sgO sg (x.pos+1)).text==[61])=true):seG sg x=true:=by
 rw[Hj] at h1
 rw[seG,XM hb hl rfl];simp [h1,hk,ht]
theorem a7R{s:ST}{x:Gs}{n:Nat}{z:Int×Gs}(h:okQ s x)(hk:kdG s.sg x 5=false)(h1:isG s.sg x 1 [118,97,114]=false)(h2:isG s.sg x 1 [114,101,116,117,114,110]=false)(h3:isG s.sg x 1 [105,102]=false)(h4:isG s.sg x 1 [119,104,105,108,101]=false)
 (he:seG s.sg x=true) (hz:Af s.sg (Aq s.sg (Bc s.sg x 1) [61]) (Ca s.sg) z):Af s.sg x (stR s.sg (n+1) false) (AB (Aq s.sg z.2 [59]),Al (Aq s.sg z.2 [59]) ⟨13,Bq s.sg x 1,[z.1],false⟩):=by
 rw[GN.1] at hz;rw[GN.2]
 exact a4T h.1.1.2 (FM hk) h1 h2 h3 h4 he (GM (EM hz) (DZ (HG h.1.1.1) (by simp)) (a4O h.1.1.1 h.1.1.2 hz))
theorem Pg{s:ST}{x:Gs}{n:Nat}{z:Int×Gs}(h:okQ s x)(hk:kdG s.sg x 5=false)(h1:isG s.sg x 1 [118,97,114]=false)(h2:isG s.sg x 1 [114,101,116,117,114,110]=false)(h3:isG s.sg x 1 [105,102]=false)(h4:isG s.sg x 1 [119,104,105,108,101]=false)
 (he:seG s.sg x=false) (hz:Af s.sg x (Ca s.sg) z):Af s.sg x (stR s.sg (n+1) false) (AB (Aq s.sg z.2 [59]),Al (Aq s.sg z.2 [59]) ⟨14,[],[z.1],false⟩):=
 a4U h.1.1.2 (FM hk) h1 h2 h3 h4 he (GM (EM hz) (DZ (by simp) (by simp)) (a4P h.1.1.2 hz))
theorem XO{s:ST}{x:Gs}(h:okQ s x):rOk s (Aq s.sg (Bc s.sg x 1) [61])∧okQ s (Aq s.sg (Bc s.sg x 1) [61]):=by
 have a:=FK (m:=[61]) (Gp (k:=1) h.1.1 (by omega))
 have e:(Bc s.sg x 1).deep=x.deep:=by unfold Bc;split<;>rfl
 exact⟨a.1,⟨a.1,by have:=h.1.2;omega⟩,h.2⟩
theorem a7S{α:Type}{s:ST}{x:Gs}{f:Ps→Option (α×Ps)}{y:α×Gs}(h:okQ s x)(hy:Bu s.sg x f y):okQ s y.2:=⟨WO h.1 hy,h.2⟩
theorem Lq{α:Type}{s:ST}{x:Gs}{f:Ps→Option (α×Ps)}{y:α×Gs}(h:okQ s x)(hy:Af s.sg x f y):okQ s y.2:=⟨WO h.1 hy.1,h.2⟩
theorem a7T{α:Type}{s:ST}{x:Gs}{n:Nat}{f:Ps→Option (α×Ps)}{y:α×Gs}(h:21-x.deep≤((n+1:Nat):Int))(hy:Bu s.sg (An x) f y):20-y.2.deep≤(n:Int):=by
 have:=hy.2.1;simp only[An] at this;omega
theorem XP{sg:List Sg}{x:Gs}{m:List UInt8}:(Bs sg x m).deep=x.deep:=by unfold Bs;split<;>rfl
theorem XQ{s:ST}{x:Gs}{m:List UInt8}(h:rOk s x):rOk s (Bs s.sg x m):=by
 unfold Bs;split
 ·rename_i hq;exact⟨h.1,Fi h.2 (CI hq (by omega)).2⟩
 ·exact h
theorem XR{s:ST}{x:Gs}{m:List UInt8}(h:okQ s x):okQ s (Bs s.sg x m):=⟨⟨XQ h.1.1,by rw[XP];exact h.1.2⟩,h.2⟩
theorem a7U{α:Type}{s:ST}{x:Gs}{n:Nat}{m:List UInt8}{f:Ps→Option (α×Ps)}{y:α×Gs}(h:20-x.deep≤(n:Int))(hy:Af s.sg x f y):20-(Bs s.sg y.2 m).deep≤(n:Int):=by
 rw[XP];exact a5t h hy
def HN(n:Nat):Sig:= {X:=ST×Int×Int×Bool×List Nd,args:=fun x=>[srd x.1 (xg x)],pre:=fun x=>(okQ x.1 (xg x)∧(xg x).bad=false)∧21-(xg x).deep≤n,Y:=Int×Int×Int×Bool×List Nd,post:=fun x y=>Af x.1.sg (xg x) (stR x.1.sg n false) (yS y),res:=fun x y=> .int .i64 y.1,outs:=fun x y=>[srd x.1 (yG y.2)],keep:=true}
attribute [local irreducible] pE Bo CF fnR Af Bu gsOk Aq Co Al CJ DJ Au Dr DA AB Cp pkG isG nmG kdG Bc Bq BM vlQ Bs gBl blG CW FJ Dc Ca BF stR Cs mbS seG okQ sgM
def srf(s:ST)(g:Gs):AV:= .pf [sgs s.sg,.int .i64 g.pos,.bool g.bad,.int .i64 g.deep,nds g.nodes]
theorem XS{l:List Sg}{p d:Int}{b:Bool}{ns:List Nd}:AV.pf (fzL [AV.sl false 0 4 Sg sgA l,.int .i64 p,.bool b,.int .i64 d,AV.sl true 0 4 Nd (ndA true) ns])=AV.pf [AV.sl false 0 4 Sg sgA l,.int .i64 p,.bool b,.int .i64 d,AV.sl false 0 4 Nd (ndA false) ns]:=rfl
def Hl:Sig:= {X:=ST×Int×Int×Bool×List Nd×Int,args:=fun x=>[srf x.1 (xh x),.int .i64 x.2.2.2.2.2],pre:=fun x=>rOk x.1 (xh x)∧x.2.2.2.2.2≠0,Y:=Unit,post:=fun x y=>True,res:=fun x y=> .bool (kdG x.1.sg (xh x) x.2.2.2.2.2),outs:=fun x y=>[.top,.top],keep:=false}
theorem a7V:Am G Tryz.prog 137 Hl:=
 vcFun_okP [(125,0,Fa)] [] false (fun x=>[]) Tryz.func137 rfl (by decide) ⟨RB,trivial⟩ (fun(x:ST×Int×Int×Bool×List Nd×Int)=>(∀(y:Unit),True→True∧True∧True∧True)∧true=true∧true=true∧Aa (!(xh x).bad) (Aa (decide ((xh x).pos<(↑(List.length x.1.sg):Int))) (((0:Int)≤(xh x).pos∧(xh x).pos<(↑(List.length x.1.sg):Int))∧∀(e:Sg),x.1.sg[Int.toNat (xh x).pos]? =some e→Aa (e.kind==x.2.2.2.2.2) (Aa (x.2.2.2.2.2 != (1:Int)) (rA Hl x [.bool true,.top,.top]) (((0:Int)≤(xh x).pos∧(xh x).pos<(↑(List.length x.1.sg):Int))∧∀(e:Sg),x.1.sg[Int.toNat (xh x).pos]? =some e→∃(x_1:List UInt8),True∧e.text=x_1∧∃(y0:Unit),(∀(y:Unit),True→AV.bool (kw x_1)=AV.bool (kw x_1))∧true=true∧rA Hl x [.bool !kw x_1,.top,.top])) (rA Hl x [.bool false,.top,.top])) (rA Hl x [.bool false,.top,.top])) (rA Hl x [.bool false,.top,.top])) (fun x=>by kernel_rfl) fun(x:ST×Int×Int×Bool×List Nd×Int) (hx:rOk x.1 (xh x)∧x.2.2.2.2.2≠0)=>(by
 dsimp only[Bx,nds,rA,Hl,CE,sgs,srf,Az,AC]
 obtain⟨s,p,d,b,ns,k⟩:=x;dsimp only[xg,xh] at hx ⊢
 obtain⟨h1,h2⟩:=hx;have hs:=FG h1;dsimp only at hs
 (repeat' first|(with_reducible first|rfl|exact True.intro|apply AN|apply And.intro|((first|apply AD|apply AL|apply AE|apply AM)<;>intro _))|(apply AA<;>intro _)|apply AK|refine Ae () ?_ ?_|((first|apply AR|apply AQ|apply AP|apply AO|apply AJ|apply AI|apply AH|apply AG|apply AF)<;>try dsimp only)|apply Ae|(refine Prod.forall.2 ?_;intro _;try dsimp only)|(intro _;try dsimp only))
 all_goals(try(repeat(rename s.sg[_]? =some _=>hq;revert hq;rename s.sg[_]? =some _=>hr;intro hq;rw[hr] at hq;cases hq)))
 all_goals first
  |rfl
  |exact(Lj h2 (.inl ‹_›)).symm
  |exact(Lj h2 (.inr (by simp only;omega))).symm
  |(rw[Xi ‹_› ‹_› (by simp only;omega)];simp [*];done)
  |((try simp only[AU]);omega)
  |skip)
def FO:Sig:= {X:=ST×Int×Int×Bool×List Nd,args:=fun x=>[srd x.1 (xg x)],pre:=fun x=>okQ x.1 (xg x),Y:=Int×Int×Int×Bool×List Nd,post:=fun x y=>Af x.1.sg (xg x) (CW x.1.sg false) (yS y),res:=fun x y=> .int .i64 y.1,outs:=fun x y=>[srd x.1 (yG y.2)],keep:=true}
theorem SL:Am G Tryz.prog 140 FO:=
 vcFun_okP [(138,0,Ci),(142,0,BO),(172,0,EP),(141,0,BB),(117,0,Bg)] [(26,⟨Int,Bi⟩)] false (fun x=>[]) Tryz.func140 rfl (by decide) ⟨IG,Gm,Sx,GL,Gn,trivial⟩ (fun(x:ST×Int×Int×Bool×List Nd)=>True∧cA Ci [srd x.1 (xg x),.int .i64 (1:Int)] fun x_1 y=>cA BO [srd x_1.1 (Bc x_1.1.sg (xh x_1) x_1.2.2.2.2.2),.str #[(61:UInt8)].toList] fun x_2 y=>Aa (isG x_2.1.sg (xh x_2) (4:Int) x_2.2.2.2.2.2) (cA EP [srd x_2.1 (Au x_2.1.sg (xh x_2) x_2.2.2.2.2.2)] fun x_3 y=>∃(x_4:Int),y.1=x_4∧∃(zs:List Int),Ag [x_4]=Ag zs∧Cd Bi∧Bf ((0:Nat)+List.length zs) (8:Nat)∧cA BB [srd x_3.1 (yG y.2),.str #[(59:UInt8)].toList] fun x_5 y=>cA Bg [srd x_5.1 (Aq x_5.1.sg (xh x_5) x_5.2.2.2.2.2),.int .i64 (12:Int),.str (Bq x_1.1.sg (xh x_1) x_1.2.2.2.2.2),Ag ([]++zs)] fun x_6 y=>rA FO x [.int .i64 (AB (xh x_6)),srd x_6.1 (Al (xh x_6) {kind:=x_6.2.2.2.2.2.1,text:=x_6.2.2.2.2.2.2.1,kids:=x_6.2.2.2.2.2.2.2,blank:=false})]) (cA BB [srd x_2.1 (Au x_2.1.sg (xh x_2) x_2.2.2.2.2.2),.str #[(59:UInt8)].toList] fun x_3 y=>cA Bg [srd x_3.1 (Aq x_3.1.sg (xh x_3) x_3.2.2.2.2.2),.int .i64 (12:Int),.str (Bq x_1.1.sg (xh x_1) x_1.2.2.2.2.2),Ag []] fun x_4 y=>rA FO x [.int .i64 (AB (xh x_4)),srd x_4.1 (Al (xh x_4) {kind:=x_4.2.2.2.2.2.1,text:=x_4.2.2.2.2.2.2.1,kids:=x_4.2.2.2.2.2.2.2,blank:=false})])) (fun x=>by kernel_rfl) fun(x:ST×Int×Int×Bool×List Nd) (hx:okQ x.1 (xg x))=>(by
 dsimp only[cA,Bx,Ag,AX,rA,BO,Bg,Ci,EP,FO,BB,CE,sgs,srd,Az,AC,mvL,lnL,mvE,lnE]
 obtain⟨s,p,d,b,ns⟩:=x;dsimp only[xg,xh] at hx ⊢
 have hx:okQ s ⟨p,d,b,ns⟩:=hx
 have hD:=DN hx;have hM:=Lp hx;have h1:=hD.1
 (repeat' first|(with_reducible first|rfl|exact True.intro|apply AN|apply And.intro|((first|apply AD|apply AL|apply AE|apply AM)<;>intro _))|(apply AA<;>intro _)|apply AK|refine Ae () ?_ ?_|((first|apply AR|apply AQ|apply AP|apply AO|apply AJ|apply AI|apply AH|apply AG|apply AF)<;>try dsimp only)|apply Ae|(refine Prod.forall.2 ?_;intro _;try dsimp only)|(intro _;try dsimp only))
 all_goals(try dsimp only[xg,xh,yG,yS,iG,iF] at*)
 all_goals(try simp only[Fj] at*)
 all_goals first
  |rfl
  |exact h1
  |omega
  |exact(SH hx).1
  |exact(SH hx).2
  |exact DN (a7v hx ‹_›)
  |exact hM
  |exact Ei h1 ‹_›
  |exact(FK (Ei h1 ‹_›)).1
  |exact(FK (SH hx).2).1
  |exact a7w hx ‹_› ‹_›
  |exact a7x hx ‹_›
  |(simp [Bf];done)
  |skip)
def JU:Sig:= {X:=ST×Int×Int×Bool×List Nd,args:=fun x=>[srd x.1 (xg x)],pre:=fun x=>okQ x.1 (xg x),Y:=Int×Int×Int×Bool×List Nd,post:=fun x y=>Bu x.1.sg (xg x) (Dc x.1.sg) (yS y),res:=fun x y=> .int .i64 y.1,outs:=fun x y=>[srd x.1 (yG y.2)],keep:=true}
theorem a7W:Am G Tryz.prog 189 JU:=
 vcFun_okP [(172,0,EP),(141,0,BB)] [] false (fun x=>[]) Tryz.func189 rfl (by decide) ⟨Sx,GL,trivial⟩ (fun(x:ST×Int×Int×Bool×List Nd)=>True∧cA BB [srd x.1 (xg x),.str #[(40:UInt8)].toList] fun x_1 y=>cA EP [srd x_1.1 (Aq x_1.1.sg (xh x_1) x_1.2.2.2.2.2)] fun x_2 y=>cA BB [srd x_2.1 (yG y.2),.str #[(41:UInt8)].toList] fun x_3 y_1=>rA JU x [.int .i64 y.1,srd x_3.1 (Aq x_3.1.sg (xh x_3) x_3.2.2.2.2.2)]) (fun x=>by kernel_rfl) fun(x:ST×Int×Int×Bool×List Nd) (hx:okQ x.1 (xg x))=>(by
 dsimp only[cA,Bx,AX,rA,JU,EP,BB,CE,sgs,srd,Az,AC,mvL,lnL,mvE,lnE]
 obtain⟨s,p,d,b,ns⟩:=x;dsimp only[xg,xh] at hx ⊢
 have hx:okQ s ⟨p,d,b,ns⟩:=hx
 have hD:=DN hx;have hM:=Lp hx;have h1:=hD.1
 have t:=FK (m:=[40]) h1;have hd:=hD.2;dsimp only at hd
 (repeat' first|(with_reducible first|rfl|exact True.intro|apply AN|apply And.intro|((first|apply AD|apply AL|apply AE|apply AM)<;>intro _))|(apply AA<;>intro _)|apply AK|refine Ae () ?_ ?_|((first|apply AR|apply AQ|apply AP|apply AO|apply AJ|apply AI|apply AH|apply AG|apply AF)<;>try dsimp only)|apply Ae|(refine Prod.forall.2 ?_;intro _;try dsimp only)|(intro _;try dsimp only))
 all_goals(try dsimp only[xg,xh,yG,yS,iG,iF] at*)
 all_goals(try simp only[Fj] at*)
 all_goals first
  |rfl
  |exact h1
  |exact t.1
  |exact hM
  |exact⟨t.1,by rw[t.2];exact hd⟩
  |exact Ei h1 ‹_›
  |exact a4H h1.2 ‹_›
  |skip)
def GR(n:Nat):Sig:= {X:=ST×Int×Int×Bool×List Nd,args:=fun x=>[srd x.1 (xg x)],pre:=fun x=>okQ x.1 (xg x)∧20-(xg x).deep≤(n:Int),Y:=Int×Int×Int×Bool×List Nd,post:=fun x y=>Af x.1.sg (xg x) (BF x.1.sg (stR x.1.sg n)) (yS y),res:=fun x y=> .int .i64 y.1,outs:=fun x y=>[srd x.1 (yG y.2)],keep:=true}
def II(n:Nat)(x:ST×Int×Int×Bool×List Nd):LS:= {ι:=Int×Int×Bool×List Nd×List Int×Nat,inv:=fun i=>mbS x.1.sg n (xg x) (iG i) i.2.2.2.2.1 i.2.2.2.2.2,regs:=fun i=>[(0,srd x.1 (iG i)),(3,Ag i.2.2.2.2.1)],als:=[],meas:=fun i=>i.2.2.2.2.2}
theorem XT(n:Nat)(h:Am G Go.Proofs.Tryz.prog 173 (HN n)):Am G Tryz.prog 144 (GR n):=
 vcFun_okP [(141,0,BB),(142,0,BO),(114,0,EO),(173,0,(HN n)),(116,0,DB),(117,0,Bg)] [(26,⟨Int,Bi⟩)] false (fun x=>[(6,II n x)]) Tryz.func144 rfl (by decide) ⟨GL,Gm,OM,h,ON,Gn,trivial⟩ (fun(x:ST×Int×Int×Bool×List Nd)=>True∧cA BB [srd x.1 (xg x),.str #[(123:UInt8)].toList] fun x_1 y=>inR IntKind.i64 ((Aq x_1.1.sg (xh x_1) x_1.2.2.2.2.2).deep+(1:Int))∧Aa (decide ((Aq x_1.1.sg (xh x_1) x_1.2.2.2.2.2).deep+(1:Int)>(20:Int))) (eA (II n x) [.box 0 [sgs x_1.1.sg,.int .i64 (Aq x_1.1.sg (xh x_1) x_1.2.2.2.2.2).pos,.bool true,.int .i64 ((Aq x_1.1.sg (xh x_1) x_1.2.2.2.2.2).deep+(1:Int)),AX (Aq x_1.1.sg (xh x_1) x_1.2.2.2.2.2).nodes],Ag []]∧∀(i:Int×Int×Bool×List Nd×List Int×Nat),mbS x.1.sg n (xg x) (iG i) i.2.2.2.2.1 i.2.2.2.2.2→Aa (!(iG i).bad) (cA BO [srd x.1 (iG i),.str #[(125:UInt8)].toList] fun x_2 y=>Aa (!isG x_2.1.sg (xh x_2) (4:Int) x_2.2.2.2.2.2) (cA EO [srd x_2.1 (Au x_2.1.sg (xh x_2) x_2.2.2.2.2.2)] fun x_3 y=>Aa (blG x_3.1.sg (xg x_3)) (cA (HN n) [srd x_3.1 (xg x_3)] fun x_4 y=>cA DB [srd x_4.1 (yG y.2),.int .i64 y.1,.bool (decide ((↑(List.length i.2.2.2.2.1):Int)>(0:Int)))] fun x_5 y_1=>∃(x_6:Int),y.1=x_6∧∃(zs:List Int),Ag [x_6]=Ag zs∧Cd Bi∧Bf (List.length i.2.2.2.2.1+List.length zs) (8:Nat)∧eN (II n x) i [srd x_5.1 (gBl (xh x_5) x_5.2.2.2.2.2.1 x_5.2.2.2.2.2.2),Ag (i.2.2.2.2.1++zs)]) (cA (HN n) [srd x_3.1 (xg x_3)] fun x_4 y=>cA DB [srd x_4.1 (yG y.2),.int .i64 y.1,.bool false] fun x_5 y_1=>∃(x_6:Int),y.1=x_6∧∃(zs:List Int),Ag [x_6]=Ag zs∧Cd Bi∧Bf (List.length i.2.2.2.2.1+List.length zs) (8:Nat)∧eN (II n x) i [srd x_5.1 (gBl (xh x_5) x_5.2.2.2.2.2.1 x_5.2.2.2.2.2.2),Ag (i.2.2.2.2.1++zs)])) (inR IntKind.i64 ((Au x_2.1.sg (xh x_2) x_2.2.2.2.2.2).deep-(1:Int))∧cA Bg [.box 0 [sgs x_2.1.sg,.int .i64 (Au x_2.1.sg (xh x_2) x_2.2.2.2.2.2).pos,.bool (Au x_2.1.sg (xh x_2) x_2.2.2.2.2.2).bad,.int .i64 ((Au x_2.1.sg (xh x_2) x_2.2.2.2.2.2).deep-(1:Int)),AX (Au x_2.1.sg (xh x_2) x_2.2.2.2.2.2).nodes],.int .i64 (18:Int),.str #[].toList,Ag i.2.2.2.2.1] fun x_3 y=>rA (GR n) x [.int .i64 (AB (xh x_3)),srd x_3.1 (Al (xh x_3) {kind:=x_3.2.2.2.2.2.1,text:=x_3.2.2.2.2.2.2.1,kids:=x_3.2.2.2.2.2.2.2,blank:=false})])) (inR IntKind.i64 ((iG i).deep-(1:Int))∧cA Bg [.box 0 [sgs x.1.sg,.int .i64 (iG i).pos,.bool (iG i).bad,.int .i64 ((iG i).deep-(1:Int)),AX (iG i).nodes],.int .i64 (18:Int),.str #[].toList,Ag i.2.2.2.2.1] fun x_2 y=>rA (GR n) x [.int .i64 (AB (xh x_2)),srd x_2.1 (Al (xh x_2) {kind:=x_2.2.2.2.2.2.1,text:=x_2.2.2.2.2.2.2.1,kids:=x_2.2.2.2.2.2.2.2,blank:=false})])) (eA (II n x) [.box 0 [sgs x_1.1.sg,.int .i64 (Aq x_1.1.sg (xh x_1) x_1.2.2.2.2.2).pos,.bool (Aq x_1.1.sg (xh x_1) x_1.2.2.2.2.2).bad,.int .i64 ((Aq x_1.1.sg (xh x_1) x_1.2.2.2.2.2).deep+(1:Int)),AX (Aq x_1.1.sg (xh x_1) x_1.2.2.2.2.2).nodes],Ag []]∧∀(i:Int×Int×Bool×List Nd×List Int×Nat),mbS x.1.sg n (xg x) (iG i) i.2.2.2.2.1 i.2.2.2.2.2→Aa (!(iG i).bad) (cA BO [srd x.1 (iG i),.str #[(125:UInt8)].toList] fun x_2 y=>Aa (!isG x_2.1.sg (xh x_2) (4:Int) x_2.2.2.2.2.2) (cA EO [srd x_2.1 (Au x_2.1.sg (xh x_2) x_2.2.2.2.2.2)] fun x_3 y=>Aa (blG x_3.1.sg (xg x_3)) (cA (HN n) [srd x_3.1 (xg x_3)] fun x_4 y=>cA DB [srd x_4.1 (yG y.2),.int .i64 y.1,.bool (decide ((↑(List.length i.2.2.2.2.1):Int)>(0:Int)))] fun x_5 y_1=>∃(x_6:Int),y.1=x_6∧∃(zs:List Int),Ag [x_6]=Ag zs∧Cd Bi∧Bf (List.length i.2.2.2.2.1+List.length zs) (8:Nat)∧eN (II n x) i [srd x_5.1 (gBl (xh x_5) x_5.2.2.2.2.2.1 x_5.2.2.2.2.2.2),Ag (i.2.2.2.2.1++zs)]) (cA (HN n) [srd x_3.1 (xg x_3)] fun x_4 y=>cA DB [srd x_4.1 (yG y.2),.int .i64 y.1,.bool false] fun x_5 y_1=>∃(x_6:Int),y.1=x_6∧∃(zs:List Int),Ag [x_6]=Ag zs∧Cd Bi∧Bf (List.length i.2.2.2.2.1+List.length zs) (8:Nat)∧eN (II n x) i [srd x_5.1 (gBl (xh x_5) x_5.2.2.2.2.2.1 x_5.2.2.2.2.2.2),Ag (i.2.2.2.2.1++zs)])) (inR IntKind.i64 ((Au x_2.1.sg (xh x_2) x_2.2.2.2.2.2).deep-(1:Int))∧cA Bg [.box 0 [sgs x_2.1.sg,.int .i64 (Au x_2.1.sg (xh x_2) x_2.2.2.2.2.2).pos,.bool (Au x_2.1.sg (xh x_2) x_2.2.2.2.2.2).bad,.int .i64 ((Au x_2.1.sg (xh x_2) x_2.2.2.2.2.2).deep-(1:Int)),AX (Au x_2.1.sg (xh x_2) x_2.2.2.2.2.2).nodes],.int .i64 (18:Int),.str #[].toList,Ag i.2.2.2.2.1] fun x_3 y=>rA (GR n) x [.int .i64 (AB (xh x_3)),srd x_3.1 (Al (xh x_3) {kind:=x_3.2.2.2.2.2.1,text:=x_3.2.2.2.2.2.2.1,kids:=x_3.2.2.2.2.2.2.2,blank:=false})])) (inR IntKind.i64 ((iG i).deep-(1:Int))∧cA Bg [.box 0 [sgs x.1.sg,.int .i64 (iG i).pos,.bool (iG i).bad,.int .i64 ((iG i).deep-(1:Int)),AX (iG i).nodes],.int .i64 (18:Int),.str #[].toList,Ag i.2.2.2.2.1] fun x_2 y=>rA (GR n) x [.int .i64 (AB (xh x_2)),srd x_2.1 (Al (xh x_2) {kind:=x_2.2.2.2.2.2.1,text:=x_2.2.2.2.2.2.2.1,kids:=x_2.2.2.2.2.2.2.2,blank:=false})]))) (fun x=>by kernel_rfl) fun(x:ST×Int×Int×Bool×List Nd) (hx:okQ x.1 (xg x)∧20-(xg x).deep≤(n:Int))=>(by
 dsimp only[cA,eA,eN,II,Bx,Ag,AX,rA,EO,DB,GR,BO,Bg,HN,BB,CE,sgs,srd,Az,AC,mvL,lnL,mvE,lnE,Bt]
 obtain⟨s,p,d,b,ns⟩:=x;dsimp only[xg,xh] at hx ⊢
 obtain⟨hx,hn⟩:=hx
 have hx:okQ s ⟨p,d,b,ns⟩:=hx
 have hD:=DN hx;have hM:=Lp hx;have h1:=hD.1
 have td:=a7A hx
 (repeat' first|(with_reducible first|rfl|exact True.intro|apply AN|apply And.intro|((first|apply AD|apply AL|apply AE|apply AM)<;>intro _))|(apply AA<;>intro _)|apply AK|refine Ae () ?_ ?_|((first|apply AR|apply AQ|apply AP|apply AO|apply AJ|apply AI|apply AH|apply AG|apply AF)<;>try dsimp only)|apply Ae|(refine Prod.forall.2 ?_;intro _;try dsimp only)|(intro _;try dsimp only))
 all_goals(try dsimp only[xg,xh,yG,yS,iG,iF] at*)
 all_goals(try simp only[Fj] at*)
 all_goals first
  |(show Nat;skip)
  |rfl
  |exact h1
  |exact a7y hx ‹_›
  |exact a7z hx ‹_›
  |exact Pe hx ‹_›
  |exact Ez (Pe hx ‹_›)
  |exact(SI hx hn ‹_› ‹_› ‹_›).1
  |exact(SI hx hn ‹_› ‹_› ‹_›).2.1
  |exact(SI hx hn ‹_› ‹_› ‹_›).2.2
  |exact Ei h1 ‹_›
  |exact Lo SC ‹_›
  |exact Lo SC ‹_› ‹_›
  |exact(Pf ‹_› ‹_› ‹_› ‹_› (IC ‹_›)).1
  |exact(Pf ‹_› ‹_› ‹_› ‹_› (IE ‹_›)).1
  |exact a7B hx ‹_› ‹_›
  |exact a7C hx ‹_› ‹_›
  |exact(SK hx ‹_›).2.1
  |exact(SK hx ‹_›).2.2.1
  |(simp [Bf];done)
  |(have hq:=SJ hx (show mbS _ _ _ _ _ _ by assumption);(try simp only[Bf,List.length_append,List.length_cons,List.length_nil]);omega)
  |(have hq:=SK hx (show mbS _ _ _ _ _ _ by assumption);(try dsimp only at hq);(try simp only[AU]);omega)
  |((try simp only[AU]);omega)
  |skip
 all_goals first
  |exact(Pf ‹_› ‹_› ‹_› ‹_› (IC ‹_›)).2
  |exact(Pf ‹_› ‹_› ‹_› ‹_› (IE ‹_›)).2
  |skip)
def Fp(n:Nat):Sig:= {X:=ST×Int×Int×Bool×List Nd,args:=fun x=>[srd x.1 (xg x)],pre:=fun x=>(okQ x.1 (xg x)∧(xg x).bad=false)∧21-(xg x).deep≤(n+1:Nat),Y:=Int×Int×Int×Bool×List Nd,post:=fun x y=>Af x.1.sg (xg x) (stR x.1.sg (n+1) false) (yS y),res:=fun x y=> .int .i64 y.1,outs:=fun x y=>[srd x.1 (yG y.2)],keep:=true}
theorem a7X(n:Nat)(h:Am G Go.Proofs.Tryz.prog 173 (HN n)):Am G Tryz.prog 173 (Fp n):=
 vcFun_okP [(137,0,Hl),(138,0,Ci),(117,0,Bg),(139,0,Ea),(140,0,FO),(171,0,Dt),(172,0,EP),(141,0,BB),(189,0,JU),(144,0,(GR n))] [(26,⟨Int,Bi⟩)] false (fun x=>[]) Tryz.func173 rfl (by decide) ⟨a7V,IG,Gn,Sc,SL,MM,Sx,GL,a7W,(XT n h),trivial⟩ (fun(x:ST×Int×Int×Bool×List Nd)=>True∧cA Hl [srd x.1 (xg x),.int .i64 (5:Int)] fun x_1 y=>Aa (kdG x_1.1.sg (xh x_1) x_1.2.2.2.2.2) (cA Ci [srd x.1 (xg x),.int .i64 (5:Int)] fun x_2 y=>cA Bg [srd x_2.1 (Bc x_2.1.sg (xh x_2) x_2.2.2.2.2.2),.int .i64 (19:Int),.str (Bq x_2.1.sg (xh x_2) x_2.2.2.2.2.2),Ag []] fun x_3 y=>rA (Fp n) x [.int .i64 (AB (xh x_3)),srd x_3.1 (Al (xh x_3) {kind:=x_3.2.2.2.2.2.1,text:=x_3.2.2.2.2.2.2.1,kids:=x_3.2.2.2.2.2.2.2,blank:=false})]) (cA Ea [srd x.1 (xg x),.str #[(118:UInt8),(97:UInt8),(114:UInt8)].toList] fun x_2 y=>Aa (isG x_2.1.sg (xh x_2) (1:Int) x_2.2.2.2.2.2) (cA FO [srd x_2.1 (Bs x_2.1.sg (xh x_2) x_2.2.2.2.2.2)] fun x_3 y=>rA (Fp n) x [.int .i64 y.1,srd x_3.1 (yG y.2)]) (cA Ea [srd x_2.1 (Bs x_2.1.sg (xh x_2) x_2.2.2.2.2.2),.str #[(114:UInt8),(101:UInt8),(116:UInt8),(117:UInt8),(114:UInt8),(110:UInt8)].toList] fun x_3 y=>Aa (isG x_3.1.sg (xh x_3) (1:Int) x_3.2.2.2.2.2) (cA Dt [srd x_3.1 (Bs x_3.1.sg (xh x_3) x_3.2.2.2.2.2),.int .i64 (4:Int),.str #[(59:UInt8)].toList] fun x_4 y=>Aa (!isG x_4.1.sg (xh x_4) x_4.2.2.2.2.2.1 x_4.2.2.2.2.2.2) (cA EP [srd x_4.1 (xh x_4)] fun x_5 y=>∃(x_6:Int),y.1=x_6∧∃(zs:List Int),Ag [x_6]=Ag zs∧Cd Bi∧Bf ((0:Nat)+List.length zs) (8:Nat)∧cA BB [srd x_5.1 (yG y.2),.str #[(59:UInt8)].toList] fun x_7 y=>cA Bg [srd x_7.1 (Aq x_7.1.sg (xh x_7) x_7.2.2.2.2.2),.int .i64 (15:Int),.str #[].toList,Ag ([]++zs)] fun x_8 y=>rA (Fp n) x [.int .i64 (AB (xh x_8)),srd x_8.1 (Al (xh x_8) {kind:=x_8.2.2.2.2.2.1,text:=x_8.2.2.2.2.2.2.1,kids:=x_8.2.2.2.2.2.2.2,blank:=false})]) (cA BB [srd x_4.1 (xh x_4),.str #[(59:UInt8)].toList] fun x_5 y=>cA Bg [srd x_5.1 (Aq x_5.1.sg (xh x_5) x_5.2.2.2.2.2),.int .i64 (15:Int),.str #[].toList,Ag []] fun x_6 y=>rA (Fp n) x [.int .i64 (AB (xh x_6)),srd x_6.1 (Al (xh x_6) {kind:=x_6.2.2.2.2.2.1,text:=x_6.2.2.2.2.2.2.1,kids:=x_6.2.2.2.2.2.2.2,blank:=false})])) (cA Ea [srd x_3.1 (Bs x_3.1.sg (xh x_3) x_3.2.2.2.2.2),.str #[(105:UInt8),(102:UInt8)].toList] fun x_4 y=>Aa (isG x_4.1.sg (xh x_4) (1:Int) x_4.2.2.2.2.2) (cA JU [srd x_4.1 (Bs x_4.1.sg (xh x_4) x_4.2.2.2.2.2)] fun x_5 y=>∃(x_6:Int),y.1=x_6∧cA (GR n) [srd x_5.1 (yG y.2)] fun x_7 y=>∃(x_8:Int),y.1=x_8∧∃(zs:List Int),Ag [x_8]=Ag zs∧Cd Bi∧Bf (List.length [x_6]+List.length zs) (8:Nat)∧cA Ea [srd x_7.1 (yG y.2),.str #[(101:UInt8),(108:UInt8),(115:UInt8),(101:UInt8)].toList] fun x_9 y=>Aa (isG x_9.1.sg (xh x_9) (1:Int) x_9.2.2.2.2.2) (cA (GR n) [srd x_9.1 (Bs x_9.1.sg (xh x_9) x_9.2.2.2.2.2)] fun x_10 y=>∃(x_11:Int),y.1=x_11∧∃(zs_1:List Int),Ag [x_11]=Ag zs_1∧Cd Bi∧Bf (List.length (x_6::List.append._f [] PUnit.unit zs)+List.length zs_1) (8:Nat)∧cA Bg [srd x_10.1 (yG y.2),.int .i64 (16:Int),.str #[].toList,Ag (x_6::List.append._f [] PUnit.unit zs++zs_1)] fun x_12 y=>rA (Fp n) x [.int .i64 (AB (xh x_12)),srd x_12.1 (Al (xh x_12) {kind:=x_12.2.2.2.2.2.1,text:=x_12.2.2.2.2.2.2.1,kids:=x_12.2.2.2.2.2.2.2,blank:=false})]) (cA Bg [srd x_9.1 (Bs x_9.1.sg (xh x_9) x_9.2.2.2.2.2),.int .i64 (16:Int),.str #[].toList,Ag ([x_6]++zs)] fun x_10 y=>rA (Fp n) x [.int .i64 (AB (xh x_10)),srd x_10.1 (Al (xh x_10) {kind:=x_10.2.2.2.2.2.1,text:=x_10.2.2.2.2.2.2.1,kids:=x_10.2.2.2.2.2.2.2,blank:=false})])) (cA Ea [srd x_4.1 (Bs x_4.1.sg (xh x_4) x_4.2.2.2.2.2),.str #[(119:UInt8),(104:UInt8),(105:UInt8),(108:UInt8),(101:UInt8)].toList] fun x_5 y=>Aa (isG x_5.1.sg (xh x_5) (1:Int) x_5.2.2.2.2.2) (cA JU [srd x_5.1 (Bs x_5.1.sg (xh x_5) x_5.2.2.2.2.2)] fun x_6 y=>∃(x_7:Int),y.1=x_7∧cA (GR n) [srd x_6.1 (yG y.2)] fun x_8 y=>∃(x_9:Int),y.1=x_9∧∃(zs:List Int),Ag [x_9]=Ag zs∧Cd Bi∧Bf (List.length [x_7]+List.length zs) (8:Nat)∧cA Bg [srd x_8.1 (yG y.2),.int .i64 (17:Int),.str #[].toList,Ag ([x_7]++zs)] fun x_10 y=>rA (Fp n) x [.int .i64 (AB (xh x_10)),srd x_10.1 (Al (xh x_10) {kind:=x_10.2.2.2.2.2.1,text:=x_10.2.2.2.2.2.2.1,kids:=x_10.2.2.2.2.2.2.2,blank:=false})]) (true=true∧true=true∧∃(x_6:ST×Int×Int×Bool×List Nd×Int),(rOk x_6.1 (xh x_6)∧x_6.2.2.2.2.2≠(0:Int))∧AV.pf [AV.sl false (0:Nat) (4:Nat) Sg (fun(x:Sg)=>fzL._f [.int .i64 x.kind,.str x.text,.int .i64 x.pos,.bool x.blank] ⟨AV.rec (fun(k:IntKind) (n:Int)=>⟨fz._f (AV.int k n) PUnit.unit,PUnit.unit⟩) (fun(b:Bool)=>⟨fz._f (.bool b) PUnit.unit,PUnit.unit⟩) (fun(l:List UInt8)=>⟨fz._f (.str l) PUnit.unit,PUnit.unit⟩) (fun(v:Value)=>⟨fz._f (.val v) PUnit.unit,PUnit.unit⟩) ⟨fz._f AV.any PUnit.unit,PUnit.unit⟩ ⟨fz._f .top PUnit.unit,PUnit.unit⟩ ⟨fz._f .nil PUnit.unit,PUnit.unit⟩ (fun(id:Nat)=>⟨fz._f (AV.hole id) PUnit.unit,PUnit.unit⟩) (fun(id:Nat)=>⟨fz._f (AV.al id) PUnit.unit,PUnit.unit⟩) (fun(id k sz off:Nat)=>⟨fz._f (AV.po id k sz off) PUnit.unit,PUnit.unit⟩) (fun(fs:List AV) (fs_ih:List AV×' AV.below_1 fs)=>⟨fz._f (.agg fs) fs_ih,fs_ih⟩) (fun(vs:List AV) (vs_ih:List AV×' AV.below_1 vs)=>⟨fz._f (.tup vs) vs_ih,vs_ih⟩) (fun(id:Nat) (c:List AV) (c_ih:List AV×' AV.below_1 c)=>⟨fz._f (.box id c) c_ih,c_ih⟩) (fun(x:Value) (c:List AV) (c_ih:List AV×' AV.below_1 c)=>⟨fz._f (AV.bv x c) c_ih,c_ih⟩) (fun(x:Value)=>⟨fz._f (AV.hv x) PUnit.unit,PUnit.unit⟩) (fun(c:List AV) (c_ih:List AV×' AV.below_1 c)=>⟨fz._f (AV.pf c) c_ih,c_ih⟩) (fun(fn:Fn) (caps:List AV) (caps_ih:List AV×' AV.below_1 caps)=>⟨fz._f (AV.clo fn caps) caps_ih,caps_ih⟩) (fun(own:Bool) (id sz:Nat) (α:Type) (f:α→List AV) (xs:List α) (f_ih:(a:α)→List AV×' AV.below_1 (f a))=>⟨fz._f (AV.sl own id sz α f xs) f_ih,f_ih⟩) ⟨fzL._f [] PUnit.unit,PUnit.unit⟩ (fun(head:AV) (tail:List AV) (head_ih:AV×' AV.below head) (tail_ih:List AV×' AV.below_1 tail)=>⟨fzL._f (head::tail) ⟨head_ih,tail_ih⟩,head_ih,tail_ih⟩) (.int .i64 x.kind),AV.rec_1 (fun(k:IntKind) (n:Int)=>⟨fz._f (AV.int k n) PUnit.unit,PUnit.unit⟩) (fun(b:Bool)=>⟨fz._f (.bool b) PUnit.unit,PUnit.unit⟩) (fun(l:List UInt8)=>⟨fz._f (.str l) PUnit.unit,PUnit.unit⟩) (fun(v:Value)=>⟨fz._f (.val v) PUnit.unit,PUnit.unit⟩) ⟨fz._f AV.any PUnit.unit,PUnit.unit⟩ ⟨fz._f .top PUnit.unit,PUnit.unit⟩ ⟨fz._f .nil PUnit.unit,PUnit.unit⟩ (fun(id:Nat)=>⟨fz._f (AV.hole id) PUnit.unit,PUnit.unit⟩) (fun(id:Nat)=>⟨fz._f (AV.al id) PUnit.unit,PUnit.unit⟩) (fun(id k sz off:Nat)=>⟨fz._f (AV.po id k sz off) PUnit.unit,PUnit.unit⟩) (fun(fs:List AV) (fs_ih:List AV×' AV.below_1 fs)=>⟨fz._f (.agg fs) fs_ih,fs_ih⟩) (fun(vs:List AV) (vs_ih:List AV×' AV.below_1 vs)=>⟨fz._f (.tup vs) vs_ih,vs_ih⟩) (fun(id:Nat) (c:List AV) (c_ih:List AV×' AV.below_1 c)=>⟨fz._f (.box id c) c_ih,c_ih⟩) (fun(x:Value) (c:List AV) (c_ih:List AV×' AV.below_1 c)=>⟨fz._f (AV.bv x c) c_ih,c_ih⟩) (fun(x:Value)=>⟨fz._f (AV.hv x) PUnit.unit,PUnit.unit⟩) (fun(c:List AV) (c_ih:List AV×' AV.below_1 c)=>⟨fz._f (AV.pf c) c_ih,c_ih⟩) (fun(fn:Fn) (caps:List AV) (caps_ih:List AV×' AV.below_1 caps)=>⟨fz._f (AV.clo fn caps) caps_ih,caps_ih⟩) (fun(own:Bool) (id sz:Nat) (α:Type) (f:α→List AV) (xs:List α) (f_ih:(a:α)→List AV×' AV.below_1 (f a))=>⟨fz._f (AV.sl own id sz α f xs) f_ih,f_ih⟩) ⟨fzL._f [] PUnit.unit,PUnit.unit⟩ (fun(head:AV) (tail:List AV) (head_ih:AV×' AV.below head) (tail_ih:List AV×' AV.below_1 tail)=>⟨fzL._f (head::tail) ⟨head_ih,tail_ih⟩,head_ih,tail_ih⟩) [.str x.text,.int .i64 x.pos,.bool x.blank]⟩) x_5.1.sg,.int .i64 (Bs x_5.1.sg (xh x_5) x_5.2.2.2.2.2).pos,.bool (Bs x_5.1.sg (xh x_5) x_5.2.2.2.2.2).bad,.int .i64 (Bs x_5.1.sg (xh x_5) x_5.2.2.2.2.2).deep,AV.sl false (0:Nat) (4:Nat) Nd (fun(x:Nd)=>fzL._f [.int .i64 x.kind,.str x.text,Ag x.kids,.bool x.blank] ⟨AV.rec (fun(k:IntKind) (n:Int)=>⟨fz._f (AV.int k n) PUnit.unit,PUnit.unit⟩) (fun(b:Bool)=>⟨fz._f (.bool b) PUnit.unit,PUnit.unit⟩) (fun(l:List UInt8)=>⟨fz._f (.str l) PUnit.unit,PUnit.unit⟩) (fun(v:Value)=>⟨fz._f (.val v) PUnit.unit,PUnit.unit⟩) ⟨fz._f AV.any PUnit.unit,PUnit.unit⟩ ⟨fz._f .top PUnit.unit,PUnit.unit⟩ ⟨fz._f .nil PUnit.unit,PUnit.unit⟩ (fun(id:Nat)=>⟨fz._f (AV.hole id) PUnit.unit,PUnit.unit⟩) (fun(id:Nat)=>⟨fz._f (AV.al id) PUnit.unit,PUnit.unit⟩) (fun(id k sz off:Nat)=>⟨fz._f (AV.po id k sz off) PUnit.unit,PUnit.unit⟩) (fun(fs:List AV) (fs_ih:List AV×' AV.below_1 fs)=>⟨fz._f (.agg fs) fs_ih,fs_ih⟩) (fun(vs:List AV) (vs_ih:List AV×' AV.below_1 vs)=>⟨fz._f (.tup vs) vs_ih,vs_ih⟩) (fun(id:Nat) (c:List AV) (c_ih:List AV×' AV.below_1 c)=>⟨fz._f (.box id c) c_ih,c_ih⟩) (fun(x:Value) (c:List AV) (c_ih:List AV×' AV.below_1 c)=>⟨fz._f (AV.bv x c) c_ih,c_ih⟩) (fun(x:Value)=>⟨fz._f (AV.hv x) PUnit.unit,PUnit.unit⟩) (fun(c:List AV) (c_ih:List AV×' AV.below_1 c)=>⟨fz._f (AV.pf c) c_ih,c_ih⟩) (fun(fn:Fn) (caps:List AV) (caps_ih:List AV×' AV.below_1 caps)=>⟨fz._f (AV.clo fn caps) caps_ih,caps_ih⟩) (fun(own:Bool) (id sz:Nat) (α:Type) (f:α→List AV) (xs:List α) (f_ih:(a:α)→List AV×' AV.below_1 (f a))=>⟨fz._f (AV.sl own id sz α f xs) f_ih,f_ih⟩) ⟨fzL._f [] PUnit.unit,PUnit.unit⟩ (fun(head:AV) (tail:List AV) (head_ih:AV×' AV.below head) (tail_ih:List AV×' AV.below_1 tail)=>⟨fzL._f (head::tail) ⟨head_ih,tail_ih⟩,head_ih,tail_ih⟩) (.int .i64 x.kind),AV.rec_1 (fun(k:IntKind) (n:Int)=>⟨fz._f (AV.int k n) PUnit.unit,PUnit.unit⟩) (fun(b:Bool)=>⟨fz._f (.bool b) PUnit.unit,PUnit.unit⟩) (fun(l:List UInt8)=>⟨fz._f (.str l) PUnit.unit,PUnit.unit⟩) (fun(v:Value)=>⟨fz._f (.val v) PUnit.unit,PUnit.unit⟩) ⟨fz._f AV.any PUnit.unit,PUnit.unit⟩ ⟨fz._f .top PUnit.unit,PUnit.unit⟩ ⟨fz._f .nil PUnit.unit,PUnit.unit⟩ (fun(id:Nat)=>⟨fz._f (AV.hole id) PUnit.unit,PUnit.unit⟩) (fun(id:Nat)=>⟨fz._f (AV.al id) PUnit.unit,PUnit.unit⟩) (fun(id k sz off:Nat)=>⟨fz._f (AV.po id k sz off) PUnit.unit,PUnit.unit⟩) (fun(fs:List AV) (fs_ih:List AV×' AV.below_1 fs)=>⟨fz._f (.agg fs) fs_ih,fs_ih⟩) (fun(vs:List AV) (vs_ih:List AV×' AV.below_1 vs)=>⟨fz._f (.tup vs) vs_ih,vs_ih⟩) (fun(id:Nat) (c:List AV) (c_ih:List AV×' AV.below_1 c)=>⟨fz._f (.box id c) c_ih,c_ih⟩) (fun(x:Value) (c:List AV) (c_ih:List AV×' AV.below_1 c)=>⟨fz._f (AV.bv x c) c_ih,c_ih⟩) (fun(x:Value)=>⟨fz._f (AV.hv x) PUnit.unit,PUnit.unit⟩) (fun(c:List AV) (c_ih:List AV×' AV.below_1 c)=>⟨fz._f (AV.pf c) c_ih,c_ih⟩) (fun(fn:Fn) (caps:List AV) (caps_ih:List AV×' AV.below_1 caps)=>⟨fz._f (AV.clo fn caps) caps_ih,caps_ih⟩) (fun(own:Bool) (id sz:Nat) (α:Type) (f:α→List AV) (xs:List α) (f_ih:(a:α)→List AV×' AV.below_1 (f a))=>⟨fz._f (AV.sl own id sz α f xs) f_ih,f_ih⟩) ⟨fzL._f [] PUnit.unit,PUnit.unit⟩ (fun(head:AV) (tail:List AV) (head_ih:AV×' AV.below head) (tail_ih:List AV×' AV.below_1 tail)=>⟨fzL._f (head::tail) ⟨head_ih,tail_ih⟩,head_ih,tail_ih⟩) [.str x.text,Ag x.kids,.bool x.blank]⟩) (Bs x_5.1.sg (xh x_5) x_5.2.2.2.2.2).nodes]=AV.pf [sgs x_6.1.sg,.int .i64 (xh x_6).pos,.bool (xh x_6).bad,.int .i64 (xh x_6).deep,nds (xh x_6).nodes]∧(1:Int)=x_6.2.2.2.2.2∧∃(y0:Unit),(∀(y:Unit),True→AV.bool (kdG x_6.1.sg (xh x_6) x_6.2.2.2.2.2)=AV.bool (kdG x_6.1.sg (xh x_6) x_6.2.2.2.2.2))∧true=true∧Aa (kdG x_6.1.sg (xh x_6) x_6.2.2.2.2.2) (inR IntKind.i64 ((Bs x_5.1.sg (xh x_5) x_5.2.2.2.2.2).pos+(1:Int))∧Aa (decide ((Bs x_5.1.sg (xh x_5) x_5.2.2.2.2.2).pos+(1:Int)<(↑(List.length x_5.1.sg):Int))) (inR IntKind.i64 ((Bs x_5.1.sg (xh x_5) x_5.2.2.2.2.2).pos+(1:Int))∧((0:Int)≤(Bs x_5.1.sg (xh x_5) x_5.2.2.2.2.2).pos+(1:Int)∧(Bs x_5.1.sg (xh x_5) x_5.2.2.2.2.2).pos+(1:Int)<(↑(List.length x_5.1.sg):Int))∧∀(e:Sg),x_5.1.sg[Int.toNat ((Bs x_5.1.sg (xh x_5) x_5.2.2.2.2.2).pos+(1:Int))]? =some e→Aa (e.kind==(4:Int)) (inR IntKind.i64 ((Bs x_5.1.sg (xh x_5) x_5.2.2.2.2.2).pos+(1:Int))∧((0:Int)≤(Bs x_5.1.sg (xh x_5) x_5.2.2.2.2.2).pos+(1:Int)∧(Bs x_5.1.sg (xh x_5) x_5.2.2.2.2.2).pos+(1:Int)<(↑(List.length x_5.1.sg):Int))∧∀(e:Sg),x_5.1.sg[Int.toNat ((Bs x_5.1.sg (xh x_5) x_5.2.2.2.2.2).pos+(1:Int))]? =some e→Aa (e.text== #[(61:UInt8)].toList) (cA Ci [srd x_5.1 (Bs x_5.1.sg (xh x_5) x_5.2.2.2.2.2),.int .i64 (1:Int)] fun x_7 y=>cA BB [srd x_7.1 (Bc x_7.1.sg (xh x_7) x_7.2.2.2.2.2),.str #[(61:UInt8)].toList] fun x_8 y=>cA EP [srd x_8.1 (Aq x_8.1.sg (xh x_8) x_8.2.2.2.2.2)] fun x_9 y=>cA BB [srd x_9.1 (yG y.2),.str #[(59:UInt8)].toList] fun x_10 y_1=>∃(x_11:Int),y.1=x_11∧cA Bg [srd x_10.1 (Aq x_10.1.sg (xh x_10) x_10.2.2.2.2.2),.int .i64 (13:Int),.str (Bq x_7.1.sg (xh x_7) x_7.2.2.2.2.2),Ag [x_11]] fun x_12 y=>rA (Fp n) x [.int .i64 (AB (xh x_12)),srd x_12.1 (Al (xh x_12) {kind:=x_12.2.2.2.2.2.1,text:=x_12.2.2.2.2.2.2.1,kids:=x_12.2.2.2.2.2.2.2,blank:=false})]) (cA EP [srd x_5.1 (Bs x_5.1.sg (xh x_5) x_5.2.2.2.2.2)] fun x_7 y=>cA BB [srd x_7.1 (yG y.2),.str #[(59:UInt8)].toList] fun x_8 y_1=>∃(x_9:Int),y.1=x_9∧cA Bg [srd x_8.1 (Aq x_8.1.sg (xh x_8) x_8.2.2.2.2.2),.int .i64 (14:Int),.str #[].toList,Ag [x_9]] fun x_10 y=>rA (Fp n) x [.int .i64 (AB (xh x_10)),srd x_10.1 (Al (xh x_10) {kind:=x_10.2.2.2.2.2.1,text:=x_10.2.2.2.2.2.2.1,kids:=x_10.2.2.2.2.2.2.2,blank:=false})])) (cA EP [srd x_5.1 (Bs x_5.1.sg (xh x_5) x_5.2.2.2.2.2)] fun x_7 y=>cA BB [srd x_7.1 (yG y.2),.str #[(59:UInt8)].toList] fun x_8 y_1=>∃(x_9:Int),y.1=x_9∧cA Bg [srd x_8.1 (Aq x_8.1.sg (xh x_8) x_8.2.2.2.2.2),.int .i64 (14:Int),.str #[].toList,Ag [x_9]] fun x_10 y=>rA (Fp n) x [.int .i64 (AB (xh x_10)),srd x_10.1 (Al (xh x_10) {kind:=x_10.2.2.2.2.2.1,text:=x_10.2.2.2.2.2.2.1,kids:=x_10.2.2.2.2.2.2.2,blank:=false})])) (cA EP [srd x_5.1 (Bs x_5.1.sg (xh x_5) x_5.2.2.2.2.2)] fun x_7 y=>cA BB [srd x_7.1 (yG y.2),.str #[(59:UInt8)].toList] fun x_8 y_1=>∃(x_9:Int),y.1=x_9∧cA Bg [srd x_8.1 (Aq x_8.1.sg (xh x_8) x_8.2.2.2.2.2),.int .i64 (14:Int),.str #[].toList,Ag [x_9]] fun x_10 y=>rA (Fp n) x [.int .i64 (AB (xh x_10)),srd x_10.1 (Al (xh x_10) {kind:=x_10.2.2.2.2.2.1,text:=x_10.2.2.2.2.2.2.1,kids:=x_10.2.2.2.2.2.2.2,blank:=false})])) (cA EP [srd x_5.1 (Bs x_5.1.sg (xh x_5) x_5.2.2.2.2.2)] fun x_7 y=>cA BB [srd x_7.1 (yG y.2),.str #[(59:UInt8)].toList] fun x_8 y_1=>∃(x_9:Int),y.1=x_9∧cA Bg [srd x_8.1 (Aq x_8.1.sg (xh x_8) x_8.2.2.2.2.2),.int .i64 (14:Int),.str #[].toList,Ag [x_9]] fun x_10 y=>rA (Fp n) x [.int .i64 (AB (xh x_10)),srd x_10.1 (Al (xh x_10) {kind:=x_10.2.2.2.2.2.1,text:=x_10.2.2.2.2.2.2.1,kids:=x_10.2.2.2.2.2.2.2,blank:=false})]))))))) (fun x=>by kernel_rfl) fun(x:ST×Int×Int×Bool×List Nd) (hx:(okQ x.1 (xg x)∧(xg x).bad=false)∧21-(xg x).deep≤(n+1:Nat))=>(by
 dsimp only[cA,Bx,nds,Ag,AX,rA,GR,JU,Dt,Hl,Bg,Fp,Ci,EP,FO,BB,Ea,CE,sgs,srd,srf,Az,AC,mvL,lnL,mvE,lnE]
 obtain⟨s,p,d,b,ns⟩:=x;dsimp only[xg,xh] at hx ⊢
 obtain⟨⟨hx,hb⟩,hd⟩:=hx
 have hx:okQ s ⟨p,d,b,ns⟩:=hx
 have hD:=DN hx;have hM:=Lp hx;have h1:=hD.1
 (repeat' first|(show AV.pf _=AV.pf _;first|exact XS|(with_unfolding_all exact XS)|(with_unfolding_all rfl))|(with_reducible first|rfl|exact True.intro|apply AN|apply And.intro|((first|apply AD|apply AL|apply AE|apply AM)<;>intro _))|(apply AA<;>intro _)|apply AK|refine Ae () ?_ ?_|((first|apply AR|apply AQ|apply AP|apply AO|apply AJ|apply AI|apply AH|apply AG|apply AF)<;>try dsimp only)|apply Ae|(refine Prod.forall.2 ?_;intro _;try dsimp only)|(intro _;try dsimp only))
 all_goals(try dsimp only[xg,xh,yG,yS,iG,iF] at*)
 all_goals(try simp only[Fj] at*)
 all_goals(try(have e:=HL (show isG s.sg ⟨p,d,b,ns⟩ 1 [118,97,114]=false by assumption);simp only[e] at*))
 all_goals(try(have e:=HM (show isG s.sg ⟨p,d,b,ns⟩ 1 [118,97,114]=true by assumption);simp only[e] at*))
 all_goals(try(have e:=HL (show isG s.sg ⟨p,d,b,ns⟩ 1 [114,101,116,117,114,110]=false by assumption);simp only[e] at*))
 all_goals(try(have e:=HM (show isG s.sg ⟨p,d,b,ns⟩ 1 [114,101,116,117,114,110]=true by assumption);simp only[e] at*))
 all_goals(try(have e:=HL (show isG s.sg ⟨p,d,b,ns⟩ 1 [105,102]=false by assumption);simp only[e] at*))
 all_goals(try(have e:=HM (show isG s.sg ⟨p,d,b,ns⟩ 1 [105,102]=true by assumption);simp only[e] at*))
 all_goals(try(have e:=HL (show isG s.sg ⟨p,d,b,ns⟩ 1 [119,104,105,108,101]=false by assumption);simp only[e] at*))
 all_goals(try(have e:=HM (show isG s.sg ⟨p,d,b,ns⟩ 1 [119,104,105,108,101]=true by assumption);simp only[e] at*))
 all_goals first
  |rfl
  |exact h1
  |exact hM
  |omega
  |(simp;done)
  |exact a7D hx ‹_›
  |exact Gp h1 (by omega)
  |exact Fo hx ‹_›
  |exact DN (Fo hx ‹_›)
  |exact(DN (Fo hx ‹_›)).1
  |exact a7E hx ‹_› ‹_› ‹_›
  |exact a7G hx ‹_› ‹_› ‹_› ‹_› ‹_›
  |exact a7F hx ‹_› ‹_› ‹_› ‹_›
  |exact Ei h1 ‹_›
  |exact(FK (Ei h1 ‹_›)).1
  |exact(FK (DN (Fo hx ‹_›)).1).1
  |exact a7R hx ‹_› ‹_› ‹_› ‹_› ‹_› (a7Q (x:=⟨p,d,b,ns⟩) hb ‹_› ‹_› (a7K ‹_› ‹_›) (a7M ‹_› ‹_›)) ‹_›
  |exact Pg hx ‹_› ‹_› ‹_› ‹_› ‹_› (a7O ‹_›) ‹_›
  |exact Pg hx ‹_› ‹_› ‹_› ‹_› ‹_› (a7P (x:=⟨p,d,b,ns⟩) ‹_›) ‹_›
  |exact Pg hx ‹_› ‹_› ‹_› ‹_› ‹_› (XN (x:=⟨p,d,b,ns⟩) hb ‹_› (.inl (a7L ‹_› ‹_›))) ‹_›
  |exact Pg hx ‹_› ‹_› ‹_› ‹_› ‹_› (XN (x:=⟨p,d,b,ns⟩) hb ‹_› (.inr (a7N ‹_› ‹_›))) ‹_›
  |(have hq:=FG h1;dsimp only at hq;(try simp only[AU]);omega)
  |exact(XO hx).1
  |exact DN (XO hx).2
  |exact hD
  |(simp [Bf];done)
  |exact(show Bf 2 8 by simp [Bf])
  |exact(show Bf 3 8 by simp [Bf])
  |skip
 all_goals(try(have hc:=(show Bu s.sg (An ⟨p,d,b,ns⟩) (Dc s.sg) _ by assumption);have k0:=Fo hx (show isG s.sg ⟨p,d,b,ns⟩ 1 _=true by assumption);have k1:=a7S k0 hc;have k2:=a7T (n:=n) (x:=⟨p,d,b,ns⟩) hd hc))
 all_goals first
  |exact k1
  |exact k2
  |exact(DN (Lq k1 ‹_›)).1
  |exact XQ (DN (Lq k1 ‹_›)).1
  |exact Fo (Lq k1 ‹_›) ‹_›
  |exact XR (Lq k1 ‹_›)
  |(have hh:=a7U (m:=[101,108,115,101]) k2 (show Af s.sg _ (BF s.sg _) _ by assumption);exact hh)
  |exact Ei h1 ‹_›
  |exact a7H hx ‹_› ‹_› ‹_› ‹_› ‹_› ‹_› ‹_›
  |exact a7I hx ‹_› ‹_› ‹_› ‹_› ‹_› ‹_› ‹_› ‹_›
  |exact a7J hx ‹_› ‹_› ‹_› ‹_› ‹_› ‹_› ‹_›
  |exact(DN (Lq (XR (Lq k1 ‹_›)) ‹_›)).1
  |exact h1
  |skip)
end Go.My
end
section
set_option linter.unusedVariables false
set_option linter.unusedSimpArgs false
namespace Go.My
open Go.Eng Go.Proofs
variable {G:GInv}
theorem a7Y(n:Nat):Am G Go.Proofs.Tryz.prog 173 (HN n):=by
 induction n with
 |zero=>exact JM Tryz.func173 rfl (by decide) (fun x h=>by have h1:=h.1.1.1.2;have h2:=h.2;omega)
 |succ n ih=>exact a7X n ih
def JV:Sig:= {X:=ST×Int×Int×Bool×List Nd,args:=fun x=>[srd x.1 (xg x)],pre:=fun x=>okQ x.1 (xg x),Y:=Int×Int×Int×Bool×List Nd,post:=fun x y=>Af x.1.sg (xg x) (Ev x.1.sg) (yS y),res:=fun x y=> .int .i64 y.1,outs:=fun x y=>[srd x.1 (yG y.2)],keep:=true}
theorem XU{s:ST}{g:Gs}(h:okQ s g):okQ s g∧20-g.deep≤(stN:Int):=by
 have h1:=h.1.1.2.2.1.1
 exact⟨h,by unfold stN;omega⟩
theorem XV:Am G Go.Proofs.Tryz.prog 144 JV:=
 have c:=XT (G:=G) stN (a7Y stN)
 ⟨⟨c.1.1,fun x y hx hy=>c.1.2 x y (XU hx) hy⟩,fun x hx=>c.2 x (XU hx)⟩
theorem XW{s:ST}{x:Gs}{v:List Int×Gs}(h:okQ s x)(hv:vlQ s.sg (BM s.sg) [41] [] (Aq s.sg (Bc s.sg x 1) [40]) v):okQ s v.2:=by
 have a:=FK (m:=[40]) (Gp (k:=1) h.1.1 (by omega))
 have e:(Bc s.sg x 1).deep=x.deep:=by unfold Bc;split<;>rfl
 obtain⟨b1,b2,b3,b4⟩:=Sl h.1.1.1 hv
 exact⟨⟨b1,by have:=h.1.2;omega⟩,h.2⟩
theorem XX{s:ST}{x:Gs}{v:List Int×Gs}{q:Int×Gs}(h:okQ s x)(hv:vlQ s.sg (BM s.sg) [41] [] (Aq s.sg (Bc s.sg x 1) [40]) v)(hq:Af s.sg v.2 (Ev s.sg) q):
 Af s.sg x (FF s.sg false) (AB q.2,Al q.2 ⟨20,Bq s.sg x 1,v.1++[q.1],false⟩):=by
 rw[GN.1] at hv;rw[GN.2]
 obtain⟨l,⟨a,b⟩,rfl⟩:=hv
 exact a4V (l:=l) h.1.1.1 h.1.1.2 a b hq
def clS(sg:List Sg)(x y:Gs)(ks:List Int)(N:Nat):Prop:=IB sg (CP sg) [125] (Aq sg (Bc sg (An x) 1) [123]) y ks N∧y.deep=x.deep
theorem XY{s:ST}{x:Gs}(h:okQ s (An x)):clS s.sg x (Aq s.sg (Bc s.sg (An x) 1) [123]) [] (s.sg.length+1):=by
 have a:=Gp (k:=1) h.1.1 (by omega)
 refine⟨WE (FK a).1.2,?_⟩
 rw[(FK a).2];unfold Bc;split<;>rfl
theorem a7Z{s:ST}{x:Gs}(h:okQ s x)(h1:isG s.sg x 1 [118,97,114]=false)(h2:isG s.sg (Bs s.sg x [118,97,114]) 1 [99,108,97,115,115]=true):
 clS s.sg x (Aq s.sg (Bc s.sg (Bs s.sg (Bs s.sg x [118,97,114]) [99,108,97,115,115]) 1) [123]) [] (s.sg.length+1):=by
 rw[HL h1] at h2 ⊢
 rw[HM h2];exact XY (Fo h h2)
theorem a8a{s:ST}{x:Gs}(h:okQ s (An x)):rOk s (Bc s.sg (An x) 1)∧rOk s (Aq s.sg (Bc s.sg (An x) 1) [123]):=
 have a:=Gp (k:=1) h.1.1 (by omega)
 ⟨a,(FK a).1⟩
theorem SM{s:ST}{x y:Gs}{ks:List Int}{N:Nat}(h:okQ s (An x))(hj:clS s.sg x y ks N):okQ s y:=⟨⟨⟨h.1.1.1,hj.1.1.1⟩,by have:=hj.2;have:=h.1.2;simp only[An] at*;omega⟩,h.2⟩
theorem XZ{s:ST}{x y:Gs}{ks:List Int}{N:Nat}(h:okQ s (An x))(hj:clS s.sg x y ks N)(hb:y.bad=false)(hq:isG s.sg y 4 [125]=false):okQ s (Au s.sg y [125])∧(Au s.sg y [125]).bad=false:=by
 rw[CY hq];exact⟨SM h hj,hb⟩
theorem SN{s:ST}{x y:Gs}{ks:List Int}{N:Nat}(h:okQ s (An x))(hj:clS s.sg x y ks N):ks.length≤3001:=by
 have:=hj.1.2.2.1;have:=hj.1.1.1.1;have:=h.1.1.1.1;omega
theorem IJ{s:ST}{x y:Gs}{ks:List Int}{N:Nat}{b:Bool}{z:Int×Gs}(hj:clS s.sg x y ks N)(hb:y.bad=false)(hq:isG s.sg y 4 [125]=false)(hz:Af s.sg (Au s.sg y [125]) (CP s.sg false) z)(e:b=(blG s.sg (Au s.sg y [125])&&decide (0<(ks.length:Int)))):
 clS s.sg x (gBl z.2 z.1 b) (ks++[z.1]) (N-1)∧N-1<N:=by
 rw[CY hq] at hz e
 rw[SG hb] at e
 have hz2:Af s.sg y (CP s.sg b) (z.1,gBl z.2 z.1 b):=SF SD hz
 subst e
 obtain⟨a,b⟩:=Le (WI hj.1 hb hq (z:=(z.1,gBl z.2 z.1 ((pkG s.sg y 0).blank&&decide (0<(ks.length:Int))))) (by
  have:decide (0<ks.length)=decide (0<(ks.length:Int)):=by simp
  rw[this];exact hz2))
 have:=(Ct hz2).1
 exact⟨⟨a,by have:=hj.2;simp only at*;omega⟩,b⟩
theorem Ya{s:ST}{x:Gs}{l:List Int×Gs}(h:okQ s (An x))(hl:Bu s.sg (Aq s.sg (Bc s.sg (An x) 1) [123]) (Cs s.sg (CP s.sg) [125] (s.sg.length+1) []) l)(hll:l.1.length≤3001):
 Af s.sg (An x) (Gj s.sg false) (AB (Aq s.sg l.2 [125]),Al (Aq s.sg l.2 [125]) ⟨21,Bq s.sg (An x) 1,l.1,false⟩):=by
 rw[GN.1] at hl;rw[GN.2]
 exact GM hl.1 (DZ (HG h.1.1.1) (by omega)) (a4W h.1.1.1 h.1.1.2 hl hll)
theorem a8b{s:ST}{x y:Gs}{ks:List Int}{N:Nat}(h:okQ s (An x))(hj:clS s.sg x y ks N)(hq:isG s.sg y 4 [125]=true):
 Af s.sg (An x) (Gj s.sg false) (AB (Au s.sg y [125]),Al (Au s.sg y [125]) ⟨21,Bq s.sg (An x) 1,ks,false⟩):=by
 rw[DM hq,←HI hq];exact Ya (l:=(ks,y)) h (WH hj.1 hq) (SN h hj)
theorem a8c{s:ST}{x y:Gs}{ks:List Int}{N:Nat}(h:okQ s (An x))(hj:clS s.sg x y ks N)(hb:y.bad=true):
 Af s.sg (An x) (Gj s.sg false) (AB y,Al y ⟨21,Bq s.sg (An x) 1,ks,false⟩):=by
 have a:=Ya (l:=(ks,y)) h (WF hj.1 hb) (SN h hj)
 simp only[OO hb] at a;exact a
theorem a8d{s:ST}{x:Gs}(h:okQ s x)(hk:kdG s.sg x 5=true):Af s.sg x (CP s.sg false) (AB (Bc s.sg x 5),Al (Bc s.sg x 5) ⟨19,Bq s.sg x 5,[],false⟩):=by
 have hn:=hk
 rw[MN (by omega)] at hn
 exact Ll h.1.1.1 h.1.1.2 (by omega) hk (a4X h.1.1.1 h.1.1.2 (by simpa using hn))
theorem a8e{s:ST}{x:Gs}(h:okQ s x)(hk:kdG s.sg x 5=true):Af s.sg x (CX s.sg false) (AB (Bc s.sg x 5),Al (Bc s.sg x 5) ⟨19,Bq s.sg x 5,[],false⟩):=by
 have hn:=hk
 rw[MN (by omega)] at hn
 exact Ll h.1.1.1 h.1.1.2 (by omega) hk (a5a h.1.1.1 h.1.1.2 (by simpa using hn))
theorem a8f{s:ST}{x:Gs}{z:Int×Gs}(h:okQ s x)(hk:kdG s.sg x 5=false)(hq:isG s.sg x 1 [118,97,114]=true)(hz:Af s.sg (An x) (CW s.sg false) z):Af s.sg x (CP s.sg false) z:=a4Y h.1.1.2 (FM hk) hq hz
theorem a8g{s:ST}{x:Gs}{z:Int×Gs}(h:okQ s x)(hk:kdG s.sg x 5=false)(hq:isG s.sg x 1 [118,97,114]=true)(hz:Af s.sg (An x) (CW s.sg false) z):Af s.sg x (CX s.sg false) z:=a5b h.1.1.2 (FM hk) hq hz
theorem a8h{s:ST}{x:Gs}{z:Int×Gs}(h:okQ s x)(hk:kdG s.sg x 5=false)(hq:isG s.sg x 1 [118,97,114]=false)(hz:Af s.sg x (FF s.sg false) z):Af s.sg x (CP s.sg false) z:=a4Z h.1.1.2 (FM hk) hq hz
theorem a8i{s:ST}{x:Gs}{z:Int×Gs}(h:okQ s x)(hk:kdG s.sg x 5=false)(h1:isG s.sg x 1 [118,97,114]=false)(hq:isG s.sg x 1 [99,108,97,115,115]=false)(hz:Af s.sg x (FF s.sg false) z):Af s.sg x (CX s.sg false) z:=a5d h.1.1.2 (FM hk) h1 hq hz
theorem Yb{s:ST}{x:Gs}{z:Int×Gs}(h:okQ s x)(hk:kdG s.sg x 5=false)(h1:isG s.sg x 1 [118,97,114]=false)(hq:isG s.sg x 1 [99,108,97,115,115]=true)(hz:Af s.sg (An x) (Gj s.sg false) z):Af s.sg x (CX s.sg false) z:=a5c h.1.1.2 (FM hk) h1 hq hz
def Yc:Sig:= {X:=ST×Int×Int×Bool×List Nd,args:=fun x=>[srd x.1 (xg x),.bool false],pre:=fun x=>False,Y:=Int×Int×Int×Bool×List Nd,post:=fun x y=>True,res:=fun x y=> .int .i64 y.1,outs:=fun x y=>[srd x.1 (yG y.2),.top],keep:=true}
theorem a8j:Am G Go.Proofs.Tryz.prog 115 Yc:=JM Tryz.func115 rfl (by decide) (fun x h=>h)
attribute [local irreducible] pE Bo CF fnR Af Bu gsOk Aq Co Al CJ DJ Au Dr DA AB Cp pkG isG nmG kdG Bc Bq BM vlQ Bs gBl blG CW FJ Dc Ca BF stR Cs okQ sgM clS CP CX FF Gj Ev
def HO:Sig:= {X:=ST×Int×Int×Bool×List Nd,args:=fun x=>[srd x.1 (xg x),.bool false],pre:=fun x=>okQ x.1 (xg x)∧(xg x).bad=false,Y:=Int×Int×Int×Bool×List Nd,post:=fun x y=>Af x.1.sg (xg x) (CP x.1.sg false) (yS y),res:=fun x y=> .int .i64 y.1,outs:=fun x y=>[srd x.1 (yG y.2),.top],keep:=true}
def a8k(x:ST×Int×Int×Bool×List Nd):LS:= {ι:=Int×Int×Bool×List Nd×List Int×Nat,inv:=fun i=>False,regs:=fun i=>[(0,srd x.1 (iG i)),(5,.str (Bq x.1.sg (An (xg x)) 1)),(6,Ag i.2.2.2.2.1)],als:=[],meas:=fun i=>i.2.2.2.2.2}
theorem a8l:Am G Tryz.prog 115 HO:=
 vcFun_okP [(137,0,Du),(138,0,Ci),(117,0,Bg),(139,0,Ea),(140,0,FO),(141,0,BB),(142,0,BO),(114,0,EO),(115,0,Yc),(116,0,DB),(143,0,Fm),(144,0,JV)] [(26,⟨Int,Bi⟩)] false (fun x=>[(9,a8k x)]) Tryz.func115 rfl (by decide) ⟨OL,IG,Gn,Sc,SL,GL,Gm,OM,a8j,ON,Sp,XV,trivial⟩ (fun(x:ST×Int×Int×Bool×List Nd)=>True∧cA Du [srd x.1 (xg x),.int .i64 (5:Int)] fun x_1 y=>Aa (kdG x_1.1.sg (xh x_1) x_1.2.2.2.2.2) (cA Ci [srd x_1.1 (xh x_1),.int .i64 (5:Int)] fun x_2 y=>cA Bg [srd x_2.1 (Bc x_2.1.sg (xh x_2) x_2.2.2.2.2.2),.int .i64 (19:Int),.str (Bq x_2.1.sg (xh x_2) x_2.2.2.2.2.2),Ag []] fun x_3 y=>rA HO x [.int .i64 (AB (xh x_3)),srd x_3.1 (Al (xh x_3) {kind:=x_3.2.2.2.2.2.1,text:=x_3.2.2.2.2.2.2.1,kids:=x_3.2.2.2.2.2.2.2,blank:=false}),.top]) (cA Ea [srd x_1.1 (xh x_1),.str #[(118:UInt8),(97:UInt8),(114:UInt8)].toList] fun x_2 y=>Aa (isG x_2.1.sg (xh x_2) (1:Int) x_2.2.2.2.2.2) (cA FO [srd x_2.1 (Bs x_2.1.sg (xh x_2) x_2.2.2.2.2.2)] fun x_3 y=>rA HO x [.int .i64 y.1,srd x_3.1 (yG y.2),.top]) (cA Ci [srd x_2.1 (Bs x_2.1.sg (xh x_2) x_2.2.2.2.2.2),.int .i64 (1:Int)] fun x_3 y=>cA Fm [srd x_3.1 (Bc x_3.1.sg (xh x_3) x_3.2.2.2.2.2)] fun x_4 y=>cA JV [srd x_4.1 (yG y.2)] fun x_5 y_1=>∃(x_6:Int),y_1.1=x_6∧∃(zs:List Int),Ag [x_6]=Ag zs∧Cd Bi∧Bf (List.length y.1+List.length zs) (8:Nat)∧cA Bg [srd x_5.1 (yG y_1.2),.int .i64 (20:Int),.str (Bq x_3.1.sg (xh x_3) x_3.2.2.2.2.2),Ag (y.1++zs)] fun x_7 y=>rA HO x [.int .i64 (AB (xh x_7)),srd x_7.1 (Al (xh x_7) {kind:=x_7.2.2.2.2.2.1,text:=x_7.2.2.2.2.2.2.1,kids:=x_7.2.2.2.2.2.2.2,blank:=false}),.top]))) (fun x=>by kernel_rfl) fun(x:ST×Int×Int×Bool×List Nd) (hx:okQ x.1 (xg x)∧(xg x).bad=false)=>(by
 dsimp only[cA,Bx,Ag,AX,rA,JV,Du,HO,Fm,Bg,Ci,FO,Ea,CE,sgs,srd,Az,AC,mvL,lnL,mvE,lnE]
 obtain⟨s,p,d,b,ns⟩:=x;dsimp only[xg,xh] at hx ⊢
 obtain⟨hx,hb⟩:=hx
 have hx:okQ s ⟨p,d,b,ns⟩:=hx
 have hD:=DN hx;have hM:=Lp hx;have h1:=hD.1;have hs:=h1.1
 (repeat' first|(with_reducible first|rfl|exact True.intro|apply AN|apply And.intro|((first|apply AD|apply AL|apply AE|apply AM)<;>intro _))|(apply AA<;>intro _)|apply AK|refine Ae () ?_ ?_|((first|apply AR|apply AQ|apply AP|apply AO|apply AJ|apply AI|apply AH|apply AG|apply AF)<;>try dsimp only)|apply Ae|(refine Prod.forall.2 ?_;intro _;try dsimp only)|(intro _;try dsimp only))
 all_goals(try dsimp only[xg,xh,yG,yS,iG,iF] at*)
 all_goals(try simp only[Fj] at*)
 all_goals(try(have e:=HL (show isG s.sg ⟨p,d,b,ns⟩ 1 [118,97,114]=false by assumption);simp only[e] at*))
 all_goals(try(have e:=HM (show isG s.sg ⟨p,d,b,ns⟩ 1 [118,97,114]=true by assumption);simp only[e] at*))
 all_goals first
  |rfl
  |exact h1
  |omega
  |contradiction
  |exact a8d hx ‹_›
  |exact Gp h1 (by omega)
  |exact Fo hx ‹_›
  |exact a8f hx ‹_› ‹_› ‹_›
  |exact XW hx ‹_›
  |exact Ei h1 ‹_›
  |exact a8h hx ‹_› ‹_› (XX hx ‹_› ‹_›)
  |(have hq:=Ss hs (show vlQ _ _ _ [] _ _ by assumption);(try simp only[Bf,List.length_append,List.length_cons,List.length_nil] at*);omega)
  |skip)
def GS:Sig:= {X:=ST×Int×Int×Bool×List Nd,args:=fun x=>[srd x.1 (xg x),.bool true],pre:=fun x=>okQ x.1 (xg x)∧(xg x).bad=false,Y:=Int×Int×Int×Bool×List Nd,post:=fun x y=>Af x.1.sg (xg x) (CX x.1.sg false) (yS y),res:=fun x y=> .int .i64 y.1,outs:=fun x y=>[srd x.1 (yG y.2),.top],keep:=true}
def MR(x:ST×Int×Int×Bool×List Nd):LS:= {ι:=Int×Int×Bool×List Nd×List Int×Nat,inv:=fun i=>clS x.1.sg (xg x) (iG i) i.2.2.2.2.1 i.2.2.2.2.2,regs:=fun i=>[(0,srd x.1 (iG i)),(5,.str (Bq x.1.sg (An (xg x)) 1)),(6,Ag i.2.2.2.2.1)],als:=[],meas:=fun i=>i.2.2.2.2.2}
theorem a8m:Am G Tryz.prog 115 GS:=
 vcFun_okP [(137,0,Du),(138,0,Ci),(117,0,Bg),(139,0,Ea),(140,0,FO),(141,0,BB),(142,0,BO),(114,0,EO),(115,0,HO),(116,0,DB),(143,0,Fm),(144,0,JV)] [(26,⟨Int,Bi⟩)] false (fun x=>[(9,MR x)]) Tryz.func115 rfl (by decide) ⟨OL,IG,Gn,Sc,SL,GL,Gm,OM,a8l,ON,Sp,XV,trivial⟩ (fun(x:ST×Int×Int×Bool×List Nd)=>True∧cA Du [srd x.1 (xg x),.int .i64 (5:Int)] fun x_1 y=>Aa (kdG x_1.1.sg (xh x_1) x_1.2.2.2.2.2) (cA Ci [srd x_1.1 (xh x_1),.int .i64 (5:Int)] fun x_2 y=>cA Bg [srd x_2.1 (Bc x_2.1.sg (xh x_2) x_2.2.2.2.2.2),.int .i64 (19:Int),.str (Bq x_2.1.sg (xh x_2) x_2.2.2.2.2.2),Ag []] fun x_3 y=>rA GS x [.int .i64 (AB (xh x_3)),srd x_3.1 (Al (xh x_3) {kind:=x_3.2.2.2.2.2.1,text:=x_3.2.2.2.2.2.2.1,kids:=x_3.2.2.2.2.2.2.2,blank:=false}),.top]) (cA Ea [srd x_1.1 (xh x_1),.str #[(118:UInt8),(97:UInt8),(114:UInt8)].toList] fun x_2 y=>Aa (isG x_2.1.sg (xh x_2) (1:Int) x_2.2.2.2.2.2) (cA FO [srd x_2.1 (Bs x_2.1.sg (xh x_2) x_2.2.2.2.2.2)] fun x_3 y=>rA GS x [.int .i64 y.1,srd x_3.1 (yG y.2),.top]) (cA Ea [srd x_2.1 (Bs x_2.1.sg (xh x_2) x_2.2.2.2.2.2),.str #[(99:UInt8),(108:UInt8),(97:UInt8),(115:UInt8),(115:UInt8)].toList] fun x_3 y=>Aa (isG x_3.1.sg (xh x_3) (1:Int) x_3.2.2.2.2.2) (cA Ci [srd x_3.1 (Bs x_3.1.sg (xh x_3) x_3.2.2.2.2.2),.int .i64 (1:Int)] fun x_4 y=>cA BB [srd x_4.1 (Bc x_4.1.sg (xh x_4) x_4.2.2.2.2.2),.str #[(123:UInt8)].toList] fun x_5 y=>eA (MR x) [srd x_5.1 (Aq x_5.1.sg (xh x_5) x_5.2.2.2.2.2),.str (Bq x_4.1.sg (xh x_4) x_4.2.2.2.2.2),Ag []]∧∀(i:Int×Int×Bool×List Nd×List Int×Nat),clS x.1.sg (xg x) (iG i) i.2.2.2.2.1 i.2.2.2.2.2→Aa (!(iG i).bad) (cA BO [srd x.1 (iG i),.str #[(125:UInt8)].toList] fun x_6 y=>Aa (!isG x_6.1.sg (xh x_6) (4:Int) x_6.2.2.2.2.2) (cA EO [srd x_6.1 (Au x_6.1.sg (xh x_6) x_6.2.2.2.2.2)] fun x_7 y=>Aa (blG x_7.1.sg (xg x_7)) (cA HO [srd x_7.1 (xg x_7),.bool false] fun x_8 y=>cA DB [srd x_8.1 (yG y.2),.int .i64 y.1,.bool (decide ((↑(List.length i.2.2.2.2.1):Int)>(0:Int)))] fun x_9 y_1=>∃(x_10:Int),y.1=x_10∧∃(zs:List Int),Ag [x_10]=Ag zs∧Cd Bi∧Bf (List.length i.2.2.2.2.1+List.length zs) (8:Nat)∧eN (MR x) i [srd x_9.1 (gBl (xh x_9) x_9.2.2.2.2.2.1 x_9.2.2.2.2.2.2),.str (Bq x.1.sg (An (xg x)) (1:Int)),Ag (i.2.2.2.2.1++zs)]) (cA HO [srd x_7.1 (xg x_7),.bool false] fun x_8 y=>cA DB [srd x_8.1 (yG y.2),.int .i64 y.1,.bool false] fun x_9 y_1=>∃(x_10:Int),y.1=x_10∧∃(zs:List Int),Ag [x_10]=Ag zs∧Cd Bi∧Bf (List.length i.2.2.2.2.1+List.length zs) (8:Nat)∧eN (MR x) i [srd x_9.1 (gBl (xh x_9) x_9.2.2.2.2.2.1 x_9.2.2.2.2.2.2),.str (Bq x.1.sg (An (xg x)) (1:Int)),Ag (i.2.2.2.2.1++zs)])) (cA Bg [srd x_6.1 (Au x_6.1.sg (xh x_6) x_6.2.2.2.2.2),.int .i64 (21:Int),.str (Bq x.1.sg (An (xg x)) (1:Int)),Ag i.2.2.2.2.1] fun x_7 y=>rA GS x [.int .i64 (AB (xh x_7)),srd x_7.1 (Al (xh x_7) {kind:=x_7.2.2.2.2.2.1,text:=x_7.2.2.2.2.2.2.1,kids:=x_7.2.2.2.2.2.2.2,blank:=false}),.top])) (cA Bg [srd x.1 (iG i),.int .i64 (21:Int),.str (Bq x.1.sg (An (xg x)) (1:Int)),Ag i.2.2.2.2.1] fun x_6 y=>rA GS x [.int .i64 (AB (xh x_6)),srd x_6.1 (Al (xh x_6) {kind:=x_6.2.2.2.2.2.1,text:=x_6.2.2.2.2.2.2.1,kids:=x_6.2.2.2.2.2.2.2,blank:=false}),.top])) (cA Ci [srd x_3.1 (Bs x_3.1.sg (xh x_3) x_3.2.2.2.2.2),.int .i64 (1:Int)] fun x_4 y=>cA Fm [srd x_4.1 (Bc x_4.1.sg (xh x_4) x_4.2.2.2.2.2)] fun x_5 y=>cA JV [srd x_5.1 (yG y.2)] fun x_6 y_1=>∃(x_7:Int),y_1.1=x_7∧∃(zs:List Int),Ag [x_7]=Ag zs∧Cd Bi∧Bf (List.length y.1+List.length zs) (8:Nat)∧cA Bg [srd x_6.1 (yG y_1.2),.int .i64 (20:Int),.str (Bq x_4.1.sg (xh x_4) x_4.2.2.2.2.2),Ag (y.1++zs)] fun x_8 y=>rA GS x [.int .i64 (AB (xh x_8)),srd x_8.1 (Al (xh x_8) {kind:=x_8.2.2.2.2.2.1,text:=x_8.2.2.2.2.2.2.1,kids:=x_8.2.2.2.2.2.2.2,blank:=false}),.top])))) (fun x=>by kernel_rfl) fun(x:ST×Int×Int×Bool×List Nd) (hx:okQ x.1 (xg x)∧(xg x).bad=false)=>(by
 dsimp only[cA,eA,eN,MR,Bx,Ag,AX,rA,JV,EO,DB,Du,BO,GS,HO,Fm,Bg,Ci,FO,BB,Ea,CE,sgs,srd,Az,AC,mvL,lnL,mvE,lnE,Bt]
 obtain⟨s,p,d,b,ns⟩:=x;dsimp only[xg,xh] at hx ⊢
 obtain⟨hx,hb⟩:=hx
 have hx:okQ s ⟨p,d,b,ns⟩:=hx
 have hD:=DN hx;have hM:=Lp hx;have h1:=hD.1;have hs:=h1.1
 (repeat' first|(with_reducible first|rfl|exact True.intro|apply AN|apply And.intro|((first|apply AD|apply AL|apply AE|apply AM)<;>intro _))|(apply AA<;>intro _)|apply AK|refine Ae () ?_ ?_|((first|apply AR|apply AQ|apply AP|apply AO|apply AJ|apply AI|apply AH|apply AG|apply AF)<;>try dsimp only)|apply Ae|(refine Prod.forall.2 ?_;intro _;try dsimp only)|(intro _;try dsimp only))
 all_goals(try dsimp only[xg,xh,yG,yS,iG,iF] at*)
 all_goals(try simp only[Fj] at*)
 all_goals first
  |(show Nat;skip)
  |exact a7Z hx ‹_› ‹_›
  |exact(IJ ‹_› ‹_› ‹_› ‹_› (IC ‹_›)).1
  |exact(IJ ‹_› ‹_› ‹_› ‹_› (IE ‹_›)).1
  |skip
 all_goals(try(first|exact(IJ ‹_› ‹_› ‹_› ‹_› (IC ‹_›)).2|exact(IJ ‹_› ‹_› ‹_› ‹_› (IE ‹_›)).2))
 all_goals(try(have e:=HL (show isG s.sg ⟨p,d,b,ns⟩ 1 [118,97,114]=false by assumption);simp only[e] at*))
 all_goals(try(have e:=HM (show isG s.sg ⟨p,d,b,ns⟩ 1 [118,97,114]=true by assumption);simp only[e] at*))
 all_goals(try(have e:=HL (show isG s.sg ⟨p,d,b,ns⟩ 1 [99,108,97,115,115]=false by assumption);simp only[e] at*))
 all_goals(try(have e:=HM (show isG s.sg ⟨p,d,b,ns⟩ 1 [99,108,97,115,115]=true by assumption);simp only[e] at*))
 all_goals(try(have hw:=Fo hx (show isG s.sg ⟨p,d,b,ns⟩ 1 [99,108,97,115,115]=true by assumption)))
 all_goals first
  |(show Nat;skip)
  |rfl
  |exact h1
  |omega
  |contradiction
  |exact a8e hx ‹_›
  |exact Gp h1 (by omega)
  |exact Fo hx ‹_›
  |exact a8g hx ‹_› ‹_› ‹_›
  |exact XW hx ‹_›
  |exact(DN hw).1
  |exact(a8a hw).1
  |exact XY hw
  |exact(DN (SM hw ‹_›)).1
  |exact(XZ hw ‹_› ‹_› ‹_›).1
  |exact(XZ hw ‹_› ‹_› ‹_›).2
  |exact Ez (DN (SM hw ‹_›)).1
  |exact Ei h1 ‹_›
  |exact Lo SD ‹_›
  |exact Lo SD ‹_› ‹_›
  |exact(IJ ‹_› ‹_› ‹_› ‹_› (IC ‹_›)).1
  |exact(IJ ‹_› ‹_› ‹_› ‹_› (IE ‹_›)).1
  |exact Yb hx ‹_› ‹_› ‹_› (a8b hw ‹_› ‹_›)
  |exact Yb hx ‹_› ‹_› ‹_› (a8c hw ‹_› ‹_›)
  |exact a8i hx ‹_› ‹_› ‹_› (XX hx ‹_› ‹_›)
  |(have hq:=Ss hs (show vlQ _ _ _ [] _ _ by assumption);(try simp only[Bf,List.length_append,List.length_cons,List.length_nil] at*);omega)
  |(have hq:=SN hw (show clS _ _ _ _ _ by assumption);(try simp only[Bf,List.length_append,List.length_cons,List.length_nil]);omega)
  |skip
 all_goals first
  |exact(IJ ‹_› ‹_› ‹_› ‹_› (IC ‹_›)).2
  |exact(IJ ‹_› ‹_› ‹_› ‹_› (IE ‹_›)).2
  |skip)
end Go.My
end
