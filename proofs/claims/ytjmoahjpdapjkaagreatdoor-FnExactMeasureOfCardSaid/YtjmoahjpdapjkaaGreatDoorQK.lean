/- A part of the proof: the engine and the contracts, joined. -/
import Derived.Test.YtjmoahjpdapjkaaGreatDoorQJ
section
set_option linter.unusedVariables false
set_option linter.unusedSimpArgs false
namespace Go.My
open Go.Eng Go.Proofs
variable {G:GInv}
theorem bt{a b:List UInt8}(h:(a==b)=true):a=b:=by simpa using h
theorem bf{a b:List UInt8}(h:(a==b)=false):a≠b:=by simpa using h
def csJ(sg:List Sg)(n l:Nat)(x y:Gs)(t:List UInt8)(ks:List Int)(N:Nat):Prop:=chS sg n l x y t ks N∧(y.bad=false→y.deep≤20)
theorem b1j{s:ST}{x:Gs}{n:Nat}{l:Int}(hx:wQ (9-l.toNat) (n+1) s x)(hl:l>5)(h6:l≤6):wQ 2 n s x:=by
 have e:l.toNat=6:=by omega
 have a:=hx.1.2
 rw[e] at a
 exact⟨⟨hx.1.1,by omega⟩,hx.2⟩
theorem b1k{s:ST}{x:Gs}{n:Nat}{l:Int}{z:Int×Gs}(hl:l>5)(h6:l≤6)(h:Ae s.sg x (pE s.sg n .fin) z):Ae s.sg x (pE s.sg (n+1) (.chain l.toNat)) z:=ZO (by omega) h
theorem b1l{s:ST}{x:Gs}{n:Nat}{l:Int}(hx:wQ (9-l.toNat) (n+1) s x)(h0:0≤l)(hl:¬l>5):wQ (9-(l+1).toNat) n s x:=⟨⟨hx.1.1,by have:=hx.1.2;omega⟩,hx.2⟩
theorem b1m{s:ST}{x:Gs}{n:Nat}{l:Int}{z:Int×Gs}(hx:wQ (9-l.toNat) (n+1) s x)(h0:0≤l)(hl:¬l>5)(hz:Ae s.sg x (pE s.sg n (.chain (l+1).toNat)) z):csJ s.sg n l.toNat x z.2 [] [z.1] (2*s.sg.length+4):=by
 rw[show(l+1).toNat=l.toNat+1 by omega] at hz
 exact⟨b0y hx.1.1.1.2 (by omega) hz,KO hz hx.1.1.2⟩
theorem a1H{s:ST}{x y:Gs}{n l:Nat}{t:List UInt8}{ks:List Int}{N:Nat}(hs:sgB s.sg)(h:csJ s.sg n l x y t ks N):rOk s y:=⟨hs,h.1.1.1⟩
theorem a1I{s:ST}{x y:Gs}{n l:Nat}{t:List UInt8}{ks:List Int}{N:Nat}{i:Int}{m:List UInt8}(hs:sgB s.sg)(h:csJ s.sg n l x y t ks N)(hq:mkQ s.sg y l i m):rOk s (gM y m):=by
 unfold gM;split
 ·exact a1H hs h
 ·rename_i hm
  rcases hq.2 with h2|h2
  ·exact(hm h2.1).elim
  ·have hg:=(GN (sg:=s.sg) (l:=l) (g:=y) (by rw[←h2.2];exact hm)).1
   exact⟨hs,EL h.1.1.1 (Ct hg (by omega)).2⟩
theorem a1J{s:ST}{x y:Gs}{n:Nat}{l:Int}{t:List UInt8}{ks:List Int}{N:Nat}{i:Int}{m:List UInt8}(hx:wQ (9-l.toNat) (n+1) s x)(h0:0≤l)(hl:¬l>5)(h:csJ s.sg n l.toNat x y t ks N)(hq:mkQ s.sg y l.toNat i m)(hm:m≠[]):wQ (9-(l+1).toNat) n s (gM y m):=by
 have hr:=a1I hx.1.1.1.1 h hq
 rw[QK hm] at hr ⊢
 rcases hq.2 with h2|h2
 ·exact(hm h2.1).elim
 ·have hg:=(GN (sg:=s.sg) (l:=l.toNat) (g:=y) (by rw[←h2.2];exact hm)).1
  have hb:=Ct hg (by omega)
  have e1:(Aj y).pos=y.pos+1:=rfl
  have e2:(Aj y).deep=y.deep:=rfl
  have:=h.1.1.2.2.1;have:=hx.1.2;have:=h.2 hb.1
  exact⟨⟨⟨hr,fun _=>by omega⟩,by omega⟩,hx.2⟩
theorem b1n{s:ST}{x y:Gs}{n:Nat}{l:Int}{t:List UInt8}{ks:List Int}{N:Nat}{i:Int}{m:List UInt8}(hx:wQ (9-l.toNat) (n+1) s x)(h0:0≤l)(hl:¬l>5)(h:csJ s.sg n l.toNat x y t ks N)(hq:mkQ s.sg y l.toNat i m)(hm:m≠[])(ht:t≠[]):wQ (9-(l+1).toNat) n s (Ah (gM y m) ⟨7,t,ks,false⟩):=by
 have a:=a1J hx h0 hl h hq hm
 obtain⟨d1,d2,d3⟩:= @GM (gM y m) ⟨7,t,ks,false⟩
 have hw:=UB (ks:=ks) hx.1.1.1.1 (h.1.2.2.2.2.2 ht).2 (by have:=h.1.2.2.1;have:=h.1.1.1.1;omega)
 exact⟨⟨⟨⟨a.1.1.1.1,Ib a.1.1.1.2 hw⟩,fun hb=>by rw[d1];exact a.1.1.2 (d3 hb)⟩,by rw[d2];exact a.1.2⟩,a.2⟩
theorem QT{s:ST}{x y:Gs}{n:Nat}{l:Int}{t:List UInt8}{ks:List Int}{N:Nat}{i:Int}{m:List UInt8}{z:Int×Gs}(h0:0≤l)(h:csJ s.sg n l.toNat x y t ks N)(hq:mkQ s.sg y l.toNat i m)(hi:¬i<((Bs l.toNat).length:Int))(hm:m≠[])(ht:t=[]∨m=t)
 (hz:Ae s.sg (gM y m) (pE s.sg n (.chain (l+1).toNat)) z):csJ s.sg n l.toNat x z.2 m (ks++[z.1]) (N-1)∧N-1<N:=by
 have e:=QL hq hi
 rw[QK hm,show(l+1).toNat=l.toNat+1 by omega] at hz
 obtain⟨a,b⟩:=b0z h.1 (by rw[←e];exact hm) (by rw[←e];exact ht) hz
 rw[←e] at a
 have hg:=(GN (sg:=s.sg) (l:=l.toNat) (g:=y) (by rw[←e];exact hm)).1
 exact⟨⟨a,KO hz (fun _=>h.2 (Ct hg (by omega)).1)⟩,b⟩
theorem a1K{s:ST}{x y:Gs}{n:Nat}{l:Int}{t:List UInt8}{ks:List Int}{N:Nat}{i:Int}{m:List UInt8}{z:Int×Gs}(hs:sgB s.sg)(h0:0≤l)(h:csJ s.sg n l.toNat x y t ks N)(hq:mkQ s.sg y l.toNat i m)(hi:¬i<((Bs l.toNat).length:Int))(hm:m≠[])(ht:t≠[])(hne:m≠t)
 (hz:Ae s.sg (Ah (gM y m) ⟨7,t,ks,false⟩) (pE s.sg n (.chain (l+1).toNat)) z):csJ s.sg n l.toNat x z.2 m ([Au (gM y m)]++[z.1]) (N-2)∧N-2<N:=by
 have e:=QL hq hi
 rw[QK hm] at hz ⊢
 rw[show(l+1).toNat=l.toNat+1 by omega] at hz
 obtain⟨a,b⟩:=b0A hs h.1 (by rw[←e];exact hm) ht (by rw[←e];exact hne) hz
 rw[←e] at a
 have hg:=(GN (sg:=s.sg) (l:=l.toNat) (g:=y) (by rw[←e];exact hm)).1
 refine⟨⟨a,KO hz (fun hb=> ?_)⟩,b⟩
 rw[PZ];exact h.2 (Ct hg (by omega)).1
theorem b1o{s:ST}{x y:Gs}{n l:Nat}{t:List UInt8}{ks:List Int}{N:Nat}{i:Int}{m:List UInt8}{k:Int}(h:csJ s.sg n l x y t ks N)(hq:mkQ s.sg y l i m)(hi:¬i<((Bs l).length:Int))(hm:m=[])(hl:(ks.length:Int)=1)(hk:ks[(0:Int).toNat]? =some k):Ae s.sg x (pE s.sg (n+1) (.chain l)) (k,gM y m):=by
 have e:=QL hq hi
 subst hm
 exact a1s h.1 (.inr e.symm) (by omega) hk
theorem b1p{s:ST}{x y:Gs}{n l:Nat}{t:List UInt8}{ks:List Int}{N:Nat}{i:Int}{m:List UInt8}(hs:sgB s.sg)(h:csJ s.sg n l x y t ks N)(hq:mkQ s.sg y l i m)(hi:¬i<((Bs l).length:Int))(hm:m=[])(hl:(ks.length:Int)≠1):Ae s.sg x (pE s.sg (n+1) (.chain l)) (Au (gM y m),Ah (gM y m) ⟨7,t,ks,false⟩):=by
 have e:=QL hq hi
 subst hm
 exact a1t hs h.1 (.inr e.symm) (by omega)
theorem b1q{s:ST}{x y:Gs}{n l:Nat}{t:List UInt8}{ks:List Int}{N:Nat}{k:Int}(h:csJ s.sg n l x y t ks N)(hb:y.bad=true)(hl:(ks.length:Int)=1)(hk:ks[(0:Int).toNat]? =some k):Ae s.sg x (pE s.sg (n+1) (.chain l)) (k,y):=a1s h.1 (.inl hb) (by omega) hk
theorem b1r{s:ST}{x y:Gs}{n l:Nat}{t:List UInt8}{ks:List Int}{N:Nat}(hs:sgB s.sg)(h:csJ s.sg n l x y t ks N)(hb:y.bad=true)(hl:(ks.length:Int)≠1):Ae s.sg x (pE s.sg (n+1) (.chain l)) (Au y,Ah y ⟨7,t,ks,false⟩):=a1t hs h.1 (.inl hb) (by omega)
theorem b1s{s:ST}{x y:Gs}{n l:Nat}{t:List UInt8}{ks:List Int}{N:Nat}(hs:sgB s.sg)(h:csJ s.sg n l x y t ks N):ks.length≤3001∧1≤ks.length:=by
 have h1:=h.1.2.2.1;have h2:=h.1.1.1.1.2;have h3:=hs.1
 refine⟨by omega,?_⟩
 rcases Classical.em (t=[]) with e|e
 ·have:=h.1.2.2.2.2.1 e;omega
 ·have:=(h.1.2.2.2.2.2 e).1;omega
theorem b1t{sg:List Sg}{y:Gs}{l:Nat}{i:Int}{m:List UInt8}(h:mkQ sg y l i m):(0≤i∧i≤(Bs l).length)∧(Bs l).length≤2:=⟨h.1,ZD⟩
theorem JR{sg:List Sg}{y:Gs}{l:Nat}{i:Int}{m v:List UInt8}(h:mkQ sg y l i m)(hm:m=[])(ha:(Bs l)[i.toNat]? =some v)(hg:isG sg (gM y m) 4 v=true):
 (Ai sg (gM y m) v).pos=(gM y v).pos∧(Ai sg (gM y m) v).bad=(gM y v).bad∧(Ai sg (gM y m) v).deep=(gM y v).deep∧(Ai sg (gM y m) v).nodes=(gM y v).nodes:=by
 rw[(UD h hm ha hg).2];exact⟨rfl,rfl,rfl,rfl⟩
theorem b1u{sg:List Sg}{p d:Int}{b:Bool}{ns:List Nd}{f:Ps→PR}{z:Int×Gs}(hd:d≤20)(h:d+1>20)(hz:Ae sg ⟨p,d+1,true,ns⟩ f z):Ae sg (pkX ⟨p,d,b,ns⟩) f z:=by
 have e:pkX ⟨p,d,b,ns⟩=⟨p,d+1,true,ns⟩:=by simp only[pkX];rw[if_pos (show d=20 by omega)];rfl
 rw[e];exact hz
theorem b1v{sg:List Sg}{p d:Int}{b:Bool}{ns:List Nd}{f:Ps→PR}{z:Int×Gs}(h:¬d+1>20)(hz:Ae sg ⟨p,d+1,b,ns⟩ f z):Ae sg (pkX ⟨p,d,b,ns⟩) f z:=by
 have e:pkX ⟨p,d,b,ns⟩=⟨p,d+1,b,ns⟩:=by simp only[pkX];rw[if_neg (show¬d=20 by omega)];rfl
 rw[e];exact hz
theorem b1w{s:ST}{p d:Int}{b:Bool}{ns:List Nd}{n:Nat}(hx:vQ 10 (n+1) s ⟨p,d,b,ns⟩)(h:d+1>20):wQ (9-(0:Int).toNat) n s ⟨p,d+1,true,ns⟩:=by
 have a:=(PY hx.1.1.1 hx.1.1.2 hx.1.2).1
 have hd:=hx.1.1.2;simp only at hd
 have e:pkX ⟨p,d,b,ns⟩=⟨p,d+1,true,ns⟩:=by simp only[pkX];rw[if_pos (show d=20 by omega)];rfl
 rw[e] at a;exact⟨a,hx.2⟩
theorem b1x{s:ST}{p d:Int}{b:Bool}{ns:List Nd}{n:Nat}(hx:vQ 10 (n+1) s ⟨p,d,b,ns⟩)(h:¬d+1>20):wQ (9-(0:Int).toNat) n s ⟨p,d+1,b,ns⟩:=by
 have a:=(PY hx.1.1.1 hx.1.1.2 hx.1.2).1
 have e:pkX ⟨p,d,b,ns⟩=⟨p,d+1,b,ns⟩:=by simp only[pkX];rw[if_neg (show¬d=20 by omega)];rfl
 rw[e] at a;exact⟨a,hx.2⟩
theorem b1y{s:ST}{x y:Gs}{n:Nat}{ks:List Int}{N:Nat}(hx:vQ 11 (n+1) s x)(h:vaJ s.sg n x y ks N)(hq:isG s.sg y 4 [46,46]=true):
 wQ 11 n s (Al s.sg (Ah (Bd s.sg (Ai s.sg y [46,46]) 1) ⟨1,Bv s.sg (Ai s.sg y [46,46]) 1,[],false⟩) [40]):=by
 have hr:=Qa hx.1.1.1 h
 have a:=Mu (m:=[46,46]) hr
 have e:=Cw a
 have t:=Ft (m:=[40]) (En a)
 rw[CU hq] at a e t ⊢
 simp only at e t
 have e1:(Aj y).pos=y.pos+1:=rfl
 have e2:(Aj y).deep=y.deep:=rfl
 have:=h.1.1.2.2.1;have:=h.2;have:=hx.1.2
 exact⟨⟨⟨⟨hx.1.1.1.1,t.1⟩,fun _=>by omega⟩,by omega⟩,hx.2⟩
theorem a1L{s:ST}{x y:Gs}{n:Nat}{ks:List Int}{N:Nat}{v:List Int×Gs}(hs:sgB s.sg)(h:vaJ s.sg n x y ks N)(hq:isG s.sg y 4 [46,46]=true)
 (hv:vlQ s.sg (pE s.sg n .value) [41] [Au (Bd s.sg (Ai s.sg y [46,46]) 1)] (Al s.sg (Ah (Bd s.sg (Ai s.sg y [46,46]) 1) ⟨1,Bv s.sg (Ai s.sg y [46,46]) 1,[],false⟩) [40]) v):
 vaJ s.sg n x (Ah v.2 ⟨5,[],v.1,false⟩) (ks++[Au v.2]) (N-1)∧N-1<N:=by
 have a:=Mu (m:=[46,46]) (show rOk s y from⟨hs,h.1.1.1⟩)
 have hw:=a1v (En a) hv
 have e:=(Cw a).1
 rw[CU hq] at a e
 obtain⟨c1,c2⟩:=GP (b0H h.1 hq a (by rw[CU hq] at hw;exact hw))
 have e2:(Aj y).deep=y.deep:=rfl
 have e3:=(Cw hw).1
 rw[CU hq] at e3
 have:=h.2
 exact⟨TR ⟨c1,by simp only at*;omega⟩,c2⟩
theorem UN{s:ST}{x y:Gs}{n:Nat}{ks:List Int}{N:Nat}(hs:sgB s.sg)(h:vaJ s.sg n x y ks N):rOk s (Ai s.sg y [46,46])∧rOk s (Bd s.sg (Ai s.sg y [46,46]) 1)∧rOk s (Ah (Bd s.sg (Ai s.sg y [46,46]) 1) ⟨1,Bv s.sg (Ai s.sg y [46,46]) 1,[],false⟩):=
 have hr:rOk s y:=⟨hs,h.1.1.1⟩
 ⟨Fc hr,GW (Fc hr) (by omega),UG hr⟩
def lqI(s:ST)(e:Int)(j:Int×Int×Bool×List Nd×List UInt8×List Int×Nat):LS:= {
 ι:=Int×List UInt8,inv:=fun i=>mkQ s.sg (iF j) e.toNat i.1 i.2,regs:=fun i=>[(0,srd s (gM (iF j) i.2)),(1,.int .i64 e),(5,Ad j.2.2.2.2.2.1),(6,.str j.2.2.2.2.1),(7,.sl false 0 1 (List UInt8) Bo (Bs e.toNat)),(8,.str i.2),(9,.int .i64 i.1)],als:=[],meas:=fun i=>(Bs e.toNat).length-i.1.toNat}
def lqO(n:Nat)(x:ST×Int×Int×Bool×List Nd×Int):LS:= {
 ι:=Int×Int×Bool×List Nd×List UInt8×List Int×Nat,inv:=fun i=>csJ x.1.sg n x.2.2.2.2.2.toNat (xh x) (iF i) i.2.2.2.2.1 i.2.2.2.2.2.1 i.2.2.2.2.2.2,regs:=fun i=>[(0,srd x.1 (iF i)),(1,.int .i64 x.2.2.2.2.2),(5,Ad i.2.2.2.2.2.1),(6,.str i.2.2.2.2.1),(7,.sl false 0 1 (List UInt8) Bo (Bs x.2.2.2.2.2.toNat))],als:=[],meas:=fun i=>i.2.2.2.2.2.2,
 sub:=fun j=>[(9,lqI x.1 x.2.2.2.2.2 j)]}
attribute [local irreducible] pE Bg CL fnR Ae Bh gsOk Al Bn Ah BW CS Ai Cu Da Au Bw pkG isG nmG kdG Bd Bv Bu vlQ lqJ saI arG eqJ csJ mkQ gM vaJ
def HG:Sig:= {X:=Int,args:=fun x=>[.int .i64 x],pre:=fun x=>0≤x∧x≤5,Y:=Unit,post:=fun x y=>True,res:=fun x y=> .sl false 0 1 (List UInt8) Bo (Bs x.toNat),outs:=fun x y=>[.top],keep:=true}
theorem b1z:Aq G Tryz.prog 186 HG:=
 vcFun_okP [] [(41,⟨List UInt8,Bo⟩)] false (fun x=>[]) Tryz.func186 rfl (by decide) trivial (fun(x:Int)=>True∧Aa (x==(0:Int)) (∃(x_1:List UInt8),#[(124:UInt8),(124:UInt8)].toList=x_1∧rA HG x [AV.sl true (0:Nat) (1:Nat) (List UInt8) Bo [x_1],.top]) (Aa (x==(1:Int)) (∃(x_1:List UInt8),#[(38:UInt8),(38:UInt8)].toList=x_1∧rA HG x [AV.sl true (0:Nat) (1:Nat) (List UInt8) Bo [x_1],.top]) (Aa (x==(2:Int)) (∃(x_1:List UInt8),#[(61:UInt8),(61:UInt8)].toList=x_1∧rA HG x [AV.sl true (0:Nat) (1:Nat) (List UInt8) Bo [x_1],.top]) (Aa (x==(3:Int)) (∃(x_1:List UInt8),#[(60:UInt8)].toList=x_1∧rA HG x [AV.sl true (0:Nat) (1:Nat) (List UInt8) Bo [x_1],.top]) (Aa (x==(4:Int)) (∃(x_1:List UInt8),#[(43:UInt8)].toList=x_1∧∃(x_2:List UInt8),#[(45:UInt8)].toList=x_2∧rA HG x [AV.sl true (0:Nat) (1:Nat) (List UInt8) Bo [x_1,x_2],.top]) (∃(x_1:List UInt8),#[(42:UInt8)].toList=x_1∧rA HG x [AV.sl true (0:Nat) (1:Nat) (List UInt8) Bo [x_1],.top])))))) (fun x=>by kernel_rfl) fun(x:Int) (hx:0≤x∧x≤5)=>(by
 dsimp only[rA,HG,Av,Az]
 obtain⟨h1,h2⟩:=hx
 have hh:x=0∨x=1∨x=2∨x=3∨x=4∨x=5:=by omega
 rcases hh with rfl|rfl|rfl|rfl|rfl|rfl
 all_goals(repeat' first|(with_reducible first|rfl|exact True.intro|apply AK|apply And.intro|((first|apply AA|apply AI|apply AB|apply AJ)<;>intro _))|(apply Ax<;>intro _)|apply AH|refine Af () ?_ ?_|((first|apply AO|apply AN|apply AM|apply AL|apply AG|apply AF|apply AE|apply AD|apply AC)<;>try dsimp only)|apply Af|(refine Prod.forall.2 ?_;intro _;try dsimp only)|(intro _;try dsimp only))
 all_goals first
  |rfl
  |omega
  |(simp [AW];done)
  |skip)
def Ld(n:Nat):Sig:= {X:=ST×Int×Int×Bool×List Nd×Int,args:=fun x=>[srd x.1 (xh x),.int .i64 x.2.2.2.2.2],pre:=fun x=>wQ (9-x.2.2.2.2.2.toNat) (n+1) x.1 (xh x)∧0≤x.2.2.2.2.2∧x.2.2.2.2.2≤6,Y:=Int×Int×Int×Bool×List Nd,post:=fun x y=>Ae x.1.sg (xh x) (pE x.1.sg (n+1) (.chain x.2.2.2.2.2.toNat)) (yS y),res:=fun x y=> .int .i64 y.1,outs:=fun x y=>[srd x.1 (yG y.2),.top],keep:=true}
theorem b1A(n:Nat)(h:qAll G n):Aq G Tryz.prog 171 (Ld n):=
 vcFun_okP [(185,0,(QM n)),(171,0,(HF n)),(186,0,HG),(73,0,Ca),(43,0,Bm)] [(45,⟨Int,Ba⟩),(41,⟨List UInt8,Bo⟩)] false (fun x=>[(6,lqO n x)]) Tryz.func171 rfl (by decide) ⟨h.fin,h.chain,b1z,GU,GV,trivial⟩ (fun(x:ST×Int×Int×Bool×List Nd×Int)=>True∧Aa (decide (x.2.2.2.2.2>(5:Int))) (cA (QM n) [srd x.1 (xh x)] fun x_1 y=>rA (Ld n) x [.int .i64 y.1,srd x_1.1 (yG y.2),.top]) (inR IntKind.i64 (x.2.2.2.2.2+(1:Int))∧cA (HF n) [srd x.1 (xh x),.int .i64 (x.2.2.2.2.2+(1:Int))] fun x_1 y=>∃(x_2:Int),y.1=x_2∧cA HG [.int .i64 x.2.2.2.2.2] fun x_3 y_1=>eA (lqO n x) [srd x_1.1 (yG y.2),.int .i64 x.2.2.2.2.2,Ad [x_2],.str #[].toList,AV.sl false (0:Nat) (1:Nat) (List UInt8) Bo (Bs (Int.toNat x_3))]∧∀(i:Int×Int×Bool×List Nd×List UInt8×List Int×Nat),csJ x.1.sg n (Int.toNat x.2.2.2.2.2) (xh x) (iF i) i.2.2.2.2.1 i.2.2.2.2.2.1 i.2.2.2.2.2.2→Aa (!(iF i).bad) (eA (lqI x.1 x.2.2.2.2.2 i) [srd x.1 (iF i),.int .i64 x.2.2.2.2.2,Ad i.2.2.2.2.2.1,.str i.2.2.2.2.1,AV.sl false (0:Nat) (1:Nat) (List UInt8) Bo (Bs (Int.toNat x.2.2.2.2.2)),.str #[].toList,.int .i64 (0:Int)]∧∀(i_1:Int×List UInt8),mkQ x.1.sg (iF i) (Int.toNat x.2.2.2.2.2) i_1.1 i_1.2→Aa (decide (i_1.1<(↑(List.length (Bs (Int.toNat x.2.2.2.2.2))):Int))) (Aa (i_1.2== #[].toList) (((0:Int)≤i_1.1∧i_1.1<(↑(List.length (Bs (Int.toNat x.2.2.2.2.2))):Int))∧∀(e:List UInt8),(Bs (Int.toNat x.2.2.2.2.2))[Int.toNat i_1.1]? =some e→cA Ca [srd x.1 (gM (iF i) i_1.2),.str e] fun x_4 y=>Aa (isG x_4.1.sg (xh x_4) (4:Int) x_4.2.2.2.2.2) (((0:Int)≤i_1.1∧i_1.1<(↑(List.length (Bs (Int.toNat x.2.2.2.2.2))):Int))∧∀(e:List UInt8),(Bs (Int.toNat x.2.2.2.2.2))[Int.toNat i_1.1]? =some e→inR IntKind.i64 (i_1.1+(1:Int))∧eN (lqI x.1 x.2.2.2.2.2 i) i_1 [srd x_4.1 (Ai x_4.1.sg (xh x_4) x_4.2.2.2.2.2),.int .i64 x.2.2.2.2.2,Ad i.2.2.2.2.2.1,.str i.2.2.2.2.1,AV.sl false (0:Nat) (1:Nat) (List UInt8) Bo (Bs (Int.toNat x.2.2.2.2.2)),.str e,.int .i64 (i_1.1+(1:Int))]) (inR IntKind.i64 (i_1.1+(1:Int))∧eN (lqI x.1 x.2.2.2.2.2 i) i_1 [srd x_4.1 (Ai x_4.1.sg (xh x_4) x_4.2.2.2.2.2),.int .i64 x.2.2.2.2.2,Ad i.2.2.2.2.2.1,.str i.2.2.2.2.1,AV.sl false (0:Nat) (1:Nat) (List UInt8) Bo (Bs (Int.toNat x.2.2.2.2.2)),.str i_1.2,.int .i64 (i_1.1+(1:Int))])) (inR IntKind.i64 (i_1.1+(1:Int))∧eN (lqI x.1 x.2.2.2.2.2 i) i_1 [srd x.1 (gM (iF i) i_1.2),.int .i64 x.2.2.2.2.2,Ad i.2.2.2.2.2.1,.str i.2.2.2.2.1,AV.sl false (0:Nat) (1:Nat) (List UInt8) Bo (Bs (Int.toNat x.2.2.2.2.2)),.str i_1.2,.int .i64 (i_1.1+(1:Int))])) (Aa (i_1.2== #[].toList) (Aa ((↑(List.length i.2.2.2.2.2.1):Int)==(1:Int)) (((0:Int)≤(0:Int)∧(0:Int)<(↑(List.length i.2.2.2.2.2.1):Int))∧(0:Nat)<List.length i.2.2.2.2.2.1∧∀(x_4:Int),i.2.2.2.2.2.1[(0:Nat)]? =some x_4→rA (Ld n) x [.int .i64 x_4,srd x.1 (gM (iF i) i_1.2),.top]) (cA Bm [srd x.1 (gM (iF i) i_1.2),.int .i64 (7:Int),.str i.2.2.2.2.1,Ad i.2.2.2.2.2.1] fun x_4 y=>rA (Ld n) x [.int .i64 (Au (xh x_4)),srd x_4.1 (Ah (xh x_4) {kind:=x_4.2.2.2.2.2.1,text:=x_4.2.2.2.2.2.2.1,kids:=x_4.2.2.2.2.2.2.2,blank:=false}),.top])) (Aa (!i.2.2.2.2.1== #[].toList) (Aa (!i_1.2==i.2.2.2.2.1) (cA Bm [srd x.1 (gM (iF i) i_1.2),.int .i64 (7:Int),.str i.2.2.2.2.1,Ad i.2.2.2.2.2.1] fun x_4 y=>∃(x_5:Int),Au (xh x_4)=x_5∧inR IntKind.i64 (x.2.2.2.2.2+(1:Int))∧cA (HF n) [srd x_4.1 (Ah (xh x_4) {kind:=x_4.2.2.2.2.2.1,text:=x_4.2.2.2.2.2.2.1,kids:=x_4.2.2.2.2.2.2.2,blank:=false}),.int .i64 (x.2.2.2.2.2+(1:Int))] fun x_6 y=>∃(x_7:Int),y.1=x_7∧∃(zs:List Int),Ad [x_7]=Ad zs∧Bt Ba∧AW (List.length [x_5]+List.length zs) (8:Nat)∧eN (lqO n x) i [srd x_6.1 (yG y.2),.int .i64 x.2.2.2.2.2,Ad ([x_5]++zs),.str i_1.2,AV.sl false (0:Nat) (1:Nat) (List UInt8) Bo (Bs (Int.toNat x.2.2.2.2.2))]) (inR IntKind.i64 (x.2.2.2.2.2+(1:Int))∧cA (HF n) [srd x.1 (gM (iF i) i_1.2),.int .i64 (x.2.2.2.2.2+(1:Int))] fun x_4 y=>∃(x_5:Int),y.1=x_5∧∃(zs:List Int),Ad [x_5]=Ad zs∧Bt Ba∧AW (List.length i.2.2.2.2.2.1+List.length zs) (8:Nat)∧eN (lqO n x) i [srd x_4.1 (yG y.2),.int .i64 x.2.2.2.2.2,Ad (i.2.2.2.2.2.1++zs),.str i_1.2,AV.sl false (0:Nat) (1:Nat) (List UInt8) Bo (Bs (Int.toNat x.2.2.2.2.2))])) (inR IntKind.i64 (x.2.2.2.2.2+(1:Int))∧cA (HF n) [srd x.1 (gM (iF i) i_1.2),.int .i64 (x.2.2.2.2.2+(1:Int))] fun x_4 y=>∃(x_5:Int),y.1=x_5∧∃(zs:List Int),Ad [x_5]=Ad zs∧Bt Ba∧AW (List.length i.2.2.2.2.2.1+List.length zs) (8:Nat)∧eN (lqO n x) i [srd x_4.1 (yG y.2),.int .i64 x.2.2.2.2.2,Ad (i.2.2.2.2.2.1++zs),.str i_1.2,AV.sl false (0:Nat) (1:Nat) (List UInt8) Bo (Bs (Int.toNat x.2.2.2.2.2))])))) (Aa ((↑(List.length i.2.2.2.2.2.1):Int)==(1:Int)) (((0:Int)≤(0:Int)∧(0:Int)<(↑(List.length i.2.2.2.2.2.1):Int))∧(0:Nat)<List.length i.2.2.2.2.2.1∧∀(x_4:Int),i.2.2.2.2.2.1[(0:Nat)]? =some x_4→rA (Ld n) x [.int .i64 x_4,srd x.1 (iF i),.top]) (cA Bm [srd x.1 (iF i),.int .i64 (7:Int),.str i.2.2.2.2.1,Ad i.2.2.2.2.2.1] fun x_4 y=>rA (Ld n) x [.int .i64 (Au (xh x_4)),srd x_4.1 (Ah (xh x_4) {kind:=x_4.2.2.2.2.2.1,text:=x_4.2.2.2.2.2.2.1,kids:=x_4.2.2.2.2.2.2.2,blank:=false}),.top])))) (fun x=>by kernel_rfl) fun(x:ST×Int×Int×Bool×List Nd×Int) (hx:wQ (9-x.2.2.2.2.2.toNat) (n+1) x.1 (xh x)∧0≤x.2.2.2.2.2∧x.2.2.2.2.2≤6)=>(by
 dsimp only[cA,eA,eN,lqI,lqO,Bf,Ad,As,rA,HF,Ld,QM,HG,Ca,Bm,Br,sgs,srd,Av,Az,mvL,lnL,mvE,lnE,BA]
 obtain⟨s,p,d,b,ns,e⟩:=x;dsimp only[xg,xh] at hx ⊢
 obtain⟨hx,h4,h5⟩:=hx
 have hx:wQ (9-e.toNat) (n+1) s ⟨p,d,b,ns⟩:=hx
 have h1:=hx.1.1.1;have hs:=h1.1
 (repeat' first|(with_reducible first|rfl|exact True.intro|apply AK|apply And.intro|((first|apply AA|apply AI|apply AB|apply AJ)<;>intro _))|(apply Ax<;>intro _)|apply AH|refine Af () ?_ ?_|((first|apply AO|apply AN|apply AM|apply AL|apply AG|apply AF|apply AE|apply AD|apply AC)<;>try dsimp only)|apply Af|(refine Prod.forall.2 ?_;intro _;try dsimp only)|(intro _;try dsimp only))
 all_goals(try dsimp only[xg,xh,yG,yS,iG,iF] at*)
 all_goals(try simp only[CG] at*)
 all_goals first
  |(show Nat;skip)
  |rfl
  |assumption
  |exact h1
  |exact b1j hx ‹_› h5
  |exact b1k ‹_› h5 ‹_›
  |exact b1l hx h4 ‹_›
  |exact b1m hx h4 ‹_› ‹_›
  |exact a1H hs ‹_›
  |exact a1I hs ‹_› ‹_›
  |exact b0B
  |(simp only[UC];done)
  |exact(JR ‹_› ‹_› ‹_› ‹_›).1
  |exact(JR ‹_› ‹_› ‹_› ‹_›).2.1
  |exact(JR ‹_› ‹_› ‹_› ‹_›).2.2.1
  |exact(JR ‹_› ‹_› ‹_› ‹_›).2.2.2
  |exact b0C ‹_› ‹_› ‹_› ‹_›
  |exact(UD ‹_› ‹_› ‹_› ‹_›).1
  |exact b0D ‹_› ‹_› ‹_›
  |exact a1J hx h4 ‹_› ‹_› ‹_› ‹_›
  |exact b1n hx h4 ‹_› ‹_› ‹_› ‹_› (bf ‹_›)
  |exact(a1K hs h4 ‹_› ‹_› ‹_› ‹_› (bf ‹_›) (bf ‹_›) ‹_›).1
  |exact(QT h4 ‹_› ‹_› ‹_› ‹_› (.inl (bt ‹_›)) ‹_›).1
  |exact(QT h4 ‹_› ‹_› ‹_› ‹_› (.inr (bt ‹_›)) ‹_›).1
  |exact b1o ‹_› ‹_› ‹_› ‹_› ‹_› ‹_›
  |exact b1p hs ‹_› ‹_› ‹_› ‹_› ‹_›
  |exact b1q ‹_› ‹_› ‹_› ‹_›
  |exact b1r hs ‹_› ‹_› ‹_›
  |((try simp only[AR]);omega)
  |(have hq:=b1t (show mkQ _ _ _ _ _ by assumption);(try simp only[AR]);omega)
  |(have hq:=b1s hs (show csJ _ _ _ _ _ _ _ _ by assumption);(try simp only[AW,List.length_append,List.length_cons,List.length_nil]);omega)
  |skip
 all_goals first
  |exact(a1K hs h4 ‹_› ‹_› ‹_› ‹_› (bf ‹_›) (bf ‹_›) ‹_›).2
  |exact(QT h4 ‹_› ‹_› ‹_› ‹_› (.inl (bt ‹_›)) ‹_›).2
  |exact(QT h4 ‹_› ‹_› ‹_› ‹_› (.inr (bt ‹_›)) ‹_›).2
  |(simp only[UC];done)
  |skip
 all_goals(try(repeat(rename(Bs _)[_]? =some _=>hq;revert hq;rename(Bs _)[_]? =some _=>hr;intro hq;rw[hr] at hq;cases hq)))
 all_goals first
  |exact(UD ‹_› ‹_› ‹_› ‹_›).1
  |exact(JR ‹_› ‹_› ‹_› ‹_›).1
  |exact(JR ‹_› ‹_› ‹_› ‹_›).2.1
  |exact(JR ‹_› ‹_› ‹_› ‹_›).2.2.1
  |exact(JR ‹_› ‹_› ‹_› ‹_›).2.2.2
  |(rw[CT ‹_›];done)
  |skip)
def Le(n:Nat):Sig:= {X:=ST×Int×Int×Bool×List Nd,args:=fun x=>[srd x.1 (xg x)],pre:=fun x=>vQ 10 (n+1) x.1 (xg x),Y:=Int×Int×Int×Bool×List Nd,post:=fun x y=>Ae x.1.sg (xg x) (pE x.1.sg (n+1) .pick) (yS y),res:=fun x y=> .int .i64 y.1,outs:=fun x y=>[srd x.1 (yG y.2)],keep:=true}
theorem b1B(n:Nat)(h:qAll G n):Aq G Tryz.prog 142 (Le n):=
 vcFun_okP [(171,0,(HF n)),(73,0,Ca),(142,0,(Gr n)),(72,0,BM),(43,0,Bm)] [(45,⟨Int,Ba⟩)] false (fun x=>[]) Tryz.func142 rfl (by decide) ⟨h.chain,GU,h.pick,HC,GV,trivial⟩ (fun(x:ST×Int×Int×Bool×List Nd)=>True∧Aa (xg x).bad (rA (Le n) x [.int .i64 (0:Int),srd x.1 (xg x)]) (inR IntKind.i64 ((xg x).deep+(1:Int))∧Aa (decide ((xg x).deep+(1:Int)>(20:Int))) (cA (HF n) [.box 0 [sgs x.1.sg,.int .i64 (xg x).pos,.bool true,.int .i64 ((xg x).deep+(1:Int)),As (xg x).nodes],.int .i64 (0:Int)] fun x_1 y=>cA Ca [srd x_1.1 (yG y.2),.str #[(63:UInt8)].toList] fun x_2 y_1=>Aa (isG x_2.1.sg (xh x_2) (4:Int) x_2.2.2.2.2.2) (cA (Gr n) [srd x_2.1 (Ai x_2.1.sg (xh x_2) x_2.2.2.2.2.2)] fun x_3 y_2=>cA BM [srd x_3.1 (yG y_2.2),.str #[(58:UInt8)].toList] fun x_4 y_3=>cA (Gr n) [srd x_4.1 (Al x_4.1.sg (xh x_4) x_4.2.2.2.2.2)] fun x_5 y_4=>∃(x_6:Int),y.1=x_6∧∃(x_7:Int),y_2.1=x_7∧∃(x_8:Int),y_4.1=x_8∧cA Bm [srd x_5.1 (yG y_4.2),.int .i64 (8:Int),.str #[].toList,Ad [x_6,x_7,x_8]] fun x_9 y=>inR IntKind.i64 ((Ah (xh x_9) {kind:=x_9.2.2.2.2.2.1,text:=x_9.2.2.2.2.2.2.1,kids:=x_9.2.2.2.2.2.2.2,blank:=false}).deep-(1:Int))∧rA (Le n) x [.int .i64 (Au (xh x_9)),.box 0 [sgs x_9.1.sg,.int .i64 (Ah (xh x_9) {kind:=x_9.2.2.2.2.2.1,text:=x_9.2.2.2.2.2.2.1,kids:=x_9.2.2.2.2.2.2.2,blank:=false}).pos,.bool (Ah (xh x_9) {kind:=x_9.2.2.2.2.2.1,text:=x_9.2.2.2.2.2.2.1,kids:=x_9.2.2.2.2.2.2.2,blank:=false}).bad,.int .i64 ((Ah (xh x_9) {kind:=x_9.2.2.2.2.2.1,text:=x_9.2.2.2.2.2.2.1,kids:=x_9.2.2.2.2.2.2.2,blank:=false}).deep-(1:Int)),As (Ah (xh x_9) {kind:=x_9.2.2.2.2.2.1,text:=x_9.2.2.2.2.2.2.1,kids:=x_9.2.2.2.2.2.2.2,blank:=false}).nodes]]) (inR IntKind.i64 ((Ai x_2.1.sg (xh x_2) x_2.2.2.2.2.2).deep-(1:Int))∧rA (Le n) x [.int .i64 y.1,.box 0 [sgs x_2.1.sg,.int .i64 (Ai x_2.1.sg (xh x_2) x_2.2.2.2.2.2).pos,.bool (Ai x_2.1.sg (xh x_2) x_2.2.2.2.2.2).bad,.int .i64 ((Ai x_2.1.sg (xh x_2) x_2.2.2.2.2.2).deep-(1:Int)),As (Ai x_2.1.sg (xh x_2) x_2.2.2.2.2.2).nodes]])) (cA (HF n) [.box 0 [sgs x.1.sg,.int .i64 (xg x).pos,.bool (xg x).bad,.int .i64 ((xg x).deep+(1:Int)),As (xg x).nodes],.int .i64 (0:Int)] fun x_1 y=>cA Ca [srd x_1.1 (yG y.2),.str #[(63:UInt8)].toList] fun x_2 y_1=>Aa (isG x_2.1.sg (xh x_2) (4:Int) x_2.2.2.2.2.2) (cA (Gr n) [srd x_2.1 (Ai x_2.1.sg (xh x_2) x_2.2.2.2.2.2)] fun x_3 y_2=>cA BM [srd x_3.1 (yG y_2.2),.str #[(58:UInt8)].toList] fun x_4 y_3=>cA (Gr n) [srd x_4.1 (Al x_4.1.sg (xh x_4) x_4.2.2.2.2.2)] fun x_5 y_4=>∃(x_6:Int),y.1=x_6∧∃(x_7:Int),y_2.1=x_7∧∃(x_8:Int),y_4.1=x_8∧cA Bm [srd x_5.1 (yG y_4.2),.int .i64 (8:Int),.str #[].toList,Ad [x_6,x_7,x_8]] fun x_9 y=>inR IntKind.i64 ((Ah (xh x_9) {kind:=x_9.2.2.2.2.2.1,text:=x_9.2.2.2.2.2.2.1,kids:=x_9.2.2.2.2.2.2.2,blank:=false}).deep-(1:Int))∧rA (Le n) x [.int .i64 (Au (xh x_9)),.box 0 [sgs x_9.1.sg,.int .i64 (Ah (xh x_9) {kind:=x_9.2.2.2.2.2.1,text:=x_9.2.2.2.2.2.2.1,kids:=x_9.2.2.2.2.2.2.2,blank:=false}).pos,.bool (Ah (xh x_9) {kind:=x_9.2.2.2.2.2.1,text:=x_9.2.2.2.2.2.2.1,kids:=x_9.2.2.2.2.2.2.2,blank:=false}).bad,.int .i64 ((Ah (xh x_9) {kind:=x_9.2.2.2.2.2.1,text:=x_9.2.2.2.2.2.2.1,kids:=x_9.2.2.2.2.2.2.2,blank:=false}).deep-(1:Int)),As (Ah (xh x_9) {kind:=x_9.2.2.2.2.2.1,text:=x_9.2.2.2.2.2.2.1,kids:=x_9.2.2.2.2.2.2.2,blank:=false}).nodes]]) (inR IntKind.i64 ((Ai x_2.1.sg (xh x_2) x_2.2.2.2.2.2).deep-(1:Int))∧rA (Le n) x [.int .i64 y.1,.box 0 [sgs x_2.1.sg,.int .i64 (Ai x_2.1.sg (xh x_2) x_2.2.2.2.2.2).pos,.bool (Ai x_2.1.sg (xh x_2) x_2.2.2.2.2.2).bad,.int .i64 ((Ai x_2.1.sg (xh x_2) x_2.2.2.2.2.2).deep-(1:Int)),As (Ai x_2.1.sg (xh x_2) x_2.2.2.2.2.2).nodes]])))) (fun x=>by kernel_rfl) fun(x:ST×Int×Int×Bool×List Nd) (hx:vQ 10 (n+1) x.1 (xg x))=>(by
 dsimp only[cA,Bf,Ad,As,rA,HF,Ca,Gr,Le,Bm,BM,Br,sgs,srd,Av,Az,mvL,lnL,mvE,lnE]
 obtain⟨s,p,d,b,ns⟩:=x;dsimp only[xg,xh] at hx ⊢
 have hx:vQ 10 (n+1) s ⟨p,d,b,ns⟩:=hx
 have h1:=hx.1.1.1;have h2:=hx.1.1.2;have h3:=hx.1.2;have hs:=h1.1;dsimp only at h2 h3
 (repeat' first|(with_reducible first|rfl|exact True.intro|apply AK|apply And.intro|((first|apply AA|apply AI|apply AB|apply AJ)<;>intro _))|(apply Ax<;>intro _)|apply AH|refine Af () ?_ ?_|((first|apply AO|apply AN|apply AM|apply AL|apply AG|apply AF|apply AE|apply AD|apply AC)<;>try dsimp only)|apply Af|(refine Prod.forall.2 ?_;intro _;try dsimp only)|(intro _;try dsimp only))
 all_goals(try dsimp only[xg,xh,yG,yS,iG,iF] at*)
 all_goals(try simp only[CG] at*)
 all_goals(try(first|(have hz:=b1u (b:=b) h2 ‹_› (show Ae s.sg ⟨p,d+1,true,ns⟩ (pE s.sg n (.chain _)) _ by assumption))|(have hz:=b1v ‹_› (show Ae s.sg ⟨p,d+1,b,ns⟩ (pE s.sg n (.chain _)) _ by assumption))))
 all_goals first
  |rfl
  |assumption
  |exact a1u h1.2 ‹_›
  |exact b1w hx ‹_›
  |exact b1x hx ‹_›
  |exact Dg h1 hz
  |(clear hz;exact Dg h1 ‹_›)
  |exact⟨TQ h1 h2 h3 hz ‹_›,hx.2⟩
  |exact⟨ZR h1 h2 h3 hz ‹_› ‹_›,hx.2⟩
  |exact ZS h1 h2 hz ‹_› ‹_› ‹_›
  |exact ZT h1 h2 hz ‹_›
  |(have hq:=ZU h1 hz ‹_›;(try dsimp only at hq);(try simp only[AR]);omega)
  |(have hq:=ZV (show Ae s.sg (Al s.sg _ _) _ _ by assumption);(try dsimp only at hq);(try simp only[AR,PZ]);omega)
  |(have hq:=(DD h1).1.2;dsimp only at hq;(try simp only[AR]);omega)
  |skip)
def QU(n:Nat):Sig:= {X:=ST×Int×Int×Bool×List Nd,args:=fun x=>[srd x.1 (xg x)],pre:=fun x=>vQ 11 (n+1) x.1 (xg x),Y:=Int×Int×Int×Bool×List Nd,post:=fun x y=>Ae x.1.sg (xg x) (pE x.1.sg (n+1) .value) (yS y),res:=fun x y=> .int .i64 y.1,outs:=fun x y=>[srd x.1 (yG y.2)],keep:=true}
def QV(n:Nat)(x:ST×Int×Int×Bool×List Nd):LS:= {ι:=Int×Int×Bool×List Nd×List Int×Nat,inv:=fun i=>vaJ x.1.sg n (xg x) (iG i) i.2.2.2.2.1 i.2.2.2.2.2,regs:=fun i=>[(0,srd x.1 (iG i)),(4,Ad i.2.2.2.2.1)],als:=[],meas:=fun i=>i.2.2.2.2.2}
theorem b1C(n:Nat)(h:qAll G n):Aq G Tryz.prog 107 (QU n):=
 vcFun_okP [(142,0,(Gr n)),(106,0,DN),(73,0,Ca),(69,0,CA),(43,0,Bm),(72,0,BM),(143,0,(FS n))] [(45,⟨Int,Ba⟩)] false (fun x=>[(5,QV n x)]) Tryz.func107 rfl (by decide) ⟨h.pick,NW,GU,JQ,GV,HC,(UH n h),trivial⟩ (fun(x:ST×Int×Int×Bool×List Nd)=>True∧cA (Gr n) [srd x.1 (xg x)] fun x_1 y=>cA DN [srd x_1.1 (yG y.2),.int .i64 (4:Int),.str #[(46:UInt8),(46:UInt8)].toList] fun x_2 y_1=>Aa (!isG x_2.1.sg (xh x_2) x_2.2.2.2.2.2.1 x_2.2.2.2.2.2.2) (rA (QU n) x [.int .i64 y.1,srd x_2.1 (xh x_2)]) (∃(x_3:Int),y.1=x_3∧eA (QV n x) [srd x_2.1 (xh x_2),Ad [x_3]]∧∀(i:Int×Int×Bool×List Nd×List Int×Nat),vaJ x.1.sg n (xg x) (iG i) i.2.2.2.2.1 i.2.2.2.2.2→cA Ca [srd x.1 (iG i),.str #[(46:UInt8),(46:UInt8)].toList] fun x_4 y=>Aa (isG x_4.1.sg (xh x_4) (4:Int) x_4.2.2.2.2.2) (cA CA [srd x_4.1 (Ai x_4.1.sg (xh x_4) x_4.2.2.2.2.2),.int .i64 (1:Int)] fun x_5 y=>cA Bm [srd x_5.1 (Bd x_5.1.sg (xh x_5) x_5.2.2.2.2.2),.int .i64 (1:Int),.str (Bv x_5.1.sg (xh x_5) x_5.2.2.2.2.2),Ad []] fun x_6 y=>cA BM [srd x_6.1 (Ah (xh x_6) {kind:=x_6.2.2.2.2.2.1,text:=x_6.2.2.2.2.2.2.1,kids:=x_6.2.2.2.2.2.2.2,blank:=false}),.str #[(40:UInt8)].toList] fun x_7 y=>∃(x_8:Int),Au (xh x_6)=x_8∧cA (FS n) [srd x_7.1 (Al x_7.1.sg (xh x_7) x_7.2.2.2.2.2),.str #[(41:UInt8)].toList,Ad [x_8]] fun x_9 y=>cA Bm [srd x_9.1 (yG y.2),.int .i64 (5:Int),.str #[].toList,Ad y.1] fun x_10 y=>∃(x_11:Int),Au (xh x_10)=x_11∧∃(zs:List Int),Ad [x_11]=Ad zs∧Bt Ba∧AW (List.length i.2.2.2.2.1+List.length zs) (8:Nat)∧eN (QV n x) i [srd x_10.1 (Ah (xh x_10) {kind:=x_10.2.2.2.2.2.1,text:=x_10.2.2.2.2.2.2.1,kids:=x_10.2.2.2.2.2.2.2,blank:=false}),Ad (i.2.2.2.2.1++zs)]) (cA Bm [srd x_4.1 (Ai x_4.1.sg (xh x_4) x_4.2.2.2.2.2),.int .i64 (10:Int),.str #[].toList,Ad i.2.2.2.2.1] fun x_5 y=>rA (QU n) x [.int .i64 (Au (xh x_5)),srd x_5.1 (Ah (xh x_5) {kind:=x_5.2.2.2.2.2.1,text:=x_5.2.2.2.2.2.2.1,kids:=x_5.2.2.2.2.2.2.2,blank:=false})]))) (fun x=>by kernel_rfl) fun(x:ST×Int×Int×Bool×List Nd) (hx:vQ 11 (n+1) x.1 (xg x))=>(by
 dsimp only[cA,eA,eN,QV,Bf,Ad,As,rA,DN,Ca,Gr,Bm,CA,QU,FS,BM,Br,sgs,srd,Av,Az,mvL,lnL,mvE,lnE,BA]
 obtain⟨s,p,d,b,ns⟩:=x;dsimp only[xg,xh] at hx ⊢
 have hx:vQ 11 (n+1) s ⟨p,d,b,ns⟩:=hx
 have h1:=hx.1.1.1;have h2:=hx.1.1.2;have h3:=hx.1.2;have hs:=h1.1;dsimp only at h2 h3
 (repeat' first|(with_reducible first|rfl|exact True.intro|apply AK|apply And.intro|((first|apply AA|apply AI|apply AB|apply AJ)<;>intro _))|(apply Ax<;>intro _)|apply AH|refine Af () ?_ ?_|((first|apply AO|apply AN|apply AM|apply AL|apply AG|apply AF|apply AE|apply AD|apply AC)<;>try dsimp only)|apply Af|(refine Prod.forall.2 ?_;intro _;try dsimp only)|(intro _;try dsimp only))
 all_goals(try dsimp only[xg,xh,yG,yS,iG] at*)
 all_goals(try simp only[CG] at*)
 all_goals first
  |(show Nat;skip)
  |rfl
  |assumption
  |exact⟨ZW h1 h2 h3,hx.2⟩
  |exact Dg h1 ‹_›
  |exact ZX h1 ‹_› ‹_›
  |exact ZY h1 h2 ‹_› ‹_›
  |exact Qa h1 ‹_›
  |exact(UN hs ‹_›).1
  |exact(UN hs ‹_›).2.1
  |exact(UN hs ‹_›).2.2
  |exact b1y hx ‹_› ‹_›
  |exact UK hs ‹_›
  |exact(a1L hs ‹_› ‹_› ‹_›).1
  |exact a0b h1 ‹_› ‹_›
  |exact a0c h1 ‹_› ‹_›
  |omega
  |(simp;done)
  |(have hq:=ZZ hs (show vaJ _ _ _ _ _ _ by assumption);(try simp only[AW,List.length_append,List.length_cons,List.length_nil]);omega)
  |skip
 all_goals first
  |exact(a1L hs ‹_› ‹_› ‹_›).2
  |skip)
theorem UO{r:Nat}{s:ST}{g:Gs}(hr:1≤r)(h:wQ r 0 s g):False:=Qm hr h.1
theorem a1M{r:Nat}{s:ST}{g:Gs}(hr:1≤r)(h:vQ r 0 s g):False:=TW hr h.1
theorem b1D:qAll G 0:=
 ⟨FR Tryz.func107 rfl (by decide) (fun x h=>a1M (by omega) h),FR Tryz.func142 rfl (by decide) (fun x h=>a1M (by omega) h),
  FR Tryz.func171 rfl (by decide) (fun x h=>UO (by have:=h.2;omega) h.1),FR Tryz.func185 rfl (by decide) (fun x h=>UO (by omega) h),FR Tryz.func191 rfl (by decide) (fun x h=>UO (by omega) h)⟩
theorem b1E(n:Nat):qAll G n:=by
 induction n with
 |zero=>exact b1D
 |succ n ih=>exact⟨b1C n ih,b1B n ih,b1A n ih,b1i n ih,b1h n ih⟩
def Fw:Sig:= {X:=ST×Int×Int×Bool×List Nd,args:=fun x=>[srd x.1 (xg x)],pre:=fun x=>okD x.1 (xg x)∧sgM x.1.sg,Y:=Int×Int×Int×Bool×List Nd,post:=fun x y=>Ae x.1.sg (xg x) (BZ x.1.sg) (yS y),res:=fun x y=> .int .i64 y.1,outs:=fun x y=>[srd x.1 (yG y.2)],keep:=true}
theorem a1N{s:ST}{g:Gs}(h:okD s g∧sgM s.sg):vQ 11 peN s g:=⟨TX h.1,h.2⟩
theorem UP:Aq G Go.Proofs.Tryz.prog 107 Fw:=
 have c:=(b1E (G:=G) peN).val
 ⟨⟨c.1.1,fun x y hx hy=>c.1.2 x y (a1N hx) hy⟩,fun x hx=>c.2 x (a1N hx)⟩
end Go.My
end
section
set_option linter.unusedVariables false
set_option linter.unusedSimpArgs false
namespace Go.My
open Go.Eng
def UQ(e:Nd)(b:Bool):Nd:=⟨e.kind,e.text,e.kids,b⟩
def QW(b:Bool)(p:Int×Ps):Int×Ps:=(p.1,⟨p.2.pos,p.2.deep,p.2.nodes.set p.1.toNat (UQ (Ag p.2.nodes p.1) b)⟩)
def BL(f:Bool→Ps→PR):Prop:=∀b s,f b s=(f false s).map (QW b)∧∀p,f b s=some p→1≤p.2.nodes.length∧p.1=(p.2.nodes.length:Int)-1
theorem Mv{k:Int}{t:List UInt8}{ks:List Int}:BL (fun b=>AZ ⟨k,t,ks,b⟩):=by
 intro b s
 by_cases h:300≤s.nodes.length
 ·simp only[UA h];exact⟨rfl,fun p hp=>by cases hp⟩
 ·simp only[Uz h]
  refine⟨?_,fun p hp=>by simp only[Option.some.injEq] at hp;subst hp;simp⟩
  simp only[Option.map_some,QW,Int.toNat_natCast]
  congr 3
  have e:Ag (s.nodes++[⟨k,t,ks,false⟩]) (s.nodes.length:Int)=⟨k,t,ks,false⟩:=BH (by simp)
  rw[e]
  simp [UQ]
theorem a1O{f:Bool→Ps→PR}(h:BL f):BL (fun b s=>Ef (f b s)):=by
 intro b s
 obtain⟨h1,h2⟩:=h b s
 refine⟨?_,fun p hp=> ?_⟩
 ·simp only[Ef];rw[h1]
  cases f false s with
  |none=>rfl
  |some p=>rfl
 ·simp only[Ef,Option.map_eq_some_iff] at hp
  obtain⟨q,hq,rfl⟩:=hp
  exact h2 q hq
theorem Fx{α:Type}{h:Ps→Option (α×Ps)}{g:Bool→α→Ps→PR}(hg:∀a,BL (fun b=>g b a)):BL (fun b s=>(h s).bind fun p=>g b p.1 p.2):=by
 intro b s
 simp only
 cases h s with
 |none=>exact⟨rfl,fun p hp=>by cases hp⟩
 |some p=>exact hg p.1 b p.2
theorem UR{h:Ps→Option Ps}{g:Bool→Ps→PR}(hg:BL g):BL (fun b s=>(h s).bind fun p=>g b p):=by
 intro b s
 simp only
 cases h s with
 |none=>exact⟨rfl,fun p hp=>by cases hp⟩
 |some p=>exact hg b p
theorem Fy{c:Ps→Prop}[inst:∀s,Decidable (c s)]{f g:Bool→Ps→PR}(hf:BL f)(hg:BL g):BL (fun b s=>if c s then f b s else g b s):=by
 intro b s
 by_cases h:c s
 ·simp only[if_pos h];exact hf b s
 ·simp only[if_neg h];exact hg b s
theorem a1P:BL (fun _ _=>none):=fun b s=>⟨rfl,fun p hp=>by cases hp⟩
theorem Lf{f:Bool→Ps→PR}{a:Ps→Ps}(h:BL f):BL (fun b s=>f b (a s)):=fun b s=>h b (a s)
theorem b1F{f:Ps→Bool→Ps→PR}(h:∀q,BL (f q)):BL (fun b s=>f s b s):=fun b s=>h s b s
theorem US{sg:List Sg}{k:Int}:BL (DM sg k):=fun b s=>a1O (Mv (k:=k) (t:=(sgO sg s.pos).text) (ks:=[])) b s
theorem Lg{sg:List Sg}{m:List UInt8}{k:Int}{t:List UInt8}{ks:List Int}:BL (fun b=>Bl sg m ⟨k,t,ks,b⟩):=Fy (c:=fun s=>isM sg s m=true) (a1O Mv) a1P
theorem UT{sg:List Sg}:BL (Dd sg):=
 Fx (h:=EW sg) (g:=fun b t s=>if isM sg s [61] then(BZ sg (adv s)).bind fun q=>Bl sg [59] ⟨12,t,[q.1],b⟩ q.2 else Bl sg [59] ⟨12,t,[],b⟩ s) (fun t=>
  Fy (c:=fun s=>isM sg s [61]=true) (Fx (h:=fun s=>BZ sg (adv s)) (g:=fun b k s=>Bl sg [59] ⟨12,t,[k],b⟩ s) (fun _=>Lg)) Lg)
theorem b1G{sg:List Sg}:BL (FO sg):=
 Fy (c:=fun s=>isM sg s [59]=true) Lg (Fx (h:=BZ sg) (g:=fun b k s=>Bl sg [59] ⟨15,[],[k],b⟩ s) (fun _=>Lg))
theorem b1H{sg:List Sg}{n:Nat}:BL (ifR sg n):=
 Fx (h:=CZ sg) (g:=fun b c s=>(BE sg (stR sg n) s).bind fun q=>if isW sg q.2 [101,108,115,101] then(BE sg (stR sg n) (adv q.2)).bind fun r=>AZ ⟨16,[],[c,q.1,r.1],b⟩ r.2 else AZ ⟨16,[],[c,q.1],b⟩ q.2) (fun c=>
  Fx (h:=BE sg (stR sg n)) (g:=fun b k s=>if isW sg s [101,108,115,101] then(BE sg (stR sg n) (adv s)).bind fun r=>AZ ⟨16,[],[c,k,r.1],b⟩ r.2 else AZ ⟨16,[],[c,k],b⟩ s) (fun k=>
   Fy (c:=fun s=>isW sg s [101,108,115,101]=true) (Fx (h:=fun s=>BE sg (stR sg n) (adv s)) (g:=fun b r s=>AZ ⟨16,[],[c,k,r],b⟩ s) (fun _=>Mv)) Mv))
theorem b1I{sg:List Sg}{n:Nat}:BL (whR sg n):=
 Fx (h:=CZ sg) (g:=fun b c s=>(BE sg (stR sg n) s).bind fun q=>AZ ⟨17,[],[c,q.1],b⟩ q.2) (fun c=>Fx (h:=BE sg (stR sg n)) (g:=fun b k s=>AZ ⟨17,[],[c,k],b⟩ s) (fun _=>Mv))
theorem b1J{sg:List Sg}:BL (doR sg):=Fx (h:=BZ sg) (g:=fun b k s=>Bl sg [59] ⟨14,[],[k],b⟩ s) (fun _=>Lg)
theorem UU{sg:List Sg}:∀ {n:Nat},BL (stR sg n)
 |0=>a1P
 |n+1=>by
  intro b s
  rw[IP,IP]
  exact Fy (c:=fun s=>(sgO sg s.pos).kind=5) US (Fy (c:=fun s=>isW sg s [118,97,114]=true) (Lf (a:=adv) UT) (Fy (c:=fun s=>isW sg s [114,101,116,117,114,110]=true) (Lf (a:=adv) b1G)
   (Fy (c:=fun s=>isW sg s [105,102]=true) (Lf (a:=adv) b1H) (Fy (c:=fun s=>isW sg s [119,104,105,108,101]=true) (Lf (a:=adv) b1I)
     (Fy (c:=fun s=>(CY sg s.pos&&isM sg (adv s) [61])=true) (b1F (f:=fun q b s=>(BZ sg (adv (adv s))).bind fun p=>Bl sg [59] ⟨13,(sgO sg q.pos).text,[p.1],b⟩ p.2) (fun q=>Fx (h:=fun s=>BZ sg (adv (adv s))) (g:=fun b k s=>Bl sg [59] ⟨13,(sgO sg q.pos).text,[k],b⟩ s) (fun _=>Lg))) b1J))))) b s
theorem a1Q{sg:List Sg}:BL (EK sg):=
 Fx (h:=EW sg) (g:=fun b t s=>(BC sg [40] s).bind fun s1=>(Bg sg (Bu sg) [41] (sg.length+1) [] s1).bind fun q=>(BC sg [41] q.2).bind fun s2=>(Ey sg s2).bind fun r=>AZ ⟨20,t,q.1++[r.1],b⟩ r.2) (fun t=>
  UR (h:=BC sg [40]) (g:=fun b s1=>(Bg sg (Bu sg) [41] (sg.length+1) [] s1).bind fun q=>(BC sg [41] q.2).bind fun s2=>(Ey sg s2).bind fun r=>AZ ⟨20,t,q.1++[r.1],b⟩ r.2)
   (Fx (h:=Bg sg (Bu sg) [41] (sg.length+1) []) (g:=fun b ks s=>(BC sg [41] s).bind fun s2=>(Ey sg s2).bind fun r=>AZ ⟨20,t,ks++[r.1],b⟩ r.2) (fun ks=>
     UR (h:=BC sg [41]) (g:=fun b s2=>(Ey sg s2).bind fun r=>AZ ⟨20,t,ks++[r.1],b⟩ r.2) (Fx (h:=Ey sg) (g:=fun b k s=>AZ ⟨20,t,ks++[k],b⟩ s) (fun _=>Mv)))))
theorem UV{sg:List Sg}:BL (CN sg):=Fy (c:=fun s=>(sgO sg s.pos).kind=5) US (Fy (c:=fun s=>isW sg s [118,97,114]=true) (Lf (a:=adv) UT) a1Q)
theorem b1K{sg:List Sg}:BL (EY sg):=
 Fx (h:=EW sg) (g:=fun b t s=>(BC sg [123] s).bind fun s1=>(CE sg (CN sg) [125] (sg.length+1) [] s1).bind fun q=>Bl sg [125] ⟨21,t,q.1,b⟩ q.2) (fun t=>
  UR (h:=BC sg [123]) (g:=fun b s1=>(CE sg (CN sg) [125] (sg.length+1) [] s1).bind fun q=>Bl sg [125] ⟨21,t,q.1,b⟩ q.2)
   (Fx (h:=CE sg (CN sg) [125] (sg.length+1) []) (g:=fun b ks s=>Bl sg [125] ⟨21,t,ks,b⟩ s) (fun _=>Lg)))
theorem UW{sg:List Sg}:BL (De sg):=Fy (c:=fun s=>(sgO sg s.pos).kind=5) US (Fy (c:=fun s=>isW sg s [118,97,114]=true) (Lf (a:=adv) UT) (Fy (c:=fun s=>isW sg s [99,108,97,115,115]=true) (Lf (a:=adv) b1K) a1Q))
theorem a1R{sg:List Sg}{x y:Gs}{f:Bool→Ps→PR}{k:Int}(hf:BL f)(h:Ae sg x (f false) (k,y))(hb:y.bad=false):1≤y.nodes.length∧k=(y.nodes.length:Int)-1:=by
 obtain⟨⟨a1,a2,a3,a4,a5⟩,_⟩:=h
 simp only at a4 a5
 rw[CR hb] at a4
 cases hp:(pur x).bind (f false) with
 |none=>rw[hp] at a4;cases a4
 |some p=>
  rw[hp] at a4
  simp only[Option.map_some,Option.some.injEq] at a4
  have e:=a5 p hp
  cases hs:pur x with
  |none=>rw[hs] at hp;cases hp
  |some s=>
   rw[hs] at hp;simp only[Option.bind_some] at hp
   have:=(hf false s).2 p hp
   rw[←a4] at this;simp only at this;rw[e];exact this
theorem UX{sg:List Sg}{x y:Gs}{f:Bool→Ps→PR}{k:Int}{b:Bool}(hf:BL f)(h:Ae sg x (f false) (k,y)):Ae sg x (f b) (k,gBl y k b):=by
 have hk:=a1R hf h
 obtain⟨⟨a1,a2,a3,a4,a5⟩,c⟩:=h
 simp only at a1 a2 a3 a4 a5 c
 have eb:(pur x).bind (f b)=((pur x).bind (f false)).map (QW b):=by
  cases pur x with
  |none=>rfl
  |some s=>exact(hf b s).1
 cases hb:y.bad with
 |true=>
  have e:gBl y k b=y:=by rw[gBl,if_neg (by simp [hb])]
  rw[e]
  rw[DC hb] at a4
  have hn:(pur x).bind (f false)=none:=by
   cases hp:(pur x).bind (f false) with
   |none=>rfl
   |some p=>rw[hp] at a4;cases a4
  refine⟨⟨a1,a2,a3,?_,fun p hp=> ?_⟩,c⟩
  ·rw[eb,hn,DC hb];rfl
  ·rw[eb,hn] at hp;cases hp
 |false=>
  obtain⟨k1,k2⟩:=hk hb
  have hlt:k<(y.nodes.length:Int):=by omega
  have e:gBl y k b=⟨y.pos,y.deep,y.bad,y.nodes.set k.toNat (UQ (Ag y.nodes k) b)⟩:=by rw[gBl,if_pos ⟨hb,hlt⟩];rfl
  rw[e]
  have hat:Cq (Ag y.nodes k):=by
   have hkl:k.toNat<y.nodes.length:=by omega
   have:=a1.2.2.2 (y.nodes[k.toNat]) (List.getElem_mem hkl)
   rw[BH (List.getElem?_eq_getElem hkl)];exact this
  refine⟨⟨⟨a1.1,a1.2.1,by simpa using a1.2.2.1,fun w hw=> ?_⟩,a2,a3,?_,fun p hp=> ?_⟩,c⟩
  ·rcases List.mem_or_eq_of_mem_set hw with hw|hw
   ·exact a1.2.2.2 w hw
   ·subst hw;exact hat
  ·rw[eb]
   rw[CR hb] at a4
   cases hp:(pur x).bind (f false) with
   |none=>rw[hp] at a4;cases a4
   |some p=>
    rw[hp] at a4
    simp only[Option.map_some,Option.some.injEq] at a4 ⊢
    have:=a5 p hp
    rw[CR (by exact hb)]
    simp only[QW,←a4,this]
  ·rw[eb,Option.map_eq_some_iff] at hp
   obtain⟨q,hq,rfl⟩:=hp
   exact a5 q hq
theorem Mw{sg:List Sg}{x y:Gs}{f:Bool→Ps→PR}{k:Int}(hf:BL f)(h:Ae sg x (f false) (k,y)):y.bad=false→0≤k:=fun hb=>by have:=a1R hf h hb;omega
theorem UY{sg:List Sg}{y:Gs}(hb:y.bad=false):blG sg y=(pkG sg y 0).blank:=by
 rw[blG,pkG]
 by_cases h:y.pos<sg.length
 ·rw[if_neg (by simp [hb];omega)];simp [h]
 ·rw[if_pos (.inr (by omega))];simp [h,Ew]
theorem b1L{sg:List Sg}{x:Gs}{one:Bool→Ps→PR}(h:gsOk sg x)(hd:x.deep≤20):restP sg x (BE sg one) (pkX (Al sg x [123]))
 (fun s1=>(CE sg one [125] (sg.length+1) [] s1).bind fun p=>(Bl sg [125] ⟨18,[],p.1,false⟩ p.2).map fun q=>(q.1,dp q.2 (-1))) 1:=by
 have t:=Ft (m:=[123]) h
 have a:=a0i (one:=one) h hd
 have t1:=t.1;have t2:=t.2.1
 by_cases h20:x.deep=20
 ·rw[if_pos h20] at a
  have e:pkX (Al sg x [123])=gDp (Bc (Al sg x [123])) 1:=by rw[pkX,if_pos (by omega)]
  have e2:Al sg (gDp (Bc x) 1) [123]=gDp (Bc x) 1:=QJ rfl
  rw[e2] at a
  rw[e]
  refine Ux a ⟨t1.1,by simp only[gDp,Bc];omega,t1.2.2⟩ (by simp only[gDp,Bc];omega) (by simp only[gDp,Bc];omega) rfl
 ·rw[if_neg h20] at a
  have e:pkX (Al sg x [123])=gDp (Al sg x [123]) 1:=by rw[pkX,if_neg (by omega)]
  rw[e]
  have e2:Al sg (gDp x 1) [123]=gDp (Al sg x [123]) 1:=by
   have:isG sg (gDp x 1) 4 [123]=isG sg x 4 [123]:=rfl
   cases hq:isG sg x 4 [123] with
   |true=>rw[IU hq,IU (by rw[this];exact hq)];rfl
   |false=>rw[NY hq,NY (by rw[this];exact hq)];rfl
  rw[e2] at a;exact a
theorem a1S{g:Gs}{d:Int}{w:Nd}:Ah (gDp g d) w=gDp (Ah g w) d∧Au (gDp g d)=Au g:=by
 have hf:CM (gDp g d)=CM g:=rfl
 unfold Ah Au
 rw[hf]
 cases CM g<;>exact⟨rfl,rfl⟩
theorem a1T{sg:List Sg}{one:Bool→Ps→PR}{x:Gs}{l:List Int×Gs}(h:gsOk sg x)(hd:x.deep≤20)(hl:Bh sg (pkX (Al sg x [123])) (CE sg one [125] (sg.length+1) []) l)(hll:l.1.length≤3001):
 Ae sg x (BE sg one) (Au (gDp (Al sg l.2 [125]) (-1)),Ah (gDp (Al sg l.2 [125]) (-1)) ⟨18,[],l.1,false⟩):=by
 have k1:=BI (k:=fun ks s=>(Bl sg [125] ⟨18,[],ks,false⟩ s).map fun q=>(q.1,dp q.2 (-1))) (b1L h hd) hl (fun _ _=>rfl)
 have hw:Cq ⟨18,[],l.1,false⟩:=⟨by simp,by simp only;omega⟩
 have hc:=HD k1.1 hw (Jz (m:=[125]) k1.1 hw)
 have k2:=BI (k:=fun k s=>some (k,dp s (-1))) k1 hc.1 (fun s _=>by cases Bl sg [125] ⟨18,[],l.1,false⟩ s<;>rfl)
 simp only at k2
 rw[(a1S (w:=⟨18,[],l.1,false⟩)).1,(a1S (w:=⟨18,[],l.1,false⟩)).2]
 refine⟨Fq (JB (e:= -1) k2 ?_ (fun s hs=>rfl)),fun hb=> ?_⟩
 ·have:=k2.2.1;have:=h.2.1;omega
 ·have:=hc.2 hb
  have:=k1.2.2.1
  simp only[gDp] at*;omega
end Go.My
end
section
set_option linter.unusedVariables false
set_option linter.unusedSimpArgs false
namespace Go.My
open Go.Eng Go.Proofs
variable {G:GInv}
def okQ(s:ST)(x:Gs):Prop:=okD s x∧sgM s.sg
theorem Eo{s:ST}{x:Gs}(h:okQ s x):okD s x:=h.1
theorem Mx{s:ST}{x:Gs}(h:okQ s x):sgM s.sg:=h.2
theorem IX{sg:List Sg}{x:Gs}{m:List UInt8}(h:isG sg x 1 m=false):BF sg x m=x:=by simp [BF,h]
theorem IY{sg:List Sg}{x:Gs}{m:List UInt8}(h:isG sg x 1 m=true):BF sg x m=Aj x:=by simp [BF,h]
theorem FU{s:ST}{x:Gs}{m:List UInt8}(h:okQ s x)(hq:isG s.sg x 1 m=true):okQ s (Aj x):=⟨KT h.1 hq,h.2⟩
theorem UZ{s:ST}{x:Gs}(h:okQ s x):rOk s (Bd s.sg x 1)∧rOk s (Ai s.sg (Bd s.sg x 1) [61]):=by
 have a:=GW (k:=1) h.1.1 (by omega);exact⟨a,Fc a⟩
theorem b1M{s:ST}{x:Gs}(h:okQ s x)(hq:isG s.sg (Bd s.sg x 1) 4 [61]=true):okQ s (Ai s.sg (Bd s.sg x 1) [61]):=by
 rw[HE.1] at hq ⊢
 exact⟨TZ h.1.1 h.1.2 hq,h.2⟩
theorem b1N{s:ST}{x:Gs}{z:Int×Gs}(h:okQ s x)(hq:isG s.sg (Bd s.sg x 1) 4 [61]=true)(hz:Ae s.sg (Ai s.sg (Bd s.sg x 1) [61]) (BZ s.sg) z):
 Ae s.sg x (Dd s.sg false) (Au (Al s.sg z.2 [59]),Ah (Al s.sg z.2 [59]) ⟨12,Bv s.sg x 1,[z.1],false⟩):=by
 rw[HE.1] at hq hz;rw[HE.2]
 exact HD (En hz) (Dx (GS h.1.1.1) (by simp)) (a0B h.1.1 hq hz)
theorem b1O{s:ST}{x:Gs}(h:okQ s x)(hq:isG s.sg (Bd s.sg x 1) 4 [61]=false):
 Ae s.sg x (Dd s.sg false) (Au (Al s.sg (Ai s.sg (Bd s.sg x 1) [61]) [59]),Ah (Al s.sg (Ai s.sg (Bd s.sg x 1) [61]) [59]) ⟨12,Bv s.sg x 1,[],false⟩):=by
 rw[HE.1] at hq ⊢;rw[HE.2]
 exact HD (a0C h.1.1 hq).2 (Dx (GS h.1.1.1) (by simp)) (a0D h.1.1 hq)
def mbS(sg:List Sg)(n:Nat)(x y:Gs)(ks:List Int)(N:Nat):Prop:=
 Ig sg (stR sg n) [125] (pkX (Al sg x [123])) y ks N∧y.deep=x.deep+1∧(y.bad=false→x.deep≠20)
theorem a1U{s:ST}{x:Gs}{n:Nat}(h:okQ s x):mbS s.sg n x (pkX (Al s.sg x [123])) [] (s.sg.length+1):=by
 have t:=Ft (m:=[123]) h.1.1.2
 obtain⟨p1,p2,p3⟩:= @NE (Al s.sg x [123])
 have t1:=t.1;have t2:=t.2.1;have hd:=h.1.2
 refine⟨Qi ⟨by simp only[pkX] at*;rw[p1];exact t1.1,by simp only[pkX] at*;rw[p2];have:=t1.2.1;omega,?_⟩,by simp only[pkX] at*;rw[p2];omega,fun hb=>by have:=(p3 hb).2;omega⟩
 have e:(pkX (Al s.sg x [123])).nodes=(Al s.sg x [123]).nodes:=by unfold pkX;split<;>rfl
 rw[e];exact t1.2.2
theorem b1P{s:ST}{x:Gs}{n:Nat}(h:okQ s x)(h20:(Al s.sg x [123]).deep+1>20):mbS s.sg n x ⟨(Al s.sg x [123]).pos,(Al s.sg x [123]).deep+1,true,(Al s.sg x [123]).nodes⟩ [] (s.sg.length+1):=by
 have a:=a1U (n:=n) h
 have t2:=(Ft (m:=[123]) h.1.1.2).2.1;have hd:=h.1.2
 have e:pkX (Al s.sg x [123])=⟨(Al s.sg x [123]).pos,(Al s.sg x [123]).deep+1,true,(Al s.sg x [123]).nodes⟩:=by rw[pkX,if_pos (by omega)];rfl
 rw[←e];exact a
theorem b1Q{s:ST}{x:Gs}{n:Nat}(h:okQ s x)(h20:¬(Al s.sg x [123]).deep+1>20):mbS s.sg n x ⟨(Al s.sg x [123]).pos,(Al s.sg x [123]).deep+1,(Al s.sg x [123]).bad,(Al s.sg x [123]).nodes⟩ [] (s.sg.length+1):=by
 have a:=a1U (n:=n) h
 have e:pkX (Al s.sg x [123])=⟨(Al s.sg x [123]).pos,(Al s.sg x [123]).deep+1,(Al s.sg x [123]).bad,(Al s.sg x [123]).nodes⟩:=by rw[pkX,if_neg (by omega)];rfl
 rw[←e];exact a
theorem b1R{s:ST}{x:Gs}(h:okQ s x):0≤(Al s.sg x [123]).deep∧(Al s.sg x [123]).deep≤20:=by
 have t:=Ft (m:=[123]) h.1.1.2
 have:=t.1.2.1;have:=t.2.1;have:=h.1.2;omega
theorem QX{s:ST}{x y:Gs}{n:Nat}{ks:List Int}{N:Nat}(h:okQ s x)(hj:mbS s.sg n x y ks N):rOk s y:=⟨h.1.1.1,hj.1.1.1⟩
theorem Va{s:ST}{x y:Gs}{n:Nat}{ks:List Int}{N:Nat}(h:okQ s x)(h2:20-x.deep≤(n:Int))(hj:mbS s.sg n x y ks N)(hb:y.bad=false)(hq:isG s.sg y 4 [125]=false):okQ s (Ai s.sg y [125])∧(Ai s.sg y [125]).bad=false∧21-(Ai s.sg y [125]).deep≤(n:Int):=by
 rw[CT hq]
 have:=hj.2.1;have:=hj.2.2 hb;have:=h.1.2
 exact⟨⟨⟨QX h hj,by omega⟩,h.2⟩,hb,by omega⟩
theorem Vb{s:ST}{x y:Gs}{n:Nat}{ks:List Int}{N:Nat}(h:okQ s x)(hj:mbS s.sg n x y ks N):ks.length≤3001:=by
 have:=hj.1.2.2.1;have:=hj.1.1.1.1;have:=h.1.1.1.1;omega
theorem QY{s:ST}{x y:Gs}{n:Nat}{ks:List Int}{N:Nat}{b:Bool}{z:Int×Gs}(hj:mbS s.sg n x y ks N)(hb:y.bad=false)(hq:isG s.sg y 4 [125]=false)(hz:Ae s.sg (Ai s.sg y [125]) (stR s.sg n false) z)(e:b=(blG s.sg (Ai s.sg y [125])&&decide (0<(ks.length:Int)))):
 mbS s.sg n x (gBl z.2 z.1 b) (ks++[z.1]) (N-1)∧N-1<N:=by
 rw[CT hq] at hz e
 rw[UY hb] at e
 have hz2:Ae s.sg y (stR s.sg n b) (z.1,gBl z.2 z.1 b):=UX UU hz
 subst e
 obtain⟨a,b⟩:=GP (Ql hj.1 hb hq (z:=(z.1,gBl z.2 z.1 ((pkG s.sg y 0).blank&&decide (0<(ks.length:Int))))) (by
  have:decide (0<ks.length)=decide (0<(ks.length:Int)):=by simp
  rw[this];exact hz2))
 have:=(Cw hz2).1
 exact⟨⟨a,by have:=hj.2.1;simp only at*;omega,fun hw=>hj.2.2 hb⟩,b⟩
theorem b1S{s:ST}{x y:Gs}{n:Nat}{ks:List Int}{N:Nat}(h:okQ s x)(hj:mbS s.sg n x y ks N)(hq:isG s.sg y 4 [125]=true):
 Ae s.sg x (BE s.sg (stR s.sg n)) (Au (gDp (Ai s.sg y [125]) (-1)),Ah (gDp (Ai s.sg y [125]) (-1)) ⟨18,[],ks,false⟩):=by
 rw[CU hq,←IU hq]
 exact a1T (l:=(ks,y)) h.1.1.2 h.1.2 (Qk hj.1 hq) (Vb h hj)
theorem b1T{s:ST}{x y:Gs}{n:Nat}{ks:List Int}{N:Nat}(h:okQ s x)(hj:mbS s.sg n x y ks N)(hb:y.bad=true):
 Ae s.sg x (BE s.sg (stR s.sg n)) (Au (gDp y (-1)),Ah (gDp y (-1)) ⟨18,[],ks,false⟩):=by
 have a:=a1T (l:=(ks,y)) h.1.1.2 h.1.2 (Qj hj.1 hb) (Vb h hj)
 simp only[QJ hb] at a;exact a
theorem Vc{s:ST}{x y:Gs}{n:Nat}{ks:List Int}{N:Nat}(h:okQ s x)(hj:mbS s.sg n x y ks N):(1≤y.deep∧y.deep≤21)∧rOk s (gDp y (-1))∧rOk s (gDp (Ai s.sg y [125]) (-1))∧(Ai s.sg y [125]).deep=y.deep:=by
 have h1:=hj.2.1;have h2:=h.1.1.2.2.1;have h3:=h.1.2
 have a:=QX h hj
 have b:=Fc (m:=[125]) a
 have e:(Ai s.sg y [125]).deep=y.deep:=by unfold Ai;split<;>rfl
 refine⟨by omega,⟨a.1,a.2.1,by simp only[gDp];omega,a.2.2.2⟩,⟨b.1,b.2.1,by simp only[gDp];omega,b.2.2.2⟩,e⟩
theorem b1U{s:ST}{x:Gs}{n:Nat}(h:okQ s x)(hk:kdG s.sg x 5=true):Ae s.sg x (stR s.sg (n+1) false) (Au (Bd s.sg x 5),Ah (Bd s.sg x 5) ⟨19,Bv s.sg x 5,[],false⟩):=by
 have hn:=hk
 rw[NX (by omega)] at hn
 exact Mt h.1.1.1 h.1.1.2 (by omega) hk (a0o h.1.1.1 h.1.1.2 (by simpa using hn))
theorem Gt{sg:List Sg}{x:Gs}(h:kdG sg x 5=false):(pkG sg x 0).kind≠5:=IW h (by omega)
theorem b1V{s:ST}{x:Gs}{n:Nat}{z:Int×Gs}(h:okQ s x)(hk:kdG s.sg x 5=false)(hq:isG s.sg x 1 [118,97,114]=true)(hz:Ae s.sg (Aj x) (Dd s.sg false) z):Ae s.sg x (stR s.sg (n+1) false) z:=a0p h.1.1.2 (Gt hk) hq hz
theorem b1W{s:ST}{x:Gs}{n:Nat}(h:okQ s x)(hk:kdG s.sg x 5=false)(h1:isG s.sg x 1 [118,97,114]=false)(hq:isG s.sg x 1 [114,101,116,117,114,110]=true)(hs:isG s.sg (Aj x) 4 [59]=true):
 Ae s.sg x (stR s.sg (n+1) false) (Au (Al s.sg (Aj x) [59]),Ah (Al s.sg (Aj x) [59]) ⟨15,[],[],false⟩):=by
 have o:=(FU h hq).1.1.2
 exact TT h.1.1.2 (Gt hk) h1 hq (HD o (Dx (by simp) (by simp)) (a0e o hs))
theorem b1X{s:ST}{x:Gs}{n:Nat}{z:Int×Gs}(h:okQ s x)(hk:kdG s.sg x 5=false)(h1:isG s.sg x 1 [118,97,114]=false)(hq:isG s.sg x 1 [114,101,116,117,114,110]=true)(hs:isG s.sg (Aj x) 4 [59]=false)(hz:Ae s.sg (Aj x) (BZ s.sg) z):
 Ae s.sg x (stR s.sg (n+1) false) (Au (Al s.sg z.2 [59]),Ah (Al s.sg z.2 [59]) ⟨15,[],[z.1],false⟩):=by
 have o:=(FU h hq).1.1.2
 exact TT h.1.1.2 (Gt hk) h1 hq (HD (En hz) (Dx (by simp) (by simp)) (a0f o hs hz))
theorem b1Y{s:ST}{x:Gs}{n:Nat}{c q:Int×Gs}(h:okQ s x)(hk:kdG s.sg x 5=false)(h1:isG s.sg x 1 [118,97,114]=false)(h2:isG s.sg x 1 [114,101,116,117,114,110]=false)(hq:isG s.sg x 1 [105,102]=true)
 (hc:Bh s.sg (Aj x) (CZ s.sg) c) (hb:Ae s.sg c.2 (BE s.sg (stR s.sg n)) q) (he:isG s.sg q.2 1 [101,108,115,101]=false):
 Ae s.sg x (stR s.sg (n+1) false) (Au (BF s.sg q.2 [101,108,115,101]),Ah (BF s.sg q.2 [101,108,115,101]) ⟨16,[],[c.1,q.1],false⟩):=by
 rw[IX he]
 exact TU h.1.1.2 (Gt hk) h1 h2 hq (a0k (FU h hq).1.1.2 hc hb he)
theorem b1Z{s:ST}{x:Gs}{n:Nat}{c q r:Int×Gs}(h:okQ s x)(hk:kdG s.sg x 5=false)(h1:isG s.sg x 1 [118,97,114]=false)(h2:isG s.sg x 1 [114,101,116,117,114,110]=false)(hq:isG s.sg x 1 [105,102]=true)
 (hc:Bh s.sg (Aj x) (CZ s.sg) c) (hb:Ae s.sg c.2 (BE s.sg (stR s.sg n)) q) (he:isG s.sg q.2 1 [101,108,115,101]=true) (hr:Ae s.sg (BF s.sg q.2 [101,108,115,101]) (BE s.sg (stR s.sg n)) r):
 Ae s.sg x (stR s.sg (n+1) false) (Au r.2,Ah r.2 ⟨16,[],[c.1,q.1,r.1],false⟩):=by
 rw[IY he] at hr
 exact TU h.1.1.2 (Gt hk) h1 h2 hq (a0l (FU h hq).1.1.2 hc hb he hr)
theorem b2a{s:ST}{x:Gs}{n:Nat}{c q:Int×Gs}(h:okQ s x)(hk:kdG s.sg x 5=false)(h1:isG s.sg x 1 [118,97,114]=false)(h2:isG s.sg x 1 [114,101,116,117,114,110]=false)(h3:isG s.sg x 1 [105,102]=false)(hq:isG s.sg x 1 [119,104,105,108,101]=true)
 (hc:Bh s.sg (Aj x) (CZ s.sg) c) (hb:Ae s.sg c.2 (BE s.sg (stR s.sg n)) q):Ae s.sg x (stR s.sg (n+1) false) (Au q.2,Ah q.2 ⟨17,[],[c.1,q.1],false⟩):=a0J h.1 (Gt hk) h1 h2 h3 hq hc hb
theorem b2b{sg:List Sg}{i k:Int}{e:Sg}(hk:e.kind=k)(he:sg[i.toNat]? =some e):(sgO sg i).kind=k:=by rw[IE he];exact hk
theorem b2c{sg:List Sg}{i k:Int}{e:Sg}(hk:e.kind≠k)(he:sg[i.toNat]? =some e):(sgO sg i).kind≠k:=by rw[IE he];exact hk
theorem b2d{sg:List Sg}{i:Int}{e:Sg}{m:List UInt8}(hk:e.text=m)(he:sg[i.toNat]? =some e):((sgO sg i).text==m)=true:=by rw[IE he];simpa using hk
theorem b2e{sg:List Sg}{i:Int}{e:Sg}{m:List UInt8}(hk:e.text≠m)(he:sg[i.toNat]? =some e):((sgO sg i).text==m)=false:=by rw[IE he];simpa using hk
theorem b2f{sg:List Sg}{x:Gs}(hk:kdG sg x 1=false):seG sg x=false:=by rw[Ii] at hk;simp [seG,hk]
theorem a1V{sg:List Sg}{x:Gs}{e:Sg}(hb:x.bad=false)(hl:x.pos+1<sg.length)(he:sgO sg (x.pos+1)=e):pkG sg x 1=e:=by
 rw[pkG,if_neg (by simp [hb];omega),he]
theorem b2g{sg:List Sg}{x:Gs}(hl:¬x.pos+1<sg.length):seG sg x=false:=by
 have:pkG sg x 1=Ew:=by rw[pkG,if_pos (.inr (by omega))]
 simp [seG,this,Ew]
theorem a1W{sg:List Sg}{x:Gs}(hb:x.bad=false)(hl:x.pos+1<sg.length)(hk:(sgO sg (x.pos+1)).kind≠4∨((sgO sg (x.pos+1)).text==[61])=false):seG sg x=false:=by
 rw[seG,a1V hb hl rfl]
 rcases hk with hk|hk<;>simp [hk]
theorem b2h{sg:List Sg}{x:Gs}(hb:x.bad=false)(hl:x.pos+1<sg.length)(h1:kdG sg x 1=true)(hk:(sgO sg (x.pos+1)).kind=4)(ht:((sgO sg (x.pos+1)).text==[61])=true):seG sg x=true:=by
 rw[Ii] at h1
 rw[seG,a1V hb hl rfl];simp [h1,hk,ht]
theorem b2i{s:ST}{x:Gs}{n:Nat}{z:Int×Gs}(h:okQ s x)(hk:kdG s.sg x 5=false)(h1:isG s.sg x 1 [118,97,114]=false)(h2:isG s.sg x 1 [114,101,116,117,114,110]=false)(h3:isG s.sg x 1 [105,102]=false)(h4:isG s.sg x 1 [119,104,105,108,101]=false)
 (he:seG s.sg x=true) (hz:Ae s.sg (Al s.sg (Bd s.sg x 1) [61]) (BZ s.sg) z):Ae s.sg x (stR s.sg (n+1) false) (Au (Al s.sg z.2 [59]),Ah (Al s.sg z.2 [59]) ⟨13,Bv s.sg x 1,[z.1],false⟩):=by
 rw[HE.1] at hz;rw[HE.2]
 exact a0q h.1.1.2 (Gt hk) h1 h2 h3 h4 he (HD (En hz) (Dx (GS h.1.1.1) (by simp)) (a0m h.1.1.1 h.1.1.2 hz))
theorem QZ{s:ST}{x:Gs}{n:Nat}{z:Int×Gs}(h:okQ s x)(hk:kdG s.sg x 5=false)(h1:isG s.sg x 1 [118,97,114]=false)(h2:isG s.sg x 1 [114,101,116,117,114,110]=false)(h3:isG s.sg x 1 [105,102]=false)(h4:isG s.sg x 1 [119,104,105,108,101]=false)
 (he:seG s.sg x=false) (hz:Ae s.sg x (BZ s.sg) z):Ae s.sg x (stR s.sg (n+1) false) (Au (Al s.sg z.2 [59]),Ah (Al s.sg z.2 [59]) ⟨14,[],[z.1],false⟩):=
 a0r h.1.1.2 (Gt hk) h1 h2 h3 h4 he (HD (En hz) (Dx (by simp) (by simp)) (a0n h.1.1.2 hz))
theorem a1X{s:ST}{x:Gs}(h:okQ s x):rOk s (Al s.sg (Bd s.sg x 1) [61])∧okQ s (Al s.sg (Bd s.sg x 1) [61]):=by
 have a:=DX (m:=[61]) (GW (k:=1) h.1.1 (by omega))
 have e:(Bd s.sg x 1).deep=x.deep:=by unfold Bd;split<;>rfl
 exact⟨a.1,⟨a.1,by have:=h.1.2;omega⟩,h.2⟩
theorem b2j{α:Type}{s:ST}{x:Gs}{f:Ps→Option (α×Ps)}{y:α×Gs}(h:okQ s x)(hy:Bh s.sg x f y):okQ s y.2:=⟨KS h.1 hy,h.2⟩
theorem Mz{α:Type}{s:ST}{x:Gs}{f:Ps→Option (α×Ps)}{y:α×Gs}(h:okQ s x)(hy:Ae s.sg x f y):okQ s y.2:=⟨KS h.1 hy.1,h.2⟩
theorem b2k{α:Type}{s:ST}{x:Gs}{n:Nat}{f:Ps→Option (α×Ps)}{y:α×Gs}(h:21-x.deep≤((n+1:Nat):Int))(hy:Bh s.sg (Aj x) f y):20-y.2.deep≤(n:Int):=by
 have:=hy.2.1;simp only[Aj] at this;omega
theorem a1Y{sg:List Sg}{x:Gs}{m:List UInt8}:(BF sg x m).deep=x.deep:=by unfold BF;split<;>rfl
theorem a1Z{s:ST}{x:Gs}{m:List UInt8}(h:rOk s x):rOk s (BF s.sg x m):=by
 unfold BF;split
 ·rename_i hq;exact⟨h.1,EL h.2 (Ct hq (by omega)).2⟩
 ·exact h
theorem a2a{s:ST}{x:Gs}{m:List UInt8}(h:okQ s x):okQ s (BF s.sg x m):=⟨⟨a1Z h.1.1,by rw[a1Y];exact h.1.2⟩,h.2⟩
theorem b2l{α:Type}{s:ST}{x:Gs}{n:Nat}{m:List UInt8}{f:Ps→Option (α×Ps)}{y:α×Gs}(h:20-x.deep≤(n:Int))(hy:Ae s.sg x f y):20-(BF s.sg y.2 m).deep≤(n:Int):=by
 rw[a1Y];exact a0K h hy
def IZ(n:Nat):Sig:= {X:=ST×Int×Int×Bool×List Nd,args:=fun x=>[srd x.1 (xg x)],pre:=fun x=>(okQ x.1 (xg x)∧(xg x).bad=false)∧21-(xg x).deep≤n,Y:=Int×Int×Int×Bool×List Nd,post:=fun x y=>Ae x.1.sg (xg x) (stR x.1.sg n false) (yS y),res:=fun x y=> .int .i64 y.1,outs:=fun x y=>[srd x.1 (yG y.2)],keep:=true}
attribute [local irreducible] pE Bg CL fnR Ae Bh gsOk Al Bn Ah BW CS Ai Cu Da Au Bw pkG isG nmG kdG Bd Bv Bu vlQ BF gBl blG Dd FO CZ BZ BE stR CE mbS seG okQ sgM
def srf(s:ST)(g:Gs):AV:= .pf [sgs s.sg,.int .i64 g.pos,.bool g.bad,.int .i64 g.deep,nds g.nodes]
theorem a2b{l:List Sg}{p d:Int}{b:Bool}{ns:List Nd}:AV.pf (fzL [AV.sl false 0 4 Sg sgA l,.int .i64 p,.bool b,.int .i64 d,AV.sl true 0 4 Nd (ndA true) ns])=AV.pf [AV.sl false 0 4 Sg sgA l,.int .i64 p,.bool b,.int .i64 d,AV.sl false 0 4 Nd (ndA false) ns]:=rfl
def Ik:Sig:= {X:=ST×Int×Int×Bool×List Nd×Int,args:=fun x=>[srf x.1 (xh x),.int .i64 x.2.2.2.2.2],pre:=fun x=>rOk x.1 (xh x)∧x.2.2.2.2.2≠0,Y:=Unit,post:=fun x y=>True,res:=fun x y=> .bool (kdG x.1.sg (xh x) x.2.2.2.2.2),outs:=fun x y=>[.top,.top],keep:=false}
theorem b2m:Aq G Tryz.prog 68 Ik:=
 vcFun_okP [(105,0,FF)] [] false (fun x=>[]) Tryz.func68 rfl (by decide) ⟨Tc,trivial⟩ (fun(x:ST×Int×Int×Bool×List Nd×Int)=>(∀(y:Unit),True→True∧True∧True∧True)∧true=true∧true=true∧Aa (!(xh x).bad) (Aa (decide ((xh x).pos<(↑(List.length x.1.sg):Int))) (((0:Int)≤(xh x).pos∧(xh x).pos<(↑(List.length x.1.sg):Int))∧∀(e:Sg),x.1.sg[Int.toNat (xh x).pos]? =some e→Aa (e.kind==x.2.2.2.2.2) (Aa (x.2.2.2.2.2 != (1:Int)) (rA Ik x [.bool true,.top,.top]) (((0:Int)≤(xh x).pos∧(xh x).pos<(↑(List.length x.1.sg):Int))∧∀(e:Sg),x.1.sg[Int.toNat (xh x).pos]? =some e→∃(x_1:List UInt8),True∧e.text=x_1∧∃(y0:Unit),(∀(y:Unit),True→AV.bool (kw x_1)=AV.bool (kw x_1))∧true=true∧rA Ik x [.bool !kw x_1,.top,.top])) (rA Ik x [.bool false,.top,.top])) (rA Ik x [.bool false,.top,.top])) (rA Ik x [.bool false,.top,.top])) (fun x=>by kernel_rfl) fun(x:ST×Int×Int×Bool×List Nd×Int) (hx:rOk x.1 (xh x)∧x.2.2.2.2.2≠0)=>(by
 dsimp only[Bf,nds,rA,Ik,Br,sgs,srf,Av,Az]
 obtain⟨s,p,d,b,ns,k⟩:=x;dsimp only[xg,xh] at hx ⊢
 obtain⟨h1,h2⟩:=hx;have hs:=DD h1;dsimp only at hs
 (repeat' first|(with_reducible first|rfl|exact True.intro|apply AK|apply And.intro|((first|apply AA|apply AI|apply AB|apply AJ)<;>intro _))|(apply Ax<;>intro _)|apply AH|refine Af () ?_ ?_|((first|apply AO|apply AN|apply AM|apply AL|apply AG|apply AF|apply AE|apply AD|apply AC)<;>try dsimp only)|apply Af|(refine Prod.forall.2 ?_;intro _;try dsimp only)|(intro _;try dsimp only))
 all_goals(try(repeat(rename s.sg[_]? =some _=>hq;revert hq;rename s.sg[_]? =some _=>hr;intro hq;rw[hr] at hq;cases hq)))
 all_goals first
  |rfl
  |exact(Mr h2 (.inl ‹_›)).symm
  |exact(Mr h2 (.inr (by simp only;omega))).symm
  |(rw[a1r ‹_› ‹_› (by simp only;omega)];simp [*];done)
  |((try simp only[AR]);omega)
  |skip)
def Gu:Sig:= {X:=ST×Int×Int×Bool×List Nd,args:=fun x=>[srd x.1 (xg x)],pre:=fun x=>okQ x.1 (xg x),Y:=Int×Int×Int×Bool×List Nd,post:=fun x y=>Ae x.1.sg (xg x) (Dd x.1.sg false) (yS y),res:=fun x y=> .int .i64 y.1,outs:=fun x y=>[srd x.1 (yG y.2)],keep:=true}
theorem Vd:Aq G Tryz.prog 71 Gu:=
 vcFun_okP [(69,0,CA),(73,0,Ca),(107,0,Fw),(72,0,BM),(43,0,Bm)] [(45,⟨Int,Ba⟩)] false (fun x=>[]) Tryz.func71 rfl (by decide) ⟨JQ,GU,UP,HC,GV,trivial⟩ (fun(x:ST×Int×Int×Bool×List Nd)=>True∧cA CA [srd x.1 (xg x),.int .i64 (1:Int)] fun x_1 y=>cA Ca [srd x_1.1 (Bd x_1.1.sg (xh x_1) x_1.2.2.2.2.2),.str #[(61:UInt8)].toList] fun x_2 y=>Aa (isG x_2.1.sg (xh x_2) (4:Int) x_2.2.2.2.2.2) (cA Fw [srd x_2.1 (Ai x_2.1.sg (xh x_2) x_2.2.2.2.2.2)] fun x_3 y=>∃(x_4:Int),y.1=x_4∧∃(zs:List Int),Ad [x_4]=Ad zs∧Bt Ba∧AW ((0:Nat)+List.length zs) (8:Nat)∧cA BM [srd x_3.1 (yG y.2),.str #[(59:UInt8)].toList] fun x_5 y=>cA Bm [srd x_5.1 (Al x_5.1.sg (xh x_5) x_5.2.2.2.2.2),.int .i64 (12:Int),.str (Bv x_1.1.sg (xh x_1) x_1.2.2.2.2.2),Ad ([]++zs)] fun x_6 y=>rA Gu x [.int .i64 (Au (xh x_6)),srd x_6.1 (Ah (xh x_6) {kind:=x_6.2.2.2.2.2.1,text:=x_6.2.2.2.2.2.2.1,kids:=x_6.2.2.2.2.2.2.2,blank:=false})]) (cA BM [srd x_2.1 (Ai x_2.1.sg (xh x_2) x_2.2.2.2.2.2),.str #[(59:UInt8)].toList] fun x_3 y=>cA Bm [srd x_3.1 (Al x_3.1.sg (xh x_3) x_3.2.2.2.2.2),.int .i64 (12:Int),.str (Bv x_1.1.sg (xh x_1) x_1.2.2.2.2.2),Ad []] fun x_4 y=>rA Gu x [.int .i64 (Au (xh x_4)),srd x_4.1 (Ah (xh x_4) {kind:=x_4.2.2.2.2.2.1,text:=x_4.2.2.2.2.2.2.1,kids:=x_4.2.2.2.2.2.2.2,blank:=false})])) (fun x=>by kernel_rfl) fun(x:ST×Int×Int×Bool×List Nd) (hx:okQ x.1 (xg x))=>(by
 dsimp only[cA,Bf,Ad,As,rA,Ca,Bm,CA,Fw,Gu,BM,Br,sgs,srd,Av,Az,mvL,lnL,mvE,lnE]
 obtain⟨s,p,d,b,ns⟩:=x;dsimp only[xg,xh] at hx ⊢
 have hx:okQ s ⟨p,d,b,ns⟩:=hx
 have hD:=Eo hx;have hM:=Mx hx;have h1:=hD.1
 (repeat' first|(with_reducible first|rfl|exact True.intro|apply AK|apply And.intro|((first|apply AA|apply AI|apply AB|apply AJ)<;>intro _))|(apply Ax<;>intro _)|apply AH|refine Af () ?_ ?_|((first|apply AO|apply AN|apply AM|apply AL|apply AG|apply AF|apply AE|apply AD|apply AC)<;>try dsimp only)|apply Af|(refine Prod.forall.2 ?_;intro _;try dsimp only)|(intro _;try dsimp only))
 all_goals(try dsimp only[xg,xh,yG,yS,iG,iF] at*)
 all_goals(try simp only[CG] at*)
 all_goals first
  |rfl
  |exact h1
  |omega
  |exact(UZ hx).1
  |exact(UZ hx).2
  |exact Eo (b1M hx ‹_›)
  |exact hM
  |exact Dg h1 ‹_›
  |exact(DX (Dg h1 ‹_›)).1
  |exact(DX (UZ hx).2).1
  |exact b1N hx ‹_› ‹_›
  |exact b1O hx ‹_›
  |(simp [AW];done)
  |skip)
def Lh:Sig:= {X:=ST×Int×Int×Bool×List Nd,args:=fun x=>[srd x.1 (xg x)],pre:=fun x=>okQ x.1 (xg x),Y:=Int×Int×Int×Bool×List Nd,post:=fun x y=>Bh x.1.sg (xg x) (CZ x.1.sg) (yS y),res:=fun x y=> .int .i64 y.1,outs:=fun x y=>[srd x.1 (yG y.2)],keep:=true}
theorem b2n:Aq G Tryz.prog 144 Lh:=
 vcFun_okP [(107,0,Fw),(72,0,BM)] [] false (fun x=>[]) Tryz.func144 rfl (by decide) ⟨UP,HC,trivial⟩ (fun(x:ST×Int×Int×Bool×List Nd)=>True∧cA BM [srd x.1 (xg x),.str #[(40:UInt8)].toList] fun x_1 y=>cA Fw [srd x_1.1 (Al x_1.1.sg (xh x_1) x_1.2.2.2.2.2)] fun x_2 y=>cA BM [srd x_2.1 (yG y.2),.str #[(41:UInt8)].toList] fun x_3 y_1=>rA Lh x [.int .i64 y.1,srd x_3.1 (Al x_3.1.sg (xh x_3) x_3.2.2.2.2.2)]) (fun x=>by kernel_rfl) fun(x:ST×Int×Int×Bool×List Nd) (hx:okQ x.1 (xg x))=>(by
 dsimp only[cA,Bf,As,rA,Lh,Fw,BM,Br,sgs,srd,Av,Az,mvL,lnL,mvE,lnE]
 obtain⟨s,p,d,b,ns⟩:=x;dsimp only[xg,xh] at hx ⊢
 have hx:okQ s ⟨p,d,b,ns⟩:=hx
 have hD:=Eo hx;have hM:=Mx hx;have h1:=hD.1
 have t:=DX (m:=[40]) h1;have hd:=hD.2;dsimp only at hd
 (repeat' first|(with_reducible first|rfl|exact True.intro|apply AK|apply And.intro|((first|apply AA|apply AI|apply AB|apply AJ)<;>intro _))|(apply Ax<;>intro _)|apply AH|refine Af () ?_ ?_|((first|apply AO|apply AN|apply AM|apply AL|apply AG|apply AF|apply AE|apply AD|apply AC)<;>try dsimp only)|apply Af|(refine Prod.forall.2 ?_;intro _;try dsimp only)|(intro _;try dsimp only))
 all_goals(try dsimp only[xg,xh,yG,yS,iG,iF] at*)
 all_goals(try simp only[CG] at*)
 all_goals first
  |rfl
  |exact h1
  |exact t.1
  |exact hM
  |exact⟨t.1,by rw[t.2];exact hd⟩
  |exact Dg h1 ‹_›
  |exact a0g h1.2 ‹_›
  |skip)
def HH(n:Nat):Sig:= {X:=ST×Int×Int×Bool×List Nd,args:=fun x=>[srd x.1 (xg x)],pre:=fun x=>okQ x.1 (xg x)∧20-(xg x).deep≤(n:Int),Y:=Int×Int×Int×Bool×List Nd,post:=fun x y=>Ae x.1.sg (xg x) (BE x.1.sg (stR x.1.sg n)) (yS y),res:=fun x y=> .int .i64 y.1,outs:=fun x y=>[srd x.1 (yG y.2)],keep:=true}
def JS(n:Nat)(x:ST×Int×Int×Bool×List Nd):LS:= {ι:=Int×Int×Bool×List Nd×List Int×Nat,inv:=fun i=>mbS x.1.sg n (xg x) (iG i) i.2.2.2.2.1 i.2.2.2.2.2,regs:=fun i=>[(0,srd x.1 (iG i)),(3,Ad i.2.2.2.2.1)],als:=[],meas:=fun i=>i.2.2.2.2.2}
theorem a2c(n:Nat)(h:Aq G Go.Proofs.Tryz.prog 108 (IZ n)):Aq G Tryz.prog 75 (HH n):=
 vcFun_okP [(72,0,BM),(73,0,Ca),(40,0,Fv),(108,0,(IZ n)),(42,0,DY),(43,0,Bm)] [(45,⟨Int,Ba⟩)] false (fun x=>[(6,JS n x)]) Tryz.func75 rfl (by decide) ⟨HC,GU,QH,h,QI,GV,trivial⟩ (fun(x:ST×Int×Int×Bool×List Nd)=>True∧cA BM [srd x.1 (xg x),.str #[(123:UInt8)].toList] fun x_1 y=>inR IntKind.i64 ((Al x_1.1.sg (xh x_1) x_1.2.2.2.2.2).deep+(1:Int))∧Aa (decide ((Al x_1.1.sg (xh x_1) x_1.2.2.2.2.2).deep+(1:Int)>(20:Int))) (eA (JS n x) [.box 0 [sgs x_1.1.sg,.int .i64 (Al x_1.1.sg (xh x_1) x_1.2.2.2.2.2).pos,.bool true,.int .i64 ((Al x_1.1.sg (xh x_1) x_1.2.2.2.2.2).deep+(1:Int)),As (Al x_1.1.sg (xh x_1) x_1.2.2.2.2.2).nodes],Ad []]∧∀(i:Int×Int×Bool×List Nd×List Int×Nat),mbS x.1.sg n (xg x) (iG i) i.2.2.2.2.1 i.2.2.2.2.2→Aa (!(iG i).bad) (cA Ca [srd x.1 (iG i),.str #[(125:UInt8)].toList] fun x_2 y=>Aa (!isG x_2.1.sg (xh x_2) (4:Int) x_2.2.2.2.2.2) (cA Fv [srd x_2.1 (Ai x_2.1.sg (xh x_2) x_2.2.2.2.2.2)] fun x_3 y=>Aa (blG x_3.1.sg (xg x_3)) (cA (IZ n) [srd x_3.1 (xg x_3)] fun x_4 y=>cA DY [srd x_4.1 (yG y.2),.int .i64 y.1,.bool (decide ((↑(List.length i.2.2.2.2.1):Int)>(0:Int)))] fun x_5 y_1=>∃(x_6:Int),y.1=x_6∧∃(zs:List Int),Ad [x_6]=Ad zs∧Bt Ba∧AW (List.length i.2.2.2.2.1+List.length zs) (8:Nat)∧eN (JS n x) i [srd x_5.1 (gBl (xh x_5) x_5.2.2.2.2.2.1 x_5.2.2.2.2.2.2),Ad (i.2.2.2.2.1++zs)]) (cA (IZ n) [srd x_3.1 (xg x_3)] fun x_4 y=>cA DY [srd x_4.1 (yG y.2),.int .i64 y.1,.bool false] fun x_5 y_1=>∃(x_6:Int),y.1=x_6∧∃(zs:List Int),Ad [x_6]=Ad zs∧Bt Ba∧AW (List.length i.2.2.2.2.1+List.length zs) (8:Nat)∧eN (JS n x) i [srd x_5.1 (gBl (xh x_5) x_5.2.2.2.2.2.1 x_5.2.2.2.2.2.2),Ad (i.2.2.2.2.1++zs)])) (inR IntKind.i64 ((Ai x_2.1.sg (xh x_2) x_2.2.2.2.2.2).deep-(1:Int))∧cA Bm [.box 0 [sgs x_2.1.sg,.int .i64 (Ai x_2.1.sg (xh x_2) x_2.2.2.2.2.2).pos,.bool (Ai x_2.1.sg (xh x_2) x_2.2.2.2.2.2).bad,.int .i64 ((Ai x_2.1.sg (xh x_2) x_2.2.2.2.2.2).deep-(1:Int)),As (Ai x_2.1.sg (xh x_2) x_2.2.2.2.2.2).nodes],.int .i64 (18:Int),.str #[].toList,Ad i.2.2.2.2.1] fun x_3 y=>rA (HH n) x [.int .i64 (Au (xh x_3)),srd x_3.1 (Ah (xh x_3) {kind:=x_3.2.2.2.2.2.1,text:=x_3.2.2.2.2.2.2.1,kids:=x_3.2.2.2.2.2.2.2,blank:=false})])) (inR IntKind.i64 ((iG i).deep-(1:Int))∧cA Bm [.box 0 [sgs x.1.sg,.int .i64 (iG i).pos,.bool (iG i).bad,.int .i64 ((iG i).deep-(1:Int)),As (iG i).nodes],.int .i64 (18:Int),.str #[].toList,Ad i.2.2.2.2.1] fun x_2 y=>rA (HH n) x [.int .i64 (Au (xh x_2)),srd x_2.1 (Ah (xh x_2) {kind:=x_2.2.2.2.2.2.1,text:=x_2.2.2.2.2.2.2.1,kids:=x_2.2.2.2.2.2.2.2,blank:=false})])) (eA (JS n x) [.box 0 [sgs x_1.1.sg,.int .i64 (Al x_1.1.sg (xh x_1) x_1.2.2.2.2.2).pos,.bool (Al x_1.1.sg (xh x_1) x_1.2.2.2.2.2).bad,.int .i64 ((Al x_1.1.sg (xh x_1) x_1.2.2.2.2.2).deep+(1:Int)),As (Al x_1.1.sg (xh x_1) x_1.2.2.2.2.2).nodes],Ad []]∧∀(i:Int×Int×Bool×List Nd×List Int×Nat),mbS x.1.sg n (xg x) (iG i) i.2.2.2.2.1 i.2.2.2.2.2→Aa (!(iG i).bad) (cA Ca [srd x.1 (iG i),.str #[(125:UInt8)].toList] fun x_2 y=>Aa (!isG x_2.1.sg (xh x_2) (4:Int) x_2.2.2.2.2.2) (cA Fv [srd x_2.1 (Ai x_2.1.sg (xh x_2) x_2.2.2.2.2.2)] fun x_3 y=>Aa (blG x_3.1.sg (xg x_3)) (cA (IZ n) [srd x_3.1 (xg x_3)] fun x_4 y=>cA DY [srd x_4.1 (yG y.2),.int .i64 y.1,.bool (decide ((↑(List.length i.2.2.2.2.1):Int)>(0:Int)))] fun x_5 y_1=>∃(x_6:Int),y.1=x_6∧∃(zs:List Int),Ad [x_6]=Ad zs∧Bt Ba∧AW (List.length i.2.2.2.2.1+List.length zs) (8:Nat)∧eN (JS n x) i [srd x_5.1 (gBl (xh x_5) x_5.2.2.2.2.2.1 x_5.2.2.2.2.2.2),Ad (i.2.2.2.2.1++zs)]) (cA (IZ n) [srd x_3.1 (xg x_3)] fun x_4 y=>cA DY [srd x_4.1 (yG y.2),.int .i64 y.1,.bool false] fun x_5 y_1=>∃(x_6:Int),y.1=x_6∧∃(zs:List Int),Ad [x_6]=Ad zs∧Bt Ba∧AW (List.length i.2.2.2.2.1+List.length zs) (8:Nat)∧eN (JS n x) i [srd x_5.1 (gBl (xh x_5) x_5.2.2.2.2.2.1 x_5.2.2.2.2.2.2),Ad (i.2.2.2.2.1++zs)])) (inR IntKind.i64 ((Ai x_2.1.sg (xh x_2) x_2.2.2.2.2.2).deep-(1:Int))∧cA Bm [.box 0 [sgs x_2.1.sg,.int .i64 (Ai x_2.1.sg (xh x_2) x_2.2.2.2.2.2).pos,.bool (Ai x_2.1.sg (xh x_2) x_2.2.2.2.2.2).bad,.int .i64 ((Ai x_2.1.sg (xh x_2) x_2.2.2.2.2.2).deep-(1:Int)),As (Ai x_2.1.sg (xh x_2) x_2.2.2.2.2.2).nodes],.int .i64 (18:Int),.str #[].toList,Ad i.2.2.2.2.1] fun x_3 y=>rA (HH n) x [.int .i64 (Au (xh x_3)),srd x_3.1 (Ah (xh x_3) {kind:=x_3.2.2.2.2.2.1,text:=x_3.2.2.2.2.2.2.1,kids:=x_3.2.2.2.2.2.2.2,blank:=false})])) (inR IntKind.i64 ((iG i).deep-(1:Int))∧cA Bm [.box 0 [sgs x.1.sg,.int .i64 (iG i).pos,.bool (iG i).bad,.int .i64 ((iG i).deep-(1:Int)),As (iG i).nodes],.int .i64 (18:Int),.str #[].toList,Ad i.2.2.2.2.1] fun x_2 y=>rA (HH n) x [.int .i64 (Au (xh x_2)),srd x_2.1 (Ah (xh x_2) {kind:=x_2.2.2.2.2.2.1,text:=x_2.2.2.2.2.2.2.1,kids:=x_2.2.2.2.2.2.2.2,blank:=false})]))) (fun x=>by kernel_rfl) fun(x:ST×Int×Int×Bool×List Nd) (hx:okQ x.1 (xg x)∧20-(xg x).deep≤(n:Int))=>(by
 dsimp only[cA,eA,eN,JS,Bf,Ad,As,rA,Fv,DY,HH,Ca,Bm,IZ,BM,Br,sgs,srd,Av,Az,mvL,lnL,mvE,lnE,BA]
 obtain⟨s,p,d,b,ns⟩:=x;dsimp only[xg,xh] at hx ⊢
 obtain⟨hx,hn⟩:=hx
 have hx:okQ s ⟨p,d,b,ns⟩:=hx
 have hD:=Eo hx;have hM:=Mx hx;have h1:=hD.1
 have td:=b1R hx
 (repeat' first|(with_reducible first|rfl|exact True.intro|apply AK|apply And.intro|((first|apply AA|apply AI|apply AB|apply AJ)<;>intro _))|(apply Ax<;>intro _)|apply AH|refine Af () ?_ ?_|((first|apply AO|apply AN|apply AM|apply AL|apply AG|apply AF|apply AE|apply AD|apply AC)<;>try dsimp only)|apply Af|(refine Prod.forall.2 ?_;intro _;try dsimp only)|(intro _;try dsimp only))
 all_goals(try dsimp only[xg,xh,yG,yS,iG,iF] at*)
 all_goals(try simp only[CG] at*)
 all_goals first
  |(show Nat;skip)
  |rfl
  |exact h1
  |exact b1P hx ‹_›
  |exact b1Q hx ‹_›
  |exact QX hx ‹_›
  |exact Fc (QX hx ‹_›)
  |exact(Va hx hn ‹_› ‹_› ‹_›).1
  |exact(Va hx hn ‹_› ‹_› ‹_›).2.1
  |exact(Va hx hn ‹_› ‹_› ‹_›).2.2
  |exact Dg h1 ‹_›
  |exact Mw UU ‹_›
  |exact Mw UU ‹_› ‹_›
  |exact(QY ‹_› ‹_› ‹_› ‹_› (Gn ‹_›)).1
  |exact(QY ‹_› ‹_› ‹_› ‹_› (Gp ‹_›)).1
  |exact b1S hx ‹_› ‹_›
  |exact b1T hx ‹_› ‹_›
  |exact(Vc hx ‹_›).2.1
  |exact(Vc hx ‹_›).2.2.1
  |(simp [AW];done)
  |(have hq:=Vb hx (show mbS _ _ _ _ _ _ by assumption);(try simp only[AW,List.length_append,List.length_cons,List.length_nil]);omega)
  |(have hq:=Vc hx (show mbS _ _ _ _ _ _ by assumption);(try dsimp only at hq);(try simp only[AR]);omega)
  |((try simp only[AR]);omega)
  |skip
 all_goals first
  |exact(QY ‹_› ‹_› ‹_› ‹_› (Gn ‹_›)).2
  |exact(QY ‹_› ‹_› ‹_› ‹_› (Gp ‹_›)).2
  |skip)
def FV(n:Nat):Sig:= {X:=ST×Int×Int×Bool×List Nd,args:=fun x=>[srd x.1 (xg x)],pre:=fun x=>(okQ x.1 (xg x)∧(xg x).bad=false)∧21-(xg x).deep≤(n+1:Nat),Y:=Int×Int×Int×Bool×List Nd,post:=fun x y=>Ae x.1.sg (xg x) (stR x.1.sg (n+1) false) (yS y),res:=fun x y=> .int .i64 y.1,outs:=fun x y=>[srd x.1 (yG y.2)],keep:=true}
theorem b2o(n:Nat)(h:Aq G Go.Proofs.Tryz.prog 108 (IZ n)):Aq G Tryz.prog 108 (FV n):=
 vcFun_okP [(68,0,Ik),(69,0,CA),(43,0,Bm),(70,0,EB),(71,0,Gu),(106,0,DN),(107,0,Fw),(72,0,BM),(144,0,Lh),(75,0,(HH n))] [(45,⟨Int,Ba⟩)] false (fun x=>[]) Tryz.func108 rfl (by decide) ⟨b2m,JQ,GV,Uw,Vd,NW,UP,HC,b2n,(a2c n h),trivial⟩ (fun(x:ST×Int×Int×Bool×List Nd)=>True∧cA Ik [srd x.1 (xg x),.int .i64 (5:Int)] fun x_1 y=>Aa (kdG x_1.1.sg (xh x_1) x_1.2.2.2.2.2) (cA CA [srd x.1 (xg x),.int .i64 (5:Int)] fun x_2 y=>cA Bm [srd x_2.1 (Bd x_2.1.sg (xh x_2) x_2.2.2.2.2.2),.int .i64 (19:Int),.str (Bv x_2.1.sg (xh x_2) x_2.2.2.2.2.2),Ad []] fun x_3 y=>rA (FV n) x [.int .i64 (Au (xh x_3)),srd x_3.1 (Ah (xh x_3) {kind:=x_3.2.2.2.2.2.1,text:=x_3.2.2.2.2.2.2.1,kids:=x_3.2.2.2.2.2.2.2,blank:=false})]) (cA EB [srd x.1 (xg x),.str #[(118:UInt8),(97:UInt8),(114:UInt8)].toList] fun x_2 y=>Aa (isG x_2.1.sg (xh x_2) (1:Int) x_2.2.2.2.2.2) (cA Gu [srd x_2.1 (BF x_2.1.sg (xh x_2) x_2.2.2.2.2.2)] fun x_3 y=>rA (FV n) x [.int .i64 y.1,srd x_3.1 (yG y.2)]) (cA EB [srd x_2.1 (BF x_2.1.sg (xh x_2) x_2.2.2.2.2.2),.str #[(114:UInt8),(101:UInt8),(116:UInt8),(117:UInt8),(114:UInt8),(110:UInt8)].toList] fun x_3 y=>Aa (isG x_3.1.sg (xh x_3) (1:Int) x_3.2.2.2.2.2) (cA DN [srd x_3.1 (BF x_3.1.sg (xh x_3) x_3.2.2.2.2.2),.int .i64 (4:Int),.str #[(59:UInt8)].toList] fun x_4 y=>Aa (!isG x_4.1.sg (xh x_4) x_4.2.2.2.2.2.1 x_4.2.2.2.2.2.2) (cA Fw [srd x_4.1 (xh x_4)] fun x_5 y=>∃(x_6:Int),y.1=x_6∧∃(zs:List Int),Ad [x_6]=Ad zs∧Bt Ba∧AW ((0:Nat)+List.length zs) (8:Nat)∧cA BM [srd x_5.1 (yG y.2),.str #[(59:UInt8)].toList] fun x_7 y=>cA Bm [srd x_7.1 (Al x_7.1.sg (xh x_7) x_7.2.2.2.2.2),.int .i64 (15:Int),.str #[].toList,Ad ([]++zs)] fun x_8 y=>rA (FV n) x [.int .i64 (Au (xh x_8)),srd x_8.1 (Ah (xh x_8) {kind:=x_8.2.2.2.2.2.1,text:=x_8.2.2.2.2.2.2.1,kids:=x_8.2.2.2.2.2.2.2,blank:=false})]) (cA BM [srd x_4.1 (xh x_4),.str #[(59:UInt8)].toList] fun x_5 y=>cA Bm [srd x_5.1 (Al x_5.1.sg (xh x_5) x_5.2.2.2.2.2),.int .i64 (15:Int),.str #[].toList,Ad []] fun x_6 y=>rA (FV n) x [.int .i64 (Au (xh x_6)),srd x_6.1 (Ah (xh x_6) {kind:=x_6.2.2.2.2.2.1,text:=x_6.2.2.2.2.2.2.1,kids:=x_6.2.2.2.2.2.2.2,blank:=false})])) (cA EB [srd x_3.1 (BF x_3.1.sg (xh x_3) x_3.2.2.2.2.2),.str #[(105:UInt8),(102:UInt8)].toList] fun x_4 y=>Aa (isG x_4.1.sg (xh x_4) (1:Int) x_4.2.2.2.2.2) (cA Lh [srd x_4.1 (BF x_4.1.sg (xh x_4) x_4.2.2.2.2.2)] fun x_5 y=>∃(x_6:Int),y.1=x_6∧cA (HH n) [srd x_5.1 (yG y.2)] fun x_7 y=>∃(x_8:Int),y.1=x_8∧∃(zs:List Int),Ad [x_8]=Ad zs∧Bt Ba∧AW (List.length [x_6]+List.length zs) (8:Nat)∧cA EB [srd x_7.1 (yG y.2),.str #[(101:UInt8),(108:UInt8),(115:UInt8),(101:UInt8)].toList] fun x_9 y=>Aa (isG x_9.1.sg (xh x_9) (1:Int) x_9.2.2.2.2.2) (cA (HH n) [srd x_9.1 (BF x_9.1.sg (xh x_9) x_9.2.2.2.2.2)] fun x_10 y=>∃(x_11:Int),y.1=x_11∧∃(zs_1:List Int),Ad [x_11]=Ad zs_1∧Bt Ba∧AW (List.length (x_6::List.append._f [] PUnit.unit zs)+List.length zs_1) (8:Nat)∧cA Bm [srd x_10.1 (yG y.2),.int .i64 (16:Int),.str #[].toList,Ad (x_6::List.append._f [] PUnit.unit zs++zs_1)] fun x_12 y=>rA (FV n) x [.int .i64 (Au (xh x_12)),srd x_12.1 (Ah (xh x_12) {kind:=x_12.2.2.2.2.2.1,text:=x_12.2.2.2.2.2.2.1,kids:=x_12.2.2.2.2.2.2.2,blank:=false})]) (cA Bm [srd x_9.1 (BF x_9.1.sg (xh x_9) x_9.2.2.2.2.2),.int .i64 (16:Int),.str #[].toList,Ad ([x_6]++zs)] fun x_10 y=>rA (FV n) x [.int .i64 (Au (xh x_10)),srd x_10.1 (Ah (xh x_10) {kind:=x_10.2.2.2.2.2.1,text:=x_10.2.2.2.2.2.2.1,kids:=x_10.2.2.2.2.2.2.2,blank:=false})])) (cA EB [srd x_4.1 (BF x_4.1.sg (xh x_4) x_4.2.2.2.2.2),.str #[(119:UInt8),(104:UInt8),(105:UInt8),(108:UInt8),(101:UInt8)].toList] fun x_5 y=>Aa (isG x_5.1.sg (xh x_5) (1:Int) x_5.2.2.2.2.2) (cA Lh [srd x_5.1 (BF x_5.1.sg (xh x_5) x_5.2.2.2.2.2)] fun x_6 y=>∃(x_7:Int),y.1=x_7∧cA (HH n) [srd x_6.1 (yG y.2)] fun x_8 y=>∃(x_9:Int),y.1=x_9∧∃(zs:List Int),Ad [x_9]=Ad zs∧Bt Ba∧AW (List.length [x_7]+List.length zs) (8:Nat)∧cA Bm [srd x_8.1 (yG y.2),.int .i64 (17:Int),.str #[].toList,Ad ([x_7]++zs)] fun x_10 y=>rA (FV n) x [.int .i64 (Au (xh x_10)),srd x_10.1 (Ah (xh x_10) {kind:=x_10.2.2.2.2.2.1,text:=x_10.2.2.2.2.2.2.1,kids:=x_10.2.2.2.2.2.2.2,blank:=false})]) (true=true∧true=true∧∃(x_6:ST×Int×Int×Bool×List Nd×Int),(rOk x_6.1 (xh x_6)∧x_6.2.2.2.2.2≠(0:Int))∧AV.pf [AV.sl false (0:Nat) (4:Nat) Sg (fun(x:Sg)=>fzL._f [.int .i64 x.kind,.str x.text,.int .i64 x.pos,.bool x.blank] ⟨AV.rec (fun(k:IntKind) (n:Int)=>⟨fz._f (AV.int k n) PUnit.unit,PUnit.unit⟩) (fun(b:Bool)=>⟨fz._f (.bool b) PUnit.unit,PUnit.unit⟩) (fun(l:List UInt8)=>⟨fz._f (.str l) PUnit.unit,PUnit.unit⟩) (fun(v:Value)=>⟨fz._f (.val v) PUnit.unit,PUnit.unit⟩) ⟨fz._f AV.any PUnit.unit,PUnit.unit⟩ ⟨fz._f .top PUnit.unit,PUnit.unit⟩ ⟨fz._f .nil PUnit.unit,PUnit.unit⟩ (fun(id:Nat)=>⟨fz._f (AV.hole id) PUnit.unit,PUnit.unit⟩) (fun(id:Nat)=>⟨fz._f (AV.al id) PUnit.unit,PUnit.unit⟩) (fun(id k sz off:Nat)=>⟨fz._f (AV.po id k sz off) PUnit.unit,PUnit.unit⟩) (fun(fs:List AV) (fs_ih:List AV×' AV.below_1 fs)=>⟨fz._f (.agg fs) fs_ih,fs_ih⟩) (fun(vs:List AV) (vs_ih:List AV×' AV.below_1 vs)=>⟨fz._f (.tup vs) vs_ih,vs_ih⟩) (fun(id:Nat) (c:List AV) (c_ih:List AV×' AV.below_1 c)=>⟨fz._f (.box id c) c_ih,c_ih⟩) (fun(x:Value) (c:List AV) (c_ih:List AV×' AV.below_1 c)=>⟨fz._f (AV.bv x c) c_ih,c_ih⟩) (fun(x:Value)=>⟨fz._f (AV.hv x) PUnit.unit,PUnit.unit⟩) (fun(c:List AV) (c_ih:List AV×' AV.below_1 c)=>⟨fz._f (AV.pf c) c_ih,c_ih⟩) (fun(fn:Fn) (caps:List AV) (caps_ih:List AV×' AV.below_1 caps)=>⟨fz._f (AV.clo fn caps) caps_ih,caps_ih⟩) (fun(own:Bool) (id sz:Nat) (α:Type) (f:α→List AV) (xs:List α) (f_ih:(a:α)→List AV×' AV.below_1 (f a))=>⟨fz._f (AV.sl own id sz α f xs) f_ih,f_ih⟩) ⟨fzL._f [] PUnit.unit,PUnit.unit⟩ (fun(head:AV) (tail:List AV) (head_ih:AV×' AV.below head) (tail_ih:List AV×' AV.below_1 tail)=>⟨fzL._f (head::tail) ⟨head_ih,tail_ih⟩,head_ih,tail_ih⟩) (.int .i64 x.kind),AV.rec_1 (fun(k:IntKind) (n:Int)=>⟨fz._f (AV.int k n) PUnit.unit,PUnit.unit⟩) (fun(b:Bool)=>⟨fz._f (.bool b) PUnit.unit,PUnit.unit⟩) (fun(l:List UInt8)=>⟨fz._f (.str l) PUnit.unit,PUnit.unit⟩) (fun(v:Value)=>⟨fz._f (.val v) PUnit.unit,PUnit.unit⟩) ⟨fz._f AV.any PUnit.unit,PUnit.unit⟩ ⟨fz._f .top PUnit.unit,PUnit.unit⟩ ⟨fz._f .nil PUnit.unit,PUnit.unit⟩ (fun(id:Nat)=>⟨fz._f (AV.hole id) PUnit.unit,PUnit.unit⟩) (fun(id:Nat)=>⟨fz._f (AV.al id) PUnit.unit,PUnit.unit⟩) (fun(id k sz off:Nat)=>⟨fz._f (AV.po id k sz off) PUnit.unit,PUnit.unit⟩) (fun(fs:List AV) (fs_ih:List AV×' AV.below_1 fs)=>⟨fz._f (.agg fs) fs_ih,fs_ih⟩) (fun(vs:List AV) (vs_ih:List AV×' AV.below_1 vs)=>⟨fz._f (.tup vs) vs_ih,vs_ih⟩) (fun(id:Nat) (c:List AV) (c_ih:List AV×' AV.below_1 c)=>⟨fz._f (.box id c) c_ih,c_ih⟩) (fun(x:Value) (c:List AV) (c_ih:List AV×' AV.below_1 c)=>⟨fz._f (AV.bv x c) c_ih,c_ih⟩) (fun(x:Value)=>⟨fz._f (AV.hv x) PUnit.unit,PUnit.unit⟩) (fun(c:List AV) (c_ih:List AV×' AV.below_1 c)=>⟨fz._f (AV.pf c) c_ih,c_ih⟩) (fun(fn:Fn) (caps:List AV) (caps_ih:List AV×' AV.below_1 caps)=>⟨fz._f (AV.clo fn caps) caps_ih,caps_ih⟩) (fun(own:Bool) (id sz:Nat) (α:Type) (f:α→List AV) (xs:List α) (f_ih:(a:α)→List AV×' AV.below_1 (f a))=>⟨fz._f (AV.sl own id sz α f xs) f_ih,f_ih⟩) ⟨fzL._f [] PUnit.unit,PUnit.unit⟩ (fun(head:AV) (tail:List AV) (head_ih:AV×' AV.below head) (tail_ih:List AV×' AV.below_1 tail)=>⟨fzL._f (head::tail) ⟨head_ih,tail_ih⟩,head_ih,tail_ih⟩) [.str x.text,.int .i64 x.pos,.bool x.blank]⟩) x_5.1.sg,.int .i64 (BF x_5.1.sg (xh x_5) x_5.2.2.2.2.2).pos,.bool (BF x_5.1.sg (xh x_5) x_5.2.2.2.2.2).bad,.int .i64 (BF x_5.1.sg (xh x_5) x_5.2.2.2.2.2).deep,AV.sl false (0:Nat) (4:Nat) Nd (fun(x:Nd)=>fzL._f [.int .i64 x.kind,.str x.text,Ad x.kids,.bool x.blank] ⟨AV.rec (fun(k:IntKind) (n:Int)=>⟨fz._f (AV.int k n) PUnit.unit,PUnit.unit⟩) (fun(b:Bool)=>⟨fz._f (.bool b) PUnit.unit,PUnit.unit⟩) (fun(l:List UInt8)=>⟨fz._f (.str l) PUnit.unit,PUnit.unit⟩) (fun(v:Value)=>⟨fz._f (.val v) PUnit.unit,PUnit.unit⟩) ⟨fz._f AV.any PUnit.unit,PUnit.unit⟩ ⟨fz._f .top PUnit.unit,PUnit.unit⟩ ⟨fz._f .nil PUnit.unit,PUnit.unit⟩ (fun(id:Nat)=>⟨fz._f (AV.hole id) PUnit.unit,PUnit.unit⟩) (fun(id:Nat)=>⟨fz._f (AV.al id) PUnit.unit,PUnit.unit⟩) (fun(id k sz off:Nat)=>⟨fz._f (AV.po id k sz off) PUnit.unit,PUnit.unit⟩) (fun(fs:List AV) (fs_ih:List AV×' AV.below_1 fs)=>⟨fz._f (.agg fs) fs_ih,fs_ih⟩) (fun(vs:List AV) (vs_ih:List AV×' AV.below_1 vs)=>⟨fz._f (.tup vs) vs_ih,vs_ih⟩) (fun(id:Nat) (c:List AV) (c_ih:List AV×' AV.below_1 c)=>⟨fz._f (.box id c) c_ih,c_ih⟩) (fun(x:Value) (c:List AV) (c_ih:List AV×' AV.below_1 c)=>⟨fz._f (AV.bv x c) c_ih,c_ih⟩) (fun(x:Value)=>⟨fz._f (AV.hv x) PUnit.unit,PUnit.unit⟩) (fun(c:List AV) (c_ih:List AV×' AV.below_1 c)=>⟨fz._f (AV.pf c) c_ih,c_ih⟩) (fun(fn:Fn) (caps:List AV) (caps_ih:List AV×' AV.below_1 caps)=>⟨fz._f (AV.clo fn caps) caps_ih,caps_ih⟩) (fun(own:Bool) (id sz:Nat) (α:Type) (f:α→List AV) (xs:List α) (f_ih:(a:α)→List AV×' AV.below_1 (f a))=>⟨fz._f (AV.sl own id sz α f xs) f_ih,f_ih⟩) ⟨fzL._f [] PUnit.unit,PUnit.unit⟩ (fun(head:AV) (tail:List AV) (head_ih:AV×' AV.below head) (tail_ih:List AV×' AV.below_1 tail)=>⟨fzL._f (head::tail) ⟨head_ih,tail_ih⟩,head_ih,tail_ih⟩) (.int .i64 x.kind),AV.rec_1 (fun(k:IntKind) (n:Int)=>⟨fz._f (AV.int k n) PUnit.unit,PUnit.unit⟩) (fun(b:Bool)=>⟨fz._f (.bool b) PUnit.unit,PUnit.unit⟩) (fun(l:List UInt8)=>⟨fz._f (.str l) PUnit.unit,PUnit.unit⟩) (fun(v:Value)=>⟨fz._f (.val v) PUnit.unit,PUnit.unit⟩) ⟨fz._f AV.any PUnit.unit,PUnit.unit⟩ ⟨fz._f .top PUnit.unit,PUnit.unit⟩ ⟨fz._f .nil PUnit.unit,PUnit.unit⟩ (fun(id:Nat)=>⟨fz._f (AV.hole id) PUnit.unit,PUnit.unit⟩) (fun(id:Nat)=>⟨fz._f (AV.al id) PUnit.unit,PUnit.unit⟩) (fun(id k sz off:Nat)=>⟨fz._f (AV.po id k sz off) PUnit.unit,PUnit.unit⟩) (fun(fs:List AV) (fs_ih:List AV×' AV.below_1 fs)=>⟨fz._f (.agg fs) fs_ih,fs_ih⟩) (fun(vs:List AV) (vs_ih:List AV×' AV.below_1 vs)=>⟨fz._f (.tup vs) vs_ih,vs_ih⟩) (fun(id:Nat) (c:List AV) (c_ih:List AV×' AV.below_1 c)=>⟨fz._f (.box id c) c_ih,c_ih⟩) (fun(x:Value) (c:List AV) (c_ih:List AV×' AV.below_1 c)=>⟨fz._f (AV.bv x c) c_ih,c_ih⟩) (fun(x:Value)=>⟨fz._f (AV.hv x) PUnit.unit,PUnit.unit⟩) (fun(c:List AV) (c_ih:List AV×' AV.below_1 c)=>⟨fz._f (AV.pf c) c_ih,c_ih⟩) (fun(fn:Fn) (caps:List AV) (caps_ih:List AV×' AV.below_1 caps)=>⟨fz._f (AV.clo fn caps) caps_ih,caps_ih⟩) (fun(own:Bool) (id sz:Nat) (α:Type) (f:α→List AV) (xs:List α) (f_ih:(a:α)→List AV×' AV.below_1 (f a))=>⟨fz._f (AV.sl own id sz α f xs) f_ih,f_ih⟩) ⟨fzL._f [] PUnit.unit,PUnit.unit⟩ (fun(head:AV) (tail:List AV) (head_ih:AV×' AV.below head) (tail_ih:List AV×' AV.below_1 tail)=>⟨fzL._f (head::tail) ⟨head_ih,tail_ih⟩,head_ih,tail_ih⟩) [.str x.text,Ad x.kids,.bool x.blank]⟩) (BF x_5.1.sg (xh x_5) x_5.2.2.2.2.2).nodes]=AV.pf [sgs x_6.1.sg,.int .i64 (xh x_6).pos,.bool (xh x_6).bad,.int .i64 (xh x_6).deep,nds (xh x_6).nodes]∧(1:Int)=x_6.2.2.2.2.2∧∃(y0:Unit),(∀(y:Unit),True→AV.bool (kdG x_6.1.sg (xh x_6) x_6.2.2.2.2.2)=AV.bool (kdG x_6.1.sg (xh x_6) x_6.2.2.2.2.2))∧true=true∧Aa (kdG x_6.1.sg (xh x_6) x_6.2.2.2.2.2) (inR IntKind.i64 ((BF x_5.1.sg (xh x_5) x_5.2.2.2.2.2).pos+(1:Int))∧Aa (decide ((BF x_5.1.sg (xh x_5) x_5.2.2.2.2.2).pos+(1:Int)<(↑(List.length x_5.1.sg):Int))) (inR IntKind.i64 ((BF x_5.1.sg (xh x_5) x_5.2.2.2.2.2).pos+(1:Int))∧((0:Int)≤(BF x_5.1.sg (xh x_5) x_5.2.2.2.2.2).pos+(1:Int)∧(BF x_5.1.sg (xh x_5) x_5.2.2.2.2.2).pos+(1:Int)<(↑(List.length x_5.1.sg):Int))∧∀(e:Sg),x_5.1.sg[Int.toNat ((BF x_5.1.sg (xh x_5) x_5.2.2.2.2.2).pos+(1:Int))]? =some e→Aa (e.kind==(4:Int)) (inR IntKind.i64 ((BF x_5.1.sg (xh x_5) x_5.2.2.2.2.2).pos+(1:Int))∧((0:Int)≤(BF x_5.1.sg (xh x_5) x_5.2.2.2.2.2).pos+(1:Int)∧(BF x_5.1.sg (xh x_5) x_5.2.2.2.2.2).pos+(1:Int)<(↑(List.length x_5.1.sg):Int))∧∀(e:Sg),x_5.1.sg[Int.toNat ((BF x_5.1.sg (xh x_5) x_5.2.2.2.2.2).pos+(1:Int))]? =some e→Aa (e.text== #[(61:UInt8)].toList) (cA CA [srd x_5.1 (BF x_5.1.sg (xh x_5) x_5.2.2.2.2.2),.int .i64 (1:Int)] fun x_7 y=>cA BM [srd x_7.1 (Bd x_7.1.sg (xh x_7) x_7.2.2.2.2.2),.str #[(61:UInt8)].toList] fun x_8 y=>cA Fw [srd x_8.1 (Al x_8.1.sg (xh x_8) x_8.2.2.2.2.2)] fun x_9 y=>cA BM [srd x_9.1 (yG y.2),.str #[(59:UInt8)].toList] fun x_10 y_1=>∃(x_11:Int),y.1=x_11∧cA Bm [srd x_10.1 (Al x_10.1.sg (xh x_10) x_10.2.2.2.2.2),.int .i64 (13:Int),.str (Bv x_7.1.sg (xh x_7) x_7.2.2.2.2.2),Ad [x_11]] fun x_12 y=>rA (FV n) x [.int .i64 (Au (xh x_12)),srd x_12.1 (Ah (xh x_12) {kind:=x_12.2.2.2.2.2.1,text:=x_12.2.2.2.2.2.2.1,kids:=x_12.2.2.2.2.2.2.2,blank:=false})]) (cA Fw [srd x_5.1 (BF x_5.1.sg (xh x_5) x_5.2.2.2.2.2)] fun x_7 y=>cA BM [srd x_7.1 (yG y.2),.str #[(59:UInt8)].toList] fun x_8 y_1=>∃(x_9:Int),y.1=x_9∧cA Bm [srd x_8.1 (Al x_8.1.sg (xh x_8) x_8.2.2.2.2.2),.int .i64 (14:Int),.str #[].toList,Ad [x_9]] fun x_10 y=>rA (FV n) x [.int .i64 (Au (xh x_10)),srd x_10.1 (Ah (xh x_10) {kind:=x_10.2.2.2.2.2.1,text:=x_10.2.2.2.2.2.2.1,kids:=x_10.2.2.2.2.2.2.2,blank:=false})])) (cA Fw [srd x_5.1 (BF x_5.1.sg (xh x_5) x_5.2.2.2.2.2)] fun x_7 y=>cA BM [srd x_7.1 (yG y.2),.str #[(59:UInt8)].toList] fun x_8 y_1=>∃(x_9:Int),y.1=x_9∧cA Bm [srd x_8.1 (Al x_8.1.sg (xh x_8) x_8.2.2.2.2.2),.int .i64 (14:Int),.str #[].toList,Ad [x_9]] fun x_10 y=>rA (FV n) x [.int .i64 (Au (xh x_10)),srd x_10.1 (Ah (xh x_10) {kind:=x_10.2.2.2.2.2.1,text:=x_10.2.2.2.2.2.2.1,kids:=x_10.2.2.2.2.2.2.2,blank:=false})])) (cA Fw [srd x_5.1 (BF x_5.1.sg (xh x_5) x_5.2.2.2.2.2)] fun x_7 y=>cA BM [srd x_7.1 (yG y.2),.str #[(59:UInt8)].toList] fun x_8 y_1=>∃(x_9:Int),y.1=x_9∧cA Bm [srd x_8.1 (Al x_8.1.sg (xh x_8) x_8.2.2.2.2.2),.int .i64 (14:Int),.str #[].toList,Ad [x_9]] fun x_10 y=>rA (FV n) x [.int .i64 (Au (xh x_10)),srd x_10.1 (Ah (xh x_10) {kind:=x_10.2.2.2.2.2.1,text:=x_10.2.2.2.2.2.2.1,kids:=x_10.2.2.2.2.2.2.2,blank:=false})])) (cA Fw [srd x_5.1 (BF x_5.1.sg (xh x_5) x_5.2.2.2.2.2)] fun x_7 y=>cA BM [srd x_7.1 (yG y.2),.str #[(59:UInt8)].toList] fun x_8 y_1=>∃(x_9:Int),y.1=x_9∧cA Bm [srd x_8.1 (Al x_8.1.sg (xh x_8) x_8.2.2.2.2.2),.int .i64 (14:Int),.str #[].toList,Ad [x_9]] fun x_10 y=>rA (FV n) x [.int .i64 (Au (xh x_10)),srd x_10.1 (Ah (xh x_10) {kind:=x_10.2.2.2.2.2.1,text:=x_10.2.2.2.2.2.2.1,kids:=x_10.2.2.2.2.2.2.2,blank:=false})]))))))) (fun x=>by kernel_rfl) fun(x:ST×Int×Int×Bool×List Nd) (hx:(okQ x.1 (xg x)∧(xg x).bad=false)∧21-(xg x).deep≤(n+1:Nat))=>(by
 dsimp only[cA,Bf,nds,Ad,As,rA,HH,Lh,DN,Ik,Bm,FV,CA,Fw,Gu,BM,EB,Br,sgs,srd,srf,Av,Az,mvL,lnL,mvE,lnE]
 obtain⟨s,p,d,b,ns⟩:=x;dsimp only[xg,xh] at hx ⊢
 obtain⟨⟨hx,hb⟩,hd⟩:=hx
 have hx:okQ s ⟨p,d,b,ns⟩:=hx
 have hD:=Eo hx;have hM:=Mx hx;have h1:=hD.1
 (repeat' first|(show AV.pf _=AV.pf _;first|exact a2b|(with_unfolding_all exact a2b)|(with_unfolding_all rfl))|(with_reducible first|rfl|exact True.intro|apply AK|apply And.intro|((first|apply AA|apply AI|apply AB|apply AJ)<;>intro _))|(apply Ax<;>intro _)|apply AH|refine Af () ?_ ?_|((first|apply AO|apply AN|apply AM|apply AL|apply AG|apply AF|apply AE|apply AD|apply AC)<;>try dsimp only)|apply Af|(refine Prod.forall.2 ?_;intro _;try dsimp only)|(intro _;try dsimp only))
 all_goals(try dsimp only[xg,xh,yG,yS,iG,iF] at*)
 all_goals(try simp only[CG] at*)
 all_goals(try(have e:=IX (show isG s.sg ⟨p,d,b,ns⟩ 1 [118,97,114]=false by assumption);simp only[e] at*))
 all_goals(try(have e:=IY (show isG s.sg ⟨p,d,b,ns⟩ 1 [118,97,114]=true by assumption);simp only[e] at*))
 all_goals(try(have e:=IX (show isG s.sg ⟨p,d,b,ns⟩ 1 [114,101,116,117,114,110]=false by assumption);simp only[e] at*))
 all_goals(try(have e:=IY (show isG s.sg ⟨p,d,b,ns⟩ 1 [114,101,116,117,114,110]=true by assumption);simp only[e] at*))
 all_goals(try(have e:=IX (show isG s.sg ⟨p,d,b,ns⟩ 1 [105,102]=false by assumption);simp only[e] at*))
 all_goals(try(have e:=IY (show isG s.sg ⟨p,d,b,ns⟩ 1 [105,102]=true by assumption);simp only[e] at*))
 all_goals(try(have e:=IX (show isG s.sg ⟨p,d,b,ns⟩ 1 [119,104,105,108,101]=false by assumption);simp only[e] at*))
 all_goals(try(have e:=IY (show isG s.sg ⟨p,d,b,ns⟩ 1 [119,104,105,108,101]=true by assumption);simp only[e] at*))
 all_goals first
  |rfl
  |exact h1
  |exact hM
  |omega
  |(simp;done)
  |exact b1U hx ‹_›
  |exact GW h1 (by omega)
  |exact FU hx ‹_›
  |exact Eo (FU hx ‹_›)
  |exact(Eo (FU hx ‹_›)).1
  |exact b1V hx ‹_› ‹_› ‹_›
  |exact b1X hx ‹_› ‹_› ‹_› ‹_› ‹_›
  |exact b1W hx ‹_› ‹_› ‹_› ‹_›
  |exact Dg h1 ‹_›
  |exact(DX (Dg h1 ‹_›)).1
  |exact(DX (Eo (FU hx ‹_›)).1).1
  |exact b2i hx ‹_› ‹_› ‹_› ‹_› ‹_› (b2h (x:=⟨p,d,b,ns⟩) hb ‹_› ‹_› (b2b ‹_› ‹_›) (b2d ‹_› ‹_›)) ‹_›
  |exact QZ hx ‹_› ‹_› ‹_› ‹_› ‹_› (b2f ‹_›) ‹_›
  |exact QZ hx ‹_› ‹_› ‹_› ‹_› ‹_› (b2g (x:=⟨p,d,b,ns⟩) ‹_›) ‹_›
  |exact QZ hx ‹_› ‹_› ‹_› ‹_› ‹_› (a1W (x:=⟨p,d,b,ns⟩) hb ‹_› (.inl (b2c ‹_› ‹_›))) ‹_›
  |exact QZ hx ‹_› ‹_› ‹_› ‹_› ‹_› (a1W (x:=⟨p,d,b,ns⟩) hb ‹_› (.inr (b2e ‹_› ‹_›))) ‹_›
  |(have hq:=DD h1;dsimp only at hq;(try simp only[AR]);omega)
  |exact(a1X hx).1
  |exact Eo (a1X hx).2
  |exact hD
  |(simp [AW];done)
  |exact(show AW 2 8 by simp [AW])
  |exact(show AW 3 8 by simp [AW])
  |skip
 all_goals(try(have hc:=(show Bh s.sg (Aj ⟨p,d,b,ns⟩) (CZ s.sg) _ by assumption);have k0:=FU hx (show isG s.sg ⟨p,d,b,ns⟩ 1 _=true by assumption);have k1:=b2j k0 hc;have k2:=b2k (n:=n) (x:=⟨p,d,b,ns⟩) hd hc))
 all_goals first
  |exact k1
  |exact k2
  |exact(Eo (Mz k1 ‹_›)).1
  |exact a1Z (Eo (Mz k1 ‹_›)).1
  |exact FU (Mz k1 ‹_›) ‹_›
  |exact a2a (Mz k1 ‹_›)
  |(have hh:=b2l (m:=[101,108,115,101]) k2 (show Ae s.sg _ (BE s.sg _) _ by assumption);exact hh)
  |exact Dg h1 ‹_›
  |exact b1Y hx ‹_› ‹_› ‹_› ‹_› ‹_› ‹_› ‹_›
  |exact b1Z hx ‹_› ‹_› ‹_› ‹_› ‹_› ‹_› ‹_› ‹_›
  |exact b2a hx ‹_› ‹_› ‹_› ‹_› ‹_› ‹_› ‹_›
  |exact(Eo (Mz (a2a (Mz k1 ‹_›)) ‹_›)).1
  |exact h1
  |skip)
end Go.My
end
section
set_option linter.unusedVariables false
set_option linter.unusedSimpArgs false
namespace Go.My
open Go.Eng Go.Proofs
variable {G:GInv}
theorem b2p(n:Nat):Aq G Go.Proofs.Tryz.prog 108 (IZ n):=by
 induction n with
 |zero=>exact FR Tryz.func108 rfl (by decide) (fun x h=>by have h1:=h.1.1.1.2;have h2:=h.2;omega)
 |succ n ih=>exact b2o n ih
def Li:Sig:= {X:=ST×Int×Int×Bool×List Nd,args:=fun x=>[srd x.1 (xg x)],pre:=fun x=>okQ x.1 (xg x),Y:=Int×Int×Int×Bool×List Nd,post:=fun x y=>Ae x.1.sg (xg x) (Ey x.1.sg) (yS y),res:=fun x y=> .int .i64 y.1,outs:=fun x y=>[srd x.1 (yG y.2)],keep:=true}
theorem a2d{s:ST}{g:Gs}(h:okQ s g):okQ s g∧20-g.deep≤(stN:Int):=by
 have h1:=h.1.1.2.2.1.1
 exact⟨h,by unfold stN;omega⟩
theorem a2e:Aq G Go.Proofs.Tryz.prog 75 Li:=
 have c:=a2c (G:=G) stN (b2p stN)
 ⟨⟨c.1.1,fun x y hx hy=>c.1.2 x y (a2d hx) hy⟩,fun x hx=>c.2 x (a2d hx)⟩
theorem a2f{s:ST}{x:Gs}{v:List Int×Gs}(h:okQ s x)(hv:vlQ s.sg (Bu s.sg) [41] [] (Al s.sg (Bd s.sg x 1) [40]) v):okQ s v.2:=by
 have a:=DX (m:=[40]) (GW (k:=1) h.1.1 (by omega))
 have e:(Bd s.sg x 1).deep=x.deep:=by unfold Bd;split<;>rfl
 obtain⟨b1,b2,b3,b4⟩:=UE h.1.1.1 hv
 exact⟨⟨b1,by have:=h.1.2;omega⟩,h.2⟩
theorem a2g{s:ST}{x:Gs}{v:List Int×Gs}{q:Int×Gs}(h:okQ s x)(hv:vlQ s.sg (Bu s.sg) [41] [] (Al s.sg (Bd s.sg x 1) [40]) v)(hq:Ae s.sg v.2 (Ey s.sg) q):
 Ae s.sg x (EK s.sg false) (Au q.2,Ah q.2 ⟨20,Bv s.sg x 1,v.1++[q.1],false⟩):=by
 rw[HE.1] at hv;rw[HE.2]
 obtain⟨l,⟨a,b⟩,rfl⟩:=hv
 exact a0s (l:=l) h.1.1.1 h.1.1.2 a b hq
def clS(sg:List Sg)(x y:Gs)(ks:List Int)(N:Nat):Prop:=Ig sg (CN sg) [125] (Al sg (Bd sg (Aj x) 1) [123]) y ks N∧y.deep=x.deep
theorem a2h{s:ST}{x:Gs}(h:okQ s (Aj x)):clS s.sg x (Al s.sg (Bd s.sg (Aj x) 1) [123]) [] (s.sg.length+1):=by
 have a:=GW (k:=1) h.1.1 (by omega)
 refine⟨Qi (DX a).1.2,?_⟩
 rw[(DX a).2];unfold Bd;split<;>rfl
theorem b2q{s:ST}{x:Gs}(h:okQ s x)(h1:isG s.sg x 1 [118,97,114]=false)(h2:isG s.sg (BF s.sg x [118,97,114]) 1 [99,108,97,115,115]=true):
 clS s.sg x (Al s.sg (Bd s.sg (BF s.sg (BF s.sg x [118,97,114]) [99,108,97,115,115]) 1) [123]) [] (s.sg.length+1):=by
 rw[IX h1] at h2 ⊢
 rw[IY h2];exact a2h (FU h h2)
theorem b2r{s:ST}{x:Gs}(h:okQ s (Aj x)):rOk s (Bd s.sg (Aj x) 1)∧rOk s (Al s.sg (Bd s.sg (Aj x) 1) [123]):=
 have a:=GW (k:=1) h.1.1 (by omega)
 ⟨a,(DX a).1⟩
theorem Ve{s:ST}{x y:Gs}{ks:List Int}{N:Nat}(h:okQ s (Aj x))(hj:clS s.sg x y ks N):okQ s y:=⟨⟨⟨h.1.1.1,hj.1.1.1⟩,by have:=hj.2;have:=h.1.2;simp only[Aj] at*;omega⟩,h.2⟩
theorem a2i{s:ST}{x y:Gs}{ks:List Int}{N:Nat}(h:okQ s (Aj x))(hj:clS s.sg x y ks N)(hb:y.bad=false)(hq:isG s.sg y 4 [125]=false):okQ s (Ai s.sg y [125])∧(Ai s.sg y [125]).bad=false:=by
 rw[CT hq];exact⟨Ve h hj,hb⟩
theorem Vf{s:ST}{x y:Gs}{ks:List Int}{N:Nat}(h:okQ s (Aj x))(hj:clS s.sg x y ks N):ks.length≤3001:=by
 have:=hj.1.2.2.1;have:=hj.1.1.1.1;have:=h.1.1.1.1;omega
theorem JT{s:ST}{x y:Gs}{ks:List Int}{N:Nat}{b:Bool}{z:Int×Gs}(hj:clS s.sg x y ks N)(hb:y.bad=false)(hq:isG s.sg y 4 [125]=false)(hz:Ae s.sg (Ai s.sg y [125]) (CN s.sg false) z)(e:b=(blG s.sg (Ai s.sg y [125])&&decide (0<(ks.length:Int)))):
 clS s.sg x (gBl z.2 z.1 b) (ks++[z.1]) (N-1)∧N-1<N:=by
 rw[CT hq] at hz e
 rw[UY hb] at e
 have hz2:Ae s.sg y (CN s.sg b) (z.1,gBl z.2 z.1 b):=UX UV hz
 subst e
 obtain⟨a,b⟩:=GP (Ql hj.1 hb hq (z:=(z.1,gBl z.2 z.1 ((pkG s.sg y 0).blank&&decide (0<(ks.length:Int))))) (by
  have:decide (0<ks.length)=decide (0<(ks.length:Int)):=by simp
  rw[this];exact hz2))
 have:=(Cw hz2).1
 exact⟨⟨a,by have:=hj.2;simp only at*;omega⟩,b⟩
theorem a2j{s:ST}{x:Gs}{l:List Int×Gs}(h:okQ s (Aj x))(hl:Bh s.sg (Al s.sg (Bd s.sg (Aj x) 1) [123]) (CE s.sg (CN s.sg) [125] (s.sg.length+1) []) l)(hll:l.1.length≤3001):
 Ae s.sg (Aj x) (EY s.sg false) (Au (Al s.sg l.2 [125]),Ah (Al s.sg l.2 [125]) ⟨21,Bv s.sg (Aj x) 1,l.1,false⟩):=by
 rw[HE.1] at hl;rw[HE.2]
 exact HD hl.1 (Dx (GS h.1.1.1) (by omega)) (a0t h.1.1.1 h.1.1.2 hl hll)
theorem b2s{s:ST}{x y:Gs}{ks:List Int}{N:Nat}(h:okQ s (Aj x))(hj:clS s.sg x y ks N)(hq:isG s.sg y 4 [125]=true):
 Ae s.sg (Aj x) (EY s.sg false) (Au (Ai s.sg y [125]),Ah (Ai s.sg y [125]) ⟨21,Bv s.sg (Aj x) 1,ks,false⟩):=by
 rw[CU hq,←IU hq];exact a2j (l:=(ks,y)) h (Qk hj.1 hq) (Vf h hj)
theorem b2t{s:ST}{x y:Gs}{ks:List Int}{N:Nat}(h:okQ s (Aj x))(hj:clS s.sg x y ks N)(hb:y.bad=true):
 Ae s.sg (Aj x) (EY s.sg false) (Au y,Ah y ⟨21,Bv s.sg (Aj x) 1,ks,false⟩):=by
 have a:=a2j (l:=(ks,y)) h (Qj hj.1 hb) (Vf h hj)
 simp only[QJ hb] at a;exact a
theorem b2u{s:ST}{x:Gs}(h:okQ s x)(hk:kdG s.sg x 5=true):Ae s.sg x (CN s.sg false) (Au (Bd s.sg x 5),Ah (Bd s.sg x 5) ⟨19,Bv s.sg x 5,[],false⟩):=by
 have hn:=hk
 rw[NX (by omega)] at hn
 exact Mt h.1.1.1 h.1.1.2 (by omega) hk (a0u h.1.1.1 h.1.1.2 (by simpa using hn))
theorem b2v{s:ST}{x:Gs}(h:okQ s x)(hk:kdG s.sg x 5=true):Ae s.sg x (De s.sg false) (Au (Bd s.sg x 5),Ah (Bd s.sg x 5) ⟨19,Bv s.sg x 5,[],false⟩):=by
 have hn:=hk
 rw[NX (by omega)] at hn
 exact Mt h.1.1.1 h.1.1.2 (by omega) hk (a0x h.1.1.1 h.1.1.2 (by simpa using hn))
theorem b2w{s:ST}{x:Gs}{z:Int×Gs}(h:okQ s x)(hk:kdG s.sg x 5=false)(hq:isG s.sg x 1 [118,97,114]=true)(hz:Ae s.sg (Aj x) (Dd s.sg false) z):Ae s.sg x (CN s.sg false) z:=a0v h.1.1.2 (Gt hk) hq hz
theorem b2x{s:ST}{x:Gs}{z:Int×Gs}(h:okQ s x)(hk:kdG s.sg x 5=false)(hq:isG s.sg x 1 [118,97,114]=true)(hz:Ae s.sg (Aj x) (Dd s.sg false) z):Ae s.sg x (De s.sg false) z:=a0y h.1.1.2 (Gt hk) hq hz
theorem b2y{s:ST}{x:Gs}{z:Int×Gs}(h:okQ s x)(hk:kdG s.sg x 5=false)(hq:isG s.sg x 1 [118,97,114]=false)(hz:Ae s.sg x (EK s.sg false) z):Ae s.sg x (CN s.sg false) z:=a0w h.1.1.2 (Gt hk) hq hz
theorem b2z{s:ST}{x:Gs}{z:Int×Gs}(h:okQ s x)(hk:kdG s.sg x 5=false)(h1:isG s.sg x 1 [118,97,114]=false)(hq:isG s.sg x 1 [99,108,97,115,115]=false)(hz:Ae s.sg x (EK s.sg false) z):Ae s.sg x (De s.sg false) z:=a0A h.1.1.2 (Gt hk) h1 hq hz
theorem a2k{s:ST}{x:Gs}{z:Int×Gs}(h:okQ s x)(hk:kdG s.sg x 5=false)(h1:isG s.sg x 1 [118,97,114]=false)(hq:isG s.sg x 1 [99,108,97,115,115]=true)(hz:Ae s.sg (Aj x) (EY s.sg false) z):Ae s.sg x (De s.sg false) z:=a0z h.1.1.2 (Gt hk) h1 hq hz
def a2l:Sig:= {X:=ST×Int×Int×Bool×List Nd,args:=fun x=>[srd x.1 (xg x),.bool false],pre:=fun x=>False,Y:=Int×Int×Int×Bool×List Nd,post:=fun x y=>True,res:=fun x y=> .int .i64 y.1,outs:=fun x y=>[srd x.1 (yG y.2),.top],keep:=true}
theorem b2A:Aq G Go.Proofs.Tryz.prog 41 a2l:=FR Tryz.func41 rfl (by decide) (fun x h=>h)
attribute [local irreducible] pE Bg CL fnR Ae Bh gsOk Al Bn Ah BW CS Ai Cu Da Au Bw pkG isG nmG kdG Bd Bv Bu vlQ BF gBl blG Dd FO CZ BZ BE stR CE okQ sgM clS CN De EK EY Ey
def Ja:Sig:= {X:=ST×Int×Int×Bool×List Nd,args:=fun x=>[srd x.1 (xg x),.bool false],pre:=fun x=>okQ x.1 (xg x)∧(xg x).bad=false,Y:=Int×Int×Int×Bool×List Nd,post:=fun x y=>Ae x.1.sg (xg x) (CN x.1.sg false) (yS y),res:=fun x y=> .int .i64 y.1,outs:=fun x y=>[srd x.1 (yG y.2),.top],keep:=true}
def b2B(x:ST×Int×Int×Bool×List Nd):LS:= {ι:=Int×Int×Bool×List Nd×List Int×Nat,inv:=fun i=>False,regs:=fun i=>[(0,srd x.1 (iG i)),(5,.str (Bv x.1.sg (Aj (xg x)) 1)),(6,Ad i.2.2.2.2.1)],als:=[],meas:=fun i=>i.2.2.2.2.2}
theorem b2C:Aq G Tryz.prog 41 Ja:=
 vcFun_okP [(68,0,DP),(69,0,CA),(43,0,Bm),(70,0,EB),(71,0,Gu),(72,0,BM),(73,0,Ca),(40,0,Fv),(41,0,a2l),(42,0,DY),(74,0,FT),(75,0,Li)] [(45,⟨Int,Ba⟩)] false (fun x=>[(9,b2B x)]) Tryz.func41 rfl (by decide) ⟨QG,JQ,GV,Uw,Vd,HC,GU,QH,b2A,QI,UI,a2e,trivial⟩ (fun(x:ST×Int×Int×Bool×List Nd)=>True∧cA DP [srd x.1 (xg x),.int .i64 (5:Int)] fun x_1 y=>Aa (kdG x_1.1.sg (xh x_1) x_1.2.2.2.2.2) (cA CA [srd x_1.1 (xh x_1),.int .i64 (5:Int)] fun x_2 y=>cA Bm [srd x_2.1 (Bd x_2.1.sg (xh x_2) x_2.2.2.2.2.2),.int .i64 (19:Int),.str (Bv x_2.1.sg (xh x_2) x_2.2.2.2.2.2),Ad []] fun x_3 y=>rA Ja x [.int .i64 (Au (xh x_3)),srd x_3.1 (Ah (xh x_3) {kind:=x_3.2.2.2.2.2.1,text:=x_3.2.2.2.2.2.2.1,kids:=x_3.2.2.2.2.2.2.2,blank:=false}),.top]) (cA EB [srd x_1.1 (xh x_1),.str #[(118:UInt8),(97:UInt8),(114:UInt8)].toList] fun x_2 y=>Aa (isG x_2.1.sg (xh x_2) (1:Int) x_2.2.2.2.2.2) (cA Gu [srd x_2.1 (BF x_2.1.sg (xh x_2) x_2.2.2.2.2.2)] fun x_3 y=>rA Ja x [.int .i64 y.1,srd x_3.1 (yG y.2),.top]) (cA CA [srd x_2.1 (BF x_2.1.sg (xh x_2) x_2.2.2.2.2.2),.int .i64 (1:Int)] fun x_3 y=>cA FT [srd x_3.1 (Bd x_3.1.sg (xh x_3) x_3.2.2.2.2.2)] fun x_4 y=>cA Li [srd x_4.1 (yG y.2)] fun x_5 y_1=>∃(x_6:Int),y_1.1=x_6∧∃(zs:List Int),Ad [x_6]=Ad zs∧Bt Ba∧AW (List.length y.1+List.length zs) (8:Nat)∧cA Bm [srd x_5.1 (yG y_1.2),.int .i64 (20:Int),.str (Bv x_3.1.sg (xh x_3) x_3.2.2.2.2.2),Ad (y.1++zs)] fun x_7 y=>rA Ja x [.int .i64 (Au (xh x_7)),srd x_7.1 (Ah (xh x_7) {kind:=x_7.2.2.2.2.2.1,text:=x_7.2.2.2.2.2.2.1,kids:=x_7.2.2.2.2.2.2.2,blank:=false}),.top]))) (fun x=>by kernel_rfl) fun(x:ST×Int×Int×Bool×List Nd) (hx:okQ x.1 (xg x)∧(xg x).bad=false)=>(by
 dsimp only[cA,Bf,Ad,As,rA,Li,DP,Ja,FT,Bm,CA,Gu,EB,Br,sgs,srd,Av,Az,mvL,lnL,mvE,lnE]
 obtain⟨s,p,d,b,ns⟩:=x;dsimp only[xg,xh] at hx ⊢
 obtain⟨hx,hb⟩:=hx
 have hx:okQ s ⟨p,d,b,ns⟩:=hx
 have hD:=Eo hx;have hM:=Mx hx;have h1:=hD.1;have hs:=h1.1
 (repeat' first|(with_reducible first|rfl|exact True.intro|apply AK|apply And.intro|((first|apply AA|apply AI|apply AB|apply AJ)<;>intro _))|(apply Ax<;>intro _)|apply AH|refine Af () ?_ ?_|((first|apply AO|apply AN|apply AM|apply AL|apply AG|apply AF|apply AE|apply AD|apply AC)<;>try dsimp only)|apply Af|(refine Prod.forall.2 ?_;intro _;try dsimp only)|(intro _;try dsimp only))
 all_goals(try dsimp only[xg,xh,yG,yS,iG,iF] at*)
 all_goals(try simp only[CG] at*)
 all_goals(try(have e:=IX (show isG s.sg ⟨p,d,b,ns⟩ 1 [118,97,114]=false by assumption);simp only[e] at*))
 all_goals(try(have e:=IY (show isG s.sg ⟨p,d,b,ns⟩ 1 [118,97,114]=true by assumption);simp only[e] at*))
 all_goals first
  |rfl
  |exact h1
  |omega
  |contradiction
  |exact b2u hx ‹_›
  |exact GW h1 (by omega)
  |exact FU hx ‹_›
  |exact b2w hx ‹_› ‹_› ‹_›
  |exact a2f hx ‹_›
  |exact Dg h1 ‹_›
  |exact b2y hx ‹_› ‹_› (a2g hx ‹_› ‹_›)
  |(have hq:=UL hs (show vlQ _ _ _ [] _ _ by assumption);(try simp only[AW,List.length_append,List.length_cons,List.length_nil] at*);omega)
  |skip)
def HI:Sig:= {X:=ST×Int×Int×Bool×List Nd,args:=fun x=>[srd x.1 (xg x),.bool true],pre:=fun x=>okQ x.1 (xg x)∧(xg x).bad=false,Y:=Int×Int×Int×Bool×List Nd,post:=fun x y=>Ae x.1.sg (xg x) (De x.1.sg false) (yS y),res:=fun x y=> .int .i64 y.1,outs:=fun x y=>[srd x.1 (yG y.2),.top],keep:=true}
def Ob(x:ST×Int×Int×Bool×List Nd):LS:= {ι:=Int×Int×Bool×List Nd×List Int×Nat,inv:=fun i=>clS x.1.sg (xg x) (iG i) i.2.2.2.2.1 i.2.2.2.2.2,regs:=fun i=>[(0,srd x.1 (iG i)),(5,.str (Bv x.1.sg (Aj (xg x)) 1)),(6,Ad i.2.2.2.2.1)],als:=[],meas:=fun i=>i.2.2.2.2.2}
theorem b2D:Aq G Tryz.prog 41 HI:=
 vcFun_okP [(68,0,DP),(69,0,CA),(43,0,Bm),(70,0,EB),(71,0,Gu),(72,0,BM),(73,0,Ca),(40,0,Fv),(41,0,Ja),(42,0,DY),(74,0,FT),(75,0,Li)] [(45,⟨Int,Ba⟩)] false (fun x=>[(9,Ob x)]) Tryz.func41 rfl (by decide) ⟨QG,JQ,GV,Uw,Vd,HC,GU,QH,b2C,QI,UI,a2e,trivial⟩ (fun(x:ST×Int×Int×Bool×List Nd)=>True∧cA DP [srd x.1 (xg x),.int .i64 (5:Int)] fun x_1 y=>Aa (kdG x_1.1.sg (xh x_1) x_1.2.2.2.2.2) (cA CA [srd x_1.1 (xh x_1),.int .i64 (5:Int)] fun x_2 y=>cA Bm [srd x_2.1 (Bd x_2.1.sg (xh x_2) x_2.2.2.2.2.2),.int .i64 (19:Int),.str (Bv x_2.1.sg (xh x_2) x_2.2.2.2.2.2),Ad []] fun x_3 y=>rA HI x [.int .i64 (Au (xh x_3)),srd x_3.1 (Ah (xh x_3) {kind:=x_3.2.2.2.2.2.1,text:=x_3.2.2.2.2.2.2.1,kids:=x_3.2.2.2.2.2.2.2,blank:=false}),.top]) (cA EB [srd x_1.1 (xh x_1),.str #[(118:UInt8),(97:UInt8),(114:UInt8)].toList] fun x_2 y=>Aa (isG x_2.1.sg (xh x_2) (1:Int) x_2.2.2.2.2.2) (cA Gu [srd x_2.1 (BF x_2.1.sg (xh x_2) x_2.2.2.2.2.2)] fun x_3 y=>rA HI x [.int .i64 y.1,srd x_3.1 (yG y.2),.top]) (cA EB [srd x_2.1 (BF x_2.1.sg (xh x_2) x_2.2.2.2.2.2),.str #[(99:UInt8),(108:UInt8),(97:UInt8),(115:UInt8),(115:UInt8)].toList] fun x_3 y=>Aa (isG x_3.1.sg (xh x_3) (1:Int) x_3.2.2.2.2.2) (cA CA [srd x_3.1 (BF x_3.1.sg (xh x_3) x_3.2.2.2.2.2),.int .i64 (1:Int)] fun x_4 y=>cA BM [srd x_4.1 (Bd x_4.1.sg (xh x_4) x_4.2.2.2.2.2),.str #[(123:UInt8)].toList] fun x_5 y=>eA (Ob x) [srd x_5.1 (Al x_5.1.sg (xh x_5) x_5.2.2.2.2.2),.str (Bv x_4.1.sg (xh x_4) x_4.2.2.2.2.2),Ad []]∧∀(i:Int×Int×Bool×List Nd×List Int×Nat),clS x.1.sg (xg x) (iG i) i.2.2.2.2.1 i.2.2.2.2.2→Aa (!(iG i).bad) (cA Ca [srd x.1 (iG i),.str #[(125:UInt8)].toList] fun x_6 y=>Aa (!isG x_6.1.sg (xh x_6) (4:Int) x_6.2.2.2.2.2) (cA Fv [srd x_6.1 (Ai x_6.1.sg (xh x_6) x_6.2.2.2.2.2)] fun x_7 y=>Aa (blG x_7.1.sg (xg x_7)) (cA Ja [srd x_7.1 (xg x_7),.bool false] fun x_8 y=>cA DY [srd x_8.1 (yG y.2),.int .i64 y.1,.bool (decide ((↑(List.length i.2.2.2.2.1):Int)>(0:Int)))] fun x_9 y_1=>∃(x_10:Int),y.1=x_10∧∃(zs:List Int),Ad [x_10]=Ad zs∧Bt Ba∧AW (List.length i.2.2.2.2.1+List.length zs) (8:Nat)∧eN (Ob x) i [srd x_9.1 (gBl (xh x_9) x_9.2.2.2.2.2.1 x_9.2.2.2.2.2.2),.str (Bv x.1.sg (Aj (xg x)) (1:Int)),Ad (i.2.2.2.2.1++zs)]) (cA Ja [srd x_7.1 (xg x_7),.bool false] fun x_8 y=>cA DY [srd x_8.1 (yG y.2),.int .i64 y.1,.bool false] fun x_9 y_1=>∃(x_10:Int),y.1=x_10∧∃(zs:List Int),Ad [x_10]=Ad zs∧Bt Ba∧AW (List.length i.2.2.2.2.1+List.length zs) (8:Nat)∧eN (Ob x) i [srd x_9.1 (gBl (xh x_9) x_9.2.2.2.2.2.1 x_9.2.2.2.2.2.2),.str (Bv x.1.sg (Aj (xg x)) (1:Int)),Ad (i.2.2.2.2.1++zs)])) (cA Bm [srd x_6.1 (Ai x_6.1.sg (xh x_6) x_6.2.2.2.2.2),.int .i64 (21:Int),.str (Bv x.1.sg (Aj (xg x)) (1:Int)),Ad i.2.2.2.2.1] fun x_7 y=>rA HI x [.int .i64 (Au (xh x_7)),srd x_7.1 (Ah (xh x_7) {kind:=x_7.2.2.2.2.2.1,text:=x_7.2.2.2.2.2.2.1,kids:=x_7.2.2.2.2.2.2.2,blank:=false}),.top])) (cA Bm [srd x.1 (iG i),.int .i64 (21:Int),.str (Bv x.1.sg (Aj (xg x)) (1:Int)),Ad i.2.2.2.2.1] fun x_6 y=>rA HI x [.int .i64 (Au (xh x_6)),srd x_6.1 (Ah (xh x_6) {kind:=x_6.2.2.2.2.2.1,text:=x_6.2.2.2.2.2.2.1,kids:=x_6.2.2.2.2.2.2.2,blank:=false}),.top])) (cA CA [srd x_3.1 (BF x_3.1.sg (xh x_3) x_3.2.2.2.2.2),.int .i64 (1:Int)] fun x_4 y=>cA FT [srd x_4.1 (Bd x_4.1.sg (xh x_4) x_4.2.2.2.2.2)] fun x_5 y=>cA Li [srd x_5.1 (yG y.2)] fun x_6 y_1=>∃(x_7:Int),y_1.1=x_7∧∃(zs:List Int),Ad [x_7]=Ad zs∧Bt Ba∧AW (List.length y.1+List.length zs) (8:Nat)∧cA Bm [srd x_6.1 (yG y_1.2),.int .i64 (20:Int),.str (Bv x_4.1.sg (xh x_4) x_4.2.2.2.2.2),Ad (y.1++zs)] fun x_8 y=>rA HI x [.int .i64 (Au (xh x_8)),srd x_8.1 (Ah (xh x_8) {kind:=x_8.2.2.2.2.2.1,text:=x_8.2.2.2.2.2.2.1,kids:=x_8.2.2.2.2.2.2.2,blank:=false}),.top])))) (fun x=>by kernel_rfl) fun(x:ST×Int×Int×Bool×List Nd) (hx:okQ x.1 (xg x)∧(xg x).bad=false)=>(by
 dsimp only[cA,eA,eN,Ob,Bf,Ad,As,rA,Li,Fv,DY,DP,Ca,HI,Ja,FT,Bm,CA,Gu,BM,EB,Br,sgs,srd,Av,Az,mvL,lnL,mvE,lnE,BA]
 obtain⟨s,p,d,b,ns⟩:=x;dsimp only[xg,xh] at hx ⊢
 obtain⟨hx,hb⟩:=hx
 have hx:okQ s ⟨p,d,b,ns⟩:=hx
 have hD:=Eo hx;have hM:=Mx hx;have h1:=hD.1;have hs:=h1.1
 (repeat' first|(with_reducible first|rfl|exact True.intro|apply AK|apply And.intro|((first|apply AA|apply AI|apply AB|apply AJ)<;>intro _))|(apply Ax<;>intro _)|apply AH|refine Af () ?_ ?_|((first|apply AO|apply AN|apply AM|apply AL|apply AG|apply AF|apply AE|apply AD|apply AC)<;>try dsimp only)|apply Af|(refine Prod.forall.2 ?_;intro _;try dsimp only)|(intro _;try dsimp only))
 all_goals(try dsimp only[xg,xh,yG,yS,iG,iF] at*)
 all_goals(try simp only[CG] at*)
 all_goals first
  |(show Nat;skip)
  |exact b2q hx ‹_› ‹_›
  |exact(JT ‹_› ‹_› ‹_› ‹_› (Gn ‹_›)).1
  |exact(JT ‹_› ‹_› ‹_› ‹_› (Gp ‹_›)).1
  |skip
 all_goals(try(first|exact(JT ‹_› ‹_› ‹_› ‹_› (Gn ‹_›)).2|exact(JT ‹_› ‹_› ‹_› ‹_› (Gp ‹_›)).2))
 all_goals(try(have e:=IX (show isG s.sg ⟨p,d,b,ns⟩ 1 [118,97,114]=false by assumption);simp only[e] at*))
 all_goals(try(have e:=IY (show isG s.sg ⟨p,d,b,ns⟩ 1 [118,97,114]=true by assumption);simp only[e] at*))
 all_goals(try(have e:=IX (show isG s.sg ⟨p,d,b,ns⟩ 1 [99,108,97,115,115]=false by assumption);simp only[e] at*))
 all_goals(try(have e:=IY (show isG s.sg ⟨p,d,b,ns⟩ 1 [99,108,97,115,115]=true by assumption);simp only[e] at*))
 all_goals(try(have hw:=FU hx (show isG s.sg ⟨p,d,b,ns⟩ 1 [99,108,97,115,115]=true by assumption)))
 all_goals first
  |(show Nat;skip)
  |rfl
  |exact h1
  |omega
  |contradiction
  |exact b2v hx ‹_›
  |exact GW h1 (by omega)
  |exact FU hx ‹_›
  |exact b2x hx ‹_› ‹_› ‹_›
  |exact a2f hx ‹_›
  |exact(Eo hw).1
  |exact(b2r hw).1
  |exact a2h hw
  |exact(Eo (Ve hw ‹_›)).1
  |exact(a2i hw ‹_› ‹_› ‹_›).1
  |exact(a2i hw ‹_› ‹_› ‹_›).2
  |exact Fc (Eo (Ve hw ‹_›)).1
  |exact Dg h1 ‹_›
  |exact Mw UV ‹_›
  |exact Mw UV ‹_› ‹_›
  |exact(JT ‹_› ‹_› ‹_› ‹_› (Gn ‹_›)).1
  |exact(JT ‹_› ‹_› ‹_› ‹_› (Gp ‹_›)).1
  |exact a2k hx ‹_› ‹_› ‹_› (b2s hw ‹_› ‹_›)
  |exact a2k hx ‹_› ‹_› ‹_› (b2t hw ‹_› ‹_›)
  |exact b2z hx ‹_› ‹_› ‹_› (a2g hx ‹_› ‹_›)
  |(have hq:=UL hs (show vlQ _ _ _ [] _ _ by assumption);(try simp only[AW,List.length_append,List.length_cons,List.length_nil] at*);omega)
  |(have hq:=Vf hw (show clS _ _ _ _ _ by assumption);(try simp only[AW,List.length_append,List.length_cons,List.length_nil]);omega)
  |skip
 all_goals first
  |exact(JT ‹_› ‹_› ‹_› ‹_› (Gn ‹_›)).2
  |exact(JT ‹_› ‹_› ‹_› ‹_› (Gp ‹_›)).2
  |skip)
end Go.My
end
