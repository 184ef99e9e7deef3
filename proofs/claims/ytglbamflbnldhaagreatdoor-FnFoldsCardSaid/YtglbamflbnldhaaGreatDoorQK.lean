/- joined -/
import Derived.Test.YtglbamflbnldhaaGreatDoorQJ
set_option linter.unusedSimpArgs false
set_option linter.unusedVariables false
section
namespace Go.My
open Go.Eng Go.Proofs
variable {G:GInv}
abbrev iG {α:Type} (i:Int×Int×Bool×List Nd×α×Nat):Gs:=⟨i.1,i.2.1,i.2.2.1,i.2.2.2.1⟩
def vP(r n:Nat)(s:ST)(g:Gs):Prop:=(rOk s g∧g.deep≤20)∧12*((s.sg.length:Int)-g.pos)+r≤n
def wP(r n:Nat)(s:ST)(g:Gs):Prop:=(rOk s g∧(g.bad=false→g.deep≤20))∧12*((s.sg.length:Int)-g.pos)+r≤n
def b6M(n:Nat):Sig:= {X:=ST×Int×Int×Bool×List Nd,args:=fun x=>[rdG x.1 (xg x)],pre:=fun x=>vP 11 n x.1 (xg x),Y:=Int×Int×Int×Bool×List Nd,post:=fun x y=>Ah x.1.sg (xg x) (pE x.1.sg n .value) (yS y),res:=fun x y=> .int .i64 y.1,outs:=fun x y=>[rdG x.1 (yG y.2)],keep:=true}
def b6N(n:Nat):Sig:= {X:=ST×Int×Int×Bool×List Nd,args:=fun x=>[rdG x.1 (xg x)],pre:=fun x=>vP 10 n x.1 (xg x),Y:=Int×Int×Int×Bool×List Nd,post:=fun x y=>Ah x.1.sg (xg x) (pE x.1.sg n .pick) (yS y),res:=fun x y=> .int .i64 y.1,outs:=fun x y=>[rdG x.1 (yG y.2)],keep:=true}
def b6O(n:Nat):Sig:= {X:=ST×Int×Int×Bool×List Nd×Int,args:=fun x=>[rdG x.1 (xh x),.int .i64 x.2.2.2.2.2],pre:=fun x=>wP (9-x.2.2.2.2.2.toNat) n x.1 (xh x)∧0≤x.2.2.2.2.2∧x.2.2.2.2.2≤6,Y:=Int×Int×Int×Bool×List Nd,post:=fun x y=>Ah x.1.sg (xh x) (pE x.1.sg n (.chain x.2.2.2.2.2.toNat)) (yS y),res:=fun x y=> .int .i64 y.1,outs:=fun x y=>[rdG x.1 (yG y.2),.top],keep:=true}
def b6P(n:Nat):Sig:= {X:=ST×Int×Int×Bool×List Nd,args:=fun x=>[rdG x.1 (xg x)],pre:=fun x=>wP 2 n x.1 (xg x),Y:=Int×Int×Int×Bool×List Nd,post:=fun x y=>Ah x.1.sg (xg x) (pE x.1.sg n .fin) (yS y),res:=fun x y=> .int .i64 y.1,outs:=fun x y=>[rdG x.1 (yG y.2)],keep:=true}
def b6Q(n:Nat):Sig:= {X:=ST×Int×Int×Bool×List Nd,args:=fun x=>[rdG x.1 (xg x)],pre:=fun x=>wP 1 n x.1 (xg x),Y:=Int×Int×Int×Bool×List Nd,post:=fun x y=>Ah x.1.sg (xg x) (pE x.1.sg n .base) (yS y),res:=fun x y=> .int .i64 y.1,outs:=fun x y=>[rdG x.1 (yG y.2)],keep:=true}
structure rAll (G:GInv) (n:Nat):Prop where
 val:Al G Go.Proofs.Tryz.prog 197 (b6M n)
 pick:Al G Go.Proofs.Tryz.prog 218 (b6N n)
 chain:Al G Go.Proofs.Tryz.prog 233 (b6O n)
 fin:Al G Go.Proofs.Tryz.prog 240 (b6P n)
 base:Al G Go.Proofs.Tryz.prog 245 (b6Q n)
theorem Og{I:Nat→Prop}{N:Nat}(h:∃M,N=M+1∧I M):I (N-1)∧N-1<N:=by
 obtain⟨M,rfl,h⟩:=h
 exact⟨by simpa using h,by omega⟩
theorem DJ{sg:List Sg}{g:Gs}{m:List UInt8}(h:isG sg g 4 m=false):Au sg g m=g:=by simp [Au,h]
theorem EE{sg:List Sg}{g:Gs}{m:List UInt8}(h:isG sg g 4 m=true):Au sg g m=Aq g:=by simp [Au,h]
theorem b6R{α:Type}{sg:List Sg}{x:Gs}{f:Ps→Option (α×Ps)}{y:α×Gs}(h:Ah sg x f y)(hb:y.2.bad=false):x.bad=false:=((CX h).2.2.2 hb).1
abbrev Oh (sg:List Sg) (one:Ps→PR) (m:List UInt8) (x y:Gs) (ks:List Int) (N:Nat):Prop:=Ji sg one m x y ks N∧(y.bad=false→x.bad=false)
theorem b6S{sg:List Sg}{one:Ps→PR}{m:List UInt8}{x y:Gs}{ks:List Int}{N:Nat}{z:Int×Gs}(h:Oh sg one m x y ks N)(hz:Ah sg y one z)(hq:isG sg y 4 m=false)(hc:isG sg z.2 4 [44]=false):
 BG sg x (Bw sg one m (sg.length+1) []) (ks++[z.1],Au sg z.2 [44]):=by rw[DJ hc];exact b6t h.1 hq hz hc
theorem b6T{sg:List Sg}{one:Ps→PR}{m:List UInt8}{x y:Gs}{ks:List Int}{N:Nat}{z:Int×Gs}(h:Oh sg one m x y ks N)(hz:Ah sg y one z)(hq:isG sg y 4 m=false)(hc:isG sg z.2 4 [44]=true):
 Oh sg one m x (Au sg z.2 [44]) (ks++[z.1]) (N-1)∧N-1<N:=by
 rw[EE hc]
 obtain⟨a,b⟩:=Og (b6u h.1 hq hz hc)
 exact⟨⟨a,fun hb=>h.2 (b6R hz hb)⟩,b⟩
theorem GE(g:Gs):(⟨g.pos,g.deep,g.bad,g.nodes⟩:Gs)=g:=rfl
theorem b6U{s:ST}{one:Ps→PR}{m:List UInt8}{x y:Gs}{ks:List Int}{N:Nat}(hr:sgB s.sg)(h:Oh s.sg one m x y ks N):ks.length≤3000:=by
 have h1:=h.1.2.2;have h2:=h.1.1.1.1.2;have h3:=hr.1;omega
theorem b6V{s:ST}{one:Ps→PR}{m:List UInt8}{x y:Gs}{ks:List Int}{N n:Nat}(hr:sgB s.sg)(h:Oh s.sg one m x y ks N)(hb:y.bad=false)(hd:x.bad=false→x.deep≤20)(hn:12*((s.sg.length:Int)-x.pos)+11≤n):vP 11 n s y:=by
 have h1:=h.1.1;have h2:=hd (h.2 hb);have h3:=h1.2.1;have h4:=h1.2.2.1
 exact⟨⟨⟨hr,h1.1⟩,by omega⟩,by omega⟩
theorem b6W{s:ST}{one:Ps→PR}{m:List UInt8}{x y:Gs}{ks:List Int}{N:Nat}(hr:sgB s.sg)(h:Oh s.sg one m x y ks N):rOk s y:=⟨hr,h.1.1.1⟩
theorem b6X{sg:List Sg}{x:Gs}{one:Ps→PR}{k:Int}{l:List Int×Gs}(hx:gsOk sg x)(h:BG sg (As sg x [40]) (Bw sg one [41] (sg.length+1) []) l∧l.1.length≤3001):
 Ah sg x (Dg sg one k) (CQ sg l.2 [41],CP sg l.2 [41] ⟨5,[],[k]++l.1,false⟩):=b6v hx h.1 h.2
attribute [local irreducible] pE Bw Dg fnR Ah BG gsOk As CP An Dp EA Au Ed Eo AW CQ pkG isG nmG
end Go.My
end
section
namespace Go.My
open Go.Eng Go.Proofs
variable {G:GInv}
theorem Qn{sg:List Sg}{f:Ps→PR}{x:Gs}{y:Int×Gs}(h:Ah sg x f y)(hb:x.bad=false→x.deep≤20):y.2.bad=false→y.2.deep≤20:=fun hy=>by
 have:=CX h;have h2:=hb (this.2.2.2 hy).1;omega
theorem HO{sg:List Sg}{x:Gs}{m:List UInt8}(h:gsOk sg x):gsOk sg (As sg x m)∧(As sg x m).deep=x.deep∧x.pos≤(As sg x m).pos∧((As sg x m).bad=false→x.bad=false):=by
 obtain⟨a1,a2,a3,a4⟩:=(PU (m:=m) h).1
 refine⟨a1,a2,a3,fun hb=> ?_⟩
 cases hx:x.bad with
 |false=>rfl
 |true=>rw[Ec hx,Dm hb] at a4;cases a4
theorem b6Y{s:ST}{x:Gs}{n:Nat}{one:Ps→PR}{l:List Int×Gs}(h:rOk s x)(hd:x.deep≤20)(hq:isG s.sg x 4 [40]=true)(hn:12*((s.sg.length:Int)-x.pos)≤n+2)(hl:BG s.sg (As s.sg x [40]) (Bw s.sg one [41] (s.sg.length+1) []) l∧l.1.length≤3001):
 vP 10 n s (As s.sg (As s.sg l.2 [41]) [61,62]):=by
 have a:=HO (m:=[40]) h.2;have b:=HO (m:=[41]) hl.1.1;have c:=HO (m:=[61,62]) b.1
 have e1:=hl.1.2.1;have e2:=hl.1.2.2.1
 have e3:(As s.sg x [40]).pos=x.pos+1:=by rw[As,if_pos hq];rfl
 exact⟨⟨⟨h.1,c.1⟩,by omega⟩,by omega⟩
theorem Fs{s:ST}{x y:Gs}{f:Ps→PR}{z:Int×Gs}(h:rOk s x)(hz:Ah s.sg y f z):rOk s z.2:=⟨h.1,Gc hz⟩
theorem b6Z{l:Nat}:(BT l).length≤2:=by
 unfold BT;split<;>simp
attribute [local irreducible] pE Bw Dg fnR Ah BG gsOk As CP An Dp EA Au Ed Eo AW CQ pkG isG nmG
end Go.My
end
section
namespace Go.My
open Go.Eng Go.Proofs
variable {G:GInv}
theorem a4P{s:ST}{x:Gs}{n r:Nat}{k:Int}{m:List UInt8}(hq:isG s.sg x k m=true)(hk:k≠0)(h1:rOk s x)(h2:x.bad=false→x.deep≤20)(h3:12*((s.sg.length:Int)-x.pos)+1≤(n+1:Nat))(hr:r≤12):wP r n s (Aq x)∧vP r n s (Aq x):=by
 have hl:=Dn hq hk
 have ha:=GB h1.2 hl.2
 have hd:=h2 hl.1
 have e:(Aq x).pos=x.pos+1:=rfl
 have e2:(Aq x).deep=x.deep:=rfl
 have a:12*((s.sg.length:Int)-(Aq x).pos)+r≤n:=by omega
 exact⟨⟨⟨⟨h1.1,ha⟩,fun _=>by omega⟩,a⟩,⟨⟨⟨h1.1,ha⟩,by omega⟩,a⟩⟩
abbrev enJ (sg:List Sg) (n:Nat) (x y:Gs) (k:Int) (N:Nat):Prop:=enI sg n x y k N∧(y.bad=false→y.deep≤20)
theorem b7a{s:ST}{x:Gs}{n:Nat}{z:Int×Gs}(h1:rOk s x)(h2:x.bad=false→x.deep≤20)(hz:Ah s.sg x (pE s.sg n .base) z):enJ s.sg n x z.2 z.1 (s.sg.length+1):=⟨b6B h1.2 hz,Qn hz h2⟩
theorem b7b{sg:List Sg}{n:Nat}{x y:Gs}{k:Int}{N:Nat}{w:Int×Gs}(h:enJ sg n x y k N)(hw:Ah sg y (Dg sg (pE sg n .value) k) w)(hq:isG sg y 4 [40]=true):enJ sg n x w.2 w.1 (N-1)∧N-1<N:=by
 obtain⟨a,b⟩:=Og (b6D h.1 hq hw)
 exact⟨⟨a,Qn hw h.2⟩,b⟩
theorem b7c{s:ST}{x:Gs}{n:Nat}(h1:rOk s x)(h2:x.bad=false→x.deep≤20)(h3:12*((s.sg.length:Int)-x.pos)+2≤(n+1:Nat)):wP 1 n s x:=⟨⟨h1,h2⟩,by omega⟩
attribute [local irreducible] pE Bw Dg fnR Ah BG gsOk As CP An Dp EA Au Ed Eo AW CQ pkG isG nmG
end Go.My
end
section
namespace Go.My
open Go.Eng Go.Proofs
variable {G:GInv}
def b7d(sg:List Sg)(n l:Nat)(m:List UInt8)(x y:Gs)(ks:List Int)(N M:Nat):Prop:=(chN sg n l m x y ks N∧N≤M)∧(y.bad=false→y.deep≤20)
theorem b7e{s:ST}{x:Gs}{n:Nat}{l:Int}{z:Int×Gs}(hl:l=6)(h:Ah s.sg x (pE s.sg n .fin) z):Ah s.sg x (pE s.sg (n+1) (.chain l.toNat)) z:=by subst hl;exact b6w h
theorem ch_ks{s:ST}{n l:Nat}{x y:Gs}{m:List UInt8}{ks:List Int}{N M:Nat}(hs:sgB s.sg)(h:b7d s.sg n l m x y ks N M):ks.length≤3001:=by
 have:=h.1.1.2.2.1;have:=h.1.1.1.1.1.2;have:=hs.1;omega
abbrev pkX (x:Gs):Gs:=gDp (if x.deep=20 then Bt x else x) 1
theorem a4Q{s:ST}{x:Gs}{n:Nat}(h1:rOk s x)(h2:x.deep≤20)(h3:12*((s.sg.length:Int)-x.pos)+10≤(n+1:Nat)):wP (9-(0:Int).toNat) n s (pkX x)∧rOk s (pkX x):=by
 obtain⟨p1,p2,p3⟩:= @Qk x
 have hok:gsOk s.sg (pkX x):=by
  unfold pkX;split
  ·exact⟨h1.2.1,by simp only[gDp,Bt];have:=h1.2.2.1;omega,h1.2.2.2⟩
  ·exact⟨h1.2.1,by simp only[gDp];have:=h1.2.2.1;omega,h1.2.2.2⟩
 exact⟨⟨⟨⟨h1.1,hok⟩,fun hb=>by have:=p3 hb;simp only[pkX] at*;omega⟩,by simp only[pkX] at*;simp;omega⟩,h1.1,hok⟩
theorem a4R{s:ST}{x:Gs}{n:Nat}{z:Int×Gs}(h1:rOk s x)(h2:x.deep≤20)(h3:12*((s.sg.length:Int)-x.pos)+10≤(n+1:Nat))(hz:Ah s.sg (pkX x) (pE s.sg n (.chain 0)) z)(hq:isG s.sg z.2 4 [63]=true):vP 10 n s (Au s.sg z.2 [63]):=by
 rw[EE hq]
 have hl:=Dn hq (by omega)
 have e:=CX hz
 obtain⟨p1,p2,p3⟩:= @Qk x
 have e1:(Aq z.2).pos=z.2.pos+1:=rfl
 have e2:(Aq z.2).deep=z.2.deep:=rfl
 have e3:=p3 (e.2.2.2 hl.1).1
 simp only[pkX] at*
 exact⟨⟨⟨h1.1,GB (Gc hz) hl.2⟩,by omega⟩,by omega⟩
theorem b7f{s:ST}{x:Gs}{n:Nat}{z a:Int×Gs}(h1:rOk s x)(h2:x.deep≤20)(h3:12*((s.sg.length:Int)-x.pos)+10≤(n+1:Nat))(hz:Ah s.sg (pkX x) (pE s.sg n (.chain 0)) z)(hq:isG s.sg z.2 4 [63]=true)
 (ha:Ah s.sg (Au s.sg z.2 [63]) (pE s.sg n .pick) a):vP 10 n s (As s.sg a.2 [58]):=by
 have hv:=a4R h1 h2 h3 hz hq
 have e:=CX ha
 have t:=HO (m:=[58]) (Gc ha)
 have:=hv.2;have:=hv.1.2
 exact⟨⟨⟨h1.1,t.1⟩,by omega⟩,by omega⟩
theorem b7g{s:ST}{x:Gs}{n:Nat}{z a b:Int×Gs}(h1:rOk s x)(h2:x.deep≤20)(hz:Ah s.sg (pkX x) (pE s.sg n (.chain 0)) z)(hq:isG s.sg z.2 4 [63]=true)
 (ha:Ah s.sg (Au s.sg z.2 [63]) (pE s.sg n .pick) a) (hb:Ah s.sg (As s.sg a.2 [58]) (pE s.sg n .pick) b):
 Ah s.sg x (pE s.sg (n+1) .pick) (AW b.2,gDp (An b.2 ⟨8,[],[z.1,a.1,b.1],false⟩) (-1)):=by
 rw[EE hq] at ha
 exact b6m h1.2 h2 hz hq ha hb
theorem b7h{s:ST}{x:Gs}{n:Nat}{z:Int×Gs}(h1:rOk s x)(h2:x.deep≤20)(hz:Ah s.sg (pkX x) (pE s.sg n (.chain 0)) z)(hq:isG s.sg z.2 4 [63]=false):Ah s.sg x (pE s.sg (n+1) .pick) (z.1,gDp (Au s.sg z.2 [63]) (-1)):=by
 rw[DJ hq];exact b6l h1.2 h2 hz hq
theorem b7i{s:ST}{x:Gs}{n:Nat}{z:Int×Gs}(h1:rOk s x)(hz:Ah s.sg (pkX x) (pE s.sg n (.chain 0)) z)(hq:isG s.sg z.2 4 [63]=false):0≤(Au s.sg z.2 [63]).deep∧(Au s.sg z.2 [63]).deep≤21:=by
 rw[DJ hq];exact(Gc hz).2.1
theorem Xt{g:Gs}{x:Nd}:(An g x).deep=g.deep:=JT.1
theorem b7j{α:Type}{sg:List Sg}{x:Gs}{f:Ps→Option (α×Ps)}{y:α×Gs}(h:Ah sg x f y):0≤y.2.deep∧y.2.deep≤21:=(Gc h).2.1
theorem b7k{s:ST}{x:Gs}{n:Nat}(h1:rOk s x)(h2:x.deep≤20)(h3:12*((s.sg.length:Int)-x.pos)+11≤(n+1:Nat)):vP 10 n s x:=⟨⟨h1,h2⟩,by omega⟩
def vaJ(sg:List Sg)(n:Nat)(x y:Gs)(ks:List Int)(N:Nat):Prop:=KQ sg n x y ks N∧y.deep≤20
theorem a4S{sg:List Sg}{n:Nat}{x y:Gs}{ks:List Int}{N:Nat}(h:KQ sg n x y ks N∧y.deep≤20):vaJ sg n x y ks N:=h
theorem b7l{s:ST}{x:Gs}{n:Nat}{z:Int×Gs}(h1:rOk s x)(hz:Ah s.sg x (pE s.sg n .pick) z)(hq:isG s.sg z.2 4 [46,46]=false):Ah s.sg x (pE s.sg (n+1) .value) z:=b6n h1.2 hz hq
theorem b7m{s:ST}{x:Gs}{n:Nat}{z:Int×Gs}(h1:rOk s x)(h2:x.deep≤20)(hz:Ah s.sg x (pE s.sg n .pick) z)(hq:isG s.sg z.2 4 [46,46]=true):vaJ s.sg n x z.2 [z.1] (s.sg.length+1):=a4S ⟨b6o h1.2 hz hq,by have:=(CX hz).1;omega⟩
theorem Xu{s:ST}{x y:Gs}{n:Nat}{ks:List Int}{N:Nat}(h1:rOk s x)(h:vaJ s.sg n x y ks N):rOk s y:=⟨h1.1,h.1.1.1⟩
theorem b7n{s:ST}{x y:Gs}{n:Nat}{ks:List Int}{N:Nat}(hs:sgB s.sg)(h:vaJ s.sg n x y ks N):ks.length≤3001:=by
 have:=h.1.2.2.1;have:=h.1.1.1.1.2;have:=hs.1;omega
theorem b7o{s:ST}{x y:Gs}{n N:Nat}{ks:List Int}(h1:rOk s x)(h:vaJ s.sg n x y ks N)(hq:isG s.sg y 4 [46,46]=false):Ah s.sg x (pE s.sg (n+1) .value) (AW (Au s.sg y [46,46]),An (Au s.sg y [46,46]) ⟨10,[],ks,false⟩):=by
 rw[DJ hq];exact b6p h.1 hq h1.1
theorem b7p{s:ST}{x y:Gs}{n N:Nat}{ks:List Int}(h1:rOk s x)(h:vaJ s.sg n x y ks N)(hq:isG s.sg y 4 [46,46]=false):rOk s (Au s.sg y [46,46]):=by
 rw[DJ hq];exact Xu h1 h
attribute [local irreducible] pE Bw Dg fnR Ah BG gsOk As CP An Dp EA Au Ed Eo AW CQ pkG isG nmG
end Go.My
end
section
namespace Go.My
open Go.Eng
theorem EX{k:Int}{t:List UInt8}{ks:List Int}{b:Bool}(ht:t.length≤3000)(hk:ks.length≤4000):Dl ⟨k,t,ks,b⟩:=⟨ht,hk⟩
theorem KT{α:Type}{sg:List Sg}{x:Gs}{f g:Ps→Option (α×Ps)}{y:α×Gs}(h:Ah sg x g y)(e:∀s,pur x=some s→f s=g s):Ah sg x f y:=by
 have e2:(pur x).bind f=(pur x).bind g:=by
  cases hp:pur x with
  |none=>rfl
  |some s=>exact e s hp
 obtain⟨⟨a1,a2,a3,a4,a5⟩,b⟩:=h
 exact⟨⟨a1,a2,a3,by rw[e2];exact a4,by rw[e2];exact a5⟩,b⟩
theorem Mx{α:Type}{sg:List Sg}{x:Gs}{k:Int}{m:List UInt8}{f g:Ps→Option (α×Ps)}{y:α×Gs}(hx:gsOk sg x)(hk:k≠0)(hm:isG sg x k m=true)(h:BG sg (Aq x) g y)
 (e:∀s,pur x=some s→isT sg s k m=true→f s=g (adv s)):Ah sg x f y:=by
 have k1:=Hl (g':=g) (Ds (f:=f) hx) hk hm e
 have k2:=BU (k:=fun a s=>some (a,s)) k1 h (fun s _=>by cases g s<;>rfl)
 refine⟨Hk k2,fun _=> ?_⟩
 have:=h.2.2.1
 simp only[Aq] at this;omega
theorem Mz{sg:List Sg}{x y:Gs}{f:Ps→PR}{w:Nd}{m:List UInt8}(h:restP sg x f y (Bs sg m w) 0)(hw:Dl w):Ah sg x f (CQ sg y m,CP sg y m w):=by
 refine⟨SU h hw,fun hb=> ?_⟩
 have:=(NW (m:=m) h.1 hw).2 hb
 have:=h.2.2.1
 simp only at*;omega
theorem SX{sg:List Sg}{x y:Gs}{f:Ps→PR}{w:Nd}(h:restP sg x f y (Bd w) 0)(hw:Dl w)(hp:y.bad=false→x.pos<y.pos):Ah sg x f (AW y,An y w):=by
 obtain⟨d1,d2,d3⟩:= @JT y w
 exact⟨SS h hw,fun hb=>by simp only[d2];exact hp (d3 hb)⟩
theorem a4T{sg:List Sg}{x:Gs}{b:Bool}(h:gsOk sg x):restP sg x (DA sg b) (CU sg x) (fun s=>if isM sg s [61] then(Cm sg (adv s)).bind fun q=>Bs sg [59] ⟨12,Dh sg x,[q.1],b⟩ q.2 else Bs sg [59] ⟨12,Dh sg x,[],b⟩ s) 0:=
 BU (k:=fun t s=>if isM sg s [61] then(Cm sg (adv s)).bind fun q=>Bs sg [59] ⟨12,t,[q.1],b⟩ q.2 else Bs sg [59] ⟨12,t,[],b⟩ s) (Ds h) (NX h).1 (fun _ _=>rfl)
theorem JU{sg:List Sg}{x:Gs}(hs:sgB sg):(Dh sg x).length≤3000:=by
 unfold Dh;split
 ·exact PW hs
 ·simp
theorem b7q{sg:List Sg}{x:Gs}{b:Bool}(hs:sgB sg)(h:gsOk sg x)(hq:isG sg (CU sg x) 4 [61]=false):
 Ah sg x (DA sg b) (CQ sg (CU sg x) [59],CP sg (CU sg x) [59] ⟨12,Dh sg x,[],b⟩):=
 Mz (Ee (a4T h) (fun s hs=>by rw[if_neg (by simp [EW hs hq])])) (EX (JU hs) (by simp))
theorem b7r{sg:List Sg}{x:Gs}{b:Bool}{z:Int×Gs}(hs:sgB sg)(h:gsOk sg x)(hq:isG sg (CU sg x) 4 [61]=true)(hz:Ah sg (Aq (CU sg x)) (Cm sg) z):
 Ah sg x (DA sg b) (CQ sg z.2 [59],CP sg z.2 [59] ⟨12,Dh sg x,[z.1],b⟩):=by
 have k1:=Hl (g':=fun s=>(Cm sg s).bind fun q=>Bs sg [59] ⟨12,Dh sg x,[q.1],b⟩ q.2) (a4T h) (by omega) hq (fun s hs ht=>by rw[if_pos (show isM sg s [61]=true from ht)])
 have k2:=BU (k:=fun k s=>Bs sg [59] ⟨12,Dh sg x,[k],b⟩ s) k1 hz.1 (fun _ _=>rfl)
 exact Mz k2 (EX (JU hs) (by simp))
def Hm(sg:List Sg)(b:Bool)(s:Ps):PR:=if isM sg s [59] then Bs sg [59] ⟨15,[],[],b⟩ s else(Cm sg s).bind fun p=>Bs sg [59] ⟨15,[],[p.1],b⟩ p.2
theorem b7s{sg:List Sg}{x:Gs}{b:Bool}(h:gsOk sg x)(hq:isG sg x 4 [59]=true):Ah sg x (Hm sg b) (CQ sg x [59],CP sg x [59] ⟨15,[],[],b⟩):=
 Mz (Ee (Ds h) (fun s hs=>by rw[Hm,if_pos (JR hs hq)])) (EX (by simp) (by simp))
theorem b7t{sg:List Sg}{x:Gs}{b:Bool}{z:Int×Gs}(h:gsOk sg x)(hq:isG sg x 4 [59]=false)(hz:Ah sg x (Cm sg) z):Ah sg x (Hm sg b) (CQ sg z.2 [59],CP sg z.2 [59] ⟨15,[],[z.1],b⟩):=by
 have k1:=Ee (Ds (f:=Hm sg b) h) (g':=fun s=>(Cm sg s).bind fun p=>Bs sg [59] ⟨15,[],[p.1],b⟩ p.2) (fun s hs=>by rw[Hm,if_neg (by simp [EW hs hq])])
 have k2:=BU (k:=fun k s=>Bs sg [59] ⟨15,[],[k],b⟩ s) k1 hz.1 (fun _ _=>rfl)
 exact Mz k2 (EX (by simp) (by simp))
theorem b7u{sg:List Sg}{x:Gs}{z:Int×Gs}(h:gsOk sg x)(hz:Ah sg (As sg x [40]) (Cm sg) z):BG sg x (DI sg) (z.1,As sg z.2 [41]):=by
 have k1:=HN (g':=fun s1=>(Cm sg s1).bind fun p=>(BF sg [41] p.2).map fun s2=>(p.1,s2)) (Ds (f:=DI sg) h) (fun _ _=>rfl)
 have k2:=BU (k:=fun k s=>(BF sg [41] s).map fun s2=>(k,s2)) k1 hz.1 (fun _ _=>rfl)
 have k3:=HN (g':=fun s=>some (z.1,s)) k2 (fun s _=>by cases BF sg [41] s<;>rfl)
 exact Hk k3
theorem b7v{sg:List Sg}{one:Bool→Ps→PR}{m:List UInt8}{N:Nat}{ks:List Int}{s:Ps}(h:isM sg s m=true):CO sg one m (N+1) ks s=some (ks,s):=by rw[CO,if_pos h]
theorem b7w{sg:List Sg}{one:Bool→Ps→PR}{m:List UInt8}{N:Nat}{ks:List Int}{s:Ps}(h:isM sg s m=false):CO sg one m (N+1) ks s=(one ((sgO sg s.pos).blank&&decide (0<ks.length)) s).bind fun p=>CO sg one m N (ks++[p.1]) p.2:=by rw[CO,if_neg (by simp [h])]
def KU(sg:List Sg)(one:Bool→Ps→PR)(m:List UInt8)(x y:Gs)(ks:List Int)(N:Nat):Prop:=
 restP sg x (CO sg one m (sg.length+1) []) y (CO sg one m N ks) 0∧(y.bad=false→(sg.length:Int)-y.pos<N)∧(ks.length:Int)≤y.pos+1∧(y.bad=false→(ks.length:Int)≤y.pos)
theorem a4U{sg:List Sg}{one:Bool→Ps→PR}{m:List UInt8}{x:Gs}(h:gsOk sg x):KU sg one m x x [] (sg.length+1):=by
 have:=h.1
 exact⟨Ds h,fun _=>by omega,by simp;omega,fun _=>by simp;omega⟩
theorem a4V{sg:List Sg}{one:Bool→Ps→PR}{m:List UInt8}{x y:Gs}{ks:List Int}{N:Nat}(h:KU sg one m x y ks N)(hb:y.bad=true):BG sg x (CO sg one m (sg.length+1) []) (ks,y):=Qj h.1 hb
theorem a4W{sg:List Sg}{one:Bool→Ps→PR}{m:List UInt8}{x y:Gs}{ks:List Int}{N:Nat}(h:KU sg one m x y ks N)(hb:y.bad=false):∃M,N=M+1:=by
 have h1:=h.1.1.1;have h2:=h.2.1 hb
 match N with
 |0=>omega
 |M+1=>exact⟨M,rfl⟩
theorem a4X{sg:List Sg}{one:Bool→Ps→PR}{m:List UInt8}{x y:Gs}{ks:List Int}{N:Nat}(h:KU sg one m x y ks N)(hq:isG sg y 4 m=true):BG sg x (CO sg one m (sg.length+1) []) (ks,y):=by
 obtain⟨M,rfl⟩:=a4W h (Dn hq (by omega)).1
 exact Hk (Ee h.1 (g':=fun s=>some (ks,s)) (fun s hs=>b7v (JR hs hq)))
theorem a4Y{sg:List Sg}{one:Bool→Ps→PR}{m:List UInt8}{x y:Gs}{ks:List Int}{N:Nat}{z:Int×Gs}(h:KU sg one m x y ks N)(hb:y.bad=false)(hq:isG sg y 4 m=false)
 (hz:Ah sg y (one ((pkG sg y 0).blank&&decide (0<ks.length))) z):∃M,N=M+1∧KU sg one m x z.2 (ks++[z.1]) M:=by
 obtain⟨M,rfl⟩:=a4W h hb
 obtain⟨h1,h2,h3,h4⟩:=h
 have k1:=Ee h1 (g':=fun s=>(one ((pkG sg y 0).blank&&decide (0<ks.length)) s).bind fun p=>CO sg one m M (ks++[p.1]) p.2) (fun s hs=>by
  rw[b7w (EW hs hq)]
  obtain⟨_,rfl⟩:=EU.1 hs
  rw[JL hb];simp)
 have k2:=BU (k:=fun k s=>CO sg one m M (ks++[k]) s) k1 hz.1 (fun _ _=>rfl)
 have e:=CX hz
 have:=h2 hb;have:=h4 hb
 exact⟨M,rfl,k2,fun hw=>by have:=e.2.2.2 hw;omega,by simp;omega,fun hw=>by have:=e.2.2.2 hw;simp;omega⟩
theorem b7x{sg:List Sg}{one:Bool→Ps→PR}{x:Gs}(h:gsOk sg x)(hd:x.deep≤20):restP sg x (BM sg one) (As sg (gDp (if x.deep=20 then Bt x else x) 1) [123])
 (fun s1=>(CO sg one [125] (sg.length+1) [] s1).bind fun p=>(Bs sg [125] ⟨18,[],p.1,false⟩ p.2).map fun q=>(q.1,dp q.2 (-1))) 1:=by
 have k0:restP sg x (BM sg one) (gDp (if x.deep=20 then Bt x else x) 1) (fun s=>(BF sg [123] s).bind fun s1=>(CO sg one [125] (sg.length+1) [] s1).bind fun p=>(Bs sg [125] ⟨18,[],p.1,false⟩ p.2).map fun q=>(q.1,dp q.2 (-1))) 1:=by
  split
  ·rename_i h20
   have h2:=a4F (d:=0) (g':=BM sg one) (Ds (f:=BM sg one) h) (fun s hs=>by
    obtain⟨_,rfl⟩:=EU.1 hs
    rw[BM,if_pos (by simp only;omega)])
   refine Mw (d:=0) h2 ⟨by simp only[Bt];omega,by simp only[Bt];omega⟩ (fun s hs=> ?_)
   rw[JM] at hs;cases hs
  ·rename_i h20
   refine Mw (d:=0) (Ds h) ⟨by have:=h.2.1.1;omega,by omega⟩ (fun s hs=> ?_)
   obtain⟨_,rfl⟩:=EU.1 hs
   rw[BM,if_neg (by simp only;omega)]
 exact HN k0 (fun _ _=>rfl)
def ifR(sg:List Sg)(n:Nat)(b:Bool)(s:Ps):PR:=(DI sg s).bind fun p=>(BM sg (stR sg n) p.2).bind fun q=>
 if isW sg q.2 [101,108,115,101] then(BM sg (stR sg n) (adv q.2)).bind fun r=>Bd ⟨16,[],[p.1,q.1,r.1],b⟩ r.2 else Bd ⟨16,[],[p.1,q.1],b⟩ q.2
theorem a4Z{sg:List Sg}{n:Nat}{b:Bool}{x:Gs}{c q:Int×Gs}(h:gsOk sg x)(hc:BG sg x (DI sg) c)(hq:Ah sg c.2 (BM sg (stR sg n)) q):
 restP sg x (ifR sg n b) q.2 (fun s=>if isW sg s [101,108,115,101] then(BM sg (stR sg n) (adv s)).bind fun r=>Bd ⟨16,[],[c.1,q.1,r.1],b⟩ r.2 else Bd ⟨16,[],[c.1,q.1],b⟩ s) 0:=by
 have k1:=BU (k:=fun a s=>(BM sg (stR sg n) s).bind fun q=>if isW sg q.2 [101,108,115,101] then(BM sg (stR sg n) (adv q.2)).bind fun r=>Bd ⟨16,[],[a,q.1,r.1],b⟩ r.2 else Bd ⟨16,[],[a,q.1],b⟩ q.2) (Ds (f:=ifR sg n b) h) hc (fun _ _=>rfl)
 exact BU (k:=fun k s=>if isW sg s [101,108,115,101] then(BM sg (stR sg n) (adv s)).bind fun r=>Bd ⟨16,[],[c.1,k,r.1],b⟩ r.2 else Bd ⟨16,[],[c.1,k],b⟩ s) k1 hq.1 (fun _ _=>rfl)
theorem b7y{sg:List Sg}{n:Nat}{b:Bool}{x:Gs}{c q:Int×Gs}(h:gsOk sg x)(hc:BG sg x (DI sg) c)(hq:Ah sg c.2 (BM sg (stR sg n)) q)(he:isG sg q.2 1 [101,108,115,101]=false):
 Ah sg x (ifR sg n b) (AW q.2,An q.2 ⟨16,[],[c.1,q.1],b⟩):=by
 have k:=Ee (a4Z (b:=b) h hc hq) (g':=Bd ⟨16,[],[c.1,q.1],b⟩) (fun s hs=>by rw[if_neg (by simp [EC hs he])])
 refine SX k (EX (by simp) (by simp)) (fun hb=> ?_)
 have:=(CX hq).2.2.2 hb;have:=hc.2.2.1;omega
theorem b7z{sg:List Sg}{n:Nat}{b:Bool}{x:Gs}{c q r:Int×Gs}(h:gsOk sg x)(hc:BG sg x (DI sg) c)(hq:Ah sg c.2 (BM sg (stR sg n)) q)(he:isG sg q.2 1 [101,108,115,101]=true)
 (hr:Ah sg (Aq q.2) (BM sg (stR sg n)) r):Ah sg x (ifR sg n b) (AW r.2,An r.2 ⟨16,[],[c.1,q.1,r.1],b⟩):=by
 have k:=Hl (a4Z (b:=b) h hc hq) (g':=fun s=>(BM sg (stR sg n) s).bind fun r=>Bd ⟨16,[],[c.1,q.1,r.1],b⟩ r.2) (by omega) he (fun s hs ht=>by rw[if_pos (show isW sg s [101,108,115,101]=true from ht)])
 have k2:=BU (k:=fun k s=>Bd ⟨16,[],[c.1,q.1,k],b⟩ s) k hr.1 (fun _ _=>rfl)
 refine SX k2 (EX (by simp) (by simp)) (fun hb=> ?_)
 have:=(CX hr).2.2.2 hb;have:=hc.2.2.1;have:=(CX hq).2.1
 simp only[Aq] at*;omega
def whR(sg:List Sg)(n:Nat)(b:Bool)(s:Ps):PR:=(DI sg s).bind fun p=>(BM sg (stR sg n) p.2).bind fun q=>Bd ⟨17,[],[p.1,q.1],b⟩ q.2
theorem b7A{sg:List Sg}{n:Nat}{b:Bool}{x:Gs}{c q:Int×Gs}(h:gsOk sg x)(hc:BG sg x (DI sg) c)(hq:Ah sg c.2 (BM sg (stR sg n)) q):
 Ah sg x (whR sg n b) (AW q.2,An q.2 ⟨17,[],[c.1,q.1],b⟩):=by
 have k1:=BU (k:=fun a s=>(BM sg (stR sg n) s).bind fun q=>Bd ⟨17,[],[a,q.1],b⟩ q.2) (Ds (f:=whR sg n b) h) hc (fun _ _=>rfl)
 have k2:=BU (k:=fun k s=>Bd ⟨17,[],[c.1,k],b⟩ s) k1 hq.1 (fun _ _=>rfl)
 refine SX k2 (EX (by simp) (by simp)) (fun hb=> ?_)
 have:=(CX hq).2.2.2 hb;have:=hc.2.2.1;omega
def setR(sg:List Sg)(b:Bool)(s:Ps):PR:=(Ga sg s).bind fun p=>(BF sg [61] p.2).bind fun s1=>(Cm sg s1).bind fun q=>Bs sg [59] ⟨13,p.1,[q.1],b⟩ q.2
theorem b7B{sg:List Sg}{b:Bool}{x:Gs}{z:Int×Gs}(hs:sgB sg)(h:gsOk sg x)(hz:Ah sg (As sg (CU sg x) [61]) (Cm sg) z):
 Ah sg x (setR sg b) (CQ sg z.2 [59],CP sg z.2 [59] ⟨13,Dh sg x,[z.1],b⟩):=by
 have k1:=BU (k:=fun t s=>(BF sg [61] s).bind fun s1=>(Cm sg s1).bind fun q=>Bs sg [59] ⟨13,t,[q.1],b⟩ q.2) (Ds (f:=setR sg b) h) (NX h).1 (fun _ _=>rfl)
 have k2:=HN (g':=fun s1=>(Cm sg s1).bind fun q=>Bs sg [59] ⟨13,Dh sg x,[q.1],b⟩ q.2) k1 (fun _ _=>rfl)
 have k3:=BU (k:=fun k s=>Bs sg [59] ⟨13,Dh sg x,[k],b⟩ s) k2 hz.1 (fun _ _=>rfl)
 exact Mz k3 (EX (JU hs) (by simp))
def doR(sg:List Sg)(b:Bool)(s:Ps):PR:=(Cm sg s).bind fun p=>Bs sg [59] ⟨14,[],[p.1],b⟩ p.2
theorem b7C{sg:List Sg}{b:Bool}{x:Gs}{z:Int×Gs}(h:gsOk sg x)(hz:Ah sg x (Cm sg) z):Ah sg x (doR sg b) (CQ sg z.2 [59],CP sg z.2 [59] ⟨14,[],[z.1],b⟩):=by
 have k3:=BU (k:=fun k s=>Bs sg [59] ⟨14,[],[k],b⟩ s) (Ds (f:=doR sg b) h) hz.1 (fun _ _=>rfl)
 exact Mz k3 (EX (by simp) (by simp))
theorem JV{sg:List Sg}{n:Nat}{b:Bool}{s:Ps}:stR sg (n+1) b s=
 if(sgO sg s.pos).kind=5 then FH sg 19 b s
 else if isW sg s [118,97,114] then DA sg b (adv s)
 else if isW sg s [114,101,116,117,114,110] then Hm sg b (adv s)
 else if isW sg s [105,102] then ifR sg n b (adv s)
 else if isW sg s [119,104,105,108,101] then whR sg n b (adv s)
 else if DH sg s.pos&&isM sg (adv s) [61] then(Cm sg (adv (adv s))).bind fun p=>Bs sg [59] ⟨13,(sgO sg s.pos).text,[p.1],b⟩ p.2
 else doR sg b s:=rfl
theorem set_eq{sg:List Sg}{b:Bool}{s:Ps}(h:(DH sg s.pos&&isM sg (adv s) [61])=true):(Cm sg (adv (adv s))).bind (fun p=>Bs sg [59] ⟨13,(sgO sg s.pos).text,[p.1],b⟩ p.2)=setR sg b s:=by
 simp only[Bool.and_eq_true] at h
 rw[setR,Ga,if_pos h.1]
 simp only[Option.bind_some]
 rw[BF,if_pos h.2];rfl
theorem GF{sg:List Sg}{x:Gs}{s:Ps}(hs:pur x=some s):(sgO sg s.pos).kind=(pkG sg x 0).kind:=(SV hs).symm
theorem b7D{sg:List Sg}{x:Gs}{n:Nat}{b:Bool}(hs:sgB sg)(h:gsOk sg x)(hk:(pkG sg x 0).kind=5):Ah sg x (stR sg (n+1) b) (AW x,EA sg x 19 b):=
 KT (PX hs h (fun _=>(SW (by omega)).2)) (fun s hp=>by rw[JV,if_pos (by rw[GF hp];exact hk)])
theorem b7E{sg:List Sg}{x:Gs}{n:Nat}{b:Bool}{z:Int×Gs}(h:gsOk sg x)(hk:(pkG sg x 0).kind≠5)(hq:isG sg x 1 [118,97,114]=true)(hz:Ah sg (Aq x) (DA sg b) z):Ah sg x (stR sg (n+1) b) z:=
 Mx h (by omega) hq hz.1 (fun s hp ht=>by rw[JV,if_neg (by rw[GF hp];exact hk),if_pos (show isW sg s _=true from ht)])
theorem a5a{sg:List Sg}{x:Gs}{n:Nat}{b:Bool}{z:Int×Gs}(h:gsOk sg x)(hk:(pkG sg x 0).kind≠5)(h1:isG sg x 1 [118,97,114]=false)(hq:isG sg x 1 [114,101,116,117,114,110]=true)(hz:Ah sg (Aq x) (Hm sg b) z):Ah sg x (stR sg (n+1) b) z:=
 Mx h (by omega) hq hz.1 (fun s hp ht=>by rw[JV,if_neg (by rw[GF hp];exact hk),if_neg (by simp [EC hp h1]),if_pos (show isW sg s _=true from ht)])
theorem a5b{sg:List Sg}{x:Gs}{n:Nat}{b:Bool}{z:Int×Gs}(h:gsOk sg x)(hk:(pkG sg x 0).kind≠5)(h1:isG sg x 1 [118,97,114]=false)(h2:isG sg x 1 [114,101,116,117,114,110]=false)(hq:isG sg x 1 [105,102]=true)
 (hz:Ah sg (Aq x) (ifR sg n b) z):Ah sg x (stR sg (n+1) b) z:=
 Mx h (by omega) hq hz.1 (fun s hp ht=>by rw[JV,if_neg (by rw[GF hp];exact hk),if_neg (by simp [EC hp h1]),if_neg (by simp [EC hp h2]),if_pos (show isW sg s _=true from ht)])
theorem b7F{sg:List Sg}{x:Gs}{n:Nat}{b:Bool}{z:Int×Gs}(h:gsOk sg x)(hk:(pkG sg x 0).kind≠5)(h1:isG sg x 1 [118,97,114]=false)(h2:isG sg x 1 [114,101,116,117,114,110]=false)(h3:isG sg x 1 [105,102]=false)(hq:isG sg x 1 [119,104,105,108,101]=true)
 (hz:Ah sg (Aq x) (whR sg n b) z):Ah sg x (stR sg (n+1) b) z:=
 Mx h (by omega) hq hz.1 (fun s hp ht=>by rw[JV,if_neg (by rw[GF hp];exact hk),if_neg (by simp [EC hp h1]),if_neg (by simp [EC hp h2]),if_neg (by simp [EC hp h3]),if_pos (show isW sg s _=true from ht)])
def seG(sg:List Sg)(x:Gs):Bool:=nmG sg x 0&&(decide ((pkG sg x 1).kind=4)&&((pkG sg x 1).text==[61]))
theorem Xv{sg:List Sg}{x:Gs}{s:Ps}(hs:pur x=some s):(DH sg s.pos&&isM sg (adv s) [61])=seG sg x:=by
 obtain⟨hb,rfl⟩:=EU.1 hs
 have:=Ml (sg:=sg) (n:=0) (Dm hb)
 simp only[Int.add_zero] at this
 rw[seG,this,JL hb];rfl
theorem b7G{sg:List Sg}{x:Gs}{n:Nat}{b:Bool}{z:Int×Gs}(h:gsOk sg x)(hk:(pkG sg x 0).kind≠5)(h1:isG sg x 1 [118,97,114]=false)(h2:isG sg x 1 [114,101,116,117,114,110]=false)(h3:isG sg x 1 [105,102]=false)(h4:isG sg x 1 [119,104,105,108,101]=false)
 (hq:seG sg x=true) (hz:Ah sg x (setR sg b) z):Ah sg x (stR sg (n+1) b) z:=
 KT hz (fun s hp=>by rw[JV,if_neg (by rw[GF hp];exact hk),if_neg (by simp [EC hp h1]),if_neg (by simp [EC hp h2]),if_neg (by simp [EC hp h3]),if_neg (by simp [EC hp h4]),if_pos (by rw[Xv hp];exact hq),set_eq (by rw[Xv hp];exact hq)])
theorem b7H{sg:List Sg}{x:Gs}{n:Nat}{b:Bool}{z:Int×Gs}(h:gsOk sg x)(hk:(pkG sg x 0).kind≠5)(h1:isG sg x 1 [118,97,114]=false)(h2:isG sg x 1 [114,101,116,117,114,110]=false)(h3:isG sg x 1 [105,102]=false)(h4:isG sg x 1 [119,104,105,108,101]=false)
 (hq:seG sg x=false) (hz:Ah sg x (doR sg b) z):Ah sg x (stR sg (n+1) b) z:=
 KT hz (fun s hp=>by rw[JV,if_neg (by rw[GF hp];exact hk),if_neg (by simp [EC hp h1]),if_neg (by simp [EC hp h2]),if_neg (by simp [EC hp h3]),if_neg (by simp [EC hp h4]),if_neg (by rw[Xv hp];simp [hq])])
theorem b7I{sg:List Sg}{x:Gs}{b:Bool}{l:List Int×Gs}{q:Int×Gs}(hs:sgB sg)(h:gsOk sg x)(hl:BG sg (As sg (CU sg x) [40]) (Bw sg (BS sg) [41] (sg.length+1) []) l)(hll:l.1.length≤3001)
 (hq:Ah sg (As sg l.2 [41]) (FJ sg) q):Ah sg x (Gy sg b) (AW q.2,An q.2 ⟨20,Dh sg x,l.1++[q.1],b⟩):=by
 have k1:=BU (k:=fun t s=>(BF sg [40] s).bind fun s1=>(Bw sg (BS sg) [41] (sg.length+1) [] s1).bind fun q=>(BF sg [41] q.2).bind fun s2=>(FJ sg s2).bind fun r=>Bd ⟨20,t,q.1++[r.1],b⟩ r.2) (Ds (f:=Gy sg b) h) (NX h).1 (fun _ _=>rfl)
 have k2:=HN (g':=fun s1=>(Bw sg (BS sg) [41] (sg.length+1) [] s1).bind fun q=>(BF sg [41] q.2).bind fun s2=>(FJ sg s2).bind fun r=>Bd ⟨20,Dh sg x,q.1++[r.1],b⟩ r.2) k1 (fun _ _=>rfl)
 have k3:=BU (k:=fun ks s=>(BF sg [41] s).bind fun s2=>(FJ sg s2).bind fun r=>Bd ⟨20,Dh sg x,ks++[r.1],b⟩ r.2) k2 hl (fun _ _=>rfl)
 have k4:=HN (g':=fun s2=>(FJ sg s2).bind fun r=>Bd ⟨20,Dh sg x,l.1++[r.1],b⟩ r.2) k3 (fun _ _=>rfl)
 have k5:=BU (k:=fun k s=>Bd ⟨20,Dh sg x,l.1++[k],b⟩ s) k4 hq.1 (fun _ _=>rfl)
 refine SX k5 (EX (JU hs) (by simp;omega)) (fun hb=> ?_)
 have:=(CX hq).2.2.2 hb;have:=k4.2.2.1;omega
theorem b7J{sg:List Sg}{x:Gs}{b:Bool}{l:List Int×Gs}(hs:sgB sg)(h:gsOk sg x)(hl:BG sg (As sg (CU sg x) [123]) (CO sg (Dk sg) [125] (sg.length+1) []) l)(hll:l.1.length≤3001):
 Ah sg x (Hd sg b) (CQ sg l.2 [125],CP sg l.2 [125] ⟨21,Dh sg x,l.1,b⟩):=by
 have k1:=BU (k:=fun t s=>(BF sg [123] s).bind fun s1=>(CO sg (Dk sg) [125] (sg.length+1) [] s1).bind fun q=>Bs sg [125] ⟨21,t,q.1,b⟩ q.2) (Ds (f:=Hd sg b) h) (NX h).1 (fun _ _=>rfl)
 have k2:=HN (g':=fun s1=>(CO sg (Dk sg) [125] (sg.length+1) [] s1).bind fun q=>Bs sg [125] ⟨21,Dh sg x,q.1,b⟩ q.2) k1 (fun _ _=>rfl)
 have k3:=BU (k:=fun ks s=>Bs sg [125] ⟨21,Dh sg x,ks,b⟩ s) k2 hl (fun _ _=>rfl)
 exact Mz k3 (EX (JU hs) (by omega))
theorem b7K{sg:List Sg}{x:Gs}{b:Bool}(hs:sgB sg)(h:gsOk sg x)(hk:(pkG sg x 0).kind=5):Ah sg x (Dk sg b) (AW x,EA sg x 19 b):=
 KT (PX hs h (fun _=>(SW (by omega)).2)) (fun s hp=>by rw[Dk,if_pos (by rw[GF hp];exact hk)])
theorem b7L{sg:List Sg}{x:Gs}{b:Bool}{z:Int×Gs}(h:gsOk sg x)(hk:(pkG sg x 0).kind≠5)(hq:isG sg x 1 [118,97,114]=true)(hz:Ah sg (Aq x) (DA sg b) z):Ah sg x (Dk sg b) z:=
 Mx h (by omega) hq hz.1 (fun s hp ht=>by rw[Dk,if_neg (by rw[GF hp];exact hk),if_pos (show isW sg s _=true from ht)])
theorem b7M{sg:List Sg}{x:Gs}{b:Bool}{z:Int×Gs}(h:gsOk sg x)(hk:(pkG sg x 0).kind≠5)(hq:isG sg x 1 [118,97,114]=false)(hz:Ah sg x (Gy sg b) z):Ah sg x (Dk sg b) z:=
 KT hz (fun s hp=>by rw[Dk,if_neg (by rw[GF hp];exact hk),if_neg (by simp [EC hp hq])])
theorem b7N{sg:List Sg}{x:Gs}{b:Bool}(hs:sgB sg)(h:gsOk sg x)(hk:(pkG sg x 0).kind=5):Ah sg x (Dw sg b) (AW x,EA sg x 19 b):=
 KT (PX hs h (fun _=>(SW (by omega)).2)) (fun s hp=>by rw[Dw,if_pos (by rw[GF hp];exact hk)])
theorem b7O{sg:List Sg}{x:Gs}{b:Bool}{z:Int×Gs}(h:gsOk sg x)(hk:(pkG sg x 0).kind≠5)(hq:isG sg x 1 [118,97,114]=true)(hz:Ah sg (Aq x) (DA sg b) z):Ah sg x (Dw sg b) z:=
 Mx h (by omega) hq hz.1 (fun s hp ht=>by rw[Dw,if_neg (by rw[GF hp];exact hk),if_pos (show isW sg s _=true from ht)])
theorem b7P{sg:List Sg}{x:Gs}{b:Bool}{z:Int×Gs}(h:gsOk sg x)(hk:(pkG sg x 0).kind≠5)(h1:isG sg x 1 [118,97,114]=false)(hq:isG sg x 1 [99,108,97,115,115]=true)(hz:Ah sg (Aq x) (Hd sg b) z):Ah sg x (Dw sg b) z:=
 Mx h (by omega) hq hz.1 (fun s hp ht=>by rw[Dw,if_neg (by rw[GF hp];exact hk),if_neg (by simp [EC hp h1]),if_pos (show isW sg s _=true from ht)])
theorem b7Q{sg:List Sg}{x:Gs}{b:Bool}{z:Int×Gs}(h:gsOk sg x)(hk:(pkG sg x 0).kind≠5)(h1:isG sg x 1 [118,97,114]=false)(hq:isG sg x 1 [99,108,97,115,115]=false)(hz:Ah sg x (Gy sg b) z):Ah sg x (Dw sg b) z:=
 KT hz (fun s hp=>by rw[Dw,if_neg (by rw[GF hp];exact hk),if_neg (by simp [EC hp h1]),if_neg (by simp [EC hp hq])])
def FM(sg:List Sg)(y:Gs)(ks:List Int)(ms:List (Int×Int))(N:Nat):Prop:=
 gsOk sg y∧y.deep=0∧(pur y).bind (JI sg N ks ms)=JI sg (sg.length+1) [] [] ps0∧(y.bad=false→(sg.length:Int)-y.pos<N)∧(ks.length:Int)≤y.pos+1∧(y.bad=false→(ks.length:Int)≤y.pos)∧ms.length=ks.length
def gs0:Gs:=⟨0,0,false,[]⟩
theorem b7R{sg:List Sg}:gsOk sg gs0:=⟨by simp [gs0],by simp [gs0],by simp [gs0],by simp [gs0]⟩
theorem b7S{sg:List Sg}:FM sg gs0 [] [] (sg.length+1):=⟨b7R,rfl,rfl,fun _=>by simp only[gs0];omega,by simp [gs0],fun _=>by simp [gs0],rfl⟩
theorem b7T{sg:List Sg}{y:Gs}{ks:List Int}{ms:List (Int×Int)}{N:Nat}{z:Int×Gs}(h:FM sg y ks ms N)(hb:y.bad=false)(hl:y.pos<sg.length)(hz:Ah sg y (Dw sg ((pkG sg y 0).blank&&decide (0<ks.length))) z):
 ∃M,N=M+1∧FM sg z.2 (ks++[z.1]) (ms++[(y.pos,z.2.pos)]) M:=by
 obtain⟨h0,hd,h1,h2,h3,h4,h5⟩:=h
 have h2:=h2 hb;have h4:=h4 hb
 match N with
 |0=>omega
 |M+1=>
  have e:=CX hz
  obtain⟨⟨a1,a2,a3,a4,a5⟩,b⟩:=hz
  refine⟨M,rfl,a1,by omega,?_,fun hw=>by have:=e.2.2.2 hw;omega,by simp;omega,fun hw=>by have:=e.2.2.2 hw;simp;omega,by simp [h5]⟩
  rw[←h1,Dm hb,Option.bind_some,JI,if_pos hl]
  rw[Dm hb] at a4 a5
  have eb:(sgO sg y.pos).blank=(pkG sg y 0).blank:=by rw[JL hb];simp
  simp only[Option.bind_some] at a4 a5
  rw[eb,a4]
  cases hp:Dw sg ((pkG sg y 0).blank&&decide (0<ks.length)) ⟨y.pos,y.deep,y.nodes⟩ with
  |none=>rfl
  |some p=>
   simp only[Option.map_some,Option.bind_some]
   have:=a5 p hp
   have hpos:z.2.pos=p.2.pos:=by
    rw[hp] at a4
    simp only[Option.map_some] at a4
    obtain⟨_,e2⟩:=EU.1 a4
    rw[e2]
   rw[this,hpos]
def Ft(sg:List Sg)(y:Gs)(ks:List Int):Gs:=An y ⟨22,[],ks,false⟩
theorem b7U{sg:List Sg}{y:Gs}{ks:List Int}{ms:List (Int×Int)}{N:Nat}(h:FM sg y ks ms N)(hb:(Ft sg y ks).bad=true)(he:y.bad=true∨¬y.pos<sg.length):JJ sg=none:=by
 obtain⟨h0,hd,h1,h2,h3,h4,h5⟩:=h
 rw[JJ,←h1]
 cases hy:y.bad with
 |true=>rw[Ec hy];rfl
 |false=>
  have h2:=h2 hy
  have he:¬y.pos<sg.length:=by rcases he with he|he
                               ·rw[hy] at he;cases he
                               ·exact he
  match N with
  |0=>have:=h0.1;omega
  |N+1=>
   rw[Dm hy,Option.bind_some,JI,if_neg he,Option.bind_some]
   unfold Ft An at hb
   split at hb
   ·rename_i hf
    have h3:y.nodes.length=300:=by simpa [DN,hy] using hf
    rw[Bd,if_pos (by simp only;omega)];rfl
   ·simp only at hb;rw[hy] at hb;cases hb
theorem b7V{sg:List Sg}{y:Gs}{ks:List Int}{ms:List (Int×Int)}{N:Nat}(h:FM sg y ks ms N)(hb:(Ft sg y ks).bad=false)(he:y.bad=true∨¬y.pos<sg.length):
 JJ sg=if BB (Ft sg y ks).nodes then some (ms,(Ft sg y ks).nodes) else none:=by
 obtain⟨h0,hd,h1,h2,h3,h4,h5⟩:=h
 have hy:=(@JT y ⟨22,[],ks,false⟩).2.2 hb
 have h2:=h2 hy
 have he:¬y.pos<sg.length:=by rcases he with he|he
                              ·rw[hy] at he;cases he
                              ·exact he
 rw[JJ,←h1]
 match N with
 |0=>have:=h0.1;omega
 |N+1=>
  rw[Dm hy,Option.bind_some,JI,if_neg he,Option.bind_some]
  unfold Ft An at hb ⊢
  split at hb
  ·simp [Bt] at hb
  ·rename_i hf
   rw[if_neg hf]
   have hf2:=Sy (by simpa using hf)
   have:=h0.2.2.1
   rw[Bd,if_neg (by simp only;omega)]
   simp only[Option.bind_some]
end Go.My
end
section
namespace Go.My
open Go.Eng Go.Proofs
variable {G:GInv}
theorem MA{P:Program}{f:FuncId}{S:Sig}{fn:Func}{c:Code}(hfn:P.funcs[f]? =some fn)(hb:fn.body=some c)(hn:(fn.name== "runtime.NumGoroutine")=false)(hp:∀x,¬S.pre x):Al G P f S:=
 ⟨⟨⟨fn,hfn,hn,by simp [hb]⟩,fun x y hx _=>(hp x hx).elim⟩,fun x hx=>(hp x hx).elim⟩
theorem b7W{r:Nat}{s:ST}{g:Gs}(hr:1≤r)(h:wP r 0 s g):False:=by
 have h1:=h.1.1.2.1.2;have h2:=h.2;omega
theorem b7X{r:Nat}{s:ST}{g:Gs}(hr:1≤r)(h:vP r 0 s g):False:=by
 have h1:=h.1.1.2.1.2;have h2:=h.2;omega
theorem b7Y{s:ST}{g:Gs}(h:rOk s g∧g.deep≤20):vP 11 peN s g:=by
 have h1:=h.1.2.1;have h2:=h.1.1.1
 exact⟨h,by unfold peN;omega⟩
def okD(s:ST)(x:Gs):Prop:=rOk s x∧x.deep≤20
def okN(s:ST)(x:Gs):Prop:=okD s x∧x.bad=false∧x.pos<s.sg.length
theorem a5c{s:ST}{x:Gs}(h:okN s x):rOk s (Aq x)∧(Aq x).deep≤20:=⟨⟨h.1.1.1,GB h.1.1.2 h.2.2⟩,h.1.2⟩
theorem a5d{s:ST}{x:Gs}(h:rOk s x):rOk s (CU s.sg x):=⟨h.1,(NX h.2).1.1⟩
theorem b7Z{s:ST}{x:Gs}(h:rOk s x):(CU s.sg x).deep=x.deep∧x.pos≤(CU s.sg x).pos:=by
 have:=CX (NX h.2);exact⟨this.1,this.2.1⟩
theorem Hn{s:ST}{x:Gs}{m:List UInt8}(h:rOk s x):rOk s (As s.sg x m)∧(As s.sg x m).deep=x.deep:=⟨⟨h.1,(HO h.2).1⟩,(HO h.2).2.1⟩
theorem KV{a:Bool}{k:Int}(h:a=true):decide (k>0)=(a&&decide (0<k)):=by simp [h]
theorem KW{a:Bool}{k:Int}(h:a=false):false=(a&&decide (0<k)):=by simp [h]
theorem b8a{s:ST}{x:Gs}(h:rOk s x)(hd:x.deep≤20)(hq:isG s.sg (CU s.sg x) 4 [61]=true):rOk s (Au s.sg (CU s.sg x) [61])∧(Au s.sg (CU s.sg x) [61]).deep≤20:=by
 rw[EE hq]
 have a:=a5d h;have b:=b7Z h
 refine⟨⟨h.1,GB a.2 (Dn hq (by omega)).2⟩,?_⟩
 have e:(Aq (CU s.sg x)).deep=(CU s.sg x).deep:=rfl
 omega
theorem b8b{s:ST}{x:Gs}{b:Bool}{z:Int×Gs}(h:rOk s x)(hq:isG s.sg (CU s.sg x) 4 [61]=true)(hz:Ah s.sg (Au s.sg (CU s.sg x) [61]) (Cm s.sg) z):
 Ah s.sg x (DA s.sg b) (CQ s.sg z.2 [59],CP s.sg z.2 [59] ⟨12,Dh s.sg x,[z.1],b⟩):=by
 rw[EE hq] at hz;exact b7r h.1 h.2 hq hz
theorem b8c{s:ST}{x:Gs}(h:rOk s x)(hq:isG s.sg (CU s.sg x) 4 [61]=false):rOk s (Au s.sg (CU s.sg x) [61]):=by
 rw[DJ hq];exact a5d h
theorem b8d{s:ST}{x:Gs}{b:Bool}(h:rOk s x)(hq:isG s.sg (CU s.sg x) 4 [61]=false):
 Ah s.sg x (DA s.sg b) (CQ s.sg (Au s.sg (CU s.sg x) [61]) [59],CP s.sg (Au s.sg (CU s.sg x) [61]) [59] ⟨12,Dh s.sg x,[],b⟩):=by
 rw[DJ hq];exact b7q h.1 h.2 hq
theorem a5e{α:Type}{s:ST}{x:Gs}{f:Ps→Option (α×Ps)}{y:α×Gs}(h:okD s x)(hy:BG s.sg x f y):okD s y.2:=⟨⟨h.1.1,hy.1⟩,by have:=hy.2.1;have:=h.2;omega⟩
theorem a5f{s:ST}{x:Gs}{w:List UInt8}(h:okD s x)(hq:isG s.sg x 1 w=true):okN s x:=⟨h,(Dn hq (by omega)).1,(Dn hq (by omega)).2⟩
theorem a5g{s:ST}{x:Gs}{m:List UInt8}(h:okD s x)(hq:isG s.sg x 1 m=true):okD s (Aq x):=⟨(a5c (a5f h hq)).1,(a5c (a5f h hq)).2⟩
theorem b8e{s:ST}{x:Gs}{n:Nat}{b:Bool}{c q:Int×Gs}(h:okD s x)(hk:(pkG s.sg x 0).kind≠5)(h1:isG s.sg x 1 [118,97,114]=false)(h2:isG s.sg x 1 [114,101,116,117,114,110]=false)(h3:isG s.sg x 1 [105,102]=false)(hq:isG s.sg x 1 [119,104,105,108,101]=true)
 (hc:BG s.sg (Aq x) (DI s.sg) c) (hz:Ah s.sg c.2 (BM s.sg (stR s.sg n)) q):Ah s.sg x (stR s.sg (n+1) b) (AW q.2,An q.2 ⟨17,[],[c.1,q.1],b⟩):=
 b7F h.1.2 hk h1 h2 h3 hq (b7A (a5g h hq).1.2 hc hz)
theorem b8f{α:Type}{s:ST}{x:Gs}{n:Nat}{f:Ps→Option (α×Ps)}{y:α×Gs}(h:20-x.deep≤(n:Int))(hy:BG s.sg x f y):20-y.2.deep≤(n:Int):=by have:=hy.2.1;omega
theorem b8g{α:Type}{s:ST}{x:Gs}{n:Nat}{f:Ps→Option (α×Ps)}{y:α×Gs}(h:20-x.deep≤(n:Int))(hy:Ah s.sg x f y):20-y.2.deep≤(n:Int):=b8f h hy.1
attribute [local irreducible] pE Bw Dg fnR Ah BG gsOk As CP An Dp EA Au Ed Eo AW CQ pkG isG nmG CU Dh DA Hm DI Cm BM stR CO
end Go.My
end
section
namespace Go.My
open Go.Eng Go.Proofs
variable {G:GInv}
attribute [local irreducible] pE Bw Dg fnR Ah BG gsOk As CP An Dp EA Au Ed Eo AW CQ pkG isG nmG CU Dh DA Hm DI Cm BM stR CO FJ Gy Dk Dw Hd BS
end Go.My
end
section
namespace Go.My
open Go.Eng
def Iv(t:List UInt8)(i br:Int)(l:List Sg)(n:Nat):Prop:=
 (0≤i∧i≤t.length)∧(0≤br∧br≤i)∧(l.length:Int)≤i∧(t.length:Int)-i<n∧FG t (t.length+1) 0 0=(FG t n i br).map (l++ ·)
theorem b8h{t:List UInt8}:Iv t 0 0 [] (t.length+1):=by
 refine⟨by omega,by omega,by simp,by simp;omega,?_⟩
 cases FG t (t.length+1) 0 0<;>simp
theorem SY{t:List UInt8}{n:Nat}{i br:Int}{c:UInt8}(hc:t[i.toNat]? =some c):FG t (n+1) i br=if c.toNat=32 then FG t n (i+1) br
 else if c.toNat=10 then FG t n (i+1) (br+1)
 else if(Bh (t.drop i.toNat)).ok then(FG t n (i+(Bh (t.drop i.toNat)).size) 0).map (⟨(Bh (t.drop i.toNat)).kind,(Bh (t.drop i.toNat)).text,i,decide (br>1)⟩:: ·)
 else none:=by rw[FG,hc]
theorem SZ{t:List UInt8}{i br:Int}{l:List Sg}{n:Nat}(h:Iv t i br l n)(hi:i<t.length):∃m,n=m+1:=by
 obtain⟨h1,h2,h3,h4,h5⟩:=h
 match n with
 |0=>omega
 |m+1=>exact⟨m,rfl⟩
theorem b8i{t:List UInt8}{i br:Int}{l:List Sg}{n:Nat}{c:UInt8}(hc:t[i.toNat]? =some c)(h:Iv t i br l (n+1))(hi:i<t.length)(h32:c.toNat=32):Iv t (i+1) br l n:=by
 obtain⟨h1,h2,h3,h4,h5⟩:=h
 refine⟨by omega,by omega,by omega,by omega,?_⟩
 rw[h5,SY hc,if_pos h32]
theorem b8j{t:List UInt8}{i br:Int}{l:List Sg}{n:Nat}{c:UInt8}(hc:t[i.toNat]? =some c)(h:Iv t i br l (n+1))(hi:i<t.length)(h32:c.toNat=10):Iv t (i+1) (br+1) l n:=by
 obtain⟨h1,h2,h3,h4,h5⟩:=h
 refine⟨by omega,by omega,by omega,by omega,?_⟩
 rw[h5,SY hc,if_neg (by omega),if_pos h32]
theorem b8k{t:List UInt8}{i br:Int}{l:List Sg}{n:Nat}{c:UInt8}(hc:t[i.toNat]? =some c)(h:Iv t i br l (n+1))(hi:i<t.length)(h32:c.toNat≠32)(h10:c.toNat≠10)
 (hok:(Bh (t.drop i.toNat)).ok=true) (hz:1≤(Bh (t.drop i.toNat)).size∧(Bh (t.drop i.toNat)).size≤t.length-i):
 Iv t (i+(Bh (t.drop i.toNat)).size) 0 (l++[⟨(Bh (t.drop i.toNat)).kind,(Bh (t.drop i.toNat)).text,i,decide (br>1)⟩]) n:=by
 obtain⟨h1,h2,h3,h4,h5⟩:=h
 refine⟨by omega,by omega,by simp;omega,by omega,?_⟩
 rw[h5,SY hc,if_neg h32,if_neg h10,if_pos hok]
 cases FG t n (i+(Bh (t.drop i.toNat)).size) 0<;>simp
theorem b8l{t:List UInt8}{i br:Int}{l:List Sg}{n:Nat}{c:UInt8}(hc:t[i.toNat]? =some c)(h:Iv t i br l (n+1))(hi:i<t.length)(h32:c.toNat≠32)(h10:c.toNat≠10)
 (hok:(Bh (t.drop i.toNat)).ok=false) (hl:¬3000<t.length):CT t=none:=by
 rw[CT,if_neg hl,h.2.2.2.2,SY hc,if_neg h32,if_neg h10,if_neg (by simp [hok])];rfl
theorem b8m{t:List UInt8}{i br:Int}{l:List Sg}{n:Nat}(h:Iv t i br l n)(hi:¬i<t.length)(hl:¬3000<t.length):CT t=some l:=by
 obtain⟨h1,h2,h3,h4,h5⟩:=h
 rw[CT,if_neg hl,h5]
 match n with
 |0=>omega
 |n+1=>rw[FG,List.getElem?_eq_none (by omega)];simp
theorem b8n{t:List UInt8}(h:3000<t.length):CT t=none:=if_pos h
end Go.My
end
section
namespace Go.My
open Go.Eng Go.Proofs
variable {G:GInv}
theorem Xw{p:UInt8→Bool}{b:UInt8}{s:List UInt8}(h:p b=true):1≤((b::s).takeWhile p).length:=by
 rw[List.takeWhile_cons,if_pos h];simp
theorem Ta{p:UInt8→Bool}{s:List UInt8}:(s.takeWhile p).length≤s.length:=(List.takeWhile_prefix p).length_le
theorem b8o{s:List UInt8}:(CI s).length≤s.length:=by
 unfold CI
 have:=(List.dropWhile_suffix (fun c:UInt8=>decide (c.toNat=32)) (l:=s.reverse)).length_le
 simpa using this
theorem a5h{s:List UInt8}(h:(Bh s).ok=true):1≤(Bh s).size∧(Bh s).size≤s.length∧(Bh s).text.length≤s.length:=by
 match s with
 |[]=>cases h
 |b::s=>
  unfold Bh at h ⊢
  simp only at h ⊢
  split
  ·rename_i hb
   have:=Xw (s:=s) (p:=BP) (b:=b) (by simp [BP,hb]);have:=Ta (p:=BP) (s:=b::s);simp only;omega
  ·rename_i hb
   rw[if_neg hb] at h
   split
   ·rename_i hb2
    have:=Xw (s:=s) (p:=Bg) (b:=b) hb2;have:=Ta (p:=Bg) (s:=b::s);simp only;omega
   ·rename_i hb2
    rw[if_neg hb2] at h
    split
    ·rename_i hb3
     rw[if_pos hb3] at h
     simp only at h ⊢
     unfold DD at h ⊢
     split at h
     ·cases h
     ·simp only[List.length_take,List.length_cons] at*;omega
    ·rename_i hb3
     rw[if_neg hb3] at h
     split
     ·rename_i hb4
      have hb5:b=47:=by
       cases s with
       |nil=>simp at hb4
       |cons c s=>simp at hb4;exact hb4.1
      have h1:=Xw (s:=s) (p:=Ch) (b:=b) (by subst hb5;rfl);have h2:=Ta (p:=Ch) (s:=b::s);have h3:= @b8o ((b::s).takeWhile Ch)
      simp only;omega
     ·rename_i hb4
      rw[if_neg hb4] at h
      split
      ·simp only[List.length_take,List.length_cons];omega
      ·rename_i hb5
       rw[if_neg hb5] at h
       split
       ·simp only[List.length_take,List.length_cons];omega
       ·rename_i hb6
        rw[if_neg hb6] at h
        cases h
def sgJ(t:List UInt8)(i br:Int)(l:List Sg)(n:Nat):Prop:=(Iv t i br l n∧¬3000<t.length)∧∀e∈l,e.text.length≤3000
theorem b8p{t:List UInt8}(h:¬(t.length:Int)>3000):sgJ t 0 0 [] (t.length+1):=⟨⟨b8h,by omega⟩,by simp⟩
theorem Oi{t:List UInt8}{i br:Int}{l:List Sg}{n:Nat}(h:sgJ t i br l n):((0≤i∧i≤t.length)∧(0≤br∧br≤i)∧(l.length:Int)≤i)∧t.length≤3000:=by
 have:=h.1.1;have:=h.1.2;exact⟨⟨h.1.1.1,h.1.1.2.1,h.1.1.2.2.1⟩,by omega⟩
theorem a5i{t:List UInt8}{i br:Int}{l:List Sg}{n:Nat}{c:UInt8}(hc:t[i.toNat]? =some c)(h:sgJ t i br l n)(hi:i<t.length)(h32:c.toNat=32):sgJ t (i+1) br l (n-1)∧n-1<n:=by
 obtain⟨m,rfl⟩:=SZ h.1.1 hi
 exact⟨⟨⟨b8i hc h.1.1 hi h32,h.1.2⟩,h.2⟩,by omega⟩
theorem a5j{t:List UInt8}{i br:Int}{l:List Sg}{n:Nat}{c:UInt8}(hc:t[i.toNat]? =some c)(h:sgJ t i br l n)(hi:i<t.length)(h32:c.toNat=10):sgJ t (i+1) (br+1) l (n-1)∧n-1<n:=by
 obtain⟨m,rfl⟩:=SZ h.1.1 hi
 exact⟨⟨⟨b8j hc h.1.1 hi h32,h.1.2⟩,h.2⟩,by omega⟩
theorem a5k{t:List UInt8}{i br:Int}{l:List Sg}{n:Nat}(h:sgJ t i br l n)(hok:(Bh (t.drop i.toNat)).ok=true):1≤(Bh (t.drop i.toNat)).size∧(Bh (t.drop i.toNat)).size≤t.length-i∧(Bh (t.drop i.toNat)).text.length≤3000:=by
 have a:=a5h hok
 have b:=(Oi h)
 simp only[List.length_drop] at a
 omega
theorem b8q{t:List UInt8}{i br:Int}{l:List Sg}{n:Nat}{c:UInt8}(hc:t[i.toNat]? =some c)(h:sgJ t i br l n)(hi:i<t.length)(h32:c.toNat≠32)(h10:c.toNat≠10)
 (hok:(Bh (t.drop i.toNat)).ok=true):
 sgJ t (i+(Bh (t.drop i.toNat)).size) 0 (l++[⟨(Bh (t.drop i.toNat)).kind,(Bh (t.drop i.toNat)).text,i,decide (br>1)⟩]) (n-1)∧n-1<n:=by
 obtain⟨m,rfl⟩:=SZ h.1.1 hi
 have hz:=a5k h hok
 refine⟨⟨⟨b8k hc h.1.1 hi h32 h10 hok ⟨hz.1,hz.2.1⟩,h.1.2⟩,?_⟩,by omega⟩
 intro e he
 rcases List.mem_append.1 he with he|he
 ·exact h.2 e he
 ·simp at he;subst he;exact hz.2.2
theorem b8r{t:List UInt8}{i br:Int}{l:List Sg}{n:Nat}{c:UInt8}(hc:t[i.toNat]? =some c)(h:sgJ t i br l n)(hi:i<t.length)(h32:c.toNat≠32)(h10:c.toNat≠10)
 (hok:(Bh (t.drop i.toNat)).ok=false):CT t=none:=by
 obtain⟨m,rfl⟩:=SZ h.1.1 hi
 exact b8l hc h.1.1 hi h32 h10 hok h.1.2
def sgQ(t:List UInt8)(l:List Sg):Prop:=(CT t=some l∧sgB l)∨(CT t=none∧l=[])
theorem a5l{t:List UInt8}{i br:Int}{l:List Sg}{n:Nat}(h:sgJ t i br l n)(hi:¬i<t.length):(CT t).isSome=true∧sgQ t l:=by
 have a:=b8m h.1.1 hi h.1.2
 have b:=Oi h
 exact⟨by rw[a];rfl,.inl ⟨a,by omega,h.2⟩⟩
theorem Tb{t:List UInt8}(h:CT t=none):(CT t).isSome=false∧sgQ t []:=⟨by rw[h];rfl,.inr ⟨h,rfl⟩⟩
theorem a5m{t:List UInt8}(h:(t.length:Int)>3000):CT t=none:=b8n (by omega)
abbrev iF {α β:Type} (i:Int×Int×Bool×List Nd×α×β):Gs:=⟨i.1,i.2.1,i.2.2.1,i.2.2.2.1⟩
theorem b8s{sg:List Sg}:FM sg ⟨0,0,false,[]⟩ [] [] (sg.length+1):=b7S
theorem b8t{sg:List Sg}{y:Gs}{ks:List Int}{ms:List (Int×Int)}{N:Nat}{b:Bool}{z:Int×Gs}(h:FM sg y ks ms N)(hb:y.bad=false)(hl:y.pos<sg.length)(hz:Ah sg y (Dw sg b) z)(e:b=((pkG sg y 0).blank&&decide (0<(ks.length:Int)))):
 FM sg z.2 (ks++[z.1]) (ms++[(y.pos,z.2.pos)]) (N-1)∧N-1<N:=by
 subst e
 exact Og (b7T h hb hl (z:=z) (by
  have:decide (0<ks.length)=decide (0<(ks.length:Int)):=by simp
  rw[this];exact hz))
theorem b8u{s:ST}{y:Gs}{ks:List Int}{ms:List (Int×Int)}{N:Nat}(hs:sgB s.sg)(h:FM s.sg y ks ms N):okD s y:=⟨⟨hs,h.1⟩,by have:=h.2.1;omega⟩
theorem a5n{sg:List Sg}{y:Gs}{ks:List Int}{ms:List (Int×Int)}{N:Nat}(hs:sgB sg)(h:FM sg y ks ms N):ks.length≤3001∧ms.length=ks.length∧0≤y.pos∧y.pos≤sg.length:=by
 have h1:=h.1.1;have h2:=hs.1;have h3:=h.2.2.2.2.1;have h4:=h.2.2.2.2.2.2
 omega
attribute [local irreducible] pE Bw Dg fnR Ah BG gsOk As CP An Dp EA Au Ed Eo AW CQ pkG isG nmG CU Dh DA Hm DI Cm BM stR CO FJ Gy Dk Dw Hd BS FM sgJ
end Go.My
end
section
namespace Go.My
open Go.Eng Go.Proofs
variable {G:GInv}
def rsQ(t:List UInt8)(sg:List Sg)(ms:List (Int×Int))(g:Gs):Prop:=(g.bad=true∧CA t=none)∨((g.bad=false∧sgB sg∧CT t=some sg)∧JJ sg=some (ms,g.nodes)∧BD g.nodes)
theorem a5o{sg:List Sg}{g:Gs}(h:gsOk sg g):BD g.nodes∧g.nodes.length≤300:=by
 refine⟨⟨by have:=h.2.2.1;omega,fun x hx=> ?_⟩,h.2.2.1⟩
 have:=h.2.2.2 x hx
 exact⟨by have:=this.1;omega,by have:=this.2;omega⟩
theorem Oj{t:List UInt8}{l:List Sg}(h:sgQ t l)(hn:(CT t).isSome=true):CT t=some l∧sgB l:=by
 rcases h with h|h
 ·exact h
 ·rw[h.1] at hn;cases hn
theorem b8v{t:List UInt8}{l:List Sg}{y:Gs}{ks:List Int}{ms:List (Int×Int)}{N:Nat}(h:sgQ t l)(hn:(CT t).isSome=true)(hf:FM l y ks ms N∧(y.bad=true∨¬y.pos<l.length))(hb:(Ft l y ks).bad=true):rsQ t l ms (Ft l y ks):=by
 refine .inl ⟨hb,?_⟩
 rw[CA,(Oj h hn).1]
 simp only[Option.bind_some,b7U hf.1 hb hf.2];rfl
theorem a5p{l:List Sg}{y:Gs}{ks:List Int}{ms:List (Int×Int)}{N:Nat}(hs:sgB l)(h:FM l y ks ms N):Dl ⟨22,[],ks,false⟩:=⟨by simp,by have:=(a5n hs h).1;simp only;omega⟩
theorem b8w{t:List UInt8}{l:List Sg}{y:Gs}{ks:List Int}{ms:List (Int×Int)}{N:Nat}(h:sgQ t l)(hn:(CT t).isSome=true)(hf:FM l y ks ms N∧(y.bad=true∨¬y.pos<l.length))(hb:(Ft l y ks).bad=false):
 rsQ t l ms ⟨(Ft l y ks).pos,(Ft l y ks).deep,!BB (Ft l y ks).nodes,(Ft l y ks).nodes⟩:=by
 have hk:=a5p (Oj h hn).2 hf.1
 have e:=b7V hf.1 hb hf.2
 cases htr:BB (Ft l y ks).nodes with
 |false=>
  rw[htr] at e
  refine .inl ⟨rfl,?_⟩
  rw[CA,(Oj h hn).1]
  simp only[Option.bind_some,e];rfl
 |true=>
  rw[htr] at e
  exact .inr ⟨⟨rfl,(Oj h hn).2,(Oj h hn).1⟩,e,(a5o (PV hf.1.1 hk)).1⟩
theorem a5q{t:List UInt8}{l:List Sg}{ms:List (Int×Int)}{g:Gs}(h:rsQ t l ms g)(hb:g.bad=true):CA t=none:=by
 rcases h with h|h
 ·exact h.2
 ·rw[h.1.1] at hb;cases hb
theorem b8x{t:List UInt8}{l:List Sg}{ms:List (Int×Int)}{g:Gs}(h:rsQ t l ms g)(hb:g.bad=false):CA t=some g.nodes∧BD g.nodes:=by
 rcases h with h|h
 ·rw[h.1] at hb;cases hb
 ·refine⟨?_,h.2.2⟩
  rw[CA,h.1.2.2];simp only[Option.bind_some,h.2.1];rfl
attribute [local irreducible] gsOk FM Ft CA JJ CT BB
end Go.My
end
section
namespace Go.My
open Go.Eng Go.Proofs
variable {G:GInv}
def zFU:Nat:=6400
abbrev RnY:=List Int×Int×Int×Int
def b8y(p:Int×Mc):RnY:=(p.2.out,if p.2.code=0 then p.1 else 0,p.2.code,p.2.steps)
def b8z(ns:List Nd)(t:List UInt8)(az:List Int)(L:Int)(y:RnY):Prop:=∃p,Wf ns (ev ns zFU).blk t az L ⟨[],0,0,0⟩=some p∧y=b8y p
def rnQ(ns:List Nd)(t:List UInt8)(az:List Int)(st:Int)(y:RnY):Prop:=((BB ns=false∧y=([],0,1,0))∨(BB ns=true∧b8z ns t az (min st 1000) y))∧y.1.length<2^62
def agI(az:List Int)(i:Int):Prop:=(0≤i∧i≤az.length)∧az.length≤12
attribute [local irreducible] agI
attribute [local irreducible] cQz mPz rnQ BB Wf
end Go.My
end
section
namespace Go.My
open Go.Eng Go.Proofs
variable {G:GInv}
def zsQ(x:List UInt8)(t:List UInt8)(az:List Int)(st:Int)(y:RnY):Prop:=((CA x=none∧y=([],0,1,0))∨∃ns,CA x=some ns∧rnQ ns t az st y)∧y.1.length<2^62
theorem b8A{ns:List Nd}{t:List UInt8}{az:List Int}{st:Int}{y:RnY}(h:rnQ ns t az st y):y.1.length<2^62:=by unfold rnQ at h;exact h.2
theorem CC{x t:List UInt8}{az:List Int}{st:Int}{y:RnY}{L:List Nd}(hn:L=(CA x).getD []∧BD L)(h:(CA x).isSome=true)(hy:rnQ L t az st y):zsQ x t az st y:=by
 refine⟨.inr ?_,b8A hy⟩
 cases hr:CA x with
 |none=>rw[hr] at h;cases h
 |some l=>rw[hn.1,hr] at hy;exact⟨l,rfl,hy⟩
attribute [local irreducible] zsQ CA
end Go.My
end
section
namespace Go.My
open Go.Eng Go.Proofs
variable {G:GInv}
def byA:UInt8→List AV:=fun c=>[.int .u8 c.toNat]
theorem HP(c:UInt8):byA c=[.int .u8 c.toNat]:=rfl
def byL(l:List UInt8):AV:= .sl false 0 1 UInt8 byA l
def cur(b:List UInt8)(i h:Int):List AV:=[.sl false 0 1 UInt8 byA b,.int .i64 i,.int .i64 h]
def BN(b:List UInt8)(i:Int):Prop:=(0≤i∧i≤b.length)∧b.length≤2^21
theorem Xx{n:Int}(h1: -9223372036854775808≤n)(h2:n≤9223372036854775807):IntKind.i64.wrap n=n:=QG ⟨by simp [IntKind.min,IntKind.bits,IntKind.signed];omega,by simp [IntKind.max,IntKind.bits,IntKind.signed];omega⟩
theorem a5r(a:Int):0≤DV .and .i64 a 255∧DV .and .i64 a 255≤255:=by
 unfold DV
 have h:(BitVec.ofInt IntKind.i64.bits a&&& BitVec.ofInt IntKind.i64.bits 255).toNat≤255:=by
  rw[BitVec.toNat_and]
  exact Nat.le_trans Nat.and_le_right (by decide)
 simp only
 rw[Xx (by omega) (by omega)]
 omega
theorem Xy(a:Int):0≤DV .and .i64 a 1073741823∧DV .and .i64 a 1073741823≤1073741823:=by
 unfold DV
 have h:(BitVec.ofInt IntKind.i64.bits a&&& BitVec.ofInt IntKind.i64.bits 1073741823).toNat≤1073741823:=by
  rw[BitVec.toNat_and]
  exact Nat.le_trans Nat.and_le_right (by decide)
 simp only
 rw[Xx (by omega) (by omega)]
 omega
theorem Tc{a n:Int}(h0:0≤a)(hn:0<n):0≤a.tmod n∧a.tmod n<n:=⟨Int.tmod_nonneg n h0,Int.tmod_lt_of_pos a hn⟩
def GG:Sig:= {X:=List UInt8×Int×Int,args:=fun x=>[.box 0 (cur x.1 x.2.1 x.2.2)],pre:=fun x=>BN x.1 x.2.1,Y:=Int×Int×Int,post:=fun x y=>(0≤y.1∧y.1≤255)∧BN x.1 y.2.1,res:=fun x y=> .int .i64 y.1,outs:=fun x y=>[.box 0 (cur x.1 y.2.1 y.2.2)],keep:=true}
theorem a5s:Al G Tryz.prog 30 GG:=
 vcFun_okP [] [] true (fun x=>[]) Tryz.func30 rfl (by decide) trivial (fun(x:List UInt8×Int×Int)=>True∧true=true∧true=true∧(0:Int)≤(33:Int)∧(0:Int)≤(45:Int)∧true=true∧true=true∧Ab (decide (x.2.1<(↑(List.length x.1):Int))) (true=true∧true=true∧((0:Int)≤x.2.1∧x.2.1<(↑(List.length x.1):Int))∧∀(e:UInt8),x.1[Int.toNat x.2.1]? =some e→rA GG x [.int .i64 (DV BinOp.and IntKind.i64 (IntKind.wrap IntKind.i64 (DV BinOp.and IntKind.i64 (DV BinOp.xor IntKind.i64 (shI false IntKind.i64 (IntKind.wrap IntKind.i64 (IntKind.wrap IntKind.i64 (x.2.2*(6364136223846793005:Int))+(1442695040888963407:Int))) (33:Int)) (shI false IntKind.i64 (IntKind.wrap IntKind.i64 (IntKind.wrap IntKind.i64 (x.2.2*(6364136223846793005:Int))+(1442695040888963407:Int))) (45:Int))) (255:Int)+IntKind.wrap IntKind.i64 (↑(UInt8.toNat e):Int))) (255:Int)),.box 0 [byL x.1,.int .i64 (IntKind.wrap IntKind.i64 (x.2.1+(1:Int))),.int .i64 (IntKind.wrap IntKind.i64 (IntKind.wrap IntKind.i64 (x.2.2*(6364136223846793005:Int))+(1442695040888963407:Int)))]]) (rA GG x [.int .i64 (DV BinOp.and IntKind.i64 (DV BinOp.xor IntKind.i64 (shI false IntKind.i64 (IntKind.wrap IntKind.i64 (IntKind.wrap IntKind.i64 (x.2.2*(6364136223846793005:Int))+(1442695040888963407:Int))) (33:Int)) (shI false IntKind.i64 (IntKind.wrap IntKind.i64 (IntKind.wrap IntKind.i64 (x.2.2*(6364136223846793005:Int))+(1442695040888963407:Int))) (45:Int))) (255:Int)),.box 0 [byL x.1,.int .i64 x.2.1,.int .i64 (IntKind.wrap IntKind.i64 (IntKind.wrap IntKind.i64 (x.2.2*(6364136223846793005:Int))+(1442695040888963407:Int)))]])) (fun x=>by kernel_rfl) fun(x:List UInt8×Int×Int) (hx:BN x.1 x.2.1)=>(by
 dsimp only[HP,byL,cur,rA,GG,Aw,Az]
 obtain⟨b,i,h⟩:=x;dsimp only at hx ⊢
 have hx:BN b i:=hx
 have hb:=hx.1;have hl:=hx.2
 (repeat' first|(with_reducible first|rfl|exact True.intro|apply AK|apply And.intro|((first|apply AA|apply AI|apply AB|apply AJ)<;>intro _))|(apply Ax<;>intro _)|apply AH|refine Af () ?_ ?_|((first|apply AO|apply AN|apply AM|apply AL|apply AG|apply AF|apply AE|apply AD|apply AC)<;>try dsimp only)|apply Af|(refine Prod.forall.2 ?_;intro _;try dsimp only)|(intro _;try dsimp only))
 all_goals first
  |rfl
  |omega
  |exact(a5r _).1
  |exact(a5r _).2
  |exact hx
  |(rw[Xx (by omega) (by omega)];exact⟨by omega,hl⟩)
  |skip)
def Ef:Sig:= {X:=List UInt8×Int×Int×Int,args:=fun x=>[.box 0 (cur x.1 x.2.1 x.2.2.1),.int .i64 x.2.2.2],pre:=fun x=>BN x.1 x.2.1,Y:=Int×Int×Int,post:=fun x y=>((0<x.2.2.2→0≤y.1∧y.1<x.2.2.2)∧(x.2.2.2≤0→y.1=0))∧BN x.1 y.2.1,res:=fun x y=> .int .i64 y.1,outs:=fun x y=>[.box 0 (cur x.1 y.2.1 y.2.2),.top],keep:=true}
theorem Qo:Al G Tryz.prog 31 Ef:=
 vcFun_okP [(30,0,GG)] [] false (fun x=>[]) Tryz.func31 rfl (by decide) ⟨a5s,trivial⟩ (fun(x:List UInt8×Int×Int×Int)=>True∧Ab (decide (x.2.2.2≤(0:Int))) (rA Ef x [.int .i64 (0:Int),.box 0 (cur x.1 x.2.1 x.2.2.1),.top]) (Ab (decide (x.2.2.2≤(256:Int))) (cA GG [.box 0 (cur x.1 x.2.1 x.2.2.1)] fun x_1 y=>x.2.2.2≠(0:Int)∧rA Ef x [.int .i64 (Int.tmod y.1 x.2.2.2),.box 0 (cur x_1.1 y.2.1 y.2.2),.top]) (cA GG [.box 0 (cur x.1 x.2.1 x.2.2.1)] fun x_1 y=>cA GG [.box 0 (cur x_1.1 y.2.1 y.2.2)] fun x_2 y_1=>cA GG [.box 0 (cur x_2.1 y_1.2.1 y_1.2.2)] fun x_3 y_2=>cA GG [.box 0 (cur x_3.1 y_2.2.1 y_2.2.2)] fun x_4 y_3=>inR IntKind.i64 (y.1*(16777216:Int))∧inR IntKind.i64 (y_1.1*(65536:Int))∧inR IntKind.i64 (y.1*(16777216:Int)+y_1.1*(65536:Int))∧inR IntKind.i64 (y_2.1*(256:Int))∧inR IntKind.i64 (y.1*(16777216:Int)+y_1.1*(65536:Int)+y_2.1*(256:Int))∧inR IntKind.i64 (y.1*(16777216:Int)+y_1.1*(65536:Int)+y_2.1*(256:Int)+y_3.1)∧x.2.2.2≠(0:Int)∧rA Ef x [.int .i64 (Int.tmod (y.1*(16777216:Int)+y_1.1*(65536:Int)+y_2.1*(256:Int)+y_3.1) x.2.2.2),.box 0 (cur x_4.1 y_3.2.1 y_3.2.2),.top]))) (fun x=>by kernel_rfl) fun(x:List UInt8×Int×Int×Int) (hx:BN x.1 x.2.1)=>(by
 dsimp only[HP,cA,cur,rA,Ef,GG,Aw,Az,mvL,lnL,mvE,lnE]
 obtain⟨b,i,h,n⟩:=x;dsimp only at hx ⊢
 have hx:BN b i:=hx
 (repeat' first|(with_reducible first|rfl|exact True.intro|apply AK|apply And.intro|((first|apply AA|apply AI|apply AB|apply AJ)<;>intro _))|(apply Ax<;>intro _)|apply AH|refine Af () ?_ ?_|((first|apply AO|apply AN|apply AM|apply AL|apply AG|apply AF|apply AE|apply AD|apply AC)<;>try dsimp only)|apply Af|(refine Prod.forall.2 ?_;intro _;try dsimp only)|(intro _;try dsimp only))
 all_goals(repeat(rename(_∧_)∧BN _ _=>hq;obtain⟨⟨_,_⟩,_⟩:=hq))
 all_goals first
  |rfl
  |assumption
  |omega
  |exact(Tc (by omega) (by omega)).1
  |exact(Tc (by omega) (by omega)).2
  |skip)
def Cv:Sig:= {X:=List UInt8×Int×Int×List (List UInt8),args:=fun x=>[.box 0 (cur x.1 x.2.1 x.2.2.1),.sl false 0 1 (List UInt8) BA x.2.2.2],pre:=fun x=>BN x.1 x.2.1∧x.2.2.2≠[]∧x.2.2.2.length<2^30,Y:=List UInt8×Int×Int,post:=fun x y=>y.1∈x.2.2.2∧BN x.1 y.2.1,res:=fun x y=> .str y.1,outs:=fun x y=>[.box 0 (cur x.1 y.2.1 y.2.2),.top],keep:=true}
theorem Xz:Al G Tryz.prog 55 Cv:=
 vcFun_okP [(31,0,Ef)] [] false (fun x=>[]) Tryz.func55 rfl (by decide) ⟨Qo,trivial⟩ (fun(x:List UInt8×Int×Int×List (List UInt8))=>True∧cA Ef [.box 0 (cur x.1 x.2.1 x.2.2.1),.int .i64 (↑(List.length x.2.2.2):Int)] fun x_1 y=>((0:Int)≤y.1∧y.1<(↑(List.length x.2.2.2):Int))∧∀(e:List UInt8),x.2.2.2[Int.toNat y.1]? =some e→rA Cv x [.str e,.box 0 (cur x_1.1 y.2.1 y.2.2),.top]) (fun x=>by kernel_rfl) fun(x:List UInt8×Int×Int×List (List UInt8)) (hx:BN x.1 x.2.1∧x.2.2.2≠[]∧x.2.2.2.length<2^30)=>(by
 dsimp only[HP,cA,cur,rA,Ef,Cv,Aw,Az,mvL,lnL,mvE,lnE]
 obtain⟨b,i,h,l⟩:=x;dsimp only at hx ⊢
 obtain⟨hx,hn,hl⟩:=hx
 have hp:0<l.length:=by cases l with|nil=>exact(hn rfl).elim|cons _ _=>simp
 (repeat' first|(with_reducible first|rfl|exact True.intro|apply AK|apply And.intro|((first|apply AA|apply AI|apply AB|apply AJ)<;>intro _))|(apply Ax<;>intro _)|apply AH|refine Af () ?_ ?_|((first|apply AO|apply AN|apply AM|apply AL|apply AG|apply AF|apply AE|apply AD|apply AC)<;>try dsimp only)|apply Af|(refine Prod.forall.2 ?_;intro _;try dsimp only)|(intro _;try dsimp only))
 all_goals(repeat(rename(_∧_)∧BN _ _=>hq;obtain⟨⟨_,_⟩,_⟩:=hq))
 all_goals first
  |rfl
  |assumption
  |exact BJ ‹_›
  |omega
  |skip)
def Qp:List (List UInt8):=[[38,38],[124,124],[61,61],[61,62],[46,46]]
def MB:List (List UInt8):=[[40],[41],[123],[125],[91],[93],[59],[44],[46],[61],[43],[45],[42],[60],[63],[58]]
def mks:List (List UInt8):=[[38,38],[124,124],[61,61],[61,62],[46,46],[40],[41],[123],[125],[91],[93],[59],[44],[46],[61],[43],[45],[42],[60],[63],[58]]
def Gf(s:List UInt8):List UInt8:=(mks.find? fun m=>s.take m.length==m).getD []
theorem XA{s:List UInt8}{k:Nat}:∀ {l:List (List UInt8)},(∀m∈l,m.length=k)→l.find? (fun m=>s.take m.length==m)=if l.elem (s.take k) then some (s.take k) else none
 |[],_=>rfl
 |m::l,h=>by
  have hm:=h m (by simp)
  rw[List.find?_cons,List.elem_cons,hm]
  cases he:(s.take k==m) with
  |true=>
   have:s.take k=m:=by simpa using he
   simp [this]
  |false=>
   rw[XA (l:=l) (fun m hm=>h m (by simp [hm]))]
theorem a5t{s:List UInt8}:Gf s=if Qp.elem (s.take 2) then s.take 2 else if MB.elem (s.take 1) then s.take 1 else []:=by
 have e:mks=Qp++MB:=rfl
 rw[Gf,e,List.find?_append,XA (k:=2) (l:=Qp) (by decide),XA (k:=1) (l:=MB) (by decide)]
 split
 ·rfl
 ·split<;>rfl
theorem b8B{s:List UInt8}:Qp.elem s=mk2 s:=by
 rw[Bool.eq_iff_iff];simp [Qp,mk2]
theorem b8C{c:UInt8}:MB.elem [c]=mk1.elem c:=by
 simp [MB,mk1,List.elem_cons,List.elem_nil]
theorem a5u{c:UInt8}{s:List UInt8}:Gf (c::s)=if CH ((c::s).take 2) then(c::s).take 2 else if CH ((c::s).take 1) then(c::s).take 1 else []:=by
 rw[a5t,b8B]
 have h1:MB.elem ((c::s).take 1)=CH ((c::s).take 1):=by
  show MB.elem [c]=CH [c]
  rw[b8C]
  simp [CH,mk2]
 rw[h1]
 cases s with
 |nil=>
  show(if mk2 [c]=true then [c] else if CH [c]=true then [c] else [])=if CH [c]=true then [c] else if CH [c]=true then [c] else []
  have:mk2 [c]=false:=by simp [mk2]
  rw[this];simp
 |cons d r=>
  have:CH ((c::d::r).take 2)=mk2 ((c::d::r).take 2):=by
   show CH [c,d]=mk2 [c,d]
   simp [CH]
  rw[this]
def Iw(x:List UInt8×Int)(i:Int):Prop:=(0≤i∧i≤21)∧Gf (x.1.drop x.2.toNat)=((mks.drop i.toNat).find? fun m=>(x.1.drop x.2.toNat).take m.length==m).getD []
theorem b8D{x:List UInt8×Int}:Iw x 0:=⟨by omega,rfl⟩
theorem a5v{x:List UInt8×Int}{i:Int}{m:List UInt8}(h:Iw x i)(ha:mks[i.toNat]? =some m)(hg:((x.1.drop x.2.toNat).take m.length==m)=false):Iw x (i+1):=by
 have hlt:=(List.getElem?_eq_some_iff.1 ha).1
 have h21:mks.length=21:=rfl
 obtain⟨h1,h2⟩:=h
 refine⟨by omega,?_⟩
 rw[h2,List.drop_eq_getElem_cons hlt,(List.getElem?_eq_some_iff.1 ha).2,List.find?_cons_of_neg (by simpa using hg),show(i+1).toNat=i.toNat+1 by omega]
theorem b8E{x:List UInt8×Int}{i:Int}{m:List UInt8}(h:Iw x i)(ha:mks[i.toNat]? =some m)(hg:((x.1.drop x.2.toNat).take m.length==m)=true):m=Gf (x.1.drop x.2.toNat):=by
 have hlt:=(List.getElem?_eq_some_iff.1 ha).1
 rw[h.2,List.drop_eq_getElem_cons hlt,(List.getElem?_eq_some_iff.1 ha).2,List.find?_cons_of_pos (by simpa using hg)];rfl
theorem b8F{x:List UInt8×Int}{i:Int}(h:Iw x i)(hi:¬i<21):[]=Gf (x.1.drop x.2.toNat):=by
 have e:mks.drop i.toNat=[]:=List.drop_eq_nil_of_le (by have h21:mks.length=21:=rfl;rw[h21];omega)
 rw[h.2,e];rfl
theorem Td{t:List UInt8}{a n:Int}(h0:0≤a)(hn:0≤n):List.drop a.toNat (List.take (a+n).toNat t)=(t.drop a.toNat).take n.toNat:=by
 rw[List.drop_take,show(a+n).toNat-a.toNat=n.toNat by omega]
theorem b8G{x:List UInt8×Int}{m:List UInt8}(h0:0≤x.2)(h2:x.2≤x.1.length)(hl:¬x.2+(m.length:Int)≤x.1.length):((x.1.drop x.2.toNat).take m.length==m)=false:=by
 have:((x.1.drop x.2.toNat).take m.length)≠m:=by
  intro e
  have:=congrArg List.length e
  simp at this;omega
 simpa using this
theorem b8H{x:List UInt8×Int}{m:List UInt8}(h0:0≤x.2)(h:List.drop (Int.toNat x.2) (List.take (Int.toNat (x.2+(m.length:Int))) x.1)=m):((x.1.drop x.2.toNat).take m.length==m)=true:=by
 rw[Td h0 (by omega)] at h;simpa using h
theorem b8I{x:List UInt8×Int}{m:List UInt8}(h0:0≤x.2)(h:List.drop (Int.toNat x.2) (List.take (Int.toNat (x.2+(m.length:Int))) x.1)≠m):((x.1.drop x.2.toNat).take m.length==m)=false:=by
 rw[Td h0 (by omega)] at h;simpa using h
theorem b8J{i:Int}{m:List UInt8}(ha:mks[i.toNat]? =some m):m.length≤2:=by
 have:∀m∈mks,m.length≤2:=by decide
 exact this m (List.mem_of_getElem? ha)
theorem a5w{x:List UInt8×Int}{i:Int}(h:Iw x i):0≤i∧i≤21:=h.1
attribute [local irreducible] Iw Gf
def Ok:Sig:= {X:=Unit,args:=fun x=>[],pre:=fun x=>True,Y:=Unit,post:=fun x y=>True,res:=fun x y=> .sl false 0 1 (List UInt8) BA mks,outs:=fun x y=>[],keep:=true}
theorem b8K:Al G Tryz.prog 108 Ok:=
 vcFun_okP [] [(91,⟨List UInt8,BA⟩)] false (fun x=>[]) Tryz.func108 rfl (by decide) trivial (fun(x:Unit)=>True∧∃(x_1:List UInt8),#[(38:UInt8),(38:UInt8)].toList=x_1∧∃(x_2:List UInt8),#[(124:UInt8),(124:UInt8)].toList=x_2∧∃(x_3:List UInt8),#[(61:UInt8),(61:UInt8)].toList=x_3∧∃(x_4:List UInt8),#[(61:UInt8),(62:UInt8)].toList=x_4∧∃(x_5:List UInt8),#[(46:UInt8),(46:UInt8)].toList=x_5∧∃(x_6:List UInt8),#[(40:UInt8)].toList=x_6∧∃(x_7:List UInt8),#[(41:UInt8)].toList=x_7∧∃(x_8:List UInt8),#[(123:UInt8)].toList=x_8∧∃(x_9:List UInt8),#[(125:UInt8)].toList=x_9∧∃(x_10:List UInt8),#[(91:UInt8)].toList=x_10∧∃(x_11:List UInt8),#[(93:UInt8)].toList=x_11∧∃(x_12:List UInt8),#[(59:UInt8)].toList=x_12∧∃(x_13:List UInt8),#[(44:UInt8)].toList=x_13∧∃(x_14:List UInt8),#[(46:UInt8)].toList=x_14∧∃(x_15:List UInt8),#[(61:UInt8)].toList=x_15∧∃(x_16:List UInt8),#[(43:UInt8)].toList=x_16∧∃(x_17:List UInt8),#[(45:UInt8)].toList=x_17∧∃(x_18:List UInt8),#[(42:UInt8)].toList=x_18∧∃(x_19:List UInt8),#[(60:UInt8)].toList=x_19∧∃(x_20:List UInt8),#[(63:UInt8)].toList=x_20∧∃(x_21:List UInt8),#[(58:UInt8)].toList=x_21∧rA Ok x [AV.sl true 0 1 (List UInt8) BA [x_1,x_2,x_3,x_4,x_5,x_6,x_7,x_8,x_9,x_10,x_11,x_12,x_13,x_14,x_15,x_16,x_17,x_18,x_19,x_20,x_21]]) (fun x=>by kernel_rfl) fun(x:Unit) (hx:True)=>(by
 dsimp only[rA,Ok,Aw,Az]
 (repeat' first|(with_reducible first|rfl|exact True.intro|apply AK|apply And.intro|((first|apply AA|apply AI|apply AB|apply AJ)<;>intro _))|(apply Ax<;>intro _)|apply AH|refine Af () ?_ ?_|((first|apply AO|apply AN|apply AM|apply AL|apply AG|apply AF|apply AE|apply AD|apply AC)<;>try dsimp only)|apply Af|(refine Prod.forall.2 ?_;intro _;try dsimp only)|(intro _;try dsimp only))
 all_goals first
  |rfl
  |(simp [Ba];done)
  |skip)
def MC:Sig:= {X:=List UInt8×Int,args:=fun x=>[.str x.1,.int .i64 x.2],pre:=fun x=>0≤x.2∧x.2≤x.1.length∧x.1.length<2^62,Y:=Unit,post:=fun x y=>True,res:=fun x y=> .str (Gf (x.1.drop x.2.toNat)),outs:=fun x y=>[.top,.top],keep:=false}
def Qq(x:List UInt8×Int):LS:= {ι:=Int,inv:=fun i=>Iw x i,regs:=fun i=>[(0,.str x.1),(1,.int .i64 x.2),(5,.sl false 0 1 (List UInt8) BA mks),(6,.int .i64 i)],als:=[],meas:=fun i=>21-i.toNat}
theorem b8L:Al G Tryz.prog 88 MC:=
 vcFun_okP [(108,0,Ok)] [(91,⟨List UInt8,BA⟩)] false (fun x=>[(3,Qq x)]) Tryz.func88 rfl (by decide) ⟨b8K,trivial⟩ (fun(x:List UInt8×Int)=>(∀(y:Unit),True→True∧True∧True∧True)∧cA Ok [] fun x_1 y=>eA (Qq x) [.str x.1,.int .i64 x.2,AV.sl false 0 1 (List UInt8) BA mks,.int .i64 (0:Int)]∧∀(i:Int),Iw x i→Ab (decide (i<(↑(21:Nat):Int))) (((0:Int)≤i∧i<(↑(21:Nat):Int))∧∀(e:List UInt8),mks[Int.toNat i]? =some e→true=true∧true=true∧inR IntKind.i64 (x.2+(↑(List.length e):Int))∧Ab (decide (x.2+(↑(List.length e):Int)≤(↑(List.length x.1):Int))) (inR IntKind.i64 (x.2+(↑(List.length e):Int))∧((0:Int)≤x.2∧x.2≤x.2+(↑(List.length e):Int)∧x.2+(↑(List.length e):Int)≤(↑(List.length x.1):Int))∧((0:Int)≤i∧i<(↑(21:Nat):Int))∧∀(e_1:List UInt8),mks[Int.toNat i]? =some e_1→Ab (List.drop (Int.toNat x.2) (List.take (Int.toNat (x.2+(↑(List.length e):Int))) x.1)==e_1) (((0:Int)≤i∧i<(↑(21:Nat):Int))∧∀(e:List UInt8),mks[Int.toNat i]? =some e→rA MC x [.str e,.top,.top]) (inR IntKind.i64 (i+(1:Int))∧eN (Qq x) i [.str x.1,.int .i64 x.2,AV.sl false 0 1 (List UInt8) BA mks,.int .i64 (i+(1:Int))])) (inR IntKind.i64 (i+(1:Int))∧eN (Qq x) i [.str x.1,.int .i64 x.2,AV.sl false 0 1 (List UInt8) BA mks,.int .i64 (i+(1:Int))])) (rA MC x [.str #[].toList,.top,.top])) (fun x=>by kernel_rfl) fun(x:List UInt8×Int) (hx:0≤x.2∧x.2≤x.1.length∧x.1.length<2^62)=>(by
 dsimp only[cA,eA,eN,Qq,rA,MC,Ok,Aw,Az,mvL,lnL,mvE,lnE,Bv]
 obtain⟨h1,h2,h3⟩:=hx
 (repeat' first|(with_reducible first|rfl|exact True.intro|apply AK|apply And.intro|((first|apply AA|apply AI|apply AB|apply AJ)<;>intro _))|(apply Ax<;>intro _)|apply AH|refine Af () ?_ ?_|((first|apply AO|apply AN|apply AM|apply AL|apply AG|apply AF|apply AE|apply AD|apply AC)<;>try dsimp only)|apply Af|(refine Prod.forall.2 ?_;intro _;try dsimp only)|(intro _;try dsimp only))
 all_goals(try(repeat(rename mks[_]? =some _=>hq;revert hq;rename mks[_]? =some _=>hr;intro hq;rw[hr] at hq;cases hq)))
 all_goals first
  |rfl
  |exact b8D
  |exact a5v ‹_› ‹_› (b8G h1 h2 ‹_›)
  |exact a5v ‹_› ‹_› (b8I h1 ‹_›)
  |exact b8E ‹_› ‹_› (b8H h1 ‹_›)
  |exact b8F ‹_› (by omega)
  |(have hq:=a5w (show Iw _ _ by assumption);(try simp only[AQ]);omega)
  |(have hq:=a5w (show Iw _ _ by assumption);have hm:=b8J ‹_›;(try simp only[AQ]);omega)
  |skip)
def rwI(p:UInt8→Bool)(x:List UInt8×Int)(i:Int):Prop:=(x.2≤i∧i≤x.1.length)∧∀e∈(x.1.drop x.2.toNat).take (i-x.2).toNat,p e=true
theorem b8M{p:UInt8→Bool}{x:List UInt8×Int}(h:x.2≤x.1.length):rwI p x x.2:=by
 refine⟨⟨by omega,h⟩,fun e he=> ?_⟩
 rw[show(x.2-x.2).toNat=0 by omega] at he;simp at he
theorem XB{p:UInt8→Bool}{x:List UInt8×Int}{i:Int}{c:UInt8}(h0:0≤x.2)(h:rwI p x i)(hi:i<x.1.length)(hc:x.1[i.toNat]? =some c)(hp:p c=true):rwI p x (i+1):=by
 obtain⟨⟨a,b⟩,h2⟩:=h
 exact⟨by omega,Rr h2 (by rw[Pw h0 a];exact hc) hp (by omega)⟩
theorem a5x{p:UInt8→Bool}{x:List UInt8×Int}{i:Int}(h0:0≤x.2)(h:rwI p x i)(he:¬i<x.1.length∨∃c,x.1[i.toNat]? =some c∧p c=false):((x.1.drop x.2.toNat).takeWhile p)=List.drop (Int.toNat x.2) (List.take (Int.toNat i) x.1)∧((((x.1.drop x.2.toNat).takeWhile p).length:Nat):Int)=i-x.2:=by
 obtain⟨⟨a,b⟩,h2⟩:=h
 have e:=Ju h2 (by
  rcases he with he|⟨c,hc,hp⟩
  ·left;simp;omega
  ·right;exact⟨c,by rw[Pw h0 a];exact hc,hp⟩)
 rw[←e,List.drop_take]
 refine⟨by congr 1;omega,?_⟩
 simp;omega
theorem b8N{p:UInt8→Bool}{x:List UInt8×Int}{i:Int}(h:rwI p x i):x.2≤i∧i≤x.1.length:=h.1
def sgR(x:List UInt8×Int)(k:Int)(t:List UInt8)(p:Int)(b:Bool)(n:Int):Prop:=
 ((Bh (x.1.drop x.2.toNat)).ok=true∧(k=(Bh (x.1.drop x.2.toNat)).kind∧t=(Bh (x.1.drop x.2.toNat)).text∧p=x.2∧b=false)∧n=(Bh (x.1.drop x.2.toNat)).size)∨((Bh (x.1.drop x.2.toNat)).ok=false∧n=0)
theorem Te{x:List UInt8×Int}{c:UInt8}(hc:x.1[x.2.toNat]? =some c):x.1.drop x.2.toNat=c::x.1.drop (x.2.toNat+1):=by
 have hlt:=(List.getElem?_eq_some_iff.1 hc).1
 rw[List.drop_eq_getElem_cons hlt,(List.getElem?_eq_some_iff.1 hc).2]
theorem b8O{x:List UInt8×Int}(h0:0≤x.2)(h:(Cr (x.1.drop x.2.toNat):Int)>0):sgR x 5 (CI (List.drop (Int.toNat x.2) (List.take (Int.toNat (x.2+(Cr (x.1.drop x.2.toNat):Int))) x.1))) x.2 false (Cr (x.1.drop x.2.toNat)):=by
 rw[Td h0 (by omega)]
 unfold sgR
 generalize x.1.drop x.2.toNat=s at*
 unfold Cr at h ⊢
 split at h
 ·rename_i h2
  split at h
  ·rename_i hp
   rw[if_pos h2,if_pos hp]
   match s with
   |[]=>simp at h2
   |[_]=>simp at h2
   |b::c::r=>
    simp at h2
    obtain⟨rfl,rfl⟩:=h2
    left
    simp only[Bh,show Cw 47=false by decide,show Bg 47=false by decide,Bool.false_eq_true,if_false,show(47:UInt8).toNat≠39 by decide,List.take_succ_cons,List.take_zero,if_true]
    refine⟨hp,⟨trivial,?_,trivial,trivial⟩,trivial⟩
    congr 1
    have:=List.takeWhile_prefix Ch (l:=47::47::r)
    rw[Int.toNat_natCast]
    exact(List.prefix_iff_eq_take.1 this).symm
  ·simp at h
 ·simp at h
theorem b8P{s:List UInt8}{c:UInt8}(h:¬(Cr (c::s):Int)>0)(h2:(c::s).take 2=[47,47]):((c::s).takeWhile Ch).all Cl=false:=by
 cases hp:((c::s).takeWhile Ch).all Cl with
 |false=>rfl
 |true=>
  exfalso
  apply h
  rw[Cr,if_pos h2,if_pos hp]
  match s with
  |[]=>simp at h2
  |d::r=>
   simp at h2
   obtain⟨rfl,rfl⟩:=h2
   have:Ch 47=true:=by decide
   simp [List.takeWhile_cons,this];omega
theorem Tf{x:List UInt8×Int}{i:Int}{c:UInt8}(h0:0≤x.2)(hc:x.1[x.2.toNat]? =some c)(hf:Cw c=true)(h:rwI BP x i)(he:¬i<x.1.length∨∃c,x.1[i.toNat]? =some c∧BP c=false):
 (i-x.2>30→sgR x 0 [] 0 false 0)∧(¬i-x.2>30→sgR x 1 (List.drop (Int.toNat x.2) (List.take (Int.toNat i) x.1)) x.2 false (i-x.2)):=by
 obtain⟨e1,e2⟩:=a5x h0 h he
 have e:=Te hc
 have es:Bh (x.1.drop x.2.toNat)=⟨1,(x.1.drop x.2.toNat).takeWhile BP,((x.1.drop x.2.toNat).takeWhile BP).length,decide (((x.1.drop x.2.toNat).takeWhile BP).length≤30)⟩:=by
  rw[e];simp only[Bh,hf,if_true]
 unfold sgR
 rw[es]
 refine⟨fun h3=> .inr ⟨by simp;omega,rfl⟩,fun h3=> .inl ⟨by simp;omega,⟨rfl,e1.symm,rfl,rfl⟩,by simp only;omega⟩⟩
theorem Qr{x:List UInt8×Int}{i:Int}{c:UInt8}(h0:0≤x.2)(hc:x.1[x.2.toNat]? =some c)(hf:Cw c=false)(hg:Bg c=true)(h:rwI Bg x i)(he:¬i<x.1.length∨∃c,x.1[i.toNat]? =some c∧Bg c=false):
 (i-x.2>12→sgR x 0 [] 0 false 0)∧(¬i-x.2>12→sgR x 2 (List.drop (Int.toNat x.2) (List.take (Int.toNat i) x.1)) x.2 false (i-x.2)):=by
 obtain⟨e1,e2⟩:=a5x h0 h he
 have e:=Te hc
 have es:Bh (x.1.drop x.2.toNat)=⟨2,(x.1.drop x.2.toNat).takeWhile Bg,((x.1.drop x.2.toNat).takeWhile Bg).length,decide (((x.1.drop x.2.toNat).takeWhile Bg).length≤12)⟩:=by
  rw[e];simp only[Bh,hf,hg,Bool.false_eq_true,if_false,if_true]
 unfold sgR
 rw[es]
 refine⟨fun h3=> .inr ⟨by simp;omega,rfl⟩,fun h3=> .inl ⟨by simp;omega,⟨rfl,e1.symm,rfl,rfl⟩,by simp only;omega⟩⟩
theorem b8Q{x:List UInt8×Int}{c:UInt8}(h0:0≤x.2)(hc:x.1[x.2.toNat]? =some c)(hf:Cw c=false)(hg:Bg c=false)(hq:(c.toNat:Int)=39):
 sgR x 3 (List.drop (Int.toNat x.2) (List.take (Int.toNat (x.2+(CD (x.1.drop x.2.toNat):Int))) x.1)) x.2 false (CD (x.1.drop x.2.toNat)):=by
 rw[Td h0 (by omega)]
 have e:=Te hc
 have hq2:isQ c=true:=by simp [isQ];omega
 unfold sgR
 rw[e]
 have es:Bh (c::x.1.drop (x.2.toNat+1))=⟨3,(DD (c::x.1.drop (x.2.toNat+1))).1,(DD (c::x.1.drop (x.2.toNat+1))).1.length,(DD (c::x.1.drop (x.2.toNat+1))).2⟩:=by
  simp only[Bh,hf,hg,Bool.false_eq_true,if_false,show c.toNat=39 by omega,if_true]
 rw[es]
 by_cases hz:CD (c::x.1.drop (x.2.toNat+1))=0
 ·right
  refine⟨?_,by rw[hz];rfl⟩
  cases hb:(DD (c::x.1.drop (x.2.toNat+1))).2 with
  |false=>rfl
  |true=>exact((Ro hq2).1 hb hz).elim
 ·left
  obtain⟨l1,l2⟩:=a0p hq2 hz
  refine⟨(Ro hq2).2 hz,⟨rfl,?_,rfl,rfl⟩,?_⟩
  ·simp only[l1,Int.toNat_natCast]
  ·simp only[l1,List.length_take];omega
theorem b8R{x:List UInt8×Int}{c:UInt8}(h0:0≤x.2)(hc:x.1[x.2.toNat]? =some c)(hn:¬(Cr (x.1.drop x.2.toNat):Int)>0)(hf:Cw c=false)(hg:Bg c=false)(hq:(c.toNat:Int)≠39):
 sgR x 4 (Gf (x.1.drop x.2.toNat)) x.2 false (Gf (x.1.drop x.2.toNat)).length:=by
 have e:=Te hc
 unfold sgR
 rw[e] at hn ⊢
 generalize x.1.drop (x.2.toNat+1)=s at*
 by_cases h2:(c::s).take 2=[47,47]
 ·right
  have e0:Gf (c::s)=[]:=by
   rw[a5u,h2,if_neg (by decide)]
   have:(c::s).take 1=[47]:=by
    have:=congrArg (List.take 1) h2
    simpa using this
   rw[this,if_neg (by decide)]
  have hp:=b8P hn h2
  refine⟨?_,by rw[e0];rfl⟩
  simp only[Bh,hf,hg,Bool.false_eq_true,if_false,if_neg (show¬c.toNat=39 by omega),h2,if_true]
  exact hp
 ·have es:Bh (c::s)=if CH ((c::s).take 2) then⟨4,(c::s).take 2,((c::s).take 2).length,true⟩ else if CH ((c::s).take 1) then⟨4,(c::s).take 1,1,true⟩ else⟨0,[],0,false⟩:=by
   simp only[Bh,hf,hg,Bool.false_eq_true,if_false,if_neg (show¬c.toNat=39 by omega),if_neg h2]
  rw[es,a5u]
  split
  ·left;exact⟨rfl,⟨rfl,rfl,rfl,rfl⟩,rfl⟩
  ·split
   ·left;exact⟨rfl,⟨rfl,rfl,rfl,rfl⟩,by simp⟩
   ·right;exact⟨rfl,rfl⟩
end Go.My
end
section
namespace Go.My
open Go.Eng Go.Proofs
variable {G:GInv}
def srd(s:ST)(g:Gs):AV:= .box 0 [sgs s.sg,.int .i64 g.pos,.bool g.bad,.int .i64 g.deep,AZ g.nodes]
theorem a5y{sg:List Sg}{g:Gs}(h:g.bad=true∨(sg.length:Int)≤g.pos):pkG sg g 0=ET:=b3o (by simpa using h)
theorem XC{sg:List Sg}{g:Gs}{e:Sg}(he:sg[g.pos.toNat]? =some e)(hb:g.bad=false)(hl:g.pos<sg.length):pkG sg g 0=e:=b3p (by simpa using he) hb (by omega)
theorem a5z{sg:List Sg}{g:Gs}{k:Int}{t:List UInt8}(hk:k≠0)(h:g.bad=true∨(sg.length:Int)≤g.pos):isG sg g k t=false:=by
 simp [isG,a5y h,ET,Ne.symm hk]
theorem b8S{sg:List Sg}{g:Gs}{e:Sg}{k:Int}{t:List UInt8}(he:sg[g.pos.toNat]? =some e)(hb:g.bad=false)(hl:g.pos<sg.length):isG sg g k t=(decide (e.kind=k)&&(e.text==t)):=by
 rw[isG,XC he hb hl]
def kdG(sg:List Sg)(g:Gs)(k:Int):Bool:=decide ((pkG sg g 0).kind=k)&&(decide (k≠1)|| !kw (pkG sg g 0).text)
theorem Ol{sg:List Sg}{g:Gs}{k:Int}(hk:k≠0)(h:g.bad=true∨(sg.length:Int)≤g.pos):kdG sg g k=false:=by
 simp [kdG,a5y h,ET,Ne.symm hk]
theorem a5A{sg:List Sg}{g:Gs}{e:Sg}{k:Int}(he:sg[g.pos.toNat]? =some e)(hb:g.bad=false)(hl:g.pos<sg.length):kdG sg g k=(decide (e.kind=k)&&(decide (k≠1)|| !kw e.text)):=by
 rw[kdG,XC he hb hl]
theorem Jj{sg:List Sg}{g:Gs}:kdG sg g 1=nmG sg g 0:=by simp [kdG,nmG]
theorem Tg{sg:List Sg}{g:Gs}{k:Int}(hk:k≠0)(h:kdG sg g k=true):g.bad=false∧g.pos<sg.length:=by
 cases hb:g.bad with
 |true=>rw[Ol hk (.inl hb)] at h;cases h
 |false=>
  refine⟨rfl,?_⟩
  rcases Int.lt_or_le g.pos sg.length with hh|hh
  ·exact hh
  ·rw[Ol hk (.inr hh)] at h;cases h
theorem b8T{e:Nd}{b:Bool}{q:Nd→Prop}(h:q ⟨e.kind,e.text,e.kids,b⟩):
 ∃x':Nd,([AV.int IntKind.i64 x'.kind,AV.str x'.text,AV.sl true 0 1 Int Bc x'.kids]=[AV.int IntKind.i64 e.kind,AV.str e.text,AV.sl true 0 1 Int Bc e.kids]∧(@List.nil AV)=[])∧b=x'.blank∧q x':=
 ⟨⟨e.kind,e.text,e.kids,b⟩,⟨rfl,rfl⟩,rfl,h⟩
def BE(sg:List Sg)(g:Gs)(m:List UInt8):Gs:=if isG sg g 1 m then Aq g else g
def Bi(sg:List Sg)(g:Gs)(k:Int):Gs:=if kdG sg g k then Aq g else Bt g
def BC(sg:List Sg)(g:Gs)(k:Int):List UInt8:=if kdG sg g k then(pkG sg g 0).text else []
def gBl(g:Gs)(k:Int)(b:Bool):Gs:=if g.bad=false∧k<g.nodes.length then⟨g.pos,g.deep,g.bad,g.nodes.set k.toNat ⟨(Aa g.nodes k).kind,(Aa g.nodes k).text,(Aa g.nodes k).kids,b⟩⟩ else g
theorem b8U{g:Gs}{k:Int}{b:Bool}{e:Nd}(he:g.nodes[k.toNat]? =some e)(hb:g.bad=false)(hk:k<g.nodes.length):g.nodes.set k.toNat ⟨e.kind,e.text,e.kids,b⟩=(gBl g k b).nodes:=by
 rw[gBl,if_pos ⟨hb,hk⟩,Bo he]
def blG(sg:List Sg)(g:Gs):Bool:=decide (g.pos<sg.length)&&(sgO sg g.pos).blank
theorem b8V{sg:List Sg}{g:Gs}{e:Sg}{k:Int}(he:sg[(g.pos+1-1).toNat]? =some e)(hk:k≠0)(h:kdG sg g k=true):e.text=BC sg g k:=by
 obtain⟨hb,hl⟩:=Tg hk h
 rw[BC,if_pos h,XC (by rw[show g.pos=g.pos+1-1 by omega];exact he) hb hl]
def Eg:Sig:= {X:=ST×Int×Int×Bool×List Nd×Int×List UInt8,args:=fun x=>[srd x.1 (xh x),.int .i64 x.2.2.2.2.2.1,.str x.2.2.2.2.2.2],pre:=fun x=>rOk x.1 (xh x)∧x.2.2.2.2.2.1≠0,Y:=Unit,post:=fun x y=>True,res:=fun x y=> .bool (isG x.1.sg (xh x) x.2.2.2.2.2.1 x.2.2.2.2.2.2),outs:=fun x y=>[srd x.1 (xh x),.top,.top],keep:=true}
theorem Qs:Al G Tryz.prog 90 Eg:=
 vcFun_okP [] [] false (fun x=>[]) Tryz.func90 rfl (by decide) trivial (fun(x:ST×Int×Int×Bool×List Nd×Int×List UInt8)=>True∧true=true∧true=true∧Ab (!(xh x).bad) (Ab (decide ((xh x).pos<(↑(List.length x.1.sg):Int))) (((0:Int)≤(xh x).pos∧(xh x).pos<(↑(List.length x.1.sg):Int))∧∀(e:Sg),x.1.sg[Int.toNat (xh x).pos]? =some e→Ab (e.kind==x.2.2.2.2.2.1) (((0:Int)≤(xh x).pos∧(xh x).pos<(↑(List.length x.1.sg):Int))∧∀(e:Sg),x.1.sg[Int.toNat (xh x).pos]? =some e→rA Eg x [.bool (e.text==x.2.2.2.2.2.2),srd x.1 (xh x),.top,.top]) (rA Eg x [.bool false,srd x.1 (xh x),.top,.top])) (rA Eg x [.bool false,srd x.1 (xh x),.top,.top])) (rA Eg x [.bool false,srd x.1 (xh x),.top,.top])) (fun x=>by kernel_rfl) fun(x:ST×Int×Int×Bool×List Nd×Int×List UInt8) (hx:rOk x.1 (xh x)∧x.2.2.2.2.2.1≠0)=>(by
 dsimp only[Bx,AZ,rA,Eg,Df,sgs,srd,Aw,Az]
 obtain⟨s,p,d,b,ns,k,m⟩:=x;dsimp only[xg,xh] at hx ⊢
 obtain⟨h1,h2⟩:=hx;have hs:=He h1;dsimp only at hs
 (repeat' first|(with_reducible first|rfl|exact True.intro|apply AK|apply And.intro|((first|apply AA|apply AI|apply AB|apply AJ)<;>intro _))|(apply Ax<;>intro _)|apply AH|refine Af () ?_ ?_|((first|apply AO|apply AN|apply AM|apply AL|apply AG|apply AF|apply AE|apply AD|apply AC)<;>try dsimp only)|apply Af|(refine Prod.forall.2 ?_;intro _;try dsimp only)|(intro _;try dsimp only))
 all_goals(try(repeat(rename s.sg[_]? =some _=>hq;revert hq;rename s.sg[_]? =some _=>hr;intro hq;rw[hr] at hq;cases hq)))
 all_goals first
  |rfl
  |exact(a5z h2 (.inl ‹_›)).symm
  |exact(a5z h2 (.inr (by simp only;omega))).symm
  |(rw[b8S ‹_› ‹_› (by simp only;omega)];simp [*];done)
  |((try simp only[AQ]);omega)
  |skip)
def Cb:Sig:= {X:=ST×Int×Int×Bool×List Nd×List UInt8,args:=fun x=>[srd x.1 (xh x),.str x.2.2.2.2.2],pre:=fun x=>rOk x.1 (xh x),Y:=Unit,post:=fun x y=>True,res:=fun x y=> .bool (isG x.1.sg (xh x) 4 x.2.2.2.2.2),outs:=fun x y=>[srd x.1 (Au x.1.sg (xh x) x.2.2.2.2.2),.top],keep:=true}
theorem HQ:Al G Tryz.prog 63 Cb:=
 vcFun_okP [(90,0,Eg)] [] false (fun x=>[]) Tryz.func63 rfl (by decide) ⟨Qs,trivial⟩ (fun(x:ST×Int×Int×Bool×List Nd×List UInt8)=>True∧cA Eg [srd x.1 (xh x),.int .i64 (4:Int),.str x.2.2.2.2.2] fun x_1 y=>Ab (isG x_1.1.sg (xh x_1) x_1.2.2.2.2.2.1 x_1.2.2.2.2.2.2) (inR IntKind.i64 ((xh x_1).pos+(1:Int))∧rA Cb x [.bool true,.box 0 [sgs x_1.1.sg,.int .i64 ((xh x_1).pos+(1:Int)),.bool (xh x_1).bad,.int .i64 (xh x_1).deep,AZ (xh x_1).nodes],.top]) (rA Cb x [.bool false,srd x_1.1 (xh x_1),.top])) (fun x=>by kernel_rfl) fun(x:ST×Int×Int×Bool×List Nd×List UInt8) (hx:rOk x.1 (xh x))=>(by
 dsimp only[cA,Bx,AZ,rA,Eg,Cb,Df,sgs,srd,Aw,Az,mvL,lnL,mvE,lnE]
 obtain⟨s,p,d,b,ns,m⟩:=x;dsimp only[xg,xh] at hx ⊢
 have hx:rOk s ⟨p,d,b,ns⟩:=hx;have hs:=He hx;dsimp only at hs
 (repeat' first|(with_reducible first|rfl|exact True.intro|apply AK|apply And.intro|((first|apply AA|apply AI|apply AB|apply AJ)<;>intro _))|(apply Ax<;>intro _)|apply AH|refine Af () ?_ ?_|((first|apply AO|apply AN|apply AM|apply AL|apply AG|apply AF|apply AE|apply AD|apply AC)<;>try dsimp only)|apply Af|(refine Prod.forall.2 ?_;intro _;try dsimp only)|(intro _;try dsimp only))
 all_goals first
  |rfl
  |exact hx
  |omega
  |(simp [Au,Aq, *];done)
  |((try simp only[AQ]);omega)
  |skip)
def EY:Sig:= {X:=ST×Int×Int×Bool×List Nd×List UInt8,args:=fun x=>[srd x.1 (xh x),.str x.2.2.2.2.2],pre:=fun x=>rOk x.1 (xh x),Y:=Unit,post:=fun x y=>True,res:=fun x y=> .bool (isG x.1.sg (xh x) 1 x.2.2.2.2.2),outs:=fun x y=>[srd x.1 (BE x.1.sg (xh x) x.2.2.2.2.2),.top],keep:=true}
theorem XD:Al G Tryz.prog 60 EY:=
 vcFun_okP [(90,0,Eg)] [] false (fun x=>[]) Tryz.func60 rfl (by decide) ⟨Qs,trivial⟩ (fun(x:ST×Int×Int×Bool×List Nd×List UInt8)=>True∧cA Eg [srd x.1 (xh x),.int .i64 (1:Int),.str x.2.2.2.2.2] fun x_1 y=>Ab (isG x_1.1.sg (xh x_1) x_1.2.2.2.2.2.1 x_1.2.2.2.2.2.2) (inR IntKind.i64 ((xh x_1).pos+(1:Int))∧rA EY x [.bool true,.box 0 [sgs x_1.1.sg,.int .i64 ((xh x_1).pos+(1:Int)),.bool (xh x_1).bad,.int .i64 (xh x_1).deep,AZ (xh x_1).nodes],.top]) (rA EY x [.bool false,srd x_1.1 (xh x_1),.top])) (fun x=>by kernel_rfl) fun(x:ST×Int×Int×Bool×List Nd×List UInt8) (hx:rOk x.1 (xh x))=>(by
 dsimp only[cA,Bx,AZ,rA,Eg,EY,Df,sgs,srd,Aw,Az,mvL,lnL,mvE,lnE]
 obtain⟨s,p,d,b,ns,m⟩:=x;dsimp only[xg,xh] at hx ⊢
 have hx:rOk s ⟨p,d,b,ns⟩:=hx;have hs:=He hx;dsimp only at hs
 (repeat' first|(with_reducible first|rfl|exact True.intro|apply AK|apply And.intro|((first|apply AA|apply AI|apply AB|apply AJ)<;>intro _))|(apply Ax<;>intro _)|apply AH|refine Af () ?_ ?_|((first|apply AO|apply AN|apply AM|apply AL|apply AG|apply AF|apply AE|apply AD|apply AC)<;>try dsimp only)|apply Af|(refine Prod.forall.2 ?_;intro _;try dsimp only)|(intro _;try dsimp only))
 all_goals first
  |rfl
  |exact hx
  |omega
  |(simp [BE,Aq, *];done)
  |((try simp only[AQ]);omega)
  |skip)
def BO:Sig:= {X:=ST×Int×Int×Bool×List Nd×List UInt8,args:=fun x=>[srd x.1 (xh x),.str x.2.2.2.2.2],pre:=fun x=>rOk x.1 (xh x),Y:=Unit,post:=fun x y=>True,res:=fun x y=> .tup [],outs:=fun x y=>[srd x.1 (As x.1.sg (xh x) x.2.2.2.2.2),.top],keep:=true}
theorem Ix:Al G Tryz.prog 62 BO:=
 vcFun_okP [(63,0,Cb)] [] false (fun x=>[]) Tryz.func62 rfl (by decide) ⟨HQ,trivial⟩ (fun(x:ST×Int×Int×Bool×List Nd×List UInt8)=>True∧cA Cb [srd x.1 (xh x),.str x.2.2.2.2.2] fun x_1 y=>Ab (!isG x_1.1.sg (xh x_1) (4:Int) x_1.2.2.2.2.2) (rA BO x [.tup [],.box 0 [sgs x_1.1.sg,.int .i64 (Au x_1.1.sg (xh x_1) x_1.2.2.2.2.2).pos,.bool true,.int .i64 (Au x_1.1.sg (xh x_1) x_1.2.2.2.2.2).deep,AZ (Au x_1.1.sg (xh x_1) x_1.2.2.2.2.2).nodes],.top]) (rA BO x [.tup [],srd x_1.1 (Au x_1.1.sg (xh x_1) x_1.2.2.2.2.2),.top])) (fun x=>by kernel_rfl) fun(x:ST×Int×Int×Bool×List Nd×List UInt8) (hx:rOk x.1 (xh x))=>(by
 dsimp only[cA,Bx,AZ,rA,Cb,BO,Df,sgs,srd,Aw,Az,mvL,lnL,mvE,lnE]
 obtain⟨s,p,d,b,ns,m⟩:=x;dsimp only[xg,xh] at hx ⊢
 have hx:rOk s ⟨p,d,b,ns⟩:=hx;have hs:=He hx;dsimp only at hs
 (repeat' first|(with_reducible first|rfl|exact True.intro|apply AK|apply And.intro|((first|apply AA|apply AI|apply AB|apply AJ)<;>intro _))|(apply Ax<;>intro _)|apply AH|refine Af () ?_ ?_|((first|apply AO|apply AN|apply AM|apply AL|apply AG|apply AF|apply AE|apply AD|apply AC)<;>try dsimp only)|apply Af|(refine Prod.forall.2 ?_;intro _;try dsimp only)|(intro _;try dsimp only))
 all_goals first
  |rfl
  |exact hx
  |(simp [As,Au,Aq,Bt, *];done)
  |((try simp only[AQ]);omega)
  |skip)
def Eh:Sig:= {X:=ST×Int×Int×Bool×List Nd×Int,args:=fun x=>[srd x.1 (xh x),.int .i64 x.2.2.2.2.2],pre:=fun x=>rOk x.1 (xh x)∧x.2.2.2.2.2≠0,Y:=Unit,post:=fun x y=>True,res:=fun x y=> .bool (kdG x.1.sg (xh x) x.2.2.2.2.2),outs:=fun x y=>[srd x.1 (xh x),.top],keep:=true}
theorem Th:Al G Tryz.prog 58 Eh:=
 vcFun_okP [(89,0,Gp)] [] false (fun x=>[]) Tryz.func58 rfl (by decide) ⟨VI,trivial⟩ (fun(x:ST×Int×Int×Bool×List Nd×Int)=>True∧true=true∧true=true∧Ab (!(xh x).bad) (Ab (decide ((xh x).pos<(↑(List.length x.1.sg):Int))) (((0:Int)≤(xh x).pos∧(xh x).pos<(↑(List.length x.1.sg):Int))∧∀(e:Sg),x.1.sg[Int.toNat (xh x).pos]? =some e→Ab (e.kind==x.2.2.2.2.2) (Ab (x.2.2.2.2.2 != (1:Int)) (rA Eh x [.bool true,srd x.1 (xh x),.top]) (((0:Int)≤(xh x).pos∧(xh x).pos<(↑(List.length x.1.sg):Int))∧∀(e:Sg),x.1.sg[Int.toNat (xh x).pos]? =some e→∃(x_1:List UInt8),True∧e.text=x_1∧∃(y0:Unit),(∀(y:Unit),True→AV.bool (kw x_1)=AV.bool (kw x_1))∧true=true∧rA Eh x [.bool !kw x_1,srd x.1 (xh x),.top])) (rA Eh x [.bool false,srd x.1 (xh x),.top])) (rA Eh x [.bool false,srd x.1 (xh x),.top])) (rA Eh x [.bool false,srd x.1 (xh x),.top])) (fun x=>by kernel_rfl) fun(x:ST×Int×Int×Bool×List Nd×Int) (hx:rOk x.1 (xh x)∧x.2.2.2.2.2≠0)=>(by
 dsimp only[Bx,AZ,rA,Eh,Df,sgs,srd,Aw,Az]
 obtain⟨s,p,d,b,ns,k⟩:=x;dsimp only[xg,xh] at hx ⊢
 obtain⟨h1,h2⟩:=hx;have hs:=He h1;dsimp only at hs
 (repeat' first|(with_reducible first|rfl|exact True.intro|apply AK|apply And.intro|((first|apply AA|apply AI|apply AB|apply AJ)<;>intro _))|(apply Ax<;>intro _)|apply AH|refine Af () ?_ ?_|((first|apply AO|apply AN|apply AM|apply AL|apply AG|apply AF|apply AE|apply AD|apply AC)<;>try dsimp only)|apply Af|(refine Prod.forall.2 ?_;intro _;try dsimp only)|(intro _;try dsimp only))
 all_goals(try(repeat(rename s.sg[_]? =some _=>hq;revert hq;rename s.sg[_]? =some _=>hr;intro hq;rw[hr] at hq;cases hq)))
 all_goals first
  |rfl
  |exact(Ol h2 (.inl ‹_›)).symm
  |exact(Ol h2 (.inr (by simp only;omega))).symm
  |(rw[a5A ‹_› ‹_› (by simp only;omega)];simp [*];done)
  |((try simp only[AQ]);omega)
  |skip)
def CF:Sig:= {X:=ST×Int×Int×Bool×List Nd×Int,args:=fun x=>[srd x.1 (xh x),.int .i64 x.2.2.2.2.2],pre:=fun x=>rOk x.1 (xh x)∧x.2.2.2.2.2≠0,Y:=Unit,post:=fun x y=>True,res:=fun x y=> .str (BC x.1.sg (xh x) x.2.2.2.2.2),outs:=fun x y=>[srd x.1 (Bi x.1.sg (xh x) x.2.2.2.2.2),.top],keep:=true}
theorem KX:Al G Tryz.prog 59 CF:=
 vcFun_okP [(58,0,Eh)] [] false (fun x=>[]) Tryz.func59 rfl (by decide) ⟨Th,trivial⟩ (fun(x:ST×Int×Int×Bool×List Nd×Int)=>True∧cA Eh [srd x.1 (xh x),.int .i64 x.2.2.2.2.2] fun x_1 y=>Ab (!kdG x_1.1.sg (xh x_1) x_1.2.2.2.2.2) (rA CF x [.str #[].toList,.box 0 [sgs x_1.1.sg,.int .i64 (xh x_1).pos,.bool true,.int .i64 (xh x_1).deep,AZ (xh x_1).nodes],.top]) (inR IntKind.i64 ((xh x_1).pos+(1:Int))∧true=true∧true=true∧inR IntKind.i64 ((xh x_1).pos+(1:Int)-(1:Int))∧((0:Int)≤(xh x_1).pos+(1:Int)-(1:Int)∧(xh x_1).pos+(1:Int)-(1:Int)<(↑(List.length x_1.1.sg):Int))∧∀(e:Sg),x_1.1.sg[Int.toNat ((xh x_1).pos+(1:Int)-(1:Int))]? =some e→rA CF x [.str e.text,.box 0 [sgs x_1.1.sg,.int .i64 ((xh x_1).pos+(1:Int)),.bool (xh x_1).bad,.int .i64 (xh x_1).deep,AZ (xh x_1).nodes],.top])) (fun x=>by kernel_rfl) fun(x:ST×Int×Int×Bool×List Nd×Int) (hx:rOk x.1 (xh x)∧x.2.2.2.2.2≠0)=>(by
 dsimp only[cA,Bx,AZ,rA,Eh,CF,Df,sgs,srd,Aw,Az,mvL,lnL,mvE,lnE]
 obtain⟨s,p,d,b,ns,k⟩:=x;dsimp only[xg,xh] at hx ⊢
 obtain⟨h1,h2⟩:=hx;have hs:=He h1;dsimp only at hs
 (repeat' first|(with_reducible first|rfl|exact True.intro|apply AK|apply And.intro|((first|apply AA|apply AI|apply AB|apply AJ)<;>intro _))|(apply Ax<;>intro _)|apply AH|refine Af () ?_ ?_|((first|apply AO|apply AN|apply AM|apply AL|apply AG|apply AF|apply AE|apply AD|apply AC)<;>try dsimp only)|apply Af|(refine Prod.forall.2 ?_;intro _;try dsimp only)|(intro _;try dsimp only))
 all_goals first
  |rfl
  |exact h1
  |exact h2
  |(simp [Bi,BC,Aq,Bt, *];done)
  |exact b8V ‹_› h2 ‹_›
  |(have hl:=Tg h2 (show kdG _ _ _=true by assumption);dsimp only at hl;(try simp only[AQ]);omega)
  |((try simp only[AQ]);omega)
  |skip)
def Bq:Sig:= {X:=ST×Int×Int×Bool×List Nd×Int×List UInt8×List Int,args:=fun x=>[srd x.1 (xh x),.int .i64 x.2.2.2.2.2.1,.str x.2.2.2.2.2.2.1,Ad x.2.2.2.2.2.2.2],pre:=fun x=>rOk x.1 (xh x),Y:=Unit,post:=fun x y=>True,res:=fun x y=> .int .i64 (AW (xh x)),outs:=fun x y=>[srd x.1 (An (xh x) ⟨x.2.2.2.2.2.1,x.2.2.2.2.2.2.1,x.2.2.2.2.2.2.2,false⟩),.top,.top,.top],keep:=true}
theorem HR:Al G Tryz.prog 36 Bq:=
 vcFun_okP [] [(27,⟨Nd,ndA true⟩)] false (fun x=>[]) Tryz.func36 rfl (by decide) trivial (fun(x:ST×Int×Int×Bool×List Nd×Int×List UInt8×List Int)=>True∧Ab (xh x).bad (rA Bq x [.int .i64 (0:Int),.box 0 [sgs x.1.sg,.int .i64 (xh x).pos,.bool true,.int .i64 (xh x).deep,AZ (xh x).nodes],.top,.top,.top]) (Ab (decide ((↑(List.length (xh x).nodes):Int)≥(300:Int))) (rA Bq x [.int .i64 (0:Int),.box 0 [sgs x.1.sg,.int .i64 (xh x).pos,.bool true,.int .i64 (xh x).deep,AZ (xh x).nodes],.top,.top,.top]) (∃(x_1:Nd),x.2.2.2.2.2.1=x_1.kind∧x.2.2.2.2.2.2.1=x_1.text∧Ad x.2.2.2.2.2.2.2=Ad x_1.kids∧false=x_1.blank∧∃(zs:List Nd),AZ [x_1]=AZ zs∧Br (ndA true)∧Ba (List.length (xh x).nodes+List.length zs) (56:Nat)∧inR IntKind.i64 ((↑(List.length ((xh x).nodes++zs)):Int)-(1:Int))∧∃(y:Unit),True∧(↑(List.length ((xh x).nodes++zs)):Int)-(1:Int)=AW (xh x)∧sgs x.1.sg=sgs x.1.sg∧(xh x).pos=(An (xh x) {kind:=x.2.2.2.2.2.1,text:=x.2.2.2.2.2.2.1,kids:=x.2.2.2.2.2.2.2,blank:=false}).pos∧(xh x).bad=(An (xh x) {kind:=x.2.2.2.2.2.1,text:=x.2.2.2.2.2.2.1,kids:=x.2.2.2.2.2.2.2,blank:=false}).bad∧(xh x).deep=(An (xh x) {kind:=x.2.2.2.2.2.1,text:=x.2.2.2.2.2.2.1,kids:=x.2.2.2.2.2.2.2,blank:=false}).deep∧AZ ((xh x).nodes++zs)=AZ (An (xh x) {kind:=x.2.2.2.2.2.1,text:=x.2.2.2.2.2.2.1,kids:=x.2.2.2.2.2.2.2,blank:=false}).nodes∧True))) (fun x=>by kernel_rfl) fun(x:ST×Int×Int×Bool×List Nd×Int×List UInt8×List Int) (hx:rOk x.1 (xh x))=>(by
 dsimp only[Bx,Ad,AZ,rA,Bq,Df,sgs,srd,Aw,Az]
 obtain⟨s,p,d,b,ns,k,t,ks⟩:=x;dsimp only[xg,xh] at hx ⊢
 have hx:rOk s ⟨p,d,b,ns⟩:=hx;have hs:=He hx;dsimp only at hs
 (repeat' first|refine b3n ?_|(with_reducible first|rfl|exact True.intro|apply AK|apply And.intro|((first|apply AA|apply AI|apply AB|apply AJ)<;>intro _))|(apply Ax<;>intro _)|apply AH|refine Af () ?_ ?_|((first|apply AO|apply AN|apply AM|apply AL|apply AG|apply AF|apply AE|apply AD|apply AC)<;>try dsimp only)|apply Af|(refine Prod.forall.2 ?_;intro _;try dsimp only)|(intro _;try dsimp only))
 all_goals first
  |rfl
  |(simp [An,AW,DN,Bt, *];done)
  |(have hn:ns.length=300:=by omega
    simp [An,AW,DN,Bt, *];done)
  |(have hn:ns.length≠300:=by omega
    simp [An,AW,DN,Bt, *];done)
  |((try simp only[AQ,Ba,List.length_append,List.length_cons,List.length_nil]);omega)
  |skip)
def Gg:Sig:= {X:=ST×Int×Int×Bool×List Nd,args:=fun x=>[srd x.1 (xg x)],pre:=fun x=>rOk x.1 (xg x),Y:=Unit,post:=fun x y=>True,res:=fun x y=> .bool (blG x.1.sg (xg x)),outs:=fun x y=>[srd x.1 (xg x)],keep:=true}
theorem Ti:Al G Tryz.prog 33 Gg:=
 vcFun_okP [] [] false (fun x=>[]) Tryz.func33 rfl (by decide) trivial (fun(x:ST×Int×Int×Bool×List Nd)=>True∧true=true∧true=true∧Ab (decide ((xg x).pos<(↑(List.length x.1.sg):Int))) (((0:Int)≤(xg x).pos∧(xg x).pos<(↑(List.length x.1.sg):Int))∧∀(e:Sg),x.1.sg[Int.toNat (xg x).pos]? =some e→rA Gg x [.bool e.blank,srd x.1 (xg x)]) (rA Gg x [.bool false,srd x.1 (xg x)])) (fun x=>by kernel_rfl) fun(x:ST×Int×Int×Bool×List Nd) (hx:rOk x.1 (xg x))=>(by
 dsimp only[Bx,AZ,rA,Gg,Df,sgs,srd,Aw,Az]
 obtain⟨s,p,d,b,ns⟩:=x;dsimp only[xg,xh] at hx ⊢
 have hx:rOk s ⟨p,d,b,ns⟩:=hx;have hs:=He hx;dsimp only at hs
 (repeat' first|(with_reducible first|rfl|exact True.intro|apply AK|apply And.intro|((first|apply AA|apply AI|apply AB|apply AJ)<;>intro _))|(apply Ax<;>intro _)|apply AH|refine Af () ?_ ?_|((first|apply AO|apply AN|apply AM|apply AL|apply AG|apply AF|apply AE|apply AD|apply AC)<;>try dsimp only)|apply Af|(refine Prod.forall.2 ?_;intro _;try dsimp only)|(intro _;try dsimp only))
 all_goals first
  |rfl
  |(simp [blG,JK (show s.sg[_]? =some _ by assumption), *];done)
  |(simp [blG, *];done)
  |((try simp only[AQ]);omega)
  |skip)
def Er:Sig:= {X:=ST×Int×Int×Bool×List Nd×Int×Bool,args:=fun x=>[srd x.1 (xh x),.int .i64 x.2.2.2.2.2.1,.bool x.2.2.2.2.2.2],pre:=fun x=>rOk x.1 (xh x)∧((xh x).bad=false→0≤x.2.2.2.2.2.1),Y:=Unit,post:=fun x y=>True,res:=fun x y=> .tup [],outs:=fun x y=>[srd x.1 (gBl (xh x) x.2.2.2.2.2.1 x.2.2.2.2.2.2),.top,.top],keep:=true}
theorem Tj:Al G Tryz.prog 35 Er:=
 vcFun_okP [] [(27,⟨Nd,ndA true⟩)] false (fun x=>[]) Tryz.func35 rfl (by decide) trivial (fun(x:ST×Int×Int×Bool×List Nd×Int×Bool)=>True∧Ab (!(xh x).bad) (Ab (decide (x.2.2.2.2.2.1<(↑(List.length (xh x).nodes):Int))) (((0:Int)≤x.2.2.2.2.2.1∧x.2.2.2.2.2.1<(↑(List.length (xh x).nodes):Int))∧Int.toNat x.2.2.2.2.2.1<List.length (xh x).nodes∧∀(x_1:Nd),(xh x).nodes[Int.toNat x.2.2.2.2.2.1]? =some x_1→∃(x':Nd),([AV.int .i64 x'.kind,.str x'.text,Ad x'.kids]=[.int .i64 x_1.kind,.str x_1.text,Ad x_1.kids]∧(@List.nil AV)=[])∧x.2.2.2.2.2.2=x'.blank∧rA Er x [.tup [],.box 0 [sgs x.1.sg,.int .i64 (xh x).pos,.bool (xh x).bad,.int .i64 (xh x).deep,AZ (List.set (xh x).nodes (Int.toNat x.2.2.2.2.2.1) x')],.top,.top]) (rA Er x [.tup [],srd x.1 (xh x),.top,.top])) (rA Er x [.tup [],srd x.1 (xh x),.top,.top])) (fun x=>by kernel_rfl) fun(x:ST×Int×Int×Bool×List Nd×Int×Bool) (hx:rOk x.1 (xh x)∧((xh x).bad=false→0≤x.2.2.2.2.2.1))=>(by
 dsimp only[Bx,Ad,AZ,rA,Er,Df,sgs,srd,Aw,Az]
 obtain⟨s,p,d,b,ns,k,bl⟩:=x;dsimp only[xg,xh] at hx ⊢
 obtain⟨hx,hk⟩:=hx
 have hx:rOk s ⟨p,d,b,ns⟩:=hx;have hs:=He hx;dsimp only at hs
 (repeat' first|refine b8T ?_|(with_reducible first|rfl|exact True.intro|apply AK|apply And.intro|((first|apply AA|apply AI|apply AB|apply AJ)<;>intro _))|(apply Ax<;>intro _)|apply AH|refine Af () ?_ ?_|((first|apply AO|apply AN|apply AM|apply AL|apply AG|apply AF|apply AE|apply AD|apply AC)<;>try dsimp only)|apply Af|(refine Prod.forall.2 ?_;intro _;try dsimp only)|(intro _;try dsimp only))
 all_goals first
  |rfl
  |(simp [gBl, *];done)
  |exact b8U (g:=⟨p,d,b,ns⟩) ‹_› ‹_› ‹_›
  |(have hk2:=hk ‹_›;(try simp only[AQ]);omega)
  |((try simp only[AQ]);omega)
  |skip)
end Go.My
end
