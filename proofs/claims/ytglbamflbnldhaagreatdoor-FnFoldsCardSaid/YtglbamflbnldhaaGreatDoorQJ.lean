/- joined -/
import Derived.Test.YtglbamflbnldhaaGreatDoorQI
set_option linter.unusedSimpArgs false
set_option linter.unusedVariables false
section
namespace Go.My
open Go.Eng Go.Proofs
variable {G:GInv}
def CK{α:Type}(c:Be α):Prop:=∀ {L m p},c L m=some p→p.2.cells=m.cells
theorem KK{α:Type}{a:α}:CK (Fj a):=fun h=>by cases h;rfl
theorem KL{α β:Type}{c:Be α}{k:α→Be β}(hc:CK c)(hk:∀a,CK (k a)):CK (Ce c k):=fun h=>by
 obtain⟨r,h1,h2⟩:=Option.bind_eq_some_iff.1 h
 rw[hk _ h2,hc h1]
theorem Ob{α:Type}{a:α}{c:Be α}(hc:CK c):CK (Fk a c):=fun h=>by
 rw[Cu] at h;split at h
 ·exact hc h
 ·cases h;rfl
theorem FK{α:Type}{p:Prop}[Decidable p]{c d:Be α}(hc:CK c)(hd:CK d):CK (if p then c else d):=by split<;>assumption
theorem b4L{m:Ms}:(AU m).cells=m.cells:=by unfold AU;split<;>rfl
theorem Mv:CK IZ:=fun h=>by cases h;exact b4L
theorem a4i{V:Int→Be Int}{t:List UInt8}(hV:∀k,CK (V k)):∀ {l:List Int} {a:Int},CK (Ja V t l a)
 |[],_=>KK
 |_::_,_=>Ob (FK (KL (hV _) fun _=>a4i hV) KK)
theorem b4M{n:Int}:CK (NQ n):=FK KK Mv
theorem a4j{V:Int→Be Int}{t:List UInt8}(hV:∀k,CK (V k)):∀ {l:List Int} {a:Int},CK (Hc V t l a)
 |[],_=>KK
 |_::_,_=>Ob (KL (hV _) fun _=>Ob (KL b4M fun _=>a4j hV))
theorem a4k{V:Int→Be Int}(hV:∀k,CK (V k)):∀ {l az:List Int},CK (Ik V l az)
 |[],_=>KK
 |_::_,_=>Ob (KL (hV _) fun _=>a4k hV)
theorem b4N{V:Int→Be Int}{x:Nd}(hV:∀k,CK (V k)):CK (chU V x):=
 KL (hV _) fun a=>FK (a4i hV) (FK (FK Mv (KL (hV _) fun _=>KK)) (a4j hV))
theorem b4O{ns:List Nd}{B:Int→Be Unit}{t:List UInt8}{az:List Int}:CK (mcU ns B t az):=fun h=>by
 unfold mcU at h;split at h
 ·exact Mv h
 ·obtain⟨r,_,rfl⟩:=Option.map_eq_some_iff.1 h;rfl
theorem b4P{n:Int}:CK (prU n):=fun h=>by cases h;rfl
theorem b4Q{ns:List Nd}{V:Int→Be Int}{B:Int→Be Unit}{x:Nd}(hV:∀k,CK (V k)):CK (caU ns V B x):=
 FK Mv (KL (a4k hV) fun _=>Ob (FK b4P b4O))
theorem b4R{t:List UInt8}:CK (nmU t):=fun h=>by
 unfold nmU at h;split at h
 ·exact Mv h
 ·cases h;rfl
theorem b4S{ns:List Nd}{V:Int→Be Int}{B:Int→Be Unit}{k:Int}(hV:∀k,CK (V k)):CK (vaU ns V B k):=
 Ob (FK (FK Mv KK) (FK b4R (FK (hV _) (FK (b4N hV) (FK (KL (hV _) fun _=>FK (hV _) (hV _)) (FK (b4Q hV) Mv))))))
theorem Xh{ns:List Nd}:∀(n:Nat) (k:Int),CK ((eu ns n).val k)
 |0,_=>fun h=>by cases h
 |n+1,_=>b4S (Xh n)
theorem b4T{ns:List Nd}{n:Nat}{x:Nd}:CK (JE (eu ns n).val x):=FK KK (Xh n _)
def soP(n:Nat)(s:ZS)(m:Ms)(x:Nd):Prop:=((zB s∧uOk m)∧5159780352≤pot (mc m))∧((∀c∈x.kids,kOk s.ns (mc m) n c)∧x.kids.length≤12)
abbrev soQ (n:Nat) (s:ZS) (m:Ms) (x:Nd) (y:Int×Ms):Prop:=cQu (JE (eu s.ns n).val x) s m 5159780352 y
theorem b4U{n:Nat}{s:ZS}{m:Ms}{x:Nd}(hp:soP n s m x)(h:(x.kids.length:Int)=0):soQ n s m x (0,m):=by
 refine⟨⟨?_,Hf⟩,EB (Mo hp.1.1.2) (by omega)⟩
 rw[JE,if_pos (by omega)];rfl
theorem Xi{n:Nat}{s:ZS}{m:Ms}{x:Nd}{c:Int}(hp:soP n s m x)(hc:x.kids[0]? =some c):vPu n s m c:=by
 have hk:=hp.2.1 c (BJ hc)
 exact⟨hp.1.1,hk,by have:=a1X hk;have:=hp.1.2;omega⟩
theorem v_g{n:Nat}{s:ZS}{m:Ms}{x:Nd}{c:Int}{y:Int×Ms}(hp:soP n s m x)(hc:x.kids[0]? =some c)(hv:vQu n s m c y):Dq m y.2 5159780352:=EB hv.2 (a1X (hp.2.1 c (BJ hc)))
theorem b4V{n:Nat}{s:ZS}{m:Ms}{x:Nd}{c:Int}{y:Int×Ms}(hp:soP n s m x)(h:¬(x.kids.length:Int)=0)(hc:x.kids[0]? =some c)(hv:vQu n s m c y):soQ n s m x y:=by
 refine⟨⟨?_,hv.1.2⟩,v_g hp hc hv⟩
 rw[JE,if_neg (by omega),EV hc];exact hv.1.1
def lPu(n:Nat)(s:ZS)(m:Ms)(x:Nd):Prop:=soP n s m x∧x.kids.length=2
def lQu(n:Nat)(s:ZS)(m:Ms)(x:Nd)(y:Ms):Prop:=whU (eu s.ns n).val (eu s.ns n).blk x 1002 s.L m=some ((),y)∧Dq m y 5159780352
def wuI(n:Nat)(s:ZS)(m0:Ms)(x:Nd)(N:Nat)(m:Ms):Prop:=((whU (eu s.ns n).val (eu s.ns n).blk x 1002 s.L m0=whU (eu s.ns n).val (eu s.ns n).blk x N s.L m∧1002≤N+m.steps)∧x.kids.length=2)∧(Dq m0 m 0∧5159780352≤pot (mc m))
theorem Xj{α β:Type}{c:Be α}{k:α→Be β}{L:Int}{m:Ms}:Ce c k L m=(c L m).bind fun p=>k p.1 L p.2:=rfl
theorem a4l{V:Int→Be Int}{B:Int→Be Unit}{x:Nd}{N:Nat}{L:Int}{m:Ms}:whU V B x (N+1) L m=if m.code=0∧m.done=false then Ce (V (Bu x 0)) (fun n L m=>if n=0∨m.code≠0 then some ((),m) else Ce (B (Bu x 1)) (fun _ L m=>if m.done=true∨(Bm L m).code≠0 then some ((),if m.done=true then m else Bm L m) else whU V B x N L (Bm L m)) L m) L m else some ((),m):=rfl
theorem b4W{n:Nat}{s:ZS}{m:Ms}{x:Nd}(hp:lPu n s m x):wuI n s m x 1002 m:=⟨⟨⟨rfl,by have h:=hp.1.1.1.2.1.1.1;simp only[mc] at h;omega⟩,hp.2⟩,Mo hp.1.1.1.2,hp.1.1.2⟩
theorem Qd{n:Nat}{s:ZS}{m0 m:Ms}{x:Nd}{N:Nat}(h:wuI n s m0 x N m):∃M,N=M+1:=by
 have h1:=h.1.1.2;have h2:=h.2.1.2.1.1.1;simp only[mc] at h2
 exact⟨N-1,by omega⟩
theorem a4m{n:Nat}{s:ZS}{m0 m:Ms}{x:Nd}{N:Nat}(h:wuI n s m0 x N m)(hx:¬m.code=0∨m.done=true):lQu n s m0 x m:=by
 obtain⟨M,rfl⟩:=Qd h
 refine⟨?_,EB h.2.1 (by omega)⟩
 rw[h.1.1.1,a4l,if_neg]
 rintro⟨h1,h2⟩
 rcases hx with hx|hx
 ·exact hx h1
 ·rw[hx] at h2;cases h2
theorem Qe{n:Nat}{s:ZS}{m0 m:Ms}{x:Nd}{N:Nat}(hp:lPu n s m0 x)(h:wuI n s m0 x N m):soP n s m x:=
 ⟨⟨⟨hp.1.1.1.1,h.2.1.2⟩,h.2.2⟩,fun c hc=>NP (hp.1.2.1 c hc) h.2.1.1.1.2,hp.1.2.2⟩
theorem b4X{n:Nat}{s:ZS}{m0 m:Ms}{x:Nd}{N:Nat}{c:Int}(hp:lPu n s m0 x)(h:wuI n s m0 x N m)(hc:x.kids[0]? =some c):vPu n s m c:=Xi (Qe hp h) hc
theorem a4n{n:Nat}{s:ZS}{m0 m:Ms}{x:Nd}{M:Nat}{c:Int}{y:Int×Ms}(h:wuI n s m0 x (M+1) m)(hq:m.code=0)(hd:m.done=false)(hc:x.kids[0]? =some c)(hv:vQu n s m c y):
 whU (eu s.ns n).val (eu s.ns n).blk x 1002 s.L m0=if y.1=0∨y.2.code≠0 then some ((),y.2) else Ce ((eu s.ns n).blk (Bu x 1)) (fun _ L m=>if m.done=true∨(Bm L m).code≠0 then some ((),if m.done=true then m else Bm L m) else whU (eu s.ns n).val (eu s.ns n).blk x M L (Bm L m)) s.L y.2:=by
 rw[h.1.1.1,a4l,if_pos ⟨hq,hd⟩,Xj,EV hc,hv.1.1];rfl
theorem a4o{n:Nat}{s:ZS}{m0 m:Ms}{x:Nd}{N:Nat}{c:Int}{y:Int×Ms}(hp:lPu n s m0 x)(h:wuI n s m0 x N m)(hq:m.code=0)(hd:m.done=false)(hc:x.kids[0]? =some c)(hv:vQu n s m c y)(hx:y.1=0∨¬y.2.code=0):lQu n s m0 x y.2:=by
 obtain⟨M,rfl⟩:=Qd h
 refine⟨?_,EB (GC h.2.1 (v_g (Qe hp h) hc hv)) (by omega)⟩
 rw[a4n h hq hd hc hv,if_pos hx]
theorem a4p{n:Nat}{s:ZS}{m:Ms}{x:Nd}{c d:Int}{i:Nat}{y:Int×Ms}(hp:soP n s m x)(hv:Dq m y.2 5159780352)(hd:x.kids[i]? =some d):bPu n s y.2 d:=by
 have hk:=NP (hp.2.1 d (BJ hd)) hv.1.1.2
 exact⟨⟨hp.1.1.1,hv.2⟩,⟨hk.1.1,by have:=hk.1.2;omega⟩,hk.2⟩
theorem b4Y{n:Nat}{s:ZS}{m0 m:Ms}{x:Nd}{N:Nat}{c d:Int}{y:Int×Ms}(hp:lPu n s m0 x)(h:wuI n s m0 x N m)(hc:x.kids[0]? =some c)(hv:vQu n s m c y)(hd:x.kids[1]? =some d):bPu n s y.2 d:=a4p (c:=c) (Qe hp h) (v_g (Qe hp h) hc hv) hd
theorem Xk{n:Nat}{s:ZS}{m0 m z:Ms}{x:Nd}{M:Nat}{c d:Int}{y:Int×Ms}(h:wuI n s m0 x (M+1) m)(hq:m.code=0)(hd:m.done=false)(hc:x.kids[0]? =some c)(hv:vQu n s m c y)(hn:¬y.1=0)(hq2:y.2.code=0)(hd1:x.kids[1]? =some d)(hz:bQu n s y.2 d z):
 whU (eu s.ns n).val (eu s.ns n).blk x 1002 s.L m0=if z.done=true∨(Bm s.L z).code≠0 then some ((),if z.done=true then z else Bm s.L z) else whU (eu s.ns n).val (eu s.ns n).blk x M s.L (Bm s.L z):=by
 rw[a4n h hq hd hc hv,if_neg (by rintro(e|e);exact hn e;exact e hq2),Xj,EV hd1,hz.1];rfl
theorem Xl{n:Nat}{s:ZS}{m0 m z:Ms}{x:Nd}{N:Nat}{c d:Int}{y:Int×Ms}(hp:lPu n s m0 x)(h:wuI n s m0 x N m)(hc:x.kids[0]? =some c)(hv:vQu n s m c y)(hz:bQu n s y.2 d z):Dq m0 z 5159780352:=EB (GC (GC h.2.1 (v_g (Qe hp h) hc hv)) hz.2) (by omega)
theorem Xm{L:Int}{m:Ms}(h:uOk m)(hL:L≤1000):Dq m (Bm L m) 0:=by
 have hc:(Bm L m).cells=m.cells∧(Bm L m).ret=m.ret:=by
  unfold Bm;split
  ·split<;>exact⟨rfl,rfl⟩
  ·exact⟨rfl,rfl⟩
 have g:El (mc m) (mc (Bm L m)) 0:=by
  rw[b3u]
  generalize hM:mc m=M
  have hm:mOk M:=hM▸h.1
  unfold RW;split
  ·split
   ·exact⟨⟨hm,rfl⟩,Int.le_refl _,by simp only[pot];omega⟩
   ·have h1:=hm.1;have h2:=hm.2
    unfold pot at h2
    exact⟨⟨⟨by simp only;omega,by simp only[pot];omega⟩,rfl⟩,by simp only;omega,by simp only[pot];omega⟩
  ·exact Wl hm
 exact⟨g,g.1.1,by rw[hc.1];exact WK h.2.1 g.2.1,by rw[hc.2];exact h.2.2⟩
theorem a4q{L:Int}{m:Ms}(h:uOk m)(hL:L≤1000)(hq:(Bm L m).code=0):(Dq m (Bm L m) (-5159780352)∧(Bm L m).steps=m.steps+1)∧((Bm L m).cells=m.cells∧5159780352≤pot (mc (Bm L m))):=by
 have g0:=Xm h hL
 unfold Bm at hq g0 ⊢
 split
 ·rename_i h0
  rw[if_pos h0] at hq g0
  split
  ·rename_i h3;rw[if_pos h3] at hq;cases hq
  ·rename_i h3;rw[if_neg h3] at g0
   have h1:=h.1.1;have h2:=h.1.2
   refine⟨⟨⟨⟨g0.1.1,g0.1.2.1,?_⟩,g0.2⟩,rfl⟩,rfl,?_⟩
   ·simp only[pot,mc] at*;omega
   ·simp only[pot,mc] at*;omega
 ·rename_i h0;rw[if_neg h0] at hq;exact absurd hq h0
theorem b4Z{n:Nat}{s:ZS}{m0 m z:Ms}{x:Nd}{N:Nat}{c d:Int}{y:Int×Ms}(hp:lPu n s m0 x)(h:wuI n s m0 x N m)(hq:m.code=0)(hd:m.done=false)(hc:x.kids[0]? =some c)(hv:vQu n s m c y)(hn:¬y.1=0)(hq2:y.2.code=0)(hd1:x.kids[1]? =some d)(hz:bQu n s y.2 d z)(hx:z.done=true):lQu n s m0 x z:=by
 obtain⟨M,rfl⟩:=Qd h
 refine⟨?_,Xl hp h hc hv hz⟩
 rw[Xk h hq hd hc hv hn hq2 hd1 hz,if_pos (.inl hx),if_pos hx]
theorem b5a{n:Nat}{s:ZS}{m0 m z:Ms}{x:Nd}{N:Nat}{c d:Int}{y:Int×Ms}(hp:lPu n s m0 x)(h:wuI n s m0 x N m)(hq:m.code=0)(hd:m.done=false)(hc:x.kids[0]? =some c)(hv:vQu n s m c y)(hn:¬y.1=0)(hq2:y.2.code=0)(hd1:x.kids[1]? =some d)(hz:bQu n s y.2 d z)(hx:z.done=false)(hs:¬(Bm s.L z).code=0):lQu n s m0 x (Bm s.L z):=by
 obtain⟨M,rfl⟩:=Qd h
 refine⟨?_,EB (GC (Xl hp h hc hv hz) (Xm hz.2.2 hp.1.1.1.1.2)) (by omega)⟩
 rw[Xk h hq hd hc hv hn hq2 hd1 hz,if_pos (.inr hs),if_neg (by simp [hx])]
theorem a4r{n:Nat}{s:ZS}{m0 m z:Ms}{x:Nd}{N:Nat}{c d:Int}{y:Int×Ms}(hp:lPu n s m0 x)(h:wuI n s m0 x N m)(hq:m.code=0)(hd:m.done=false)(hc:x.kids[0]? =some c)(hv:vQu n s m c y)(hn:¬y.1=0)(hq2:y.2.code=0)(hd1:x.kids[1]? =some d)(hz:bQu n s y.2 d z)(hx:z.done=false)(hs:(Bm s.L z).code=0):wuI n s m0 x (N-1) (Bm s.L z)∧N-1<N:=by
 obtain⟨M,rfl⟩:=Qd h
 obtain⟨⟨g,gs⟩,_,gp⟩:=a4q hz.2.2 hp.1.1.1.1.2 hs
 have g2:=GC (Xl hp h hc hv hz) g
 refine⟨⟨⟨⟨?_,?_⟩,h.1.2⟩,EB g2 (by omega),gp⟩,by omega⟩
 ·rw[Xk h hq hd hc hv hn hq2 hd1 hz,if_neg (by rintro(e|e);rw[hx] at e;cases e;exact e hs)];rfl
 ·have h1:=h.1.1.2;have h2:=hv.2.1.2.1;have h3:=hz.2.1.2.1;simp only[mc] at h2 h3;omega
theorem b5b{n:Nat}{s:ZS}{m0 m:Ms}{x:Nd}{N:Nat}(h:wuI n s m0 x N m):x.kids.length=2:=h.1.2
theorem a4s{n:Nat}{s:ZS}{m y:Ms}{k:Int}(h:bQu n s m k y):0≤y.steps∧y.steps≤2^40:=by have h1:=h.2.2.1.1.1;simp only[mc] at h1;omega
attribute [local irreducible] vPu vQu cQu bPu bQu lQu wuI
def KM(n:Nat):Sig:= {X:=ZX Nd,args:=fun x=>[usA x.1 (uh x),.agg (ndA false (zl x))],pre:=fun x=>soP n x.1 (uh x) (zl x),Y:=Int×UY,post:=fun x y=>soQ n x.1 (uh x) (zl x) (yw y),res:=fun x y=> .int .i64 y.1,outs:=fun x y=>[usA x.1 (yu y.2),.top],keep:=true}
theorem b5c(n:Nat)(h:uAll G n):Al G Tryz.prog 121 (KM n):=
 vcFun_okP [(122,0,(Di n))] [] false (fun x=>[]) Tryz.func121 rfl (by decide) ⟨h.val,trivial⟩ (fun(x:ZX Nd)=>True∧Ab ((↑(List.length (zl x).kids):Int)==(0:Int)) (rA (KM n) x [.int .i64 (0:Int),.box 0 [nds x.1.ns,AV.sl false 0 2 (List UInt8×Int) Ai (uh x).cells,Ad (uh x).out,.int .i64 (uh x).code,.int .i64 (uh x).steps,.int .i64 x.1.L,.int .i64 (uh x).deep,.bool (uh x).done,.int .i64 (uh x).ret],.top]) (((0:Int)≤(0:Int)∧(0:Int)<(↑(List.length (zl x).kids):Int))∧∀(e:Int),(zl x).kids[(0:Nat)]? =some e→cA (Di n) [.box 0 [nds x.1.ns,AV.sl false 0 2 (List UInt8×Int) Ai (uh x).cells,Ad (uh x).out,.int .i64 (uh x).code,.int .i64 (uh x).steps,.int .i64 x.1.L,.int .i64 (uh x).deep,.bool (uh x).done,.int .i64 (uh x).ret],.int .i64 e] fun x_1 y=>rA (KM n) x [.int .i64 y.1,.box 0 [nds x_1.1.ns,AV.sl false 0 2 (List UInt8×Int) Ai (yu y.2).cells,Ad (yu y.2).out,.int .i64 (yu y.2).code,.int .i64 (yu y.2).steps,.int .i64 x_1.1.L,.int .i64 (yu y.2).deep,.bool (yu y.2).done,.int .i64 (yu y.2).ret],.top])) (fun x=>by kernel_rfl) fun(x:ZX Nd) (hx:soP n x.1 (uh x) (zl x))=>(by
 dsimp only[cA,Ai,cls,Bx,nds,Ad,rA,KM,Di,usA,Aw,Az,mvL,lnL,mvE,lnE]
 obtain⟨s,o,c,t,d,cs,en,re,z⟩:=x;dsimp only[uh,zl] at hx ⊢
 have hx:soP n s ⟨o,c,t,d,cs,en,re⟩ z:=hx
 (repeat' first|(with_reducible first|rfl|exact True.intro|apply AK|apply And.intro|((first|apply AA|apply AI|apply AB|apply AJ)<;>intro _))|(apply Ax<;>intro _)|apply AH|refine Af () ?_ ?_|((first|apply AO|apply AN|apply AM|apply AL|apply AG|apply AF|apply AE|apply AD|apply AC)<;>try dsimp only)|apply Af|(refine Prod.forall.2 ?_;intro _;try dsimp only)|(intro _;try dsimp only))
 all_goals first
  |rfl
  |exact b4U hx ‹_›
  |exact Xi hx ‹_›
  |exact b4V hx ‹_› ‹_› ‹_›
  |omega
  |skip)
def Iu(n:Nat):Sig:= {X:=ZX Nd,args:=fun x=>[usA x.1 (uh x),.agg (ndA false (zl x))],pre:=fun x=>lPu n x.1 (uh x) (zl x),Y:=UY,post:=fun x y=>lQu n x.1 (uh x) (zl x) (yu y),res:=fun x y=> .tup [],outs:=fun x y=>[usA x.1 (yu y),.top],keep:=true}
def SJ(n:Nat)(x:ZX Nd):LS:= {ι:=Nat×UY,inv:=fun i=>wuI n x.1 (uh x) (zl x) i.1 (yu i.2),regs:=fun i=>[(0,usA x.1 (yu i.2)),(3,.box 0 (ndA false (zl x)))],als:=[],meas:=fun i=>i.1}
theorem b5d(n:Nat)(h:uAll G n):Al G Tryz.prog 124 (Iu n):=
 vcFun_okP [(122,0,(Di n)),(74,0,(HM n)),(120,0,Hg)] [] false (fun x=>[(1,SJ n x)]) Tryz.func124 rfl (by decide) ⟨h.val,h.blk,a3Q,trivial⟩ (fun(x:ZX Nd)=>True∧eA (SJ n x) [.box 0 [nds x.1.ns,AV.sl false 0 2 (List UInt8×Int) Ai (uh x).cells,Ad (uh x).out,.int .i64 (uh x).code,.int .i64 (uh x).steps,.int .i64 x.1.L,.int .i64 (uh x).deep,.bool (uh x).done,.int .i64 (uh x).ret],.box 0 [.int .i64 (zl x).kind,.str (zl x).text,Ag (zl x).kids,.bool (zl x).blank]]∧∀(i:Nat×UY),wuI n x.1 (uh x) (zl x) i.1 (yu i.2)→Ab ((yu i.2).code==(0:Int)) (Ab (!(yu i.2).done) (((0:Int)≤(0:Int)∧(0:Int)<(↑(List.length (zl x).kids):Int))∧∀(e:Int),(zl x).kids[(0:Nat)]? =some e→cA (Di n) [.box 0 [nds x.1.ns,AV.sl false 0 2 (List UInt8×Int) Ai (yu i.2).cells,Ad (yu i.2).out,.int .i64 (yu i.2).code,.int .i64 (yu i.2).steps,.int .i64 x.1.L,.int .i64 (yu i.2).deep,.bool (yu i.2).done,.int .i64 (yu i.2).ret],.int .i64 e] fun x_1 y=>Ab (y.1==(0:Int)) (rA (Iu n) x [.tup [],.box 0 [nds x_1.1.ns,AV.sl false 0 2 (List UInt8×Int) Ai (yu y.2).cells,Ad (yu y.2).out,.int .i64 (yu y.2).code,.int .i64 (yu y.2).steps,.int .i64 x_1.1.L,.int .i64 (yu y.2).deep,.bool (yu y.2).done,.int .i64 (yu y.2).ret],.top]) (Ab ((yu y.2).code != (0:Int)) (rA (Iu n) x [.tup [],.box 0 [nds x_1.1.ns,AV.sl false 0 2 (List UInt8×Int) Ai (yu y.2).cells,Ad (yu y.2).out,.int .i64 (yu y.2).code,.int .i64 (yu y.2).steps,.int .i64 x_1.1.L,.int .i64 (yu y.2).deep,.bool (yu y.2).done,.int .i64 (yu y.2).ret],.top]) (((0:Int)≤(1:Int)∧(1:Int)<(↑(List.length (zl x).kids):Int))∧∀(e:Int),(zl x).kids[(1:Nat)]? =some e→cA (HM n) [.box 0 [nds x_1.1.ns,AV.sl false 0 2 (List UInt8×Int) Ai (yu y.2).cells,Ad (yu y.2).out,.int .i64 (yu y.2).code,.int .i64 (yu y.2).steps,.int .i64 x_1.1.L,.int .i64 (yu y.2).deep,.bool (yu y.2).done,.int .i64 (yu y.2).ret],.int .i64 e] fun x_2 y=>Ab (yu y).done (rA (Iu n) x [.tup [],.box 0 [nds x_2.1.ns,AV.sl false 0 2 (List UInt8×Int) Ai (yu y).cells,Ad (yu y).out,.int .i64 (yu y).code,.int .i64 (yu y).steps,.int .i64 x_2.1.L,.int .i64 (yu y).deep,.bool (yu y).done,.int .i64 (yu y).ret],.top]) (cA Hg [.box 0 [nds x_2.1.ns,AV.sl false 0 2 (List UInt8×Int) Ai (yu y).cells,Ad (yu y).out,.int .i64 (yu y).code,.int .i64 (yu y).steps,.int .i64 x_2.1.L,.int .i64 (yu y).deep,.bool (yu y).done,.int .i64 (yu y).ret]] fun x_3 y=>Ab (!decide ((Bm x_3.1.L (uh x_3)).code=(0:Int))) (rA (Iu n) x [.tup [],.box 0 [nds x_3.1.ns,AV.sl false 0 2 (List UInt8×Int) Ai (Bm x_3.1.L (uh x_3)).cells,Ad (Bm x_3.1.L (uh x_3)).out,.int .i64 (Bm x_3.1.L (uh x_3)).code,.int .i64 (Bm x_3.1.L (uh x_3)).steps,.int .i64 x_3.1.L,.int .i64 (Bm x_3.1.L (uh x_3)).deep,.bool (Bm x_3.1.L (uh x_3)).done,.int .i64 (Bm x_3.1.L (uh x_3)).ret],.top]) (eN (SJ n x) i [.box 0 [nds x_3.1.ns,AV.sl false 0 2 (List UInt8×Int) Ai (Bm x_3.1.L (uh x_3)).cells,Ad (Bm x_3.1.L (uh x_3)).out,.int .i64 (Bm x_3.1.L (uh x_3)).code,.int .i64 (Bm x_3.1.L (uh x_3)).steps,.int .i64 x_3.1.L,.int .i64 (Bm x_3.1.L (uh x_3)).deep,.bool (Bm x_3.1.L (uh x_3)).done,.int .i64 (Bm x_3.1.L (uh x_3)).ret],.box 0 [.int .i64 (zl x).kind,.str (zl x).text,Ag (zl x).kids,.bool (zl x).blank]]))))) (rA (Iu n) x [.tup [],.box 0 [nds x.1.ns,AV.sl false 0 2 (List UInt8×Int) Ai (yu i.2).cells,Ad (yu i.2).out,.int .i64 (yu i.2).code,.int .i64 (yu i.2).steps,.int .i64 x.1.L,.int .i64 (yu i.2).deep,.bool (yu i.2).done,.int .i64 (yu i.2).ret],.top])) (rA (Iu n) x [.tup [],.box 0 [nds x.1.ns,AV.sl false 0 2 (List UInt8×Int) Ai (yu i.2).cells,Ad (yu i.2).out,.int .i64 (yu i.2).code,.int .i64 (yu i.2).steps,.int .i64 x.1.L,.int .i64 (yu i.2).deep,.bool (yu i.2).done,.int .i64 (yu i.2).ret],.top])) (fun x=>by kernel_rfl) fun(x:ZX Nd) (hx:lPu n x.1 (uh x) (zl x))=>(by
 dsimp only[cA,Ai,cls,eA,eN,SJ,Ag,Bx,nds,Ad,rA,HM,Iu,Hg,Di,usA,Aw,Az,mvL,lnL,mvE,lnE,Bv]
 obtain⟨s,o,c,t,d,cs,en,re,z⟩:=x;dsimp only[uh,zl] at hx ⊢
 have hx:lPu n s ⟨o,c,t,d,cs,en,re⟩ z:=hx
 (repeat' first|(with_reducible first|rfl|exact True.intro|apply AK|apply And.intro|((first|apply AA|apply AI|apply AB|apply AJ)<;>intro _))|(apply Ax<;>intro _)|apply AH|refine Af () ?_ ?_|((first|apply AO|apply AN|apply AM|apply AL|apply AG|apply AF|apply AE|apply AD|apply AC)<;>try dsimp only)|apply Af|(refine Prod.forall.2 ?_;intro _;try dsimp only)|(intro _;try dsimp only))
 all_goals first|(show Nat;skip)|(simp only[KH,decide_eq_true_eq,decide_eq_false_iff_not] at*)|skip
 all_goals first|(show Nat;skip)|(have hB:=b5b (show wuI _ _ _ _ _ _ by assumption))|skip
 all_goals first
  |(show Nat;skip)
  |rfl
  |exact()
  |exact b4W hx
  |exact a4m ‹_› (.inl ‹_›)
  |exact a4m ‹_› (.inr ‹_›)
  |exact b4X hx ‹_› ‹_›
  |exact a4o hx ‹_› ‹_› ‹_› ‹_› ‹_› (.inl ‹_›)
  |exact a4o hx ‹_› ‹_› ‹_› ‹_› ‹_› (.inr ‹_›)
  |exact b4Y hx ‹_› (show z.kids[0]? =some _ by assumption) ‹_› ‹_›
  |exact b4Z hx ‹_› ‹_› ‹_› (show z.kids[0]? =some _ by assumption) ‹_› ‹_› (by omega) (show z.kids[1]? =some _ by assumption) ‹_› ‹_›
  |exact b5a hx ‹_› ‹_› ‹_› (show z.kids[0]? =some _ by assumption) ‹_› ‹_› (by omega) (show z.kids[1]? =some _ by assumption) ‹_› ‹_› ‹_›
  |exact(a4r hx ‹_› ‹_› ‹_› (show z.kids[0]? =some _ by assumption) ‹_› ‹_› (by omega) (show z.kids[1]? =some _ by assumption) ‹_› ‹_› ‹_›).1
  |exact(a4s ‹_›).1
  |exact(a4s ‹_›).2
  |((try simp only[AQ]);omega)
  |skip
 all_goals first
  |exact(a4r hx ‹_› ‹_› ‹_› (show z.kids[0]? =some _ by assumption) ‹_› ‹_› (by omega) (show z.kids[1]? =some _ by assumption) ‹_› ‹_› ‹_›).2
  |skip)
end Go.My
end
section
namespace Go.My
open Go.Eng Go.Proofs
variable {G:GInv}
def kfU(x:Nd):Prop:=(x.kind=13∨x.kind=14→1≤x.kids.length)∧((x.kind=16→2≤x.kids.length)∧(x.kind=17→x.kids.length=2))
def sPu(n:Nat)(s:ZS)(m:Ms)(x:Nd):Prop:=(zB s∧uOk m)∧(((∀c∈x.kids,kOk s.ns (mc m) n c)∧x.kids.length≤12)∧kfU x)
def sQu(n:Nat)(s:ZS)(m:Ms)(x:Nd)(y:Ms):Prop:=stU (eu s.ns n).val (eu s.ns n).blk x s.L m=some ((),y)∧Dq m y 0
def sg(n:Nat)(s:ZS)(m:Ms)(x:Nd)(M:Ms):Prop:=((sPu n s m x∧soP n s M x)∧(stU (eu s.ns n).val (eu s.ns n).blk x s.L m=acU (eu s.ns n).val (eu s.ns n).blk x s.L M∧Dq m M (-5159780352)))∧(M.cells.length:Int)+1≤20+M.steps
theorem b5e{n:Nat}{s:ZS}{m:Ms}{x:Nd}(hp:sPu n s m x)(hk:¬x.kind=19)(hs:(Bm s.L m).code=0):sg n s m x (Bm s.L m):=by
 obtain⟨⟨g,gs⟩,gc,gp⟩:=a4q hp.1.2 hp.1.1.2 hs
 refine⟨⟨⟨hp,⟨⟨hp.1.1,g.2⟩,gp⟩,fun c hc=>NP (hp.2.1.1 c hc) g.1.1.2,hp.2.1.2⟩,?_,g⟩,?_⟩
 ·rw[stU,if_neg hk,if_neg (fun e=>e hs)]
 ·rw[gc,gs];have h1:=hp.1.2.2.1.2;simp only[mc] at h1;omega
theorem b5f{n:Nat}{s:ZS}{m:Ms}{x:Nd}(hp:sPu n s m x)(hk:x.kind=19):sQu n s m x m:=⟨by rw[stU,if_pos hk],Mo hp.1.2⟩
theorem b5g{n:Nat}{s:ZS}{m:Ms}{x:Nd}(hp:sPu n s m x)(hk:¬x.kind=19)(hs:¬(Bm s.L m).code=0):sQu n s m x (Bm s.L m):=⟨by rw[stU,if_neg hk,if_pos hs],Xm hp.1.2 hp.1.1.2⟩
theorem GD{n:Nat}{s:ZS}{m M y:Ms}{x:Nd}(h:sg n s m x M)(e:acU (eu s.ns n).val (eu s.ns n).blk x s.L M=some ((),y))(g:Dq M y 5159780352):sQu n s m x y:=
 ⟨by rw[h.1.2.1];exact e,EB (GC h.1.2.2 g) (by omega)⟩
theorem Oc{n:Nat}{s:ZS}{m M:Ms}{x:Nd}(h:sg n s m x M):soP n s M x:=h.1.1.2
theorem b5h{n:Nat}{s:ZS}{m M:Ms}{x:Nd}{c:Int}(h:sg n s m x M)(hc:x.kids[0]? =some c):vPu n s M c:=Xi (Oc h) hc
theorem a4t{n:Nat}{s:ZS}{m M:Ms}{x:Nd}(h:sg n s m x M):(x.kind=13∨x.kind=14→1≤x.kids.length)∧((x.kind=16→2≤x.kids.length)∧(x.kind=17→x.kids.length=2)):=h.1.1.1.2.2
theorem a4u{m y:Ms}{t:List UInt8}{v e:Int}(g:Dq m y e)(hc:y.cells=m.cells)(hl:(m.cells.length:Int)+1≤20+m.steps)(hv:bdd v):Dq m ⟨y.out,y.code,y.steps,y.deep,Cs y.cells t v,y.done,y.ret⟩ e:=by
 refine⟨g.1,g.2.1,⟨WS hv g.2.2.1.1,?_⟩,g.2.2.2⟩
 have h1:= @WR t v y.cells;have h2:=g.1.2.1;rw[hc] at h1 ⊢;simp only[mc] at h2 ⊢;omega
theorem b5i{n:Nat}{s:ZS}{m M:Ms}{x:Nd}{y:Int×Ms}(h:sg n s m x M)(hk:x.kind=12)(hy:soQ n s M x y)(hq:y.2.code=0):sQu n s m x ⟨y.2.out,y.2.code,y.2.steps,y.2.deep,Cs y.2.cells x.text y.1,y.2.done,y.2.ret⟩:=by
 refine GD h ?_ (a4u hy.2 (b4T hy.1.1) h.2 hy.1.2)
 rw[acU,if_pos hk,Ce,hy.1.1]
 simp only[Option.bind_some,Cu];rw[if_pos hq];rfl
theorem b5j{n:Nat}{s:ZS}{m M:Ms}{x:Nd}{y:Int×Ms}(h:sg n s m x M)(hk:x.kind=12)(hy:soQ n s M x y)(hq:¬y.2.code=0):sQu n s m x y.2:=by
 refine GD h ?_ hy.2
 rw[acU,if_pos hk,Ce,hy.1.1]
 simp only[Option.bind_some,Cu];rw[if_neg hq]
theorem JQ{n:Nat}{s:ZS}{m M:Ms}{x:Nd}{c:Int}{y:Int×Ms}(h:sg n s m x M)(hc:x.kids[0]? =some c)(hv:vQu n s M c y):Dq M y.2 5159780352:=v_g (Oc h) hc hv
theorem b5k{n:Nat}{s:ZS}{m M:Ms}{x:Nd}{c:Int}{y:Int×Ms}(h:sg n s m x M)(hk:x.kind=13)(hc:x.kids[0]? =some c)(hv:vQu n s M c y)(hs:(Cy y.2.cells x.text).isSome=true)(hq:y.2.code=0):sQu n s m x ⟨y.2.out,y.2.code,y.2.steps,y.2.deep,Cs y.2.cells x.text y.1,y.2.done,y.2.ret⟩:=by
 refine GD h ?_ (a4u (JQ h hc hv) (Xh _ _ hv.1.1) h.2 hv.1.2)
 rw[acU,if_neg (by omega),if_pos hk,Ce,EV hc,hv.1.1]
 simp only[Option.bind_some,Cu];rw[if_pos hq,seU]
 cases hc:Cy y.2.cells x.text with
 |none=>rw[hc] at hs;cases hs
 |some w=>rfl
theorem b5l{n:Nat}{s:ZS}{m M:Ms}{x:Nd}{c:Int}{y:Int×Ms}(h:sg n s m x M)(hk:x.kind=13)(hc:x.kids[0]? =some c)(hv:vQu n s M c y)(hs:(Cy y.2.cells x.text).isSome=false)(hq:y.2.code=0):sQu n s m x (AU y.2):=by
 have g:=JQ h hc hv
 refine GD h ?_ (EB (GC g (Mp g.2)) (by omega))
 rw[acU,if_neg (by omega),if_pos hk,Ce,EV hc,hv.1.1]
 simp only[Option.bind_some,Cu];rw[if_pos hq,seU]
 cases hc:Cy y.2.cells x.text with
 |none=>rfl
 |some w=>rw[hc] at hs;cases hs
theorem b5m{n:Nat}{s:ZS}{m M:Ms}{x:Nd}{c:Int}{y:Int×Ms}(h:sg n s m x M)(hk:x.kind=13)(hc:x.kids[0]? =some c)(hv:vQu n s M c y)(hq:¬y.2.code=0):sQu n s m x y.2:=by
 refine GD h ?_ (JQ h hc hv)
 rw[acU,if_neg (by omega),if_pos hk,Ce,EV hc,hv.1.1]
 simp only[Option.bind_some,Cu];rw[if_neg hq]
theorem b5n{m:Ms}:¬(AU m).code=0:=by
 unfold AU;split
 ·simp
 ·assumption
theorem b5o{n:Nat}{s:ZS}{m M:Ms}{x:Nd}{c:Int}{y:Int×Ms}(h:sg n s m x M)(hk:x.kind=14)(hc:x.kids[0]? =some c)(hv:vQu n s M c y):sQu n s m x y.2:=by
 refine GD h ?_ (JQ h hc hv)
 rw[acU,if_neg (by omega),if_neg (by omega),if_pos hk,Ce,EV hc,hv.1.1];rfl
theorem b5p{n:Nat}{s:ZS}{m M:Ms}{x:Nd}{y:Int×Ms}(h:sg n s m x M)(hk:x.kind=15)(hy:soQ n s M x y)(hq:y.2.code=0):sQu n s m x ⟨y.2.out,y.2.code,y.2.steps,y.2.deep,y.2.cells,true,y.1⟩:=by
 refine GD h ?_ ⟨hy.2.1,hy.2.2.1,hy.2.2.2.1,hy.1.2⟩
 rw[acU,if_neg (by omega),if_neg (by omega),if_neg (by omega),if_pos hk,Ce,hy.1.1]
 simp only[Option.bind_some,Cu];rw[if_pos hq];rfl
theorem b5q{n:Nat}{s:ZS}{m M:Ms}{x:Nd}{y:Int×Ms}(h:sg n s m x M)(hk:x.kind=15)(hy:soQ n s M x y)(hq:¬y.2.code=0):sQu n s m x y.2:=by
 refine GD h ?_ hy.2
 rw[acU,if_neg (by omega),if_neg (by omega),if_neg (by omega),if_pos hk,Ce,hy.1.1]
 simp only[Option.bind_some,Cu];rw[if_neg hq]
theorem SK{n:Nat}{s:ZS}{M:Ms}{x:Nd}{c:Int}{y:Int×Ms}(hk:x.kind=16)(hc:x.kids[0]? =some c)(hv:vQu n s M c y):acU (eu s.ns n).val (eu s.ns n).blk x s.L M=Fk () (if y.1≠0 then(eu s.ns n).blk (Bu x 1) else if 2<x.kids.length then(eu s.ns n).blk (Bu x 2) else Fj ()) s.L y.2:=by
 rw[acU,if_neg (by omega),if_neg (by omega),if_neg (by omega),if_neg (by omega),if_pos hk,Ce,EV hc,hv.1.1];rfl
theorem b5r{n:Nat}{s:ZS}{m M:Ms}{x:Nd}{c d:Int}{i:Nat}{y:Int×Ms}(h:sg n s m x M)(hc:x.kids[0]? =some c)(hv:vQu n s M c y)(hd:x.kids[i]? =some d):bPu n s y.2 d:=a4p (c:=c) (Oc h) (JQ h hc hv) hd
theorem b5s{n:Nat}{s:ZS}{m M z:Ms}{x:Nd}{c d:Int}{y:Int×Ms}(h:sg n s m x M)(hk:x.kind=16)(hc:x.kids[0]? =some c)(hv:vQu n s M c y)(hq:y.2.code=0)(hn:¬y.1=0)(hd:x.kids[1]? =some d)(hz:bQu n s y.2 d z):sQu n s m x z:=by
 refine GD h ?_ (EB (GC (JQ h hc hv) hz.2) (by omega))
 rw[SK hk hc hv,Cu,if_pos hq,if_pos hn,EV hd];exact hz.1
theorem b5t{n:Nat}{s:ZS}{m M z:Ms}{x:Nd}{c d:Int}{y:Int×Ms}(h:sg n s m x M)(hk:x.kind=16)(hc:x.kids[0]? =some c)(hv:vQu n s M c y)(hq:y.2.code=0)(hn:y.1=0)(hl:(x.kids.length:Int)>2)(hd:x.kids[2]? =some d)(hz:bQu n s y.2 d z):sQu n s m x z:=by
 refine GD h ?_ (EB (GC (JQ h hc hv) hz.2) (by omega))
 rw[SK hk hc hv,Cu,if_pos hq,if_neg (fun e=>e hn),if_pos (by omega),EV hd];exact hz.1
theorem b5u{n:Nat}{s:ZS}{m M:Ms}{x:Nd}{c:Int}{y:Int×Ms}(h:sg n s m x M)(hk:x.kind=16)(hc:x.kids[0]? =some c)(hv:vQu n s M c y)(hn:y.1=0)(hl:¬(x.kids.length:Int)>2):sQu n s m x y.2:=by
 refine GD h ?_ (JQ h hc hv)
 have e:(if y.1≠0 then(eu s.ns n).blk (Bu x 1) else if 2<x.kids.length then(eu s.ns n).blk (Bu x 2) else Fj ())=Fj ():=by
  rw[if_neg (fun e=>e hn),if_neg (by omega)]
 rw[SK hk hc hv,e,Cu]
 split<;>rfl
theorem b5v{n:Nat}{s:ZS}{m M:Ms}{x:Nd}{c:Int}{y:Int×Ms}(h:sg n s m x M)(hk:x.kind=16)(hc:x.kids[0]? =some c)(hv:vQu n s M c y)(hq:¬y.2.code=0):sQu n s m x y.2:=by
 refine GD h ?_ (JQ h hc hv)
 rw[SK hk hc hv,Cu,if_neg hq]
theorem b5w{n:Nat}{s:ZS}{m M:Ms}{x:Nd}(h:sg n s m x M)(hk:x.kind=17):lPu n s M x:=⟨Oc h,(a4t h).2.2 hk⟩
theorem b5x{n:Nat}{s:ZS}{m M y:Ms}{x:Nd}(h:sg n s m x M)(hk:x.kind=17)(hy:lQu n s M x y):sQu n s m x y:=by
 refine GD h ?_ hy.2
 rw[acU,if_neg (by omega),if_neg (by omega),if_neg (by omega),if_neg (by omega),if_neg (by omega),if_pos hk];exact hy.1
theorem b5y{n:Nat}{s:ZS}{m M:Ms}{x:Nd}(h:sg n s m x M)(h1:¬x.kind=12)(h2:¬x.kind=13)(h3:¬x.kind=14)(h4:¬x.kind=15)(h5:¬x.kind=16)(h6:¬x.kind=17):sQu n s m x M:=by
 refine GD h ?_ (EB (Mo (Oc h).1.1.2) (by omega))
 rw[acU,if_neg h1,if_neg h2,if_neg h3,if_neg h4,if_neg h5,if_neg h6];rfl
theorem a4v{m m2:Ms}{e:Int}(g:Dq m m2 e):m2.cells.length≤2^30:=by have h1:=g.2.2.1.2;have h2:=g.2.1.1.1;simp only[mc] at*;omega
theorem a4w{n:Nat}{s:ZS}{M:Ms}{c:Int}{y:Int×Ms}(hv:vQu n s M c y):y.2.cells.length≤2^30:=a4v hv.2
theorem b5z{n:Nat}{s:ZS}{M:Ms}{x:Nd}{y:Int×Ms}(hv:soQ n s M x y):y.2.cells.length≤2^30:=a4v hv.2
theorem b5A{n:Nat}{s:ZS}{m:Ms}{x:Nd}(hp:sPu n s m x):0≤m.steps∧m.steps≤2^40:=by have h2:=hp.1.2.1.1.1;simp only[mc] at*;omega
def bkU(n:Nat)(s:ZS)(m0:Ms)(k i:Int)(m:Ms):Prop:=(((0≤i∧i≤(Aa s.ns k).kids.length)∧(Aa s.ns k).kids.length≤12)∧blU s.ns (eu s.ns n).val (eu s.ns n).blk (Aa s.ns k).kids s.L m0=blU s.ns (eu s.ns n).val (eu s.ns n).blk ((Aa s.ns k).kids.drop i.toNat) s.L m)∧Dq m0 m 0
theorem a4x{ns:List Nd}{V:Int→Be Int}{B:Int→Be Unit}{k:Int}{ks:List Int}{L:Int}{m:Ms}:blU ns V B (k::ks) L m=if m.code=0∧m.done=false then Ce (stU V B (Aa ns k)) (fun _=>blU ns V B ks) L m else some ((),m):=rfl
theorem b5B{n:Nat}{s:ZS}{m:Ms}{k:Int}(hp:bPu (n+1) s m k):bkU n s m k 0 m:=⟨⟨⟨by omega,(HG hp.1.1.1 hp.2.1.1).1⟩,rfl⟩,Mo hp.1.2⟩
theorem a4y{n:Nat}{s:ZS}{m0 m:Ms}{k i:Int}(h:bkU n s m0 k i m):(0≤i∧i≤(Aa s.ns k).kids.length)∧(Aa s.ns k).kids.length≤12:=h.1.1
theorem Xn{n:Nat}{s:ZS}{m0 m:Ms}{k i:Int}(h:bkU n s m0 k i m)(hx:¬i<((Aa s.ns k).kids.length:Int)∨(¬m.code=0∨m.done=true)):bQu (n+1) s m0 k m:=by
 refine⟨?_,h.2⟩
 have e:(eu s.ns (n+1)).blk k s.L m0=blU s.ns (eu s.ns n).val (eu s.ns n).blk (Aa s.ns k).kids s.L m0:=rfl
 rw[e,h.1.2]
 rcases hx with hx|hx
 ·rw[List.drop_eq_nil_of_le (by have:=h.1.1.1;omega)];rfl
 ·cases (Aa s.ns k).kids.drop i.toNat with
  |nil=>rfl
  |cons c l=>
   rw[a4x,if_neg]
   rintro⟨h1,h2⟩
   rcases hx with hx|hx
   ·exact hx h1
   ·rw[hx] at h2;cases h2
theorem Xo{n:Nat}{s:ZS}{m:Ms}{k c:Int}{i:Nat}(hp:bPu (n+1) s m k)(hc:(Aa s.ns k).kids[i]? =some c):(0≤c∧c<s.ns.length)∧Bz s.ns c≤11∧c<k:=by
 have:=(HG hp.1.1.1 hp.2.1.1).2 c (BJ hc)
 have:=hp.2.1;omega
theorem b5C{ns:List Nd}(ht:tOk ns){c:Int}(hc:0≤c∧c<ns.length):kfU (Aa ns c):=by
 have p:=(DZ (PJ ht hc)).2.2.2.2.2.1
 refine⟨fun hk=> ?_,fun hk=> ?_,fun hk=> ?_⟩
 ·have:=Me p (by omega);simpa using this
 ·rw[hk] at p;have:=(a2l p).1;simpa using this
 ·rw[hk] at p;have:=(a2m p).1;simpa using this
theorem b5D{n:Nat}{s:ZS}{m0 m:Ms}{k i c:Int}{j:Nat}(hp:bPu (n+1) s m0 k)(h:bkU n s m0 k i m)(hc:(Aa s.ns k).kids[j]? =some c):sPu n s m (Aa s.ns c):=by
 have hk:=Xo hp hc
 refine⟨⟨hp.1.1,h.2.2⟩,⟨a1W hp.1.1.1 hk.1 hk.2.1 (a1V ?_ h.2.1.1.2),(HG hp.1.1.1 hk.1).1⟩,b5C hp.1.1.1 hk.1⟩
 have:=hp.2.2;unfold Ct at*;omega
theorem b5E{n:Nat}{s:ZS}{m0 m z:Ms}{k i c:Int}(h:bkU n s m0 k i m)(hq:m.code=0)(hd:m.done=false)(hc:(Aa s.ns k).kids[i.toNat]? =some c)(hz:sQu n s m (Aa s.ns c) z):bkU n s m0 k (i+1) z:=by
 have hl:=(List.getElem?_eq_some_iff.1 hc).1
 refine⟨⟨⟨by have:=h.1.1.1;omega,h.1.1.2⟩,?_⟩,EB (GC h.2 hz.2) (by omega)⟩
 rw[h.1.2,GA h.1.1.1.1 hc,a4x,if_pos ⟨hq,hd⟩,Xj,hz.1];rfl
theorem b5F{n:Nat}{s:ZS}{m:Ms}{k:Int}(hp:bPu n s m k):0≤k∧k<s.ns.length:=hp.2.1.1
attribute [local irreducible] vPu vQu cQu bPu bQu lPu lQu sg sQu soP bkU sPu
def Dr(n:Nat):Sig:= {X:=ZX Nd,args:=fun x=>[usA x.1 (uh x),.agg (ndA false (zl x))],pre:=fun x=>sPu n x.1 (uh x) (zl x),Y:=UY,post:=fun x y=>sQu n x.1 (uh x) (zl x) (yu y),res:=fun x y=> .tup [],outs:=fun x y=>[usA x.1 (yu y),.top],keep:=true}
def Xp(n:Nat)(x:ZX Nd):LS:= {ι:=UY,inv:=fun i=>sg n x.1 (uh x) (zl x) (yu i),regs:=fun i=>[(0,usA x.1 (yu i)),(3,.box 0 (ndA false (zl x)))],als:=[],meas:=fun _=>0}
def SL(n:Nat)(x:ZX Nd):LS:= {ι:=UY,inv:=fun i=>sQu n x.1 (uh x) (zl x) (yu i),regs:=fun i=>[(0,usA x.1 (yu i))],als:=[],meas:=fun _=>0}
def KN(n:Nat)(x:ZX Nd):LS:= {ι:=UY,inv:=fun i=>sQu n x.1 (uh x) (zl x) (yu i),regs:=fun i=>[(0,usA x.1 (yu i))],als:=[],meas:=fun _=>0}
theorem b5G(n:Nat)(h:uAll G n):Al G Tryz.prog 97 (Dr n):=
 vcFun_okP [(120,0,Hg),(121,0,(KM n)),(26,0,DU),(122,0,(Di n)),(123,0,NY),(43,0,Db),(74,0,(HM n)),(124,0,(Iu n))] [(42,⟨List UInt8×Int,Ai⟩)] false (fun x=>[(200003,Xp n x),(100007,SL n x),(100014,KN n x)]) Tryz.func97 rfl (by decide) ⟨a3Q,(b5c n h),a3E,h.val,a3P,Mq,h.blk,(b5d n h),trivial⟩ (fun(x:ZX Nd)=>True∧Ab ((zl x).kind==(19:Int)) (rA (Dr n) x [.tup [],.box 0 [nds x.1.ns,AV.sl false 0 2 (List UInt8×Int) Ai (uh x).cells,Ad (uh x).out,.int .i64 (uh x).code,.int .i64 (uh x).steps,.int .i64 x.1.L,.int .i64 (uh x).deep,.bool (uh x).done,.int .i64 (uh x).ret],.top]) ((cA Hg [.box 0 [nds x.1.ns,AV.sl false 0 2 (List UInt8×Int) Ai (uh x).cells,Ad (uh x).out,.int .i64 (uh x).code,.int .i64 (uh x).steps,.int .i64 x.1.L,.int .i64 (uh x).deep,.bool (uh x).done,.int .i64 (uh x).ret]] fun x_1 y=>Ab (!decide ((Bm x_1.1.L (uh x_1)).code=(0:Int))) (rA (Dr n) x [.tup [],.box 0 [nds x_1.1.ns,AV.sl false 0 2 (List UInt8×Int) Ai (Bm x_1.1.L (uh x_1)).cells,Ad (Bm x_1.1.L (uh x_1)).out,.int .i64 (Bm x_1.1.L (uh x_1)).code,.int .i64 (Bm x_1.1.L (uh x_1)).steps,.int .i64 x_1.1.L,.int .i64 (Bm x_1.1.L (uh x_1)).deep,.bool (Bm x_1.1.L (uh x_1)).done,.int .i64 (Bm x_1.1.L (uh x_1)).ret],.top]) (eA (Xp n x) [.box 0 [nds x_1.1.ns,AV.sl false 0 2 (List UInt8×Int) Ai (Bm x_1.1.L (uh x_1)).cells,Ad (Bm x_1.1.L (uh x_1)).out,.int .i64 (Bm x_1.1.L (uh x_1)).code,.int .i64 (Bm x_1.1.L (uh x_1)).steps,.int .i64 x_1.1.L,.int .i64 (Bm x_1.1.L (uh x_1)).deep,.bool (Bm x_1.1.L (uh x_1)).done,.int .i64 (Bm x_1.1.L (uh x_1)).ret],.box 0 [.int .i64 (zl x).kind,.str (zl x).text,Ag (zl x).kids,.bool (zl x).blank]]))∧∀(i:UY),sg n x.1 (uh x) (zl x) (yu i)→Ab ((zl x).kind==(12:Int)) (cA (KM n) [.box 0 [nds x.1.ns,AV.sl false 0 2 (List UInt8×Int) Ai (yu i).cells,Ad (yu i).out,.int .i64 (yu i).code,.int .i64 (yu i).steps,.int .i64 x.1.L,.int .i64 (yu i).deep,.bool (yu i).done,.int .i64 (yu i).ret],.agg [.int .i64 (zl x).kind,.str (zl x).text,Ag (zl x).kids,.bool (zl x).blank]] fun x_1 y=>Ab ((yu y.2).code==(0:Int)) (true=true∧((cA DU [AV.sl false 0 2 (List UInt8×Int) Ai (yu y.2).cells,.str (zl x).text,.int .i64 y.1] fun x_2 y_1=>true=true∧eA (SL n x) [.box 0 [nds x_1.1.ns,AV.sl false 0 2 (List UInt8×Int) Ai (Cs x_2.1 x_2.2.1 x_2.2.2),Ad (yu y.2).out,.int .i64 (yu y.2).code,.int .i64 (yu y.2).steps,.int .i64 x_1.1.L,.int .i64 (yu y.2).deep,.bool (yu y.2).done,.int .i64 (yu y.2).ret]])∧cA DU [AV.sl false 0 2 (List UInt8×Int) Ai (yu y.2).cells,.str (zl x).text,.int .i64 y.1] fun x_2 y_1=>true=true∧eA (SL n x) [.box 0 [nds x_1.1.ns,AV.sl false 0 2 (List UInt8×Int) Ai (Cs x_2.1 x_2.2.1 x_2.2.2),Ad (yu y.2).out,.int .i64 (yu y.2).code,.int .i64 (yu y.2).steps,.int .i64 x_1.1.L,.int .i64 (yu y.2).deep,.bool (yu y.2).done,.int .i64 (yu y.2).ret]])∧∀(i:UY),sQu n x.1 (uh x) (zl x) (yu i)→rA (Dr n) x [.tup [],.box 0 [nds x.1.ns,AV.sl false 0 2 (List UInt8×Int) Ai (yu i).cells,Ad (yu i).out,.int .i64 (yu i).code,.int .i64 (yu i).steps,.int .i64 x.1.L,.int .i64 (yu i).deep,.bool (yu i).done,.int .i64 (yu i).ret],.top]) (rA (Dr n) x [.tup [],.box 0 [nds x_1.1.ns,AV.sl false 0 2 (List UInt8×Int) Ai (yu y.2).cells,Ad (yu y.2).out,.int .i64 (yu y.2).code,.int .i64 (yu y.2).steps,.int .i64 x_1.1.L,.int .i64 (yu y.2).deep,.bool (yu y.2).done,.int .i64 (yu y.2).ret],.top])) (Ab ((zl x).kind==(13:Int)) (((0:Int)≤(0:Int)∧(0:Int)<(↑(List.length (zl x).kids):Int))∧∀(e:Int),(zl x).kids[(0:Nat)]? =some e→cA (Di n) [.box 0 [nds x.1.ns,AV.sl false 0 2 (List UInt8×Int) Ai (yu i).cells,Ad (yu i).out,.int .i64 (yu i).code,.int .i64 (yu i).steps,.int .i64 x.1.L,.int .i64 (yu i).deep,.bool (yu i).done,.int .i64 (yu i).ret],.int .i64 e] fun x_1 y=>true=true∧true=true∧∃(x_2:Cls×List UInt8),List.length x_2.1<(4611686018427387904:Nat)∧AV.sl false 0 2 (List UInt8×Int) Ai (yu y.2).cells=AV.sl false 0 2 (List UInt8×Int) Ai x_2.1∧(zl x).text=x_2.2∧∃(y0:Unit),(∀(y:Unit),True→AV.tup [.int .i64 (nOf (Cy x_2.1 x_2.2)),.bool (Option.isSome (Cy x_2.1 x_2.2))]=AV.tup [.int .i64 (nOf (Cy x_2.1 x_2.2)),.bool (Option.isSome (Cy x_2.1 x_2.2))])∧true=true∧Ab ((yu y.2).code==(0:Int)) (Ab (!Option.isSome (Cy x_2.1 x_2.2)) (cA Db [.box 0 [nds x_1.1.ns,AV.sl false 0 2 (List UInt8×Int) Ai (yu y.2).cells,Ad (yu y.2).out,.int .i64 (yu y.2).code,.int .i64 (yu y.2).steps,.int .i64 x_1.1.L,.int .i64 (yu y.2).deep,.bool (yu y.2).done,.int .i64 (yu y.2).ret]] fun x_3 y_1=>Ab ((AU (uh x_3)).code==(0:Int)) (true=true∧((cA DU [AV.sl false 0 2 (List UInt8×Int) Ai (AU (uh x_3)).cells,.str (zl x).text,.int .i64 y.1] fun x_4 y=>true=true∧eA (KN n x) [.box 0 [nds x_3.1.ns,AV.sl false 0 2 (List UInt8×Int) Ai (Cs x_4.1 x_4.2.1 x_4.2.2),Ad (AU (uh x_3)).out,.int .i64 (AU (uh x_3)).code,.int .i64 (AU (uh x_3)).steps,.int .i64 x_3.1.L,.int .i64 (AU (uh x_3)).deep,.bool (AU (uh x_3)).done,.int .i64 (AU (uh x_3)).ret]])∧cA DU [AV.sl false 0 2 (List UInt8×Int) Ai (AU (uh x_3)).cells,.str (zl x).text,.int .i64 y.1] fun x_4 y=>true=true∧eA (KN n x) [.box 0 [nds x_3.1.ns,AV.sl false 0 2 (List UInt8×Int) Ai (Cs x_4.1 x_4.2.1 x_4.2.2),Ad (AU (uh x_3)).out,.int .i64 (AU (uh x_3)).code,.int .i64 (AU (uh x_3)).steps,.int .i64 x_3.1.L,.int .i64 (AU (uh x_3)).deep,.bool (AU (uh x_3)).done,.int .i64 (AU (uh x_3)).ret]])∧∀(i:UY),sQu n x.1 (uh x) (zl x) (yu i)→rA (Dr n) x [.tup [],.box 0 [nds x.1.ns,AV.sl false 0 2 (List UInt8×Int) Ai (yu i).cells,Ad (yu i).out,.int .i64 (yu i).code,.int .i64 (yu i).steps,.int .i64 x.1.L,.int .i64 (yu i).deep,.bool (yu i).done,.int .i64 (yu i).ret],.top]) (rA (Dr n) x [.tup [],.box 0 [nds x_3.1.ns,AV.sl false 0 2 (List UInt8×Int) Ai (AU (uh x_3)).cells,Ad (AU (uh x_3)).out,.int .i64 (AU (uh x_3)).code,.int .i64 (AU (uh x_3)).steps,.int .i64 x_3.1.L,.int .i64 (AU (uh x_3)).deep,.bool (AU (uh x_3)).done,.int .i64 (AU (uh x_3)).ret],.top])) (Ab ((yu y.2).code==(0:Int)) (true=true∧((cA DU [AV.sl false 0 2 (List UInt8×Int) Ai (yu y.2).cells,.str (zl x).text,.int .i64 y.1] fun x_3 y_1=>true=true∧eA (KN n x) [.box 0 [nds x_1.1.ns,AV.sl false 0 2 (List UInt8×Int) Ai (Cs x_3.1 x_3.2.1 x_3.2.2),Ad (yu y.2).out,.int .i64 (yu y.2).code,.int .i64 (yu y.2).steps,.int .i64 x_1.1.L,.int .i64 (yu y.2).deep,.bool (yu y.2).done,.int .i64 (yu y.2).ret]])∧cA DU [AV.sl false 0 2 (List UInt8×Int) Ai (yu y.2).cells,.str (zl x).text,.int .i64 y.1] fun x_3 y_1=>true=true∧eA (KN n x) [.box 0 [nds x_1.1.ns,AV.sl false 0 2 (List UInt8×Int) Ai (Cs x_3.1 x_3.2.1 x_3.2.2),Ad (yu y.2).out,.int .i64 (yu y.2).code,.int .i64 (yu y.2).steps,.int .i64 x_1.1.L,.int .i64 (yu y.2).deep,.bool (yu y.2).done,.int .i64 (yu y.2).ret]])∧∀(i:UY),sQu n x.1 (uh x) (zl x) (yu i)→rA (Dr n) x [.tup [],.box 0 [nds x.1.ns,AV.sl false 0 2 (List UInt8×Int) Ai (yu i).cells,Ad (yu i).out,.int .i64 (yu i).code,.int .i64 (yu i).steps,.int .i64 x.1.L,.int .i64 (yu i).deep,.bool (yu i).done,.int .i64 (yu i).ret],.top]) (rA (Dr n) x [.tup [],.box 0 [nds x_1.1.ns,AV.sl false 0 2 (List UInt8×Int) Ai (yu y.2).cells,Ad (yu y.2).out,.int .i64 (yu y.2).code,.int .i64 (yu y.2).steps,.int .i64 x_1.1.L,.int .i64 (yu y.2).deep,.bool (yu y.2).done,.int .i64 (yu y.2).ret],.top]))) (Ab ((yu y.2).code==(0:Int)) (true=true∧((cA DU [AV.sl false 0 2 (List UInt8×Int) Ai (yu y.2).cells,.str (zl x).text,.int .i64 y.1] fun x_3 y_1=>true=true∧eA (KN n x) [.box 0 [nds x_1.1.ns,AV.sl false 0 2 (List UInt8×Int) Ai (Cs x_3.1 x_3.2.1 x_3.2.2),Ad (yu y.2).out,.int .i64 (yu y.2).code,.int .i64 (yu y.2).steps,.int .i64 x_1.1.L,.int .i64 (yu y.2).deep,.bool (yu y.2).done,.int .i64 (yu y.2).ret]])∧cA DU [AV.sl false 0 2 (List UInt8×Int) Ai (yu y.2).cells,.str (zl x).text,.int .i64 y.1] fun x_3 y_1=>true=true∧eA (KN n x) [.box 0 [nds x_1.1.ns,AV.sl false 0 2 (List UInt8×Int) Ai (Cs x_3.1 x_3.2.1 x_3.2.2),Ad (yu y.2).out,.int .i64 (yu y.2).code,.int .i64 (yu y.2).steps,.int .i64 x_1.1.L,.int .i64 (yu y.2).deep,.bool (yu y.2).done,.int .i64 (yu y.2).ret]])∧∀(i:UY),sQu n x.1 (uh x) (zl x) (yu i)→rA (Dr n) x [.tup [],.box 0 [nds x.1.ns,AV.sl false 0 2 (List UInt8×Int) Ai (yu i).cells,Ad (yu i).out,.int .i64 (yu i).code,.int .i64 (yu i).steps,.int .i64 x.1.L,.int .i64 (yu i).deep,.bool (yu i).done,.int .i64 (yu i).ret],.top]) (rA (Dr n) x [.tup [],.box 0 [nds x_1.1.ns,AV.sl false 0 2 (List UInt8×Int) Ai (yu y.2).cells,Ad (yu y.2).out,.int .i64 (yu y.2).code,.int .i64 (yu y.2).steps,.int .i64 x_1.1.L,.int .i64 (yu y.2).deep,.bool (yu y.2).done,.int .i64 (yu y.2).ret],.top]))) (Ab ((zl x).kind==(14:Int)) (((0:Int)≤(0:Int)∧(0:Int)<(↑(List.length (zl x).kids):Int))∧∀(e:Int),(zl x).kids[(0:Nat)]? =some e→cA (Di n) [.box 0 [nds x.1.ns,AV.sl false 0 2 (List UInt8×Int) Ai (yu i).cells,Ad (yu i).out,.int .i64 (yu i).code,.int .i64 (yu i).steps,.int .i64 x.1.L,.int .i64 (yu i).deep,.bool (yu i).done,.int .i64 (yu i).ret],.int .i64 e] fun x_1 y=>rA (Dr n) x [.tup [],.box 0 [nds x_1.1.ns,AV.sl false 0 2 (List UInt8×Int) Ai (yu y.2).cells,Ad (yu y.2).out,.int .i64 (yu y.2).code,.int .i64 (yu y.2).steps,.int .i64 x_1.1.L,.int .i64 (yu y.2).deep,.bool (yu y.2).done,.int .i64 (yu y.2).ret],.top]) (Ab ((zl x).kind==(15:Int)) (cA (KM n) [.box 0 [nds x.1.ns,AV.sl false 0 2 (List UInt8×Int) Ai (yu i).cells,Ad (yu i).out,.int .i64 (yu i).code,.int .i64 (yu i).steps,.int .i64 x.1.L,.int .i64 (yu i).deep,.bool (yu i).done,.int .i64 (yu i).ret],.agg [.int .i64 (zl x).kind,.str (zl x).text,Ag (zl x).kids,.bool (zl x).blank]] fun x_1 y=>Ab ((yu y.2).code==(0:Int)) (rA (Dr n) x [.tup [],.box 0 [nds x_1.1.ns,AV.sl false 0 2 (List UInt8×Int) Ai (yu y.2).cells,Ad (yu y.2).out,.int .i64 (yu y.2).code,.int .i64 (yu y.2).steps,.int .i64 x_1.1.L,.int .i64 (yu y.2).deep,.bool true,.int .i64 y.1],.top]) (rA (Dr n) x [.tup [],.box 0 [nds x_1.1.ns,AV.sl false 0 2 (List UInt8×Int) Ai (yu y.2).cells,Ad (yu y.2).out,.int .i64 (yu y.2).code,.int .i64 (yu y.2).steps,.int .i64 x_1.1.L,.int .i64 (yu y.2).deep,.bool (yu y.2).done,.int .i64 (yu y.2).ret],.top])) (Ab ((zl x).kind==(16:Int)) (((0:Int)≤(0:Int)∧(0:Int)<(↑(List.length (zl x).kids):Int))∧∀(e:Int),(zl x).kids[(0:Nat)]? =some e→cA (Di n) [.box 0 [nds x.1.ns,AV.sl false 0 2 (List UInt8×Int) Ai (yu i).cells,Ad (yu i).out,.int .i64 (yu i).code,.int .i64 (yu i).steps,.int .i64 x.1.L,.int .i64 (yu i).deep,.bool (yu i).done,.int .i64 (yu i).ret],.int .i64 e] fun x_1 y=>Ab ((yu y.2).code==(0:Int)) (Ab (y.1 != (0:Int)) (((0:Int)≤(1:Int)∧(1:Int)<(↑(List.length (zl x).kids):Int))∧∀(e:Int),(zl x).kids[(1:Nat)]? =some e→cA (HM n) [.box 0 [nds x_1.1.ns,AV.sl false 0 2 (List UInt8×Int) Ai (yu y.2).cells,Ad (yu y.2).out,.int .i64 (yu y.2).code,.int .i64 (yu y.2).steps,.int .i64 x_1.1.L,.int .i64 (yu y.2).deep,.bool (yu y.2).done,.int .i64 (yu y.2).ret],.int .i64 e] fun x_2 y=>rA (Dr n) x [.tup [],.box 0 [nds x_2.1.ns,AV.sl false 0 2 (List UInt8×Int) Ai (yu y).cells,Ad (yu y).out,.int .i64 (yu y).code,.int .i64 (yu y).steps,.int .i64 x_2.1.L,.int .i64 (yu y).deep,.bool (yu y).done,.int .i64 (yu y).ret],.top]) (Ab ((yu y.2).code==(0:Int)) (Ab (decide ((↑(List.length (zl x).kids):Int)>(2:Int))) (((0:Int)≤(2:Int)∧(2:Int)<(↑(List.length (zl x).kids):Int))∧∀(e:Int),(zl x).kids[(2:Nat)]? =some e→cA (HM n) [.box 0 [nds x_1.1.ns,AV.sl false 0 2 (List UInt8×Int) Ai (yu y.2).cells,Ad (yu y.2).out,.int .i64 (yu y.2).code,.int .i64 (yu y.2).steps,.int .i64 x_1.1.L,.int .i64 (yu y.2).deep,.bool (yu y.2).done,.int .i64 (yu y.2).ret],.int .i64 e] fun x_2 y=>rA (Dr n) x [.tup [],.box 0 [nds x_2.1.ns,AV.sl false 0 2 (List UInt8×Int) Ai (yu y).cells,Ad (yu y).out,.int .i64 (yu y).code,.int .i64 (yu y).steps,.int .i64 x_2.1.L,.int .i64 (yu y).deep,.bool (yu y).done,.int .i64 (yu y).ret],.top]) (rA (Dr n) x [.tup [],.box 0 [nds x_1.1.ns,AV.sl false 0 2 (List UInt8×Int) Ai (yu y.2).cells,Ad (yu y.2).out,.int .i64 (yu y.2).code,.int .i64 (yu y.2).steps,.int .i64 x_1.1.L,.int .i64 (yu y.2).deep,.bool (yu y.2).done,.int .i64 (yu y.2).ret],.top])) (rA (Dr n) x [.tup [],.box 0 [nds x_1.1.ns,AV.sl false 0 2 (List UInt8×Int) Ai (yu y.2).cells,Ad (yu y.2).out,.int .i64 (yu y.2).code,.int .i64 (yu y.2).steps,.int .i64 x_1.1.L,.int .i64 (yu y.2).deep,.bool (yu y.2).done,.int .i64 (yu y.2).ret],.top]))) (Ab ((yu y.2).code==(0:Int)) (Ab (decide ((↑(List.length (zl x).kids):Int)>(2:Int))) (((0:Int)≤(2:Int)∧(2:Int)<(↑(List.length (zl x).kids):Int))∧∀(e:Int),(zl x).kids[(2:Nat)]? =some e→cA (HM n) [.box 0 [nds x_1.1.ns,AV.sl false 0 2 (List UInt8×Int) Ai (yu y.2).cells,Ad (yu y.2).out,.int .i64 (yu y.2).code,.int .i64 (yu y.2).steps,.int .i64 x_1.1.L,.int .i64 (yu y.2).deep,.bool (yu y.2).done,.int .i64 (yu y.2).ret],.int .i64 e] fun x_2 y=>rA (Dr n) x [.tup [],.box 0 [nds x_2.1.ns,AV.sl false 0 2 (List UInt8×Int) Ai (yu y).cells,Ad (yu y).out,.int .i64 (yu y).code,.int .i64 (yu y).steps,.int .i64 x_2.1.L,.int .i64 (yu y).deep,.bool (yu y).done,.int .i64 (yu y).ret],.top]) (rA (Dr n) x [.tup [],.box 0 [nds x_1.1.ns,AV.sl false 0 2 (List UInt8×Int) Ai (yu y.2).cells,Ad (yu y.2).out,.int .i64 (yu y.2).code,.int .i64 (yu y.2).steps,.int .i64 x_1.1.L,.int .i64 (yu y.2).deep,.bool (yu y.2).done,.int .i64 (yu y.2).ret],.top])) (rA (Dr n) x [.tup [],.box 0 [nds x_1.1.ns,AV.sl false 0 2 (List UInt8×Int) Ai (yu y.2).cells,Ad (yu y.2).out,.int .i64 (yu y.2).code,.int .i64 (yu y.2).steps,.int .i64 x_1.1.L,.int .i64 (yu y.2).deep,.bool (yu y.2).done,.int .i64 (yu y.2).ret],.top]))) (Ab ((zl x).kind==(17:Int)) (cA (Iu n) [.box 0 [nds x.1.ns,AV.sl false 0 2 (List UInt8×Int) Ai (yu i).cells,Ad (yu i).out,.int .i64 (yu i).code,.int .i64 (yu i).steps,.int .i64 x.1.L,.int .i64 (yu i).deep,.bool (yu i).done,.int .i64 (yu i).ret],.agg [.int .i64 (zl x).kind,.str (zl x).text,Ag (zl x).kids,.bool (zl x).blank]] fun x_1 y=>rA (Dr n) x [.tup [],.box 0 [nds x_1.1.ns,AV.sl false 0 2 (List UInt8×Int) Ai (yu y).cells,Ad (yu y).out,.int .i64 (yu y).code,.int .i64 (yu y).steps,.int .i64 x_1.1.L,.int .i64 (yu y).deep,.bool (yu y).done,.int .i64 (yu y).ret],.top]) (rA (Dr n) x [.tup [],.box 0 [nds x.1.ns,AV.sl false 0 2 (List UInt8×Int) Ai (yu i).cells,Ad (yu i).out,.int .i64 (yu i).code,.int .i64 (yu i).steps,.int .i64 x.1.L,.int .i64 (yu i).deep,.bool (yu i).done,.int .i64 (yu i).ret],.top])))))))) (fun x=>by kernel_rfl) fun(x:ZX Nd) (hx:sPu n x.1 (uh x) (zl x))=>(by
 dsimp only[cA,Ai,cls,eA,SL,KN,Xp,Ag,Bx,nds,KG,Ad,rA,DU,HM,Db,Iu,KM,Dr,Hg,Di,usA,Aw,Az,mvL,lnL,mvE,lnE,Bv]
 obtain⟨s,o,c,t,d,cs,en,re,z⟩:=x;dsimp only[uh,zl] at hx ⊢
 have hx:sPu n s ⟨o,c,t,d,cs,en,re⟩ z:=hx
 have hT:=b5A hx
 (repeat' first|(with_reducible first|rfl|exact True.intro|apply AK|apply And.intro|((first|apply AA|apply AI|apply AB|apply AJ)<;>intro _))|(apply Ax<;>intro _)|apply AH|refine Af () ?_ ?_|((first|apply AO|apply AN|apply AM|apply AL|apply AG|apply AF|apply AE|apply AD|apply AC)<;>try dsimp only)|apply Af|(refine Prod.forall.2 ?_;intro _;try dsimp only)|(intro _;try dsimp only))
 all_goals(try simp only[KH,decide_eq_true_eq,decide_eq_false_iff_not,Bool.not_eq_true',Bool.not_eq_false'] at*)
 all_goals(try(have hK:=a4t (show sg _ _ _ _ _ by assumption)))
 all_goals first
  |rfl
  |exact()
  |assumption
  |exact b5f hx ‹_›
  |exact b5g hx ‹_› ‹_›
  |exact b5e hx ‹_› ‹_›
  |exact Oc ‹_›
  |exact b5h ‹_› ‹_›
  |exact b5i ‹_› ‹_› ‹_› ‹_›
  |exact b5j ‹_› ‹_› ‹_› ‹_›
  |exact b5k ‹_› ‹_› ‹_› ‹_› ‹_› ‹_›
  |exact b5l ‹_› ‹_› ‹_› ‹_› ‹_› ‹_›
  |exact b5m ‹_› ‹_› ‹_› ‹_› ‹_›
  |exact(b5n ‹_›).elim
  |exact b5o ‹_› ‹_› ‹_› ‹_›
  |exact b5p ‹_› ‹_› ‹_› ‹_›
  |exact b5q ‹_› ‹_› ‹_› ‹_›
  |exact b5r ‹_› (show z.kids[0]? =some _ by assumption) ‹_› ‹_›
  |exact b5s ‹_› ‹_› (show z.kids[0]? =some _ by assumption) ‹_› ‹_› ‹_› (show z.kids[1]? =some _ by assumption) ‹_›
  |exact b5t ‹_› ‹_› (show z.kids[0]? =some _ by assumption) ‹_› ‹_› (by omega) ‹_› (show z.kids[2]? =some _ by assumption) ‹_›
  |exact b5u ‹_› ‹_› ‹_› ‹_› (by omega) ‹_›
  |exact b5v ‹_› ‹_› ‹_› ‹_› ‹_›
  |exact b5w ‹_› ‹_›
  |exact b5x ‹_› ‹_› ‹_›
  |exact b5y ‹_› ‹_› ‹_› ‹_› ‹_› ‹_› ‹_›
  |exact a4w ‹_›
  |exact b5z ‹_›
  |(have hq:=a4w ‹_›;dsimp only[yu] at hq;omega)
  |((try simp only[AQ]);omega)
  |skip)
def Qf(n:Nat):Sig:= {X:=ZX Int,args:=fun x=>[usA x.1 (uh x),.int .i64 (zl x)],pre:=fun x=>bPu (n+1) x.1 (uh x) (zl x),Y:=UY,post:=fun x y=>bQu (n+1) x.1 (uh x) (zl x) (yu y),res:=fun x y=> .tup [],outs:=fun x y=>[usA x.1 (yu y),.top],keep:=true}
def SM(n:Nat)(x:ZX Int):LS:= {ι:=Int×UY,inv:=fun i=>bkU n x.1 (uh x) (zl x) i.1 (yu i.2),regs:=fun i=>[(0,usA x.1 (yu i.2)),(4,Ag (Aa x.1.ns (zl x)).kids),(5,.int .i64 i.1)],als:=[],meas:=fun i=>(Aa x.1.ns (zl x)).kids.length-i.1.toNat,sub:=fun j=>[(100004,{ι:=UY,inv:=fun i=>bkU n x.1 (uh x) (zl x) (j.1+1) (yu i),regs:=fun i=>[(0,usA x.1 (yu i)),(4,Ag (Aa x.1.ns (zl x)).kids),(5,.int .i64 j.1)],als:=[],meas:=fun _=>0})]}
theorem b5H(n:Nat)(h:uAll G n):Al G Tryz.prog 74 (Qf n):=
 vcFun_okP [(97,0,(Dr n))] [] false (fun x=>[(2,SM n x)]) Tryz.func74 rfl (by decide) ⟨(b5G n h),trivial⟩ (fun(x:ZX Int)=>True∧((0:Int)≤zl x∧zl x<(↑(List.length x.1.ns):Int))∧∀(e:Nd),x.1.ns[Int.toNat (zl x)]? =some e→eA (SM n x) [.box 0 [nds x.1.ns,AV.sl false 0 2 (List UInt8×Int) Ai (uh x).cells,Ad (uh x).out,.int .i64 (uh x).code,.int .i64 (uh x).steps,.int .i64 x.1.L,.int .i64 (uh x).deep,.bool (uh x).done,.int .i64 (uh x).ret],Ag e.kids,.int .i64 (0:Int)]∧∀(i:Int×UY),bkU n x.1 (uh x) (zl x) i.1 (yu i.2)→Ab (decide (i.1<(↑(List.length (Aa x.1.ns (zl x)).kids):Int))) (Ab ((yu i.2).code==(0:Int)) (Ab (!(yu i.2).done) (true=true∧(((0:Int)≤i.1∧i.1<(↑(List.length (Aa x.1.ns (zl x)).kids):Int))∧∀(e:Int),(Aa x.1.ns (zl x)).kids[Int.toNat i.1]? =some e→((0:Int)≤e∧e<(↑(List.length x.1.ns):Int))∧∀(e_1:Nd),x.1.ns[Int.toNat e]? =some e_1→cA (Dr n) [.box 0 [nds x.1.ns,AV.sl false 0 2 (List UInt8×Int) Ai (yu i.2).cells,Ad (yu i.2).out,.int .i64 (yu i.2).code,.int .i64 (yu i.2).steps,.int .i64 x.1.L,.int .i64 (yu i.2).deep,.bool (yu i.2).done,.int .i64 (yu i.2).ret],.agg [.int .i64 e_1.kind,.str e_1.text,Ag e_1.kids,.bool e_1.blank]] fun x_1 y=>true=true∧∃(i_1:UY),bkU n x.1 (uh x) (zl x) (i.1+(1:Int)) (yu i_1)∧(nds x_1.1.ns=nds x.1.ns∧AV.sl false 0 2 (List UInt8×Int) Ai (yu y).cells=AV.sl false 0 2 (List UInt8×Int) Ai (yu i_1).cells∧Ad (yu y).out=Ad (yu i_1).out∧(yu y).code=(yu i_1).code∧(yu y).steps=(yu i_1).steps∧x_1.1.L=x.1.L∧(yu y).deep=(yu i_1).deep∧(yu y).done=(yu i_1).done∧(yu y).ret=(yu i_1).ret∧Ag (Aa x.1.ns (zl x)).kids=Ag (Aa x.1.ns (zl x)).kids∧i.1=i.1∧True)∧True)∧∀(i_1:UY),bkU n x.1 (uh x) (zl x) (i.1+(1:Int)) (yu i_1)→inR IntKind.i64 (i.1+(1:Int))∧eN (SM n x) i [.box 0 [nds x.1.ns,AV.sl false 0 2 (List UInt8×Int) Ai (yu i_1).cells,Ad (yu i_1).out,.int .i64 (yu i_1).code,.int .i64 (yu i_1).steps,.int .i64 x.1.L,.int .i64 (yu i_1).deep,.bool (yu i_1).done,.int .i64 (yu i_1).ret],Ag (Aa x.1.ns (zl x)).kids,.int .i64 (i.1+(1:Int))]) (rA (Qf n) x [.tup [],.box 0 [nds x.1.ns,AV.sl false 0 2 (List UInt8×Int) Ai (yu i.2).cells,Ad (yu i.2).out,.int .i64 (yu i.2).code,.int .i64 (yu i.2).steps,.int .i64 x.1.L,.int .i64 (yu i.2).deep,.bool (yu i.2).done,.int .i64 (yu i.2).ret],.top])) (rA (Qf n) x [.tup [],.box 0 [nds x.1.ns,AV.sl false 0 2 (List UInt8×Int) Ai (yu i.2).cells,Ad (yu i.2).out,.int .i64 (yu i.2).code,.int .i64 (yu i.2).steps,.int .i64 x.1.L,.int .i64 (yu i.2).deep,.bool (yu i.2).done,.int .i64 (yu i.2).ret],.top])) (rA (Qf n) x [.tup [],.box 0 [nds x.1.ns,AV.sl false 0 2 (List UInt8×Int) Ai (yu i.2).cells,Ad (yu i.2).out,.int .i64 (yu i.2).code,.int .i64 (yu i.2).steps,.int .i64 x.1.L,.int .i64 (yu i.2).deep,.bool (yu i.2).done,.int .i64 (yu i.2).ret],.top])) (fun x=>by kernel_rfl) fun(x:ZX Int) (hx:bPu (n+1) x.1 (uh x) (zl x))=>(by
 dsimp only[cA,Ai,cls,eA,eN,SM,Ag,Bx,nds,Ad,rA,Qf,Dr,usA,Aw,Az,mvL,lnL,mvE,lnE,Bv]
 obtain⟨s,o,c,t,d,cs,en,re,k⟩:=x;dsimp only[uh,zl] at hx ⊢
 have hx:bPu (n+1) s ⟨o,c,t,d,cs,en,re⟩ k:=hx
 have hk:=b5F hx
 (repeat' first|(with_reducible first|rfl|exact True.intro|apply AK|apply And.intro|((first|apply AA|apply AI|apply AB|apply AJ)<;>intro _))|(apply Ax<;>intro _)|apply AH|refine Af () ?_ ?_|((first|apply AO|apply AN|apply AM|apply AL|apply AG|apply AF|apply AE|apply AD|apply AC)<;>try dsimp only)|apply Af|(refine Prod.forall.2 ?_;intro _;try dsimp only)|(intro _;try dsimp only))
 all_goals(try simp only[KH] at*)
 all_goals(repeat(rename s.ns[_]? =some _=>hq;have hqe:=(Bo hq).symm;clear hq;subst hqe))
 all_goals(try(repeat(rename(_:List Int)[_]? =some _=>hq;revert hq;rename(_:List Int)[_]? =some _=>hr;intro hq;rw[hr] at hq;cases hq)))
 all_goals(try(have hB:=a4y (show bkU _ _ _ _ _ _ by assumption)))
 all_goals first
  |rfl
  |exact hx
  |exact hk.1
  |exact hk.2
  |exact b5B hx
  |exact Xn ‹_› (.inl ‹_›)
  |exact Xn ‹_› (.inr (.inl ‹_›))
  |exact Xn ‹_› (.inr (.inr ‹_›))
  |exact(Xo hx ‹_›).1.1
  |exact(Xo hx ‹_›).1.2
  |exact b5D hx ‹_› ‹_›
  |exact b5E ‹_› ‹_› ‹_› ‹_› ‹_›
  |((try simp only[AQ]);omega)
  |(rename bkU _ _ _ _ (_+1) _=>hq;clear hq;have hB2:=a4y (show bkU _ _ _ _ _ _ by assumption);omega)
  |skip)
end Go.My
end
section
namespace Go.My
open Go.Eng Go.Proofs
variable {G:GInv}
theorem a4z{P:Program}{f:FuncId}{S:Sig}{fn:Func}{c:Code}(hfn:P.funcs[f]? =some fn)(hb:fn.body=some c)(hn:(fn.name== "runtime.NumGoroutine")=false)(hp:∀x,¬S.pre x):Al G P f S:=
 ⟨⟨⟨fn,hfn,hn,by simp [hb]⟩,fun x y hx _=>(hp x hx).elim⟩,fun x hx=>(hp x hx).elim⟩
theorem a4A{ns:List Nd}{m:Mc}{c:Int}(h:mOk m)(hc:0≤c)(hf:Ct ns m 0 c):False:=by
 have h1:=h.1.2.2
 have:0≤(21-m.deep)*((ns.length:Int)+1):=Int.mul_nonneg (by omega) (by omega)
 unfold Ct at hf;omega
theorem b5I:uAll G 0:=
 ⟨a4z Tryz.func122 rfl (by decide) (fun x h=>a4A h.1.2.1 h.2.1.1.1.1 h.2.1.2),a4z Tryz.func74 rfl (by decide) (fun x h=>a4A h.1.2.1 h.2.1.1.1 h.2.2)⟩
theorem b5J(n:Nat):uAll G n:=by
 induction n with
 |zero=>exact b5I
 |succ n ih=>exact⟨b4K n ih,b5H n ih⟩
def uFU:Nat:=7000
def Qg:Sig:= {X:=ZX (Int×List Int),args:=fun x=>[usA x.1 (uh x),.int .i64 (zl x).1,Ag (zl x).2],pre:=fun x=>mPu uFU x.1 (uh x) (zl x).1 (zl x).2,Y:=Int×UY,post:=fun x y=>mQu uFU x.1 (uh x) (zl x).1 (zl x).2 (yw y),res:=fun x y=> .int .i64 y.1,outs:=fun x y=>[usA x.1 (yu y.2),.top,.top],keep:=true}
theorem b5K:Al G Go.Proofs.Tryz.prog 44 Qg:=a3Z uFU (b5J uFU)
abbrev RuY:=List Int×Int×Int×Int
abbrev ms0:Ms:=⟨[],0,0,0,[],false,0⟩
def b5L(p:Int×Ms):RuY:=(p.2.out,if p.2.code=0 then p.1 else 0,p.2.code,p.2.steps)
def b5M(ns:List Nd)(t:List UInt8)(az:List Int)(L:Int)(y:RuY):Prop:=(Bl ns t (Bf ns).kids<0∧y=([],0,1,0))∨(0≤Bl ns t (Bf ns).kids∧∃p,meU ns (eu ns uFU).blk (Bl ns t (Bf ns).kids) az L ms0=some p∧y=b5L p)
def ruQ(ns:List Nd)(t:List UInt8)(az:List Int)(st:Int)(y:RuY):Prop:=b5M ns t az (min st 1000) y∧y.1.length≤5159780352000
theorem b5N{ns ms:List Nd}{R:Int→Int→Prop}(H:Alike ns ms R){t:List UInt8}{az:List Int}{st:Int}{y z:RuY}(h:ruQ ns t az st y)(g:ruQ ms t az st z):y=z:=by
 rcases h.1 with⟨h1,h2⟩|⟨h1,p,h2,h3⟩
 ·rcases g.1 with⟨g1,g2⟩|⟨g1,q,g2,g3⟩
  ·rw[h2,g2]
  ·rcases H.meth t with e|⟨e,_⟩<;>omega
 ·rcases g.1 with⟨g1,g2⟩|⟨g1,q,g2,g3⟩
  ·rcases H.meth t with e|⟨e,_⟩<;>omega
  ·rcases H.meth t with e|⟨_,e⟩
   ·omega
   ·have hB:=(a2u H uFU uFU).2
    have:=a2p H hB e (a2t t h1) _ _ _ _ h2 g2
    rw[h3,g3,this]
theorem b5O{ns:List Nd}{t:List UInt8}{az:List Int}{st:Int}(h:Bl ns t (Bf ns).kids<0):ruQ ns t az st ([],0,1,0):=⟨.inl ⟨h,rfl⟩,by simp⟩
theorem b5P:uOk ms0:=⟨⟨by simp [mc,ms0],by simp [mc,ms0,pot]⟩,⟨by simp [ms0],by simp [ms0,mc]⟩,Hf⟩
theorem b5Q{ns:List Nd}{t:List UInt8}{az:List Int}{L:Int}(h:tOk ns)(hL:L≤1000)(hb:∀a∈az,bdd a)(hl:az.length≤12)(hk:¬Bl ns t (Bf ns).kids<0):mPu uFU ⟨ns,L⟩ ms0 (Bl ns t (Bf ns).kids) az:=by
 refine⟨⟨⟨⟨h,hL⟩,b5P⟩,hb,hl⟩,a3X (s:=⟨ns,L⟩) ⟨h,hL⟩ hk,?_⟩
 have:=h.2;unfold uFU ms0;simp only;omega
theorem a4B{ns:List Nd}{t:List UInt8}{az:List Int}{st v r:Int}{m:Ms}(hk:¬Bl ns t (Bf ns).kids<0)(hm:mQu uFU ⟨ns,min st 1000⟩ ms0 (Bl ns t (Bf ns).kids) az (v,m))(hr:r=if m.code=0 then v else 0):ruQ ns t az st (m.out,r,m.code,m.steps):=by
 have g:=hm.2.1.1.1
 have h1:=g.2;have h2:=g.1.1;unfold pot at h1
 exact⟨.inr ⟨by omega,(v,m),hm.1.1,by rw[hr];rfl⟩,by simp only[mc] at*;omega⟩
theorem b5R{ns:List Nd}{t:List UInt8}{az:List Int}{st v:Int}{m:Ms}(hk:¬Bl ns t (Bf ns).kids<0)(hm:mQu uFU ⟨ns,min st 1000⟩ ms0 (Bl ns t (Bf ns).kids) az (v,m))(hq:m.code=0):ruQ ns t az st (m.out,v,m.code,m.steps):=a4B hk hm (by rw[if_pos hq])
theorem b5S{ns:List Nd}{t:List UInt8}{az:List Int}{st v:Int}{m:Ms}(hk:¬Bl ns t (Bf ns).kids<0)(hm:mQu uFU ⟨ns,min st 1000⟩ ms0 (Bl ns t (Bf ns).kids) az (v,m))(hq:¬m.code=0):ruQ ns t az st (m.out,0,m.code,m.steps):=a4B hk hm (by rw[if_neg hq])
theorem b5T{n:Int}{m:Ms}(h:bdd n):uKm n m=m:=if_pos (Ih.2 h)
def ugI(az:List Int)(i:Int):Prop:=(0≤i∧i≤az.length)∧az.length≤12
theorem b5U{az:List Int}(h:az.length≤12):ugI az 0:=⟨by omega,h⟩
theorem b5V{az:List Int}{i:Int}(h:ugI az i):(0≤i∧i≤az.length)∧az.length≤12:=h
theorem b5W{az:List Int}{i:Int}(h:ugI az i)(hl:i<az.length):ugI az (i+1):=⟨by have:=h.1;omega,h.2⟩
theorem b5X{n:Nat}{s:ZS}{m:Ms}{k:Int}{az:List Int}{y:Int×Ms}(h:mQu n s m k az y):y.2.out.length<2^62:=by
 have g:=h.2.1.1.1
 have h1:=g.2;have h2:=g.1.1;unfold pot at h1;simp only[mc] at*;omega
theorem b5Y{T0 T1 T2 T3 T4 T5 T6 T7:Type}{p q:ZS×T0×T1×T2×T3×T4×T5×T6×T7→Prop}(a:List Nd)(b:Int)(v0:T0)(v1:T1)(v2:T2)(v3:T3)(v4:T4)(v5:T5)(v6:T6)(v7:T7)(h2:q (⟨a,b⟩,v0,v1,v2,v3,v4,v5,v6,v7))(h1:p (⟨a,b⟩,v0,v1,v2,v3,v4,v5,v6,v7)):∃x,p x∧q x:=⟨_,h1,h2⟩
theorem b5Z{T0 T1 T2 T3 T4 T5 T6 T7 T8:Type}{p q:ZS×T0×T1×T2×T3×T4×T5×T6×T7×T8→Prop}(a:List Nd)(b:Int)(v0:T0)(v1:T1)(v2:T2)(v3:T3)(v4:T4)(v5:T5)(v6:T6)(v7:T7)(v8:T8)(h2:q (⟨a,b⟩,v0,v1,v2,v3,v4,v5,v6,v7,v8))(h1:p (⟨a,b⟩,v0,v1,v2,v3,v4,v5,v6,v7,v8)):∃x,p x∧q x:=⟨_,h1,h2⟩
theorem b6a{ns:List Nd}{t:List UInt8}{az:List Int}{st:Int}{y:RuY}(h:ruQ ns t az st y):y.1.length≤5159780352000:=h.2
theorem b6b:AU ⟨[],0,0,0,[],false,0⟩=⟨[],1,0,0,[],false,0⟩:=rfl
attribute [local irreducible] ugI mPu cQu ruQ BB meU
def Qh:Sig:= {X:=List Nd×List UInt8×List Int×Int,args:=fun x=>[nds x.1,.str x.2.1,Ag x.2.2.1,.int .i64 x.2.2.2],pre:=fun x=>tOk x.1∧(∀a∈x.2.2.1,bdd a)∧x.2.2.1.length≤12,Y:=RuY,post:=fun x y=>ruQ x.1 x.2.1 x.2.2.1 x.2.2.2 y,res:=fun x y=> .agg [Ag y.1,.int .i64 y.2.1,.int .i64 y.2.2.1,.int .i64 y.2.2.2],outs:=fun x y=>[.top,.top,.top,.top],keep:=true}
def b6c(x:List Nd×List UInt8×List Int×Int):LS:= {ι:=Unit,inv:=fun _=>True,regs:=fun _=>[(2,Ag x.2.2.1),(8,.box 0 [Ad [],.int .i64 0,.int .i64 0,.int .i64 0]),(9,.int .i64 (Bl x.1 x.2.1 (Bf x.1).kids)),(10,usA ⟨x.1,min x.2.2.2 1000⟩ ⟨[],0,0,0,[],false,0⟩)],als:=[],meas:=fun _=>0}
def SN(x:List Nd×List UInt8×List Int×Int):LS:= {ι:=Int,inv:=fun i=>ugI x.2.2.1 i,regs:=fun i=>[(2,Ag x.2.2.1),(8,.box 0 [Ad [],.int .i64 0,.int .i64 0,.int .i64 0]),(9,.int .i64 (Bl x.1 x.2.1 (Bf x.1).kids)),(10,usA ⟨x.1,min x.2.2.2 1000⟩ ⟨[],0,0,0,[],false,0⟩),(11,.int .i64 0),(12,.int .i64 i)],als:=[],meas:=fun i=>x.2.2.1.length-i.toNat}
def KO(x:List Nd×List UInt8×List Int×Int):LS:= {ι:=Int×UY,inv:=fun i=>ruQ x.1 x.2.1 x.2.2.1 x.2.2.2 ((yu i.2).out,i.1,(yu i.2).code,(yu i.2).steps),regs:=fun i=>[(8,.box 0 [Ad [],.int .i64 0,.int .i64 0,.int .i64 0]),(10,usA ⟨x.1,min x.2.2.2 1000⟩ (yu i.2)),(11,.int .i64 i.1)],als:=[],meas:=fun _=>0}
def b6d(x:List Nd×List UInt8×List Int×Int):LS:= {ι:=RuY,inv:=fun i=>ruQ x.1 x.2.1 x.2.2.1 x.2.2.2 i,regs:=fun i=>[(8,.box 0 [Ag i.1,.int .i64 i.2.1,.int .i64 i.2.2.1,.int .i64 i.2.2.2])],als:=[],meas:=fun _=>0}
def Qi(x:List Nd×List UInt8×List Int×Int)(i:Int×UY):Prop:=∃(zs:List Int),Ad (yu i.2).out=Ad zs∧Br Bc∧Ba ((0:Nat)+List.length zs) (8:Nat)∧true=true∧∃(i_1:RuY),ruQ x.1 x.2.1 x.2.2.1 x.2.2.2 i_1∧(AV.sl false 0 1 Int (fun(x:Int)=>fzL (Bc x)) ([]++zs)=Ag i_1.1∧i.1=i_1.2.1∧(yu i.2).code=i_1.2.2.1∧(yu i.2).steps=i_1.2.2.2∧True)∧True
def SO(x:List Nd×List UInt8×List Int×Int)(i:Int×UY):Prop:=(Qi x i)∧∃(zs:List Int),Ad (yu i.2).out=Ad zs∧Br Bc∧Ba ((0:Nat)+List.length zs) (8:Nat)∧true=true∧∃(i_1:RuY),ruQ x.1 x.2.1 x.2.2.1 x.2.2.2 i_1∧(AV.sl false 0 1 Int (fun(x:Int)=>fzL (Bc x)) ([]++zs)=Ag i_1.1∧i.1=i_1.2.1∧(yu i.2).code=i_1.2.2.1∧(yu i.2).steps=i_1.2.2.2∧True)∧True
def Od(x:List Nd×List UInt8×List Int×Int)(i:Int×UY):Prop:=(SO x i)∧∃(zs:List Int),Ad (yu i.2).out=Ad zs∧Br Bc∧Ba ((0:Nat)+List.length zs) (8:Nat)∧true=true∧∃(i_1:RuY),ruQ x.1 x.2.1 x.2.2.1 x.2.2.2 i_1∧(AV.sl false 0 1 Int (fun(x:Int)=>fzL (Bc x)) ([]++zs)=Ag i_1.1∧i.1=i_1.2.1∧(yu i.2).code=i_1.2.2.1∧(yu i.2).steps=i_1.2.2.2∧True)∧True
def Xq(x:List Nd×List UInt8×List Int×Int)(i:Int×UY):Prop:=((∃(zs:List Int),Ad (yu i.2).out=Ad zs∧Br Bc∧Ba ((0:Nat)+List.length zs) (8:Nat)∧(true=true∧∃(i_1:RuY),ruQ x.1 x.2.1 x.2.2.1 x.2.2.2 i_1∧(AV.sl false 0 1 Int (fun(x:Int)=>fzL (Bc x)) ([]++zs)=Ag i_1.1∧i.1=i_1.2.1∧(yu i.2).code=i_1.2.2.1∧(yu i.2).steps=i_1.2.2.2∧True)∧True)∧true=true∧∃(i_1:RuY),ruQ x.1 x.2.1 x.2.2.1 x.2.2.2 i_1∧(AV.sl false 0 1 Int (fun(x:Int)=>fzL (Bc x)) ([]++zs)=Ag i_1.1∧i.1=i_1.2.1∧(yu i.2).code=i_1.2.2.1∧(yu i.2).steps=i_1.2.2.2∧True)∧True)∧(SO x i)∧(Qi x i)∧∃(zs:List Int),Ad (yu i.2).out=Ad zs∧Br Bc∧Ba ((0:Nat)+List.length zs) (8:Nat)∧true=true∧∃(i_1:RuY),ruQ x.1 x.2.1 x.2.2.1 x.2.2.2 i_1∧(AV.sl false 0 1 Int (fun(x:Int)=>fzL (Bc x)) ([]++zs)=Ag i_1.1∧i.1=i_1.2.1∧(yu i.2).code=i_1.2.2.1∧(yu i.2).steps=i_1.2.2.2∧True)∧True)∧(Od x i)∧(SO x i)∧∃(zs:List Int),Ad (yu i.2).out=Ad zs∧Br Bc∧Ba ((0:Nat)+List.length zs) (8:Nat)∧true=true∧∃(i_1:RuY),ruQ x.1 x.2.1 x.2.2.1 x.2.2.2 i_1∧(AV.sl false 0 1 Int (fun(x:Int)=>fzL (Bc x)) ([]++zs)=Ag i_1.1∧i.1=i_1.2.1∧(yu i.2).code=i_1.2.2.1∧(yu i.2).steps=i_1.2.2.2∧True)∧True
def SP(x:List Nd×List UInt8×List Int×Int)(i:Int×UY):Prop:=(Xq x i)∧(Xq x i)∧((Od x i)∧(Od x i)∧(Qi x i)∧∃(zs:List Int),Ad (yu i.2).out=Ad zs∧Br Bc∧Ba ((0:Nat)+List.length zs) (8:Nat)∧true=true∧∃(i_1:RuY),ruQ x.1 x.2.1 x.2.2.1 x.2.2.2 i_1∧(AV.sl false 0 1 Int (fun(x:Int)=>fzL (Bc x)) ([]++zs)=Ag i_1.1∧i.1=i_1.2.1∧(yu i.2).code=i_1.2.2.1∧(yu i.2).steps=i_1.2.2.2∧True)∧True)∧(Od x i)∧(Od x i)∧(Qi x i)∧∃(zs:List Int),Ad (yu i.2).out=Ad zs∧Br Bc∧Ba ((0:Nat)+List.length zs) (8:Nat)∧true=true∧∃(i_1:RuY),ruQ x.1 x.2.1 x.2.2.1 x.2.2.2 i_1∧(AV.sl false 0 1 Int (fun(x:Int)=>fzL (Bc x)) ([]++zs)=Ag i_1.1∧i.1=i_1.2.1∧(yu i.2).code=i_1.2.2.1∧(yu i.2).steps=i_1.2.2.2∧True)∧True
set_option maxHeartbeats 8000000 in
theorem b6e:Al G Tryz.prog 13 Qh:=
 vcFun_okP [(14,0,JN),(42,0,HL),(43,0,Db),(44,0,Qg)] [(25,⟨Int,Bc⟩)] false (fun x=>[(200005,b6c x),(7,SN x),(200016,KO x),(100016,b6d x)]) Tryz.func13 rfl (by decide) ⟨a3S,a3R,Mq,b5K,trivial⟩ (fun(x:List Nd×List UInt8×List Int×Int)=>True∧cA JN [nds x.1,.str x.2.1] fun x_1 y=>Ab (decide (x.2.2.2>(1000:Int))) (∃(i:Unit),True∧(Ag x.2.2.1=Ag x.2.2.1∧(@List.nil (Int))=[]∧(0:Int)=(0:Int)∧(0:Int)=(0:Int)∧(0:Int)=(0:Int)∧Bl x_1.1 x_1.2 (Bf x_1.1).kids=Bl x.1 x.2.1 (Bf x.1).kids∧nds x.1=nds x.1∧(@List.nil (List UInt8×Int))=[]∧Ad []=Ad []∧(0:Int)=(0:Int)∧(0:Int)=(0:Int)∧(1000:Int)=min x.2.2.2 (1000:Int)∧(0:Int)=(0:Int)∧false=false∧(0:Int)=(0:Int)∧True)∧True) (∃(i:Unit),True∧(Ag x.2.2.1=Ag x.2.2.1∧(@List.nil (Int))=[]∧(0:Int)=(0:Int)∧(0:Int)=(0:Int)∧(0:Int)=(0:Int)∧Bl x_1.1 x_1.2 (Bf x_1.1).kids=Bl x.1 x.2.1 (Bf x.1).kids∧nds x.1=nds x.1∧(@List.nil (List UInt8×Int))=[]∧Ad []=Ad []∧(0:Int)=(0:Int)∧(0:Int)=(0:Int)∧x.2.2.2=min x.2.2.2 (1000:Int)∧(0:Int)=(0:Int)∧false=false∧(0:Int)=(0:Int)∧True)∧True)∧∀(i:Unit),True→eA (SN x) [Ag x.2.2.1,.box 0 [Ad [],.int .i64 (0:Int),.int .i64 (0:Int),.int .i64 (0:Int)],.int .i64 (Bl x.1 x.2.1 (Bf x.1).kids),.box 0 [nds x.1,AV.sl false 0 2 (List UInt8×Int) Ai [],Ad [],.int .i64 (0:Int),.int .i64 (0:Int),.int .i64 (min x.2.2.2 (1000:Int)),.int .i64 (0:Int),.bool false,.int .i64 (0:Int)],.int .i64 (0:Int),.int .i64 (0:Int)]∧∀(i:Int),ugI x.2.2.1 i→Ab (decide (i<(↑(List.length x.2.2.1):Int))) (((0:Int)≤i∧i<(↑(List.length x.2.2.1):Int))∧∀(e:Int),x.2.2.1[Int.toNat i]? =some e→cA HL [.box 0 [nds x.1,AV.sl false 0 2 (List UInt8×Int) Ai [],Ad [],.int .i64 (0:Int),.int .i64 (0:Int),.int .i64 (min x.2.2.2 (1000:Int)),.int .i64 (0:Int),.bool false,.int .i64 (0:Int)],.int .i64 e] fun x_2 y=>inR IntKind.i64 (i+(1:Int))∧eN (SN x) i [Ag x.2.2.1,.box 0 [Ad [],.int .i64 (0:Int),.int .i64 (0:Int),.int .i64 (0:Int)],.int .i64 (Bl x.1 x.2.1 (Bf x.1).kids),.box 0 [nds x_2.1.ns,AV.sl false 0 2 (List UInt8×Int) Ai (uKm (zl x_2) (uh x_2)).cells,Ad (uKm (zl x_2) (uh x_2)).out,.int .i64 (uKm (zl x_2) (uh x_2)).code,.int .i64 (uKm (zl x_2) (uh x_2)).steps,.int .i64 x_2.1.L,.int .i64 (uKm (zl x_2) (uh x_2)).deep,.bool (uKm (zl x_2) (uh x_2)).done,.int .i64 (uKm (zl x_2) (uh x_2)).ret],.int .i64 (0:Int),.int .i64 (i+(1:Int))]) (Ab (decide (Bl x.1 x.2.1 (Bf x.1).kids<(0:Int))) (cA Db [.box 0 [nds x.1,AV.sl false 0 2 (List UInt8×Int) Ai [],Ad [],.int .i64 (0:Int),.int .i64 (0:Int),.int .i64 (min x.2.2.2 (1000:Int)),.int .i64 (0:Int),.bool false,.int .i64 (0:Int)]] fun x_2 y=>Ab ((AU (uh x_2)).code==(0:Int)) (cA Qg [.box 0 [nds x_2.1.ns,AV.sl false 0 2 (List UInt8×Int) Ai (AU (uh x_2)).cells,Ad (AU (uh x_2)).out,.int .i64 (AU (uh x_2)).code,.int .i64 (AU (uh x_2)).steps,.int .i64 x_2.1.L,.int .i64 (AU (uh x_2)).deep,.bool (AU (uh x_2)).done,.int .i64 (AU (uh x_2)).ret],.int .i64 (Bl x.1 x.2.1 (Bf x.1).kids),Ag x.2.2.1] fun x_3 y=>Ab ((yu y.2).code != (0:Int)) (eA (KO x) [.box 0 [Ad [],.int .i64 (0:Int),.int .i64 (0:Int),.int .i64 (0:Int)],.box 0 [nds x_3.1.ns,AV.sl false 0 2 (List UInt8×Int) Ai (yu y.2).cells,Ad (yu y.2).out,.int .i64 (yu y.2).code,.int .i64 (yu y.2).steps,.int .i64 x_3.1.L,.int .i64 (yu y.2).deep,.bool (yu y.2).done,.int .i64 (yu y.2).ret],.int .i64 (0:Int)]) (eA (KO x) [.box 0 [Ad [],.int .i64 (0:Int),.int .i64 (0:Int),.int .i64 (0:Int)],.box 0 [nds x_3.1.ns,AV.sl false 0 2 (List UInt8×Int) Ai (yu y.2).cells,Ad (yu y.2).out,.int .i64 (yu y.2).code,.int .i64 (yu y.2).steps,.int .i64 x_3.1.L,.int .i64 (yu y.2).deep,.bool (yu y.2).done,.int .i64 (yu y.2).ret],.int .i64 y.1])∧∀(i:Int×UY),ruQ x.1 x.2.1 x.2.2.1 x.2.2.2 ((yu i.2).out,i.1,(yu i.2).code,(yu i.2).steps)→true=true∧(SP x i)∧∀(i:RuY),ruQ x.1 x.2.1 x.2.2.1 x.2.2.2 i→∃(y:RuY),ruQ x.1 x.2.1 x.2.2.1 x.2.2.2 y∧Ag i.1=Ag y.1∧i.2.1=y.2.1∧i.2.2.1=y.2.2.1∧i.2.2.2=y.2.2.2∧True) (Ab ((AU (uh x_2)).code != (0:Int)) (eA (KO x) [.box 0 [Ad [],.int .i64 (0:Int),.int .i64 (0:Int),.int .i64 (0:Int)],.box 0 [nds x_2.1.ns,AV.sl false 0 2 (List UInt8×Int) Ai (AU (uh x_2)).cells,Ad (AU (uh x_2)).out,.int .i64 (AU (uh x_2)).code,.int .i64 (AU (uh x_2)).steps,.int .i64 x_2.1.L,.int .i64 (AU (uh x_2)).deep,.bool (AU (uh x_2)).done,.int .i64 (AU (uh x_2)).ret],.int .i64 (0:Int)]) (eA (KO x) [.box 0 [Ad [],.int .i64 (0:Int),.int .i64 (0:Int),.int .i64 (0:Int)],.box 0 [nds x_2.1.ns,AV.sl false 0 2 (List UInt8×Int) Ai (AU (uh x_2)).cells,Ad (AU (uh x_2)).out,.int .i64 (AU (uh x_2)).code,.int .i64 (AU (uh x_2)).steps,.int .i64 x_2.1.L,.int .i64 (AU (uh x_2)).deep,.bool (AU (uh x_2)).done,.int .i64 (AU (uh x_2)).ret],.int .i64 (0:Int)])∧∀(i:Int×UY),ruQ x.1 x.2.1 x.2.2.1 x.2.2.2 ((yu i.2).out,i.1,(yu i.2).code,(yu i.2).steps)→true=true∧(SP x i)∧∀(i:RuY),ruQ x.1 x.2.1 x.2.2.1 x.2.2.2 i→∃(y:RuY),ruQ x.1 x.2.1 x.2.2.1 x.2.2.2 y∧Ag i.1=Ag y.1∧i.2.1=y.2.1∧i.2.2.1=y.2.2.1∧i.2.2.2=y.2.2.2∧True)) (cA Qg [.box 0 [nds x.1,AV.sl false 0 2 (List UInt8×Int) Ai [],Ad [],.int .i64 (0:Int),.int .i64 (0:Int),.int .i64 (min x.2.2.2 (1000:Int)),.int .i64 (0:Int),.bool false,.int .i64 (0:Int)],.int .i64 (Bl x.1 x.2.1 (Bf x.1).kids),Ag x.2.2.1] fun x_2 y=>Ab ((yu y.2).code != (0:Int)) (eA (KO x) [.box 0 [Ad [],.int .i64 (0:Int),.int .i64 (0:Int),.int .i64 (0:Int)],.box 0 [nds x_2.1.ns,AV.sl false 0 2 (List UInt8×Int) Ai (yu y.2).cells,Ad (yu y.2).out,.int .i64 (yu y.2).code,.int .i64 (yu y.2).steps,.int .i64 x_2.1.L,.int .i64 (yu y.2).deep,.bool (yu y.2).done,.int .i64 (yu y.2).ret],.int .i64 (0:Int)]) (eA (KO x) [.box 0 [Ad [],.int .i64 (0:Int),.int .i64 (0:Int),.int .i64 (0:Int)],.box 0 [nds x_2.1.ns,AV.sl false 0 2 (List UInt8×Int) Ai (yu y.2).cells,Ad (yu y.2).out,.int .i64 (yu y.2).code,.int .i64 (yu y.2).steps,.int .i64 x_2.1.L,.int .i64 (yu y.2).deep,.bool (yu y.2).done,.int .i64 (yu y.2).ret],.int .i64 y.1])∧∀(i:Int×UY),ruQ x.1 x.2.1 x.2.2.1 x.2.2.2 ((yu i.2).out,i.1,(yu i.2).code,(yu i.2).steps)→true=true∧(SP x i)∧∀(i:RuY),ruQ x.1 x.2.1 x.2.2.1 x.2.2.2 i→∃(y:RuY),ruQ x.1 x.2.1 x.2.2.1 x.2.2.2 y∧Ag i.1=Ag y.1∧i.2.1=y.2.1∧i.2.2.1=y.2.2.1∧i.2.2.2=y.2.2.2∧True))) (fun x=>by kernel_rfl) fun(x:List Nd×List UInt8×List Int×Int) (hx:tOk x.1∧(∀a∈x.2.2.1,bdd a)∧x.2.2.1.length≤12)=>(by
 dsimp only[SP,Xq,Od,SO,Qi,cA,Ai,cls,eA,eN,SN,KO,Ag,Bx,nds,Ad,JN,Db,HL,Qg,usA,Aw,Az,mvL,lnL,mvE,lnE,Bv]
 obtain⟨ns,t,az,st⟩:=x;dsimp only at hx ⊢
 obtain⟨h1,h3,h4⟩:=hx
 (repeat' first|(apply b5Z<;>try dsimp only)|(apply b5Y<;>try dsimp only)|(with_reducible first|rfl|exact True.intro|apply AK|apply And.intro|((first|apply AA|apply AI|apply AB|apply AJ)<;>intro _))|(apply Ax<;>intro _)|apply AH|refine Af () ?_ ?_|((first|apply AO|apply AN|apply AM|apply AL|apply AG|apply AF|apply AE|apply AD|apply AC)<;>try dsimp only)|apply Af|(refine Prod.forall.2 ?_;intro _;try dsimp only)|(intro _;try dsimp only))
 all_goals first|exact()|skip
 all_goals(try dsimp only[uh] at*)
 all_goals(try simp only[b6b,KH] at*)
 all_goals(try(have hB:=b5V (show ugI _ _ by assumption)))
 all_goals(try(have hC:=b5T (m:=ms0) (h3 _ (BJ (show az[_]? =some _ by assumption)))))
 all_goals first
  |rfl
  |assumption
  |exact h1
  |exact b5O ‹_›
  |exact b5U h4
  |exact b5W ‹_› ‹_›
  |(rw[hC];done)
  |exact b5Q h1 (by omega) h3 h4 ‹_›
  |exact b5R ‹_› ‹_› ‹_›
  |exact b5S ‹_› ‹_› ‹_›
  |(have hq:=b6a (show ruQ _ _ _ _ _ by assumption);dsimp only at hq;(try simp only[Ba,List.length_nil]);omega)
  |(have hq:=b5X ‹_›;(try simp only[Ba,List.length_nil]);dsimp only[yu] at hq;omega)
  |((try simp only[AQ,Ba,List.length_nil]);omega)
  |skip
 all_goals trace_state)
end Go.My
end
section
namespace Go.My
open Go.Eng Go.Proofs
variable {G:GInv}
def suT(x:Nd):Prop:=¬(x.text=[38,38]∨x.text=[124,124])∧¬(x.text=[61,61]∨x.text=[60])
def suI(n:Nat)(s:ZS)(m0:Mc)(cs:Cls)(x:Nd)(i:Int)(m:Mc)(v:Int):Prop:=
 ((lpI s m0 m x.kids i (wS s.ns x.kids)∧x.kids.length≤12)∧(suT x∧bdd v))∧Ma ((ev s.ns n).val cs) x.text x.kids true 0 s.L m0=Ma ((ev s.ns n).val cs) x.text (x.kids.drop i.toNat) (decide (i=0)) v s.L m
attribute [local irreducible] lgI vQz vPz cQz suI chG PF Ma
end Go.My
end
section
namespace Go.My
open Go.Eng Go.Proofs
variable {G:GInv}
def mPz(n:Nat)(s:ZS)(m:Mc)(az:List Int):Prop:=((zB s∧mOk m)∧((∀a∈az,bdd a)∧az.length≤12))∧(21-m.deep)*((s.ns.length:Int)+1)≤n
def mK(s:ZS)(t:List UInt8):Int:=Bl s.ns t (Bf s.ns).kids
def mN(s:ZS)(t:List UInt8):Nd:=Aa s.ns (mK s t)
def naI(s:ZS)(t:List UInt8)(az:List Int)(i:Int)(cs:Cls):Prop:=
 (((0≤i∧i≤az.length)∧az.length≤12)∧((mN s t).kids.length:Int)=az.length+1)∧(((∀p∈cs,bdd p.2)∧(cs.length:Int)≤i)∧Hb s.ns ((mN s t).kids.take az.length) az []=Hb s.ns (((mN s t).kids.take az.length).drop i.toNat) (az.drop i.toNat) cs)
attribute [local irreducible] bQz bPz cQz naI mK mN
end Go.My
end
section
namespace Go.My
open Go.Eng Go.Proofs
variable {G:GInv}
def caP(n:Nat)(s:ZS)(m:Mc)(cs:Cls)(x:Nd):Prop:=cPz n s m cs x∧((1≤x.kids.length∧wS s.ns (x.kids.drop 1)+1≤pot m)∧(21-m.deep)*((s.ns.length:Int)+1)≤n)
def cN(s:ZS)(x:Nd):Nd:=Aa s.ns (Bu x 0)
def caI(n:Nat)(s:ZS)(m0:Mc)(cs:Cls)(x:Nd)(i:Int)(m:Mc)(az:List Int):Prop:=
 ((lpI s m0 m (x.kids.drop 1) i (wS s.ns (x.kids.drop 1))∧x.kids.length≤12)∧(((cN s x).kind=1∧(az.length:Int)=i)∧(∀a∈az,bdd a)∧(0<i→m.code=0)))∧
   RX ((ev s.ns n).val cs) (x.kids.drop 1) [] s.L m0=RX ((ev s.ns n).val cs) ((x.kids.drop 1).drop i.toNat) az s.L m
attribute [local irreducible] caI cN mPz vQz vPz cQz
end Go.My
end
section
namespace Go.My
open Go.Eng Go.Proofs
variable {G:GInv}
attribute [local irreducible] vQz vPz cQz caP cPz
end Go.My
end
section
namespace Go.My
open Go.Eng Go.Proofs
variable {G:GInv}
def kfZ(x:Nd):Prop:=(x.kind=16→2≤x.kids.length)∧(x.kind=17→x.kids.length=2)
def sPz(n:Nat)(s:ZS)(m:Mc)(f:Fr)(x:Nd):Prop:=((zB s∧mOk m)∧((∀p∈f.cells,bdd p.2)∧(f.cells.length:Int)+1≤20+m.steps)∧bdd f.ret)∧(((∀c∈x.kids,kOk s.ns m n c)∧x.kids.length≤12)∧5159780352≤pot m)∧kfZ x
abbrev zsR (n:Nat) (s:ZS) (x:Nd) (f:Fr):Run Fr:=stG (ev s.ns n).val (ev s.ns n).blk x f
def sQz(n:Nat)(s:ZS)(m:Mc)(f:Fr)(x:Nd)(y:Fr×Mc):Prop:=(zsR n s x f s.L m=some y∧fOk y.1 y.2)∧El m y.2 5159780352
def zsI(n:Nat)(s:ZS)(m0:Mc)(f:Fr)(x:Nd)(v:Int)(m:Mc):Prop:=(zsR n s x f s.L m0=Gx f (a1N (ev s.ns n).val (ev s.ns n).blk x f v) s.L m∧bdd v)∧El m0 m 5159780352
def whI(n:Nat)(s:ZS)(m0:Mc)(f0:Fr)(x:Nd)(v:Int)(m:Mc)(f:Fr)(N:Nat):Prop:=
 ((zsR n s x f0 s.L m0=Wg (ev s.ns n).val (ev s.ns n).blk x N v f s.L m∧(1002≤N+m.steps∧x.kids.length=2))∧fOk f m)∧El m0 m 5159780352
def bkI(n:Nat)(s:ZS)(m0:Mc)(f0:Fr)(k:Int)(i:Int)(y:Fr×Mc):Prop:=
 (((0≤i∧i≤(Aa s.ns k).kids.length)∧(Aa s.ns k).kids.length≤12)∧(PG s.ns (ev s.ns n).val (ev s.ns n).blk (Aa s.ns k).kids f0 s.L m0=PG s.ns (ev s.ns n).val (ev s.ns n).blk ((Aa s.ns k).kids.drop i.toNat) y.1 s.L y.2∧fOk y.1 y.2))∧El m0 y.2 0
attribute [local irreducible] vQz vPz cQz bQz bPz sQz sPz zsI whI bkI
end Go.My
end
section
namespace Go.My
open Go.Eng
def restP{α:Type}(sg:List Sg)(x:Gs)(f:Ps→Option (α×Ps))(y:Gs)(g:Ps→Option (α×Ps))(d:Int):Prop:=
 gsOk sg y∧y.deep=x.deep+d∧x.pos≤y.pos∧(pur y).bind g=(pur x).bind f
theorem Ds{α:Type}{sg:List Sg}{x:Gs}{f:Ps→Option (α×Ps)}(h:gsOk sg x):restP sg x f x f 0:=⟨h,by omega,Int.le_refl _,rfl⟩
theorem Ee{α:Type}{sg:List Sg}{x y:Gs}{f g g':Ps→Option (α×Ps)}{d:Int}(h:restP sg x f y g d)(e:∀s,pur y=some s→g s=g' s):restP sg x f y g' d:=by
 refine⟨h.1,h.2.1,h.2.2.1,?_⟩
 rw[←h.2.2.2]
 cases hs:pur y with
 |none=>rfl
 |some s=>exact(e s hs).symm
theorem a4C{α:Type}{sg:List Sg}{x y z:Gs}{f g g':Ps→Option (α×Ps)}{h:Ps→Option Ps}{d:Int}(h1:restP sg x f y g d)(h2:WF sg y h z)(e:∀s,pur y=some s→g s=(h s).bind g'):restP sg x f z g' d:=by
 obtain⟨a1,a2,a3,a4⟩:=h1;obtain⟨b1,b2,b3,b4⟩:=h2
 refine⟨b1,by omega,by omega,?_⟩
 rw[b4,←a4]
 cases hs:pur y with
 |none=>rfl
 |some s=>simp only[Option.bind_some];rw[e s hs]
theorem BU{α β:Type}{sg:List Sg}{x y:Gs}{z:β×Gs}{f g:Ps→Option (α×Ps)}{k:β→Ps→Option (α×Ps)}{h:Ps→Option (β×Ps)}{d:Int}(h1:restP sg x f y g d)(h2:BG sg y h z)
 (e:∀s,pur y=some s→g s=(h s).bind fun p=>k p.1 p.2):restP sg x f z.2 (k z.1) d:=by
 obtain⟨a1,a2,a3,a4⟩:=h1;obtain⟨b1,b2,b3,b4,b5⟩:=h2
 refine⟨b1,by omega,by omega,?_⟩
 rw[b4,←a4]
 cases hs:pur y with
 |none=>rfl
 |some s=>
  simp only[Option.bind_some];rw[e s hs]
  rw[hs] at b5
  simp only[Option.bind_some] at b5
  cases hp:h s with
  |none=>rfl
  |some p=>simp only[Option.map_some,Option.bind_some];rw[b5 p hp]
theorem Hk{α:Type}{sg:List Sg}{x y:Gs}{f:Ps→Option (α×Ps)}{a:α}(h:restP sg x f y (fun s=>some (a,s)) 0):BG sg x f (a,y):=by
 obtain⟨a1,a2,a3,a4⟩:=h
 refine⟨a1,by simp only;omega,a3,?_,?_⟩
 ·rw[←a4];cases pur y<;>rfl
 ·intro p hp;rw[←a4] at hp
  cases hs:pur y with
  |none=>rw[hs] at hp;cases hp
  |some s=>rw[hs] at hp;simp only[Option.bind_some,Option.some.injEq] at hp;rw[←hp]
theorem Qj{α:Type}{sg:List Sg}{x y:Gs}{f g:Ps→Option (α×Ps)}{a:α}(h:restP sg x f y g 0)(hb:y.bad=true):BG sg x f (a,y):=by
 obtain⟨a1,a2,a3,a4⟩:=h
 rw[Ec hb] at a4
 have hn:(pur x).bind f=none:=a4.symm
 refine⟨a1,by simp only;omega,a3,?_,fun p hp=>by rw[hn] at hp;cases hp⟩
 rw[hn,Ec hb];rfl
theorem a4D{α:Type}{sg:List Sg}{x y:Gs}{f g:Ps→Option (α×Ps)}{d:Int}(h:restP sg x f y g d)(e:∀s,pur y=some s→g s=none):(pur x).bind f=none:=by
 rw[←h.2.2.2]
 cases hs:pur y with
 |none=>rfl
 |some s=>exact e s hs
theorem a4E{α:Type}{sg:List Sg}{x y:Gs}{f g:Ps→Option (α×Ps)}{a:α}(h:restP sg x f y g 0)(e:∀s,pur y=some s→g s=none):BG sg x f (a,Bt y):=by
 have hn:=a4D h e
 refine⟨Mm h.1,by simp only[Bt];have:=h.2.1;omega,h.2.2.1,?_,fun p hp=>by rw[hn] at hp;cases hp⟩
 rw[hn,JM];rfl
theorem Mw{α:Type}{sg:List Sg}{x y:Gs}{f g g':Ps→Option (α×Ps)}{d e:Int}(h:restP sg x f y g d)(hd:0≤y.deep+e∧y.deep+e≤21)(hg:∀s,pur y=some s→g s=g' (dp s e)):restP sg x f (gDp y e) g' (d+e):=by
 obtain⟨a1,a2,a3,a4⟩:=h
 refine⟨⟨a1.1,hd,a1.2.2⟩,by simp only[gDp];omega,a3,?_⟩
 rw[←a4]
 cases hb:y.bad with
 |true=>rw[Ec hb,Ec (by simpa [gDp] using hb)];rfl
 |false=>
  rw[Dm hb,Dm (g:=gDp y e) (by simpa [gDp] using hb)]
  simp only[Option.bind_some]
  rw[hg _ (Dm hb)];rfl
theorem a4F{α:Type}{sg:List Sg}{x y:Gs}{f g g':Ps→Option (α×Ps)}{d:Int}(h:restP sg x f y g d)(hg:∀s,pur y=some s→g s=none):restP sg x f (Bt y) g' d:=by
 have hn:=a4D h hg
 refine⟨Mm h.1,h.2.1,h.2.2.1,?_⟩
 rw[JM,hn];rfl
theorem JR{sg:List Sg}{g:Gs}{s:Ps}{m:List UInt8}(hs:pur g=some s)(hm:isG sg g 4 m=true):isM sg s m=true:=WH hm hs
theorem EW{sg:List Sg}{g:Gs}{s:Ps}{m:List UInt8}(hs:pur g=some s)(hm:isG sg g 4 m=false):isM sg s m=false:=Sx hm hs
theorem EC{sg:List Sg}{g:Gs}{s:Ps}{m:List UInt8}(hs:pur g=some s)(hm:isG sg g 1 m=false):isW sg s m=false:=Sx hm hs
theorem Hl{α:Type}{sg:List Sg}{x y:Gs}{f g g':Ps→Option (α×Ps)}{d:Int}{m:List UInt8}{k:Int}(h:restP sg x f y g d)(hk:k≠0)(hm:isG sg y k m=true)(hg:∀s,pur y=some s→isT sg s k m=true→g s=g' (adv s)):
 restP sg x f (Aq y) g' d:=by
 obtain⟨h1,h2,h3⟩:=a3J h.1 hk hm
 refine a4C h h1 fun s hs=> ?_
 have ht:=WH hm hs
 rw[hg s hs ht,ht];rfl
theorem HN{α:Type}{sg:List Sg}{x y:Gs}{f g g':Ps→Option (α×Ps)}{d:Int}{m:List UInt8}(h:restP sg x f y g d)(hg:∀s,pur y=some s→g s=(BF sg m s).bind g'):restP sg x f (As sg y m) g' d:=
 a4C h (PU h.1).1 hg
theorem b6f{α:Type}{sg:List Sg}{x:Gs}{y:α×Gs}{f:Ps→Option (α×Ps)}(h:BG sg x f y):restP sg x f y.2 (fun s=>some (y.1,s)) 0:=by
 obtain⟨a1,a2,a3,a4,a5⟩:=h
 refine⟨a1,by omega,a3,?_⟩
 cases hp:(pur x).bind f with
 |none=>rw[a4,hp];rfl
 |some p=>rw[a4,hp,a5 p hp];rfl
theorem b6g{sg:List Sg}{one:Ps→PR}{m:List UInt8}{n:Nat}{ks:List Int}{s:Ps}(h:isM sg s m=true):Bw sg one m (n+1) ks s=some (ks,s):=by rw[Bw,if_pos h]
theorem b6h{sg:List Sg}{one:Ps→PR}{m:List UInt8}{n:Nat}{ks:List Int}{s:Ps}(h:isM sg s m=false):Bw sg one m (n+1) ks s=(one s).bind fun p=>if isM sg p.2 [44] then Bw sg one m n (ks++[p.1]) (adv p.2) else some (ks++[p.1],p.2):=by
 rw[Bw,if_neg (by simp [h])]
def ED(sg:List Sg):Nat→Int→Int
 |0,i=>i
 |n+1,i=>if i+1<sg.length∧(sgO sg i).kind=1 then(if(sgO sg (i+1)).text=[44] then ED sg n (i+2) else i+1) else i
def JS(sg:List Sg)(i k:Int)(t:List UInt8):Bool:=decide ((sgO sg i).kind=k)&&((sgO sg i).text==t)
def FL(sg:List Sg)(i:Int):Bool:=decide (i+1<sg.length)&&(JS sg i 4 [41]&&JS sg (i+1) 4 [61,62])
def KP(sg:List Sg)(s:Ps):Bool:=FL sg (ED sg (sg.length+1) (s.pos+1))
def sgM(sg:List Sg):Prop:=∀e∈sg,(e.text=[41]∨e.text=[61,62]∨e.text=[44])→e.kind=4
theorem Xr{sg:List Sg}{i:Int}(h:(sgO sg i).text≠[]∨(sgO sg i).kind≠0):i.toNat<sg.length∧sgO sg i∈sg:=by
 unfold sgO at h ⊢
 rw[List.getD_eq_getElem?_getD] at h ⊢
 cases hx:sg[i.toNat]? with
 |none=>rw[hx] at h;simp [ET] at h
 |some e=>exact⟨(List.getElem?_eq_some_iff.1 hx).1,by simpa using List.mem_of_getElem? hx⟩
theorem SQ{sg:List Sg}(hm:sgM sg){i:Int}(h:(sgO sg i).text=[41]∨(sgO sg i).text=[61,62]∨(sgO sg i).text=[44]):(sgO sg i).kind=4:=by
 refine hm _ (Xr (.inl ?_)).2 h
 rcases h with h|h|h<;>rw[h]<;>simp
def a4G(sg:List Sg)(i:Int):Bool:=((sgO sg i).text==[41])&&((sgO sg (i+1)).text==[61,62])
theorem Xs{sg:List Sg}(hm:sgM sg){i:Int}(h0:0≤i):a4G sg i=FL sg i:=by
 unfold a4G FL JS
 cases h1:((sgO sg i).text==[41]) with
 |false=>simp
 |true=>
  have k1:=SQ hm (.inl (by simpa using h1))
  cases h2:((sgO sg (i+1)).text==[61,62]) with
  |false=>simp
  |true=>
   have k2:=SQ hm (.inr (.inl (by simpa using h2)))
   have:=(Xr (sg:=sg) (i:=i+1) (.inl (by simp at h2;rw[h2];simp))).1
   simp [k1,k2];omega
theorem SR{sg:List Sg}{i:Int}(h:DH sg i=true):(sgO sg i).kind=1:=by
 simp [DH] at h;exact h.1
theorem a4H{sg:List Sg}(hm:sgM sg):∀(n:Nat) (i:Int),0≤i→FL sg (En sg n i)=true→FL sg (ED sg n i)=true
 |0,i,h0,h=>by simpa [En,ED] using h
 |n+1,i,h0,h=>by
  rw[En] at h;rw[ED]
  cases hn:DH sg i with
  |false=>
   rw[hn] at h;simp only[Bool.false_eq_true,if_false] at h
   have h4:(sgO sg i).kind=4:=by
    simp only[FL,JS,Bool.and_eq_true,decide_eq_true_eq] at h;exact h.2.1.1
   rw[if_neg (by rw[h4];omega)];exact h
  |true=>
   rw[hn,if_pos rfl] at h
   have hk:=SR hn
   have hlt:i+1<sg.length:=by
    split at h
    ·rename_i ht
     have:=(Xr (sg:=sg) (i:=i+1) (.inl (by rw[ht];simp))).1;omega
    ·simp only[FL,Bool.and_eq_true,decide_eq_true_eq] at h;omega
   rw[if_pos ⟨hlt,hk⟩]
   split at h
   ·rename_i ht;rw[if_pos ht];exact a4H hm n (i+2) (by omega) h
   ·rename_i ht;rw[if_neg ht];exact h
theorem a4I{sg:List Sg}(hm:sgM sg):∀(n:Nat) (i:Int),0≤i→FL sg (ED sg n i)=true→FL sg (En sg n i)=false→∀(N:Nat) (ks:List Int) (s:Ps),s.pos=i→Bw sg (BS sg) [41] N ks s=none
 |0,i,h0,h1,h2=>by simp [En,ED] at h1 h2;rw[h1] at h2;cases h2
 |n+1,i,h0,h1,h2=>by
  intro N ks s hs
  match N with
  |0=>rfl
  |N+1=>
  rw[ED] at h1;rw[En] at h2
  cases hn:DH sg i with
  |false=>
   rw[hn] at h2;simp only[Bool.false_eq_true,if_false] at h2
   split at h1
   ·rename_i hh
    have hm4:isM sg s [41]=false:=by simp [isM,isT,hs,hh.2]
    rw[Bw,if_neg (by simp [hm4]),BS,hs,if_neg (by simp [hn])];rfl
   ·rw[h1] at h2;cases h2
  |true=>
   rw[hn,if_pos rfl] at h2
   have hk:=SR hn
   have hm4:isM sg s [41]=false:=by simp [isM,isT,hs,hk]
   split at h1
   ·split at h1
    ·rename_i ht;rw[if_pos ht] at h2
     have hk2:=SQ hm (.inr (.inr ht))
     rw[Bw,if_neg (by simp [hm4]),BS,hs,if_pos hn,FH,FZ,Bd]
     split
     ·rfl
     ·simp only[Option.map_some,Option.bind_some,adv]
      have hc:isM sg ⟨s.pos+1,s.deep,s.nodes++[⟨1,(sgO sg s.pos).text,[],false⟩]⟩ [44]=true:=by simp [isM,isT,hs,ht,hk2]
      rw[if_pos hc]
      exact a4I hm n (i+2) (by omega) h1 h2 N _ _ (by simp only;omega)
    ·rename_i ht;rw[if_neg ht] at h2;rw[h1] at h2;cases h2
   ·exfalso
    have:(sgO sg i).kind=4:=by simp only[FL,JS,Bool.and_eq_true,decide_eq_true_eq] at h1;exact h1.2.1.1
    omega
theorem Oe{sg:List Sg}(hm:sgM sg):∀(n:Nat) (t:NT) (s:Ps),DH sg s.pos=true→(sgO sg (s.pos+1)).text=[44]→0≤s.pos→(pE sg n t s=none∨∃p,pE sg n t s=some p∧p.2.pos=s.pos+1)
 |0,t,s,h1,h2,h0=> .inl (by cases t<;>rfl)
 |n+1,t,s,h1,h2,h0=>by
  have hk:=SQ hm (.inr (.inr h2))
  have tst:∀(q:Ps) (m:List UInt8),q.pos=s.pos+1→m≠[44]→isM sg q m=false:=by
   intro q m hq hne;simp only[isM,isT,hq,h2]
   simp;intro _;exact fun e=>hne e.symm
  cases t with
  |value=>
   rw[pE]
   rcases Oe hm n .pick s h1 h2 h0 with h|⟨p,h,hp⟩
   ·left;rw[h];rfl
   ·right;refine⟨p,?_,hp⟩
    rw[h,Option.bind_some,if_neg (by simp [tst p.2 [46,46] hp (by simp)])]
  |pick=>
   rw[pE]
   split
   ·exact .inl rfl
   ·rcases Oe hm n (.chain 0) (dp s 1) h1 h2 h0 with h|⟨p,h,hp⟩
    ·left;rw[h];rfl
    ·right;refine⟨(p.1,dp p.2 (-1)),?_,hp⟩
     rw[h,Option.bind_some,if_neg (by simp [tst p.2 [63] hp (by simp)])]
  |chain l=>
   rw[pE]
   split
   ·exact Oe hm n .fin s h1 h2 h0
   ·rcases Oe hm n (.chain (l+1)) s h1 h2 h0 with h|⟨p,h,hp⟩
    ·left;rw[h];rfl
    ·right
     have hc:JH sg l p.2=[]:=by
      have:∀m∈BT l,isM sg p.2 m=false:=by
       intro m hmm
       refine tst p.2 m hp ?_
       intro e;subst e
       unfold BT at hmm
       split at hmm<;>simp at hmm
      rw[JH,List.find?_eq_none.2 (by intro m hmm;simp [this m hmm])];rfl
     refine⟨(p.1,p.2),?_,hp⟩
     rw[h,Option.bind_some,Gb,if_neg (by simp),if_pos hc];rfl
  |fin=>
   rw[pE]
   rcases Oe hm n .base s h1 h2 h0 with h|⟨p,h,hp⟩
   ·left;rw[h];rfl
   ·right;refine⟨p,?_,hp⟩
    rw[h,Option.bind_some,FI,if_neg (by simp [tst p.2 [40] hp (by simp)]),if_neg (by simp [tst p.2 [46] hp (by simp)])]
  |base=>
   rw[pE,if_pos (SR h1),BS,if_pos h1,FH,FZ,Bd]
   split
   ·exact .inl rfl
   ·exact .inr ⟨_,rfl,rfl⟩
theorem Of{sg:List Sg}:∀(n:Nat) (t:NT) (s:Ps),DH sg s.pos=false→(sgO sg s.pos).kind=1→pE sg n t s=none
 |0,t,s,h1,h2=>by cases t<;>rfl
 |n+1,t,s,h1,h2=>by
  cases t with
  |value=>rw[pE,Of n .pick s h1 h2];rfl
  |pick=>rw[pE];split
         ·rfl
         ·rw[Of n (.chain 0) (dp s 1) h1 h2];rfl
  |chain l=>rw[pE];split
            ·exact Of n .fin s h1 h2
            ·rw[Of n (.chain (l+1)) s h1 h2];rfl
  |fin=>rw[pE,Of n .base s h1 h2];rfl
  |base=>rw[pE,if_pos h2,BS,if_neg (by simp [h1])]
theorem b6i{sg:List Sg}(hm:sgM sg){s:Ps}{n:Nat}{x:Nd}(h0:0≤s.pos)(h1:KP sg s=true)(h2:KF sg s=false)(k:Int→Nd):
 ((pE sg n .value (adv s)).bind fun p=>Bs sg [41] (k p.1) p.2)=none:=by
 have h2':FL sg (En sg (sg.length+1) (s.pos+1))=false:=by
  have hp:∀(n:Nat) (i:Int),0≤i→0≤En sg n i:=by
   intro n
   induction n with
   |zero=>intro i hi;simpa [En] using hi
   |succ n ih=>intro i hi;rw[En];split
               ·split
                ·exact ih _ (by omega)
                ·omega
               ·exact hi
  rw[←Xs hm (hp _ _ (by omega))];exact h2
 unfold KP at h1
 rw[ED] at h1;rw[En] at h2'
 cases hn:DH sg (s.pos+1) with
 |false=>
  rw[hn] at h2';simp only[Bool.false_eq_true,if_false] at h2'
  split at h1
  ·rename_i hh
   rw[Of n .value (adv s) hn hh.2];rfl
  ·rw[h1] at h2';cases h2'
 |true=>
  rw[hn,if_pos rfl] at h2'
  split at h1
  ·split at h1
   ·rename_i ht
    rcases Oe hm n .value (adv s) hn (by simpa [adv] using ht) (by simp only[adv];omega) with h|⟨p,h,hp⟩
    ·rw[h];rfl
    ·rw[h,Option.bind_some,Bs]
     have:isM sg p.2 [41]=false:=by
      simp only[isM,isT,hp,adv]
      rw[show s.pos+1+1=s.pos+1+1 from rfl,ht];simp
     rw[if_neg (by simp [this])]
   ·rename_i ht;rw[if_neg ht] at h2';rw[h1] at h2';cases h2'
  ·exfalso
   have:(sgO sg (s.pos+1)).kind=4:=by simp only[FL,JS,Bool.and_eq_true,decide_eq_true_eq] at h1;exact h1.2.1.1
   have:=SR hn
   omega
theorem a4J{sg:List Sg}{n:Nat}{s:Ps}:pE sg (n+1) .pick s=if 20≤s.deep then none else(pE sg n (.chain 0) (dp s 1)).bind fun p=>
 if isM sg p.2 [63] then(pE sg n .pick (adv p.2)).bind fun a=>(BF sg [58] a.2).bind fun s1=>(pE sg n .pick s1).bind fun b=>(Bd ⟨8,[],[p.1,a.1,b.1],false⟩ b.2).map fun q=>(q.1,dp q.2 (-1))
 else some (p.1,dp p.2 (-1)):=rfl
theorem b6j{sg:List Sg}{n l:Nat}{s:Ps}:pE sg (n+1) (.chain l) s=if l=6 then pE sg n .fin s else(pE sg n (.chain (l+1)) s).bind fun p=>Gb sg l (pE sg n (.chain (l+1))) (2*sg.length+4) [] [p.1] p.2:=rfl
theorem Gc{α:Type}{sg:List Sg}{x:Gs}{f:Ps→Option (α×Ps)}{y:α×Gs}(h:Ah sg x f y):gsOk sg y.2:=h.1.1
theorem CX{α:Type}{sg:List Sg}{x:Gs}{f:Ps→Option (α×Ps)}{y:α×Gs}(h:Ah sg x f y):y.2.deep=x.deep∧x.pos≤y.2.pos∧y.2.pos≤sg.length∧(y.2.bad=false→x.bad=false∧x.pos<y.2.pos):=by
 refine⟨h.1.2.1,h.1.2.2.1,h.1.1.1.2,fun hb=>⟨?_,h.2 hb⟩⟩
 cases hx:x.bad with
 |false=>rfl
 |true=>
  have:=h.1.2.2.2.1
  rw[Ec hx,Dm hb] at this;cases this
theorem JT{g:Gs}{x:Nd}:(An g x).deep=g.deep∧(An g x).pos=g.pos∧((An g x).bad=false→g.bad=false):=by
 unfold An;split
 ·rename_i h;exact⟨rfl,rfl,fun hb=>by simp [Bt] at hb⟩
 ·exact⟨rfl,rfl,fun hb=>hb⟩
theorem SS{sg:List Sg}{x y:Gs}{f:Ps→PR}{w:Nd}(h:restP sg x f y (Bd w) 0)(hw:Dl w):BG sg x f (AW y,An y w):=by
 have h2:=BU (k:=fun a s=>some (a,s)) h (Sz h.1 hw) (fun s _=>by cases Bd w s<;>rfl)
 exact Hk h2
theorem SU{sg:List Sg}{x y:Gs}{f:Ps→PR}{w:Nd}{m:List UInt8}(h:restP sg x f y (Bs sg m w) 0)(hw:Dl w):BG sg x f (CQ sg y m,CP sg y m w):=by
 have h2:=BU (k:=fun a s=>some (a,s)) h (NW h.1 hw).1 (fun s _=>by cases Bs sg m w s<;>rfl)
 exact Hk h2
theorem b6k{sg:List Sg}{x:Gs}{n:Nat}(h:gsOk sg x)(hd:x.deep≤20):restP sg x (pE sg (n+1) .pick) (gDp (if x.deep=20 then Bt x else x) 1)
 (fun s=>(pE sg n (.chain 0) s).bind fun p=>if isM sg p.2 [63] then(pE sg n .pick (adv p.2)).bind fun a=>(BF sg [58] a.2).bind fun s1=>(pE sg n .pick s1).bind fun b=>(Bd ⟨8,[],[p.1,a.1,b.1],false⟩ b.2).map fun q=>(q.1,dp q.2 (-1)) else some (p.1,dp p.2 (-1))) 1:=by
 split
 ·rename_i h20
  have h2:=a4F (d:=0) (g':=pE sg (n+1) .pick) (Ds (f:=pE sg (n+1) .pick) h) (fun s hs=>by
   obtain⟨_,rfl⟩:=EU.1 hs
   rw[a4J,if_pos (by simp only;omega)])
  refine Mw (d:=0) h2 ⟨by simp only[Bt];omega,by simp only[Bt];omega⟩ (fun s hs=> ?_)
  rw[JM] at hs;cases hs
 ·rename_i h20
  refine Mw (d:=0) (Ds h) ⟨by have:=h.2.1.1;omega,by omega⟩ (fun s hs=> ?_)
  obtain⟨_,rfl⟩:=EU.1 hs
  rw[a4J,if_neg (by simp only;omega)]
theorem a4K{sg:List Sg}{x:Gs}{n:Nat}{z:Int×Gs}(h:gsOk sg x)(hd:x.deep≤20)(h1:Ah sg (gDp (if x.deep=20 then Bt x else x) 1) (pE sg n (.chain 0)) z):
 restP sg x (pE sg (n+1) .pick) z.2 (fun s=>if isM sg s [63] then(pE sg n .pick (adv s)).bind fun a=>(BF sg [58] a.2).bind fun s1=>(pE sg n .pick s1).bind fun b=>(Bd ⟨8,[],[z.1,a.1,b.1],false⟩ b.2).map fun q=>(q.1,dp q.2 (-1)) else some (z.1,dp s (-1))) 1:=
 BU (k:=fun k s=>if isM sg s [63] then(pE sg n .pick (adv s)).bind fun a=>(BF sg [58] a.2).bind fun s1=>(pE sg n .pick s1).bind fun b=>(Bd ⟨8,[],[k,a.1,b.1],false⟩ b.2).map fun q=>(q.1,dp q.2 (-1)) else some (k,dp s (-1))) (b6k h hd) h1.1 (fun _ _=>rfl)
theorem Qk{x:Gs}:(gDp (if x.deep=20 then Bt x else x) 1).pos=x.pos∧(gDp (if x.deep=20 then Bt x else x) 1).deep=x.deep+1∧((gDp (if x.deep=20 then Bt x else x) 1).bad=false→x.bad=false∧x.deep≠20):=by
 split
 ·exact⟨rfl,rfl,fun h=>by simp [gDp,Bt] at h⟩
 ·rename_i h;exact⟨rfl,rfl,fun h2=>⟨h2,h⟩⟩
theorem b6l{sg:List Sg}{x:Gs}{n:Nat}{z:Int×Gs}(h:gsOk sg x)(hd:x.deep≤20)(h1:Ah sg (gDp (if x.deep=20 then Bt x else x) 1) (pE sg n (.chain 0)) z)(hq:isG sg z.2 4 [63]=false):
 Ah sg x (pE sg (n+1) .pick) (z.1,gDp z.2 (-1)):=by
 have h2:=Ee (a4K h hd h1) (g':=fun s=>some (z.1,dp s (-1))) (fun s hs=>by rw[if_neg (by simp [EW hs hq])])
 obtain⟨e1,e2,e3,e4⟩:=CX h1
 obtain⟨p1,p2,p3⟩:= @Qk x
 refine⟨Hk (Mw (e:= -1) h2 ?_ (fun s hs=>rfl)),fun hb=> ?_⟩
 ·have:=h.2.1;omega
 ·have:=e4 hb;show x.pos<z.2.pos;omega
theorem b6m{sg:List Sg}{x:Gs}{n:Nat}{z a b:Int×Gs}(h:gsOk sg x)(hd:x.deep≤20)(h1:Ah sg (gDp (if x.deep=20 then Bt x else x) 1) (pE sg n (.chain 0)) z)(hq:isG sg z.2 4 [63]=true)
 (h2:Ah sg (Aq z.2) (pE sg n .pick) a) (h3:Ah sg (As sg a.2 [58]) (pE sg n .pick) b):
 Ah sg x (pE sg (n+1) .pick) (AW b.2,gDp (An b.2 ⟨8,[],[z.1,a.1,b.1],false⟩) (-1)):=by
 have k1:=Hl (g':=fun s=>(pE sg n .pick s).bind fun a=>(BF sg [58] a.2).bind fun s1=>(pE sg n .pick s1).bind fun b=>(Bd ⟨8,[],[z.1,a.1,b.1],false⟩ b.2).map fun q=>(q.1,dp q.2 (-1)))
  (a4K h hd h1) (by omega) hq (fun s hs ht=>by rw[if_pos (show isM sg s [63]=true from ht)])
 have k2:=BU (k:=fun a s=>(BF sg [58] s).bind fun s1=>(pE sg n .pick s1).bind fun b=>(Bd ⟨8,[],[z.1,a,b.1],false⟩ b.2).map fun q=>(q.1,dp q.2 (-1))) k1 h2.1 (fun _ _=>rfl)
 have k3:=HN (g':=fun s1=>(pE sg n .pick s1).bind fun b=>(Bd ⟨8,[],[z.1,a.1,b.1],false⟩ b.2).map fun q=>(q.1,dp q.2 (-1))) k2 (fun _ _=>rfl)
 have k4:=BU (k:=fun b s=>(Bd ⟨8,[],[z.1,a.1,b],false⟩ s).map fun q=>(q.1,dp q.2 (-1))) k3 h3.1 (fun _ _=>rfl)
 have hw:Dl ⟨8,[],[z.1,a.1,b.1],false⟩:=⟨by simp,by simp⟩
 have k5:=BU (k:=fun k s=>some (k,dp s (-1))) k4 (Sz k4.1 hw) (fun s _=>by cases Bd ⟨8,[],[z.1,a.1,b.1],false⟩ s<;>rfl)
 simp only at k5
 obtain⟨d1,d2,d3⟩:= @JT b.2 ⟨8,[],[z.1,a.1,b.1],false⟩
 refine⟨Hk (Mw (e:= -1) k5 ?_ (fun s hs=>rfl)),fun hb=> ?_⟩
 ·have:=k5.2.1;have:=h.2.1;omega
 ·have hb2:=d3 hb
  obtain⟨p1,p2,p3⟩:= @Qk x
  have e1:=CX h1;have e2:=CX h2;have e3:=CX h3
  have e4:=PU (m:=[58]) (Gc h2)
  have e5:=(PU (m:=[58]) (Gc h2)).1.2.2.1
  show x.pos<(An b.2 ⟨8,[],[z.1,a.1,b.1],false⟩).pos
  have ea:(Aq z.2).pos=z.2.pos+1:=rfl
  have:=e3.2.1
  omega
def KQ(sg:List Sg)(n:Nat)(x y:Gs)(ks:List Int)(N:Nat):Prop:=
 restP sg x (pE sg (n+1) .value) y (fun s=>(Fm sg (pE sg n .value) N ks s).bind fun q=>Bd ⟨10,[],q.1,false⟩ q.2) 0∧(sg.length:Int)-y.pos<N∧(ks.length:Int)≤y.pos+1∧(y.bad=false→x.pos<y.pos)
theorem b6n{sg:List Sg}{x:Gs}{n:Nat}{z:Int×Gs}(h:gsOk sg x)(h1:Ah sg x (pE sg n .pick) z)(hq:isG sg z.2 4 [46,46]=false):Ah sg x (pE sg (n+1) .value) z:=by
 have k1:=BU (k:=fun k s=>if isM sg s [46,46] then(Fm sg (pE sg n .value) (sg.length+1) [k] s).bind fun q=>Bd ⟨10,[],q.1,false⟩ q.2 else some (k,s)) (Ds (f:=pE sg (n+1) .value) h) h1.1 (fun _ _=>rfl)
 have k2:=Ee k1 (g':=fun s=>some (z.1,s)) (fun s hs=>by rw[if_neg (by simp [EW hs hq])])
 exact⟨Hk k2,h1.2⟩
theorem b6o{sg:List Sg}{x:Gs}{n:Nat}{z:Int×Gs}(h:gsOk sg x)(h1:Ah sg x (pE sg n .pick) z)(hq:isG sg z.2 4 [46,46]=true):KQ sg n x z.2 [z.1] (sg.length+1):=by
 have k1:=BU (k:=fun k s=>if isM sg s [46,46] then(Fm sg (pE sg n .value) (sg.length+1) [k] s).bind fun q=>Bd ⟨10,[],q.1,false⟩ q.2 else some (k,s)) (Ds (f:=pE sg (n+1) .value) h) h1.1 (fun _ _=>rfl)
 have k2:=Ee k1 (g':=fun s=>(Fm sg (pE sg n .value) (sg.length+1) [z.1] s).bind fun q=>Bd ⟨10,[],q.1,false⟩ q.2) (fun s hs=>by rw[if_pos (JR hs hq)])
 have:=k2.1.1
 exact⟨k2,by omega,by simp;omega,h1.2⟩
theorem val_go{sg:List Sg}{x y:Gs}{n N:Nat}{ks:List Int}{w:Int×Gs}(hs:sgB sg)(h:KQ sg n x y ks N)(hq:isG sg y 4 [46,46]=true)
 (h2:Ah sg (Ed sg (Aq y)) (Dg sg (pE sg n .value) (Eo sg (Aq y))) w):∃M,N=M+1∧KQ sg n x w.2 (ks++[w.1]) M:=by
 obtain⟨h1,hN,hk,hb⟩:=h
 obtain⟨hl1,hl⟩:=Dn hq (by omega)
 match N with
 |0=>omega
 |M+1=>
  refine⟨M,rfl,?_⟩
  have k1:=Hl (g':=fun s=>((BS sg s).bind fun p=>(Dg sg (pE sg n .value) p.1 p.2).bind fun q=>Fm sg (pE sg n .value) M (ks++[q.1]) q.2).bind fun q=>Bd ⟨10,[],q.1,false⟩ q.2)
   h1 (by omega) hq (fun s hs ht=>by rw[Fm,if_pos (show isM sg s [46,46]=true from ht)])
  have k2:=BU (k:=fun k s=>((Dg sg (pE sg n .value) k s).bind fun q=>Fm sg (pE sg n .value) M (ks++[q.1]) q.2).bind fun q=>Bd ⟨10,[],q.1,false⟩ q.2) k1 (SA hs k1.1).1 (fun s _=>by simp only[Option.bind_assoc])
  have k3:=BU (k:=fun k s=>(Fm sg (pE sg n .value) M (ks++[k]) s).bind fun q=>Bd ⟨10,[],q.1,false⟩ q.2) k2 h2.1 (fun s _=>by simp only[Option.bind_assoc])
  have e0:(Aq y).pos≤(Ed sg (Aq y)).pos:=(SA hs k1.1).1.2.2.1
  have e1:=CX h2
  have ea:(Aq y).pos=y.pos+1:=rfl
  refine⟨k3,by omega,by simp;omega,fun hb2=> ?_⟩
  have:=h1.2.2.1
  omega
theorem b6p{sg:List Sg}{x y:Gs}{n N:Nat}{ks:List Int}(h:KQ sg n x y ks N)(hq:isG sg y 4 [46,46]=false)(hs:sgB sg):Ah sg x (pE sg (n+1) .value) (AW y,An y ⟨10,[],ks,false⟩):=by
 obtain⟨h1,hN,hk,hb⟩:=h
 have hp:=h1.1.1
 match N with
 |0=>omega
 |M+1=>
  have k1:=Ee h1 (g':=Bd ⟨10,[],ks,false⟩) (fun s hs=>by rw[Fm,if_neg (by simp [EW hs hq])];rfl)
  have:=hs.1
  refine⟨SS k1 ⟨by simp,by simp only;omega⟩,fun hb2=> ?_⟩
  obtain⟨d1,d2,d3⟩:= @JT y ⟨10,[],ks,false⟩
  simp only[d2];exact hb (d3 hb2)
theorem a4L{sg:List Sg}{one:Ps→PR}{m:List UInt8}{a:List Int}:∀(n:Nat) (ks:List Int) (s:Ps),Bw sg one m n (a++ks) s=(Bw sg one m n ks s).map fun p=>(a++p.1,p.2)
 |0,ks,s=>rfl
 |n+1,ks,s=>by
  rw[Bw,Bw]
  split
  ·rfl
  ·cases one s with
   |none=>rfl
   |some p=>
    simp only[Option.bind_some]
    split
    ·rw[List.append_assoc,a4L n (ks++[p.1])]
    ·simp
def Ji(sg:List Sg)(one:Ps→PR)(m:List UInt8)(x y:Gs)(ks:List Int)(N:Nat):Prop:=
 restP sg x (Bw sg one m (sg.length+1) []) y (Bw sg one m N ks) 0∧(sg.length:Int)-y.pos<N∧(ks.length:Int)≤y.pos
theorem b6q{sg:List Sg}{one:Ps→PR}{m:List UInt8}{x:Gs}(h:gsOk sg x):Ji sg one m x x [] (sg.length+1):=by
 have:=h.1
 exact⟨Ds h,by omega,by simp;omega⟩
theorem b6r{sg:List Sg}{one:Ps→PR}{m:List UInt8}{x y:Gs}{ks:List Int}{N:Nat}(h:Ji sg one m x y ks N)(hb:y.bad=true):BG sg x (Bw sg one m (sg.length+1) []) (ks,y):=Qj h.1 hb
theorem b6s{sg:List Sg}{one:Ps→PR}{m:List UInt8}{x y:Gs}{ks:List Int}{N:Nat}(h:Ji sg one m x y ks N)(hq:isG sg y 4 m=true):BG sg x (Bw sg one m (sg.length+1) []) (ks,y):=by
 obtain⟨h1,hN,hk⟩:=h
 have:=h1.1.1
 match N with
 |0=>omega
 |M+1=>exact Hk (Ee h1 (g':=fun s=>some (ks,s)) (fun s hs=>b6g (JR hs hq)))
theorem a4M{sg:List Sg}{one:Ps→PR}{m:List UInt8}{x y:Gs}{ks:List Int}{M:Nat}{z:Int×Gs}(h:Ji sg one m x y ks (M+1))(hq:isG sg y 4 m=false)(hz:Ah sg y one z):
 restP sg x (Bw sg one m (sg.length+1) []) z.2 (fun s=>if isM sg s [44] then Bw sg one m M (ks++[z.1]) (adv s) else some (ks++[z.1],s)) 0:=by
 have k1:=Ee h.1 (g':=fun s=>(one s).bind fun p=>if isM sg p.2 [44] then Bw sg one m M (ks++[p.1]) (adv p.2) else some (ks++[p.1],p.2)) (fun s hs=>b6h (EW hs hq))
 exact BU (k:=fun k s=>if isM sg s [44] then Bw sg one m M (ks++[k]) (adv s) else some (ks++[k],s)) k1 hz.1 (fun _ _=>rfl)
theorem a4N{sg:List Sg}{one:Ps→PR}{m:List UInt8}{x y:Gs}{ks:List Int}{N:Nat}(h:Ji sg one m x y ks N):∃M,N=M+1:=by
 obtain⟨h1,hN,hk⟩:=h
 have:=h1.1.1
 match N with
 |0=>omega
 |M+1=>exact⟨M,rfl⟩
theorem b6t{sg:List Sg}{one:Ps→PR}{m:List UInt8}{x y:Gs}{ks:List Int}{N:Nat}{z:Int×Gs}(h:Ji sg one m x y ks N)(hq:isG sg y 4 m=false)(hz:Ah sg y one z)(hc:isG sg z.2 4 [44]=false):
 BG sg x (Bw sg one m (sg.length+1) []) (ks++[z.1],z.2):=by
 obtain⟨M,rfl⟩:=a4N h
 exact Hk (Ee (a4M h hq hz) (g':=fun s=>some (ks++[z.1],s)) (fun s hs=>by rw[if_neg (by simp [EW hs hc])]))
theorem b6u{sg:List Sg}{one:Ps→PR}{m:List UInt8}{x y:Gs}{ks:List Int}{N:Nat}{z:Int×Gs}(h:Ji sg one m x y ks N)(hq:isG sg y 4 m=false)(hz:Ah sg y one z)(hc:isG sg z.2 4 [44]=true):
 ∃M,N=M+1∧Ji sg one m x (Aq z.2) (ks++[z.1]) M:=by
 obtain⟨M,rfl⟩:=a4N h
 have k1:=Hl (g':=Bw sg one m M (ks++[z.1])) (a4M h hq hz) (by omega) hc (fun s hs ht=>by rw[if_pos (show isM sg s [44]=true from ht)])
 have e:=CX hz
 obtain⟨h1,hN,hk⟩:=h
 refine⟨M,rfl,k1,?_,?_⟩
 ·simp only[Aq];omega
 ·simp only[Aq,List.length_append,List.length_cons,List.length_nil];omega
theorem b6v{sg:List Sg}{val:Ps→PR}{x:Gs}{k:Int}{l:List Int×Gs}(hx:gsOk sg x)(hl:BG sg (As sg x [40]) (Bw sg val [41] (sg.length+1) []) l)(hll:l.1.length≤3001):
 Ah sg x (Dg sg val k) (CQ sg l.2 [41],CP sg l.2 [41] ⟨5,[],k::l.1,false⟩):=by
 have k1:=HN (g':=fun s=>(Bw sg val [41] (sg.length+1) [k] s).bind fun p=>Bs sg [41] ⟨5,[],p.1,false⟩ p.2) (Ds (f:=Dg sg val k) hx) (fun _ _=>rfl)
 have k2:=BU (k:=fun ks s=>Bs sg [41] ⟨5,[],k::ks,false⟩ s) k1 hl (fun s _=>by
  rw[show([k]:List Int)=[k]++[] from rfl,a4L]
  cases Bw sg val [41] (sg.length+1) [] s<;>rfl)
 have hw:Dl ⟨5,[],k::l.1,false⟩:=⟨by simp,by simp;omega⟩
 refine⟨SU k2 hw,fun hb=> ?_⟩
 have:=(NW (m:=[41]) hl.1 hw).2 hb
 have e1:=hl.2.2.1
 have e2:=(PU (m:=[40]) hx).1.2.2.1
 simp only at this ⊢
 omega
def chF(sg:List Sg)(n l N:Nat)(t:List UInt8)(ks:List Int):Ps→PR:=Gb sg l (pE sg n (.chain (l+1))) N t ks
def chO(sg:List Sg)(n l:Nat)(x y:Gs)(k:Int)(N:Nat):Prop:=
 restP sg x (pE sg (n+1) (.chain l)) y (chF sg n l N [] [k]) 0∧2*((sg.length:Int)-y.pos)+3≤N∧(y.bad=false→x.pos<y.pos)
def chN(sg:List Sg)(n l:Nat)(m:List UInt8)(x y:Gs)(ks:List Int)(N:Nat):Prop:=
 restP sg x (pE sg (n+1) (.chain l)) y (chF sg n l N m ks) 0∧(2*((sg.length:Int)-y.pos)+4≤N∨(isG sg y 4 m=true∧2*((sg.length:Int)-y.pos)+3≤N))∧(ks.length:Int)≤y.pos+1∧(y.bad=false→x.pos<y.pos)
theorem b6w{sg:List Sg}{x:Gs}{n:Nat}{z:Int×Gs}(h1:Ah sg x (pE sg n .fin) z):Ah sg x (pE sg (n+1) (.chain 6)) z:=h1
theorem b6x{sg:List Sg}{x:Gs}{n l:Nat}{z:Int×Gs}(h:gsOk sg x)(hl:l≠6)(h1:Ah sg x (pE sg n (.chain (l+1))) z):chO sg n l x z.2 z.1 (2*sg.length+4):=by
 have k1:=Ee (Ds (f:=pE sg (n+1) (.chain l)) h) (g':=fun s=>(pE sg n (.chain (l+1)) s).bind fun p=>Gb sg l (pE sg n (.chain (l+1))) (2*sg.length+4) [] [p.1] p.2) (fun s _=>by rw[b6j,if_neg hl])
 have k2:=BU (k:=fun k s=>chF sg n l (2*sg.length+4) [] [k] s) k1 h1.1 (fun _ _=>rfl)
 have:=k2.1.1
 exact⟨k2,by omega,h1.2⟩
def Dt(sg:List Sg)(l:Nat)(g:Gs):List UInt8:=((BT l).find? fun m=>isG sg g 4 m).getD []
theorem KR{sg:List Sg}{l:Nat}{g:Gs}{s:Ps}(hs:pur g=some s):JH sg l s=Dt sg l g:=by
 unfold JH Dt
 congr 2
 funext m
 exact(Sv hs).symm
theorem chMG_t{sg:List Sg}{l:Nat}{g:Gs}(hb:g.bad=true):Dt sg l g=[]:=by
 unfold Dt
 rw[List.find?_eq_none.2 (by intro m _;rw[a3I (Ec hb) (by omega)];simp)];rfl
theorem b6y{l:Nat}{m:List UInt8}(h:m∈BT l):m≠[]:=by
 unfold BT at h
 split at h<;>simp at h<;>(first|(subst h;simp)|(rcases h with rfl|rfl<;>simp))
theorem KS{sg:List Sg}{l:Nat}{g:Gs}(h:Dt sg l g≠[]):isG sg g 4 (Dt sg l g)=true∧Dt sg l g∈BT l:=by
 unfold Dt at h ⊢
 cases hf:(BT l).find? fun m=>isG sg g 4 m with
 |none=>rw[hf] at h;exact(h rfl).elim
 |some m=>exact⟨by simpa using List.find?_some hf,by simpa using List.mem_of_find?_eq_some hf⟩
theorem b6z{sg:List Sg}{g:Gs}{m m':List UInt8}(h:isG sg g 4 m=true)(h':isG sg g 4 m'=true):m=m':=by
 simp [isG] at h h';rw[←h.2,h'.2]
theorem b6A{sg:List Sg}{l:Nat}{g:Gs}{m:List UInt8}(hm:m∈BT l)(h:isG sg g 4 m=true):Dt sg l g=m:=by
 unfold Dt
 cases hf:(BT l).find? fun m=>isG sg g 4 m with
 |none=>exact(List.find?_eq_none.1 hf m hm (by simpa using h)).elim
 |some m'=>exact(b6z (by simpa using List.find?_some hf) h)
def enI(sg:List Sg)(n:Nat)(x y:Gs)(k:Int)(N:Nat):Prop:=
 restP sg x (pE sg (n+1) .fin) y (FI sg (pE sg n .value) N k) 0∧(y.bad=false→(sg.length:Int)-y.pos<N)∧(y.bad=false→x.pos<y.pos)
theorem b6B{sg:List Sg}{x:Gs}{n:Nat}{z:Int×Gs}(h:gsOk sg x)(h1:Ah sg x (pE sg n .base) z):enI sg n x z.2 z.1 (sg.length+1):=by
 have k1:=BU (k:=fun k s=>FI sg (pE sg n .value) (sg.length+1) k s) (Ds (f:=pE sg (n+1) .fin) h) h1.1 (fun _ _=>rfl)
 have:=k1.1.1
 exact⟨k1,fun _=>by omega,h1.2⟩
theorem Ql{sg:List Sg}{n:Nat}{x y:Gs}{k:Int}{N:Nat}(h:enI sg n x y k N)(hb:y.bad=false):∃M,N=M+1:=by
 have h1:=h.1.1.1;have h2:=h.2.1 hb
 match N with
 |0=>omega
 |M+1=>exact⟨M,rfl⟩
theorem b6C{sg:List Sg}{n:Nat}{x y:Gs}{k a:Int}{N:Nat}(h:enI sg n x y k N)(hb:y.bad=true):Ah sg x (pE sg (n+1) .fin) (a,y):=
 ⟨Qj h.1 hb,fun hb2=>by simp only at hb2;rw[hb] at hb2;cases hb2⟩
theorem b6D{sg:List Sg}{n:Nat}{x y:Gs}{k:Int}{N:Nat}{w:Int×Gs}(h:enI sg n x y k N)(hq:isG sg y 4 [40]=true)(hw:Ah sg y (Dg sg (pE sg n .value) k) w):
 ∃M,N=M+1∧enI sg n x w.2 w.1 M:=by
 have hl:=Dn hq (by omega)
 obtain⟨M,rfl⟩:=Ql h hl.1
 obtain⟨h1,hN,hb⟩:=h
 have k1:=Ee h1 (g':=fun s=>(Dg sg (pE sg n .value) k s).bind fun p=>FI sg (pE sg n .value) M p.1 p.2) (fun s hs=>by rw[FI,if_pos (JR hs hq)])
 have k2:=BU (k:=fun k s=>FI sg (pE sg n .value) M k s) k1 hw.1 (fun _ _=>rfl)
 have e:=CX hw
 have hN2:=hN hl.1;have hb2:=hb hl.1
 exact⟨M,rfl,k2,fun hwb=>by have:=e.2.2.2 hwb;omega,fun hwb=>by have:=e.2.2.2 hwb;omega⟩
theorem b6E{sg:List Sg}{n:Nat}{x y:Gs}{k:Int}{N:Nat}(hs:sgB sg)(h:enI sg n x y k N)(hp:isG sg y 4 [40]=false)(hq:isG sg y 4 [46]=true)(hn:nmG sg (Aq y) 0=true):
 ∃M,N=M+1∧enI sg n x (Dp (An (Aq y) ⟨6,(pkG sg (Aq y) 0).text,[k],false⟩)) (AW (Aq y)) M:=by
 have hl:=Dn hq (by omega)
 obtain⟨M,rfl⟩:=Ql h hl.1
 obtain⟨h1,hN,hb⟩:=h
 have hw:Dl ⟨6,(pkG sg (Aq y) 0).text,[k],false⟩:=⟨PW hs,by simp⟩
 have hn2:=Sw hn
 have k1:=Hl (g':=fun s=>(FZ (Bd ⟨6,(pkG sg (Aq y) 0).text,[k],false⟩ s)).bind fun p=>FI sg (pE sg n .value) M p.1 p.2) h1 (by omega) hq (fun s hs ht=>by
  obtain⟨hb0,rfl⟩:=EU.1 hs
  rw[FI,if_neg (by simp [EW hs hp]),if_pos (show isM sg _ [46]=true from ht)]
  have e1:DH sg (y.pos+1)=true:=by
   have:=Ml (sg:=sg) (n:=0) (g:=Aq y) (Dm hn2.1)
   rw[hn] at this;simpa [Aq] using this.symm
  have e2:(pkG sg (Aq y) 0)=sgO sg (y.pos+1):=by rw[JL hn2.1];simp [Aq]
  rw[if_pos e1,e2])
 have hg:=WI k1.1 hw (fun _=>by omega)
 have k2:=BU (k:=fun k s=>FI sg (pE sg n .value) M k s) k1 hg.1 (fun _ _=>rfl)
 have e:=CX hg
 have hN2:=hN hl.1;have hb2:=hb hl.1
 simp only[Aq] at e
 exact⟨M,rfl,k2,fun hwb=>by have:=e.2.2.2 hwb;simp only[Aq] at*;omega,fun hwb=>by have:=e.2.2.2 hwb;simp only[Aq] at*;omega⟩
theorem b6F{sg:List Sg}{n:Nat}{x y:Gs}{k a:Int}{N:Nat}(h:enI sg n x y k N)(hp:isG sg y 4 [40]=false)(hq:isG sg y 4 [46]=true)(hn:nmG sg (Aq y) 0=false):
 Ah sg x (pE sg (n+1) .fin) (a,Bt (Aq y)):=by
 have hl:=Dn hq (by omega)
 obtain⟨M,rfl⟩:=Ql h hl.1
 obtain⟨h1,hN,hb⟩:=h
 have k1:=Hl (g':=fun _=>none) h1 (by omega) hq (fun s hs ht=>by
  obtain⟨hb0,rfl⟩:=EU.1 hs
  rw[FI,if_neg (by simp [EW hs hp]),if_pos (show isM sg _ [46]=true from ht)]
  have e1:DH sg (y.pos+1)=false:=by
   have:=Ml (sg:=sg) (n:=0) (g:=Aq y) (Dm (by simpa [Aq] using hb0))
   rw[hn] at this;simpa [Aq] using this.symm
  rw[if_neg (by simp [e1])])
 exact⟨a4E k1 (fun _ _=>rfl),fun hb2=>by simp [Bt] at hb2⟩
theorem b6G{sg:List Sg}{n:Nat}{x y:Gs}{k:Int}{N:Nat}(h:enI sg n x y k N)(hb:y.bad=false)(hp:isG sg y 4 [40]=false)(hq:isG sg y 4 [46]=false):Ah sg x (pE sg (n+1) .fin) (k,y):=by
 obtain⟨M,rfl⟩:=Ql h hb
 exact⟨Hk (Ee h.1 (g':=fun s=>some (k,s)) (fun s hs=>by rw[FI,if_neg (by simp [EW hs hp]),if_neg (by simp [EW hs hq])])),h.2.2⟩
theorem SV{sg:List Sg}{g:Gs}{s:Ps}(hs:pur g=some s):(pkG sg g 0).kind=(sgO sg s.pos).kind:=by
 obtain⟨h,rfl⟩:=EU.1 hs
 rw[JL h];simp
theorem SW{sg:List Sg}{g:Gs}(h:(pkG sg g 0).kind≠0):g.bad=false∧g.pos<sg.length:=by
 unfold pkG at h
 split at h
 ·simp [ET] at h
 ·rename_i hh;simp only[Int.add_zero] at hh;exact⟨by cases hb:g.bad<;>simp_all,by omega⟩
theorem a4O{sg:List Sg}{x:Gs}{n:Nat}(hs:sgB sg)(h:gsOk sg x)(hk:(pkG sg x 0).kind=1):Ah sg x (pE sg (n+1) .base) (Eo sg x,Ed sg x):=by
 obtain⟨a,b⟩:=SA hs h
 have e:(pur x).bind (pE sg (n+1) .base)=(pur x).bind (BS sg):=by
  cases hp:pur x with
  |none=>rfl
  |some s=>simp only[Option.bind_some];rw[pE,if_pos (by rw[←SV hp];exact hk)]
 obtain⟨a1,a2,a3,a4,a5⟩:=a
 exact⟨⟨a1,a2,a3,by rw[e];exact a4,by rw[e];exact a5⟩,b⟩
theorem b6H{sg:List Sg}{x:Gs}{n:Nat}{k:Int}(hs:sgB sg)(h:gsOk sg x)(hk:(pkG sg x 0).kind=k)(hk2:k=2∨k=3):Ah sg x (pE sg (n+1) .base) (AW x,EA sg x k false):=by
 have hl:=SW (sg:=sg) (g:=x) (by rw[hk];omega)
 obtain⟨a,b⟩:=PX (k:=k) (b:=false) hs h (fun _=>hl.2)
 have e:(pur x).bind (pE sg (n+1) .base)=(pur x).bind (FH sg k false):=by
  cases hp:pur x with
  |none=>rfl
  |some s=>
   simp only[Option.bind_some]
   have:=SV (sg:=sg) hp
   rcases hk2 with rfl|rfl
   ·rw[pE,if_neg (by omega),if_pos (by omega)]
   ·rw[pE,if_neg (by omega),if_neg (by omega),if_pos (by omega)]
 obtain⟨a1,a2,a3,a4,a5⟩:=a
 exact⟨⟨a1,a2,a3,by rw[e];exact a4,by rw[e];exact a5⟩,b⟩
theorem Qm{sg:List Sg}{x:Gs}{s:Ps}{n:Nat}(hs:pur x=some s)(h1:(pkG sg x 0).kind≠1)(h2:(pkG sg x 0).kind≠2)(h3:(pkG sg x 0).kind≠3):pE sg (n+1) .base s=
 if isM sg s [91] then(Bw sg (pE sg n .value) [93] (sg.length+1) [] (adv s)).bind fun p=>Bs sg [93] ⟨4,[],p.1,false⟩ p.2
 else if isM sg s [40]&&KF sg s then(Bw sg (BS sg) [41] (sg.length+1) [] (adv s)).bind fun p=>(BF sg [41] p.2).bind fun s1=>(BF sg [61,62] s1).bind fun s2=>(pE sg n .pick s2).bind fun q=>Bd ⟨9,[],p.1++[q.1],false⟩ q.2
 else if isM sg s [40] then(pE sg n .value (adv s)).bind fun p=>Bs sg [41] ⟨11,[],[p.1],false⟩ p.2
 else none:=by
 have:=SV (sg:=sg) hs
 rw[pE,if_neg (by omega),if_neg (by omega),if_neg (by omega)]
theorem b6I{sg:List Sg}{x:Gs}{n:Nat}{l:List Int×Gs}(h:gsOk sg x)(h1:(pkG sg x 0).kind≠1)(h2:(pkG sg x 0).kind≠2)(h3:(pkG sg x 0).kind≠3)(hq:isG sg x 4 [91]=true)
 (hl:BG sg (Aq x) (Bw sg (pE sg n .value) [93] (sg.length+1) []) l) (hll:l.1.length≤3001):
 Ah sg x (pE sg (n+1) .base) (CQ sg l.2 [93],CP sg l.2 [93] ⟨4,[],l.1,false⟩):=by
 have k1:=Hl (g':=fun s=>(Bw sg (pE sg n .value) [93] (sg.length+1) [] s).bind fun p=>Bs sg [93] ⟨4,[],p.1,false⟩ p.2) (Ds (f:=pE sg (n+1) .base) h) (by omega) hq
  (fun s hs ht=>by rw[Qm hs h1 h2 h3,if_pos (show isM sg s [91]=true from ht)])
 have k2:=BU (k:=fun ks s=>Bs sg [93] ⟨4,[],ks,false⟩ s) k1 hl (fun _ _=>rfl)
 have hw:Dl ⟨4,[],l.1,false⟩:=⟨by simp,by simp only;omega⟩
 refine⟨SU k2 hw,fun hb=> ?_⟩
 have:=(NW (m:=[93]) hl.1 hw).2 hb
 have e1:=hl.2.2.1
 simp only[Aq] at this e1 ⊢
 omega
theorem b6J{sg:List Sg}{x:Gs}{n:Nat}{z:Int×Gs}(h:gsOk sg x)(h1:(pkG sg x 0).kind≠1)(h2:(pkG sg x 0).kind≠2)(h3:(pkG sg x 0).kind≠3)(hn:isG sg x 4 [91]=false)(hq:isG sg x 4 [40]=true)
 (ha:∀s,pur x=some s→KF sg s=false) (hz:Ah sg (Aq x) (pE sg n .value) z):
 Ah sg x (pE sg (n+1) .base) (CQ sg z.2 [41],CP sg z.2 [41] ⟨11,[],[z.1],false⟩):=by
 have k1:=Hl (g':=fun s=>(pE sg n .value s).bind fun p=>Bs sg [41] ⟨11,[],[p.1],false⟩ p.2) (Ds (f:=pE sg (n+1) .base) h) (by omega) hq
  (fun s hs ht=>by rw[Qm hs h1 h2 h3,if_neg (by simp [EW hs hn]),if_neg (by simp [ha s hs]),if_pos (show isM sg s [40]=true from ht)])
 have k2:=BU (k:=fun k s=>Bs sg [41] ⟨11,[],[k],false⟩ s) k1 hz.1 (fun _ _=>rfl)
 have hw:Dl ⟨11,[],[z.1],false⟩:=⟨by simp,by simp⟩
 refine⟨SU k2 hw,fun hb=> ?_⟩
 have:=(NW (m:=[41]) hz.1.1 hw).2 hb
 have e1:=hz.1.2.2.1
 simp only[Aq] at this e1 ⊢
 omega
theorem b6K{sg:List Sg}{x:Gs}{n:Nat}{a:Int}(h:gsOk sg x)(h1:(pkG sg x 0).kind≠1)(h2:(pkG sg x 0).kind≠2)(h3:(pkG sg x 0).kind≠3)(hn:isG sg x 4 [91]=false)(hq:isG sg x 4 [40]=false):
 Ah sg x (pE sg (n+1) .base) (a,Bt x):=
 ⟨a4E (Ds h) (fun s hs=>by rw[Qm hs h1 h2 h3,if_neg (by simp [EW hs hn]),if_neg (by simp [EW hs hq]),if_neg (by simp [EW hs hq])]),fun hb=>by simp [Bt] at hb⟩
def fnR(sg:List Sg)(n:Nat)(s:Ps):PR:=(BF sg [40] s).bind fun s0=>(Bw sg (BS sg) [41] (sg.length+1) [] s0).bind fun p=>(BF sg [41] p.2).bind fun s1=>(BF sg [61,62] s1).bind fun s2=>(pE sg n .pick s2).bind fun q=>Bd ⟨9,[],p.1++[q.1],false⟩ q.2
theorem b6L{sg:List Sg}{x:Gs}{n:Nat}{l:List Int×Gs}{z:Int×Gs}(h:gsOk sg x)(hl:BG sg (As sg x [40]) (Bw sg (BS sg) [41] (sg.length+1) []) l)(hll:l.1.length≤3001)
 (hz:Ah sg (As sg (As sg l.2 [41]) [61,62]) (pE sg n .pick) z):Ah sg x (fnR sg n) (AW z.2,An z.2 ⟨9,[],l.1++[z.1],false⟩):=by
 have k1:=HN (g':=fun s0=>(Bw sg (BS sg) [41] (sg.length+1) [] s0).bind fun p=>(BF sg [41] p.2).bind fun s1=>(BF sg [61,62] s1).bind fun s2=>(pE sg n .pick s2).bind fun q=>Bd ⟨9,[],p.1++[q.1],false⟩ q.2) (Ds (f:=fnR sg n) h) (fun _ _=>rfl)
 have k2:=BU (k:=fun ks s=>(BF sg [41] s).bind fun s1=>(BF sg [61,62] s1).bind fun s2=>(pE sg n .pick s2).bind fun q=>Bd ⟨9,[],ks++[q.1],false⟩ q.2) k1 hl (fun _ _=>rfl)
 have k3:=HN (g':=fun s1=>(BF sg [61,62] s1).bind fun s2=>(pE sg n .pick s2).bind fun q=>Bd ⟨9,[],l.1++[q.1],false⟩ q.2) k2 (fun _ _=>rfl)
 have k4:=HN (g':=fun s2=>(pE sg n .pick s2).bind fun q=>Bd ⟨9,[],l.1++[q.1],false⟩ q.2) k3 (fun _ _=>rfl)
 have k5:=BU (k:=fun k s=>Bd ⟨9,[],l.1++[k],false⟩ s) k4 hz.1 (fun _ _=>rfl)
 have hw:Dl ⟨9,[],l.1++[z.1],false⟩:=⟨by simp,by simp;omega⟩
 refine⟨SS k5 hw,fun hb=> ?_⟩
 obtain⟨d1,d2,d3⟩:= @JT z.2 ⟨9,[],l.1++[z.1],false⟩
 have e1:=CX hz
 have e2:=k4.2.2.1
 have:=e1.2.2.2 (d3 hb)
 simp only[d2];omega
end Go.My
end
