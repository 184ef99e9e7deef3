/- joined -/
import Derived.Test.YtglbamflbnldhaaGreatDoorQJ
set_option linter.unusedSimpArgs false
set_option linter.unusedVariables false
section
namespace Go.My
open Go.Eng Go.Proofs
variable {G:GInv}
def CK{α:Type}(c:Bg α):Prop:=∀ {L m p},c L m=some p→p.2.cells=m.cells
theorem KS{α:Type}{a:α}:CK (Fj a):=fun h=>by cases h;rfl
theorem KT{α β:Type}{c:Bg α}{k:α→Bg β}(hc:CK c)(hk:∀a,CK (k a)):CK (Cg c k):=fun h=>by
 obtain⟨r,h1,h2⟩:=Option.bind_eq_some_iff.1 h
 rw[hk _ h2,hc h1]
theorem Ol{α:Type}{a:α}{c:Bg α}(hc:CK c):CK (Fk a c):=fun h=>by
 rw[CC] at h;split at h
 ·exact hc h
 ·cases h;rfl
theorem FS{α:Type}{p:Prop}[Decidable p]{c d:Bg α}(hc:CK c)(hd:CK d):CK (if p then c else d):=by split<;>assumption
theorem b8y{m:Ms}:(AW m).cells=m.cells:=by unfold AW;split<;>rfl
theorem Mu:CK Jh:=fun h=>by cases h;exact b8y
theorem a5G{V:Int→Bg Int}{t:List UInt8}(hV:∀k,CK (V k)):∀ {l:List Int} {a:Int},CK (Ji V t l a)
 |[],_=>KS
 |_::_,_=>Ol (FS (KT (hV _) fun _=>a5G hV) KS)
theorem b8z{n:Int}:CK (PV n):=FS KS Mu
theorem a5H{V:Int→Bg Int}{t:List UInt8}(hV:∀k,CK (V k)):∀ {l:List Int} {a:Int},CK (Iy V t l a)
 |[],_=>KS
 |_::_,_=>Ol (KT (hV _) fun _=>Ol (KT b8z fun _=>a5H hV))
theorem a5I{V:Int→Bg Int}(hV:∀k,CK (V k)):∀ {l az:List Int},CK (Iz V l az)
 |[],_=>KS
 |_::_,_=>Ol (KT (hV _) fun _=>a5I hV)
theorem b8A{V:Int→Bg Int}{x:Nd}(hV:∀k,CK (V k)):CK (chU V x):=
 KT (hV _) fun a=>FS (a5G hV) (FS (FS Mu (KT (hV _) fun _=>KS)) (a5H hV))
theorem b8B{ns:List Nd}{B:Int→Bg Unit}{t:List UInt8}{az:List Int}:CK (mcU ns B t az):=fun h=>by
 unfold mcU at h;split at h
 ·exact Mu h
 ·obtain⟨r,_,rfl⟩:=Option.map_eq_some_iff.1 h;rfl
theorem b8C{n:Int}:CK (prU n):=fun h=>by cases h;rfl
theorem b8D{ns:List Nd}{V:Int→Bg Int}{B:Int→Bg Unit}{x:Nd}(hV:∀k,CK (V k)):CK (caU ns V B x):=
 FS Mu (KT (a5I hV) fun _=>Ol (FS b8C b8B))
theorem b8E{t:List UInt8}:CK (nmU t):=fun h=>by
 unfold nmU at h;split at h
 ·exact Mu h
 ·cases h;rfl
theorem b8F{ns:List Nd}{V:Int→Bg Int}{B:Int→Bg Unit}{k:Int}(hV:∀k,CK (V k)):CK (vaU ns V B k):=
 Ol (FS (FS Mu KS) (FS b8E (FS (hV _) (FS (b8A hV) (FS (KT (hV _) fun _=>FS (hV _) (hV _)) (FS (b8D hV) Mu))))))
theorem XW{ns:List Nd}:∀(n:Nat) (k:Int),CK ((eu ns n).val k)
 |0,_=>fun h=>by cases h
 |n+1,_=>b8F (XW n)
theorem b8G{ns:List Nd}{n:Nat}{x:Nd}:CK (JL (eu ns n).val x):=FS KS (XW n _)
def soP(n:Nat)(s:ZS)(m:Ms)(x:Nd):Prop:=((zB s∧uOk m)∧5159780352≤pot (mc m))∧((∀c∈x.kids,kOk s.ns (mc m) n c)∧x.kids.length≤12)
abbrev soQ (n:Nat) (s:ZS) (m:Ms) (x:Nd) (y:Int×Ms):Prop:=cQu (JL (eu s.ns n).val x) s m 5159780352 y
theorem b8H{n:Nat}{s:ZS}{m:Ms}{x:Nd}(hp:soP n s m x)(h:(x.kids.length:Int)=0):soQ n s m x (0,m):=by
 refine⟨⟨?_,Hq⟩,EI (Mn hp.1.1.2) (by omega)⟩
 rw[JL,if_pos (by omega)];rfl
theorem XX{n:Nat}{s:ZS}{m:Ms}{x:Nd}{c:Int}(hp:soP n s m x)(hc:x.kids[0]? =some c):vPu n s m c:=by
 have hk:=hp.2.1 c (BO hc)
 exact⟨hp.1.1,hk,by have:=a3o hk;have:=hp.1.2;omega⟩
theorem v_g{n:Nat}{s:ZS}{m:Ms}{x:Nd}{c:Int}{y:Int×Ms}(hp:soP n s m x)(hc:x.kids[0]? =some c)(hv:vQu n s m c y):Dt m y.2 5159780352:=EI hv.2 (a3o (hp.2.1 c (BO hc)))
theorem b8I{n:Nat}{s:ZS}{m:Ms}{x:Nd}{c:Int}{y:Int×Ms}(hp:soP n s m x)(h:¬(x.kids.length:Int)=0)(hc:x.kids[0]? =some c)(hv:vQu n s m c y):soQ n s m x y:=by
 refine⟨⟨?_,hv.1.2⟩,v_g hp hc hv⟩
 rw[JL,if_neg (by omega),EZ hc];exact hv.1.1
def lPu(n:Nat)(s:ZS)(m:Ms)(x:Nd):Prop:=soP n s m x∧x.kids.length=2
def lQu(n:Nat)(s:ZS)(m:Ms)(x:Nd)(y:Ms):Prop:=whU (eu s.ns n).val (eu s.ns n).blk x 1002 s.L m=some ((),y)∧Dt m y 5159780352
def wuI(n:Nat)(s:ZS)(m0:Ms)(x:Nd)(N:Nat)(m:Ms):Prop:=((whU (eu s.ns n).val (eu s.ns n).blk x 1002 s.L m0=whU (eu s.ns n).val (eu s.ns n).blk x N s.L m∧1002≤N+m.steps)∧x.kids.length=2)∧(Dt m0 m 0∧5159780352≤pot (mc m))
theorem XY{α β:Type}{c:Bg α}{k:α→Bg β}{L:Int}{m:Ms}:Cg c k L m=(c L m).bind fun p=>k p.1 L p.2:=rfl
theorem a5J{V:Int→Bg Int}{B:Int→Bg Unit}{x:Nd}{N:Nat}{L:Int}{m:Ms}:whU V B x (N+1) L m=if m.code=0∧m.done=false then Cg (V (BB x 0)) (fun n L m=>if n=0∨m.code≠0 then some ((),m) else Cg (B (BB x 1)) (fun _ L m=>if m.done=true∨(Bm L m).code≠0 then some ((),if m.done=true then m else Bm L m) else whU V B x N L (Bm L m)) L m) L m else some ((),m):=rfl
theorem b8J{n:Nat}{s:ZS}{m:Ms}{x:Nd}(hp:lPu n s m x):wuI n s m x 1002 m:=⟨⟨⟨rfl,by have h:=hp.1.1.1.2.1.1.1;simp only[mc] at h;omega⟩,hp.2⟩,Mn hp.1.1.1.2,hp.1.1.2⟩
theorem Qq{n:Nat}{s:ZS}{m0 m:Ms}{x:Nd}{N:Nat}(h:wuI n s m0 x N m):∃M,N=M+1:=by
 have h1:=h.1.1.2;have h2:=h.2.1.2.1.1.1;simp only[mc] at h2
 exact⟨N-1,by omega⟩
theorem a5K{n:Nat}{s:ZS}{m0 m:Ms}{x:Nd}{N:Nat}(h:wuI n s m0 x N m)(hx:¬m.code=0∨m.done=true):lQu n s m0 x m:=by
 obtain⟨M,rfl⟩:=Qq h
 refine⟨?_,EI h.2.1 (by omega)⟩
 rw[h.1.1.1,a5J,if_neg]
 rintro⟨h1,h2⟩
 rcases hx with hx|hx
 ·exact hx h1
 ·rw[hx] at h2;cases h2
theorem Qr{n:Nat}{s:ZS}{m0 m:Ms}{x:Nd}{N:Nat}(hp:lPu n s m0 x)(h:wuI n s m0 x N m):soP n s m x:=
 ⟨⟨⟨hp.1.1.1.1,h.2.1.2⟩,h.2.2⟩,fun c hc=>NW (hp.1.2.1 c hc) h.2.1.1.1.2,hp.1.2.2⟩
theorem b8K{n:Nat}{s:ZS}{m0 m:Ms}{x:Nd}{N:Nat}{c:Int}(hp:lPu n s m0 x)(h:wuI n s m0 x N m)(hc:x.kids[0]? =some c):vPu n s m c:=XX (Qr hp h) hc
theorem a5L{n:Nat}{s:ZS}{m0 m:Ms}{x:Nd}{M:Nat}{c:Int}{y:Int×Ms}(h:wuI n s m0 x (M+1) m)(hq:m.code=0)(hd:m.done=false)(hc:x.kids[0]? =some c)(hv:vQu n s m c y):
 whU (eu s.ns n).val (eu s.ns n).blk x 1002 s.L m0=if y.1=0∨y.2.code≠0 then some ((),y.2) else Cg ((eu s.ns n).blk (BB x 1)) (fun _ L m=>if m.done=true∨(Bm L m).code≠0 then some ((),if m.done=true then m else Bm L m) else whU (eu s.ns n).val (eu s.ns n).blk x M L (Bm L m)) s.L y.2:=by
 rw[h.1.1.1,a5J,if_pos ⟨hq,hd⟩,XY,EZ hc,hv.1.1];rfl
theorem a5M{n:Nat}{s:ZS}{m0 m:Ms}{x:Nd}{N:Nat}{c:Int}{y:Int×Ms}(hp:lPu n s m0 x)(h:wuI n s m0 x N m)(hq:m.code=0)(hd:m.done=false)(hc:x.kids[0]? =some c)(hv:vQu n s m c y)(hx:y.1=0∨¬y.2.code=0):lQu n s m0 x y.2:=by
 obtain⟨M,rfl⟩:=Qq h
 refine⟨?_,EI (GH h.2.1 (v_g (Qr hp h) hc hv)) (by omega)⟩
 rw[a5L h hq hd hc hv,if_pos hx]
theorem a5N{n:Nat}{s:ZS}{m:Ms}{x:Nd}{c d:Int}{i:Nat}{y:Int×Ms}(hp:soP n s m x)(hv:Dt m y.2 5159780352)(hd:x.kids[i]? =some d):bPu n s y.2 d:=by
 have hk:=NW (hp.2.1 d (BO hd)) hv.1.1.2
 exact⟨⟨hp.1.1.1,hv.2⟩,⟨hk.1.1,by have:=hk.1.2;omega⟩,hk.2⟩
theorem b8L{n:Nat}{s:ZS}{m0 m:Ms}{x:Nd}{N:Nat}{c d:Int}{y:Int×Ms}(hp:lPu n s m0 x)(h:wuI n s m0 x N m)(hc:x.kids[0]? =some c)(hv:vQu n s m c y)(hd:x.kids[1]? =some d):bPu n s y.2 d:=a5N (c:=c) (Qr hp h) (v_g (Qr hp h) hc hv) hd
theorem XZ{n:Nat}{s:ZS}{m0 m z:Ms}{x:Nd}{M:Nat}{c d:Int}{y:Int×Ms}(h:wuI n s m0 x (M+1) m)(hq:m.code=0)(hd:m.done=false)(hc:x.kids[0]? =some c)(hv:vQu n s m c y)(hn:¬y.1=0)(hq2:y.2.code=0)(hd1:x.kids[1]? =some d)(hz:bQu n s y.2 d z):
 whU (eu s.ns n).val (eu s.ns n).blk x 1002 s.L m0=if z.done=true∨(Bm s.L z).code≠0 then some ((),if z.done=true then z else Bm s.L z) else whU (eu s.ns n).val (eu s.ns n).blk x M s.L (Bm s.L z):=by
 rw[a5L h hq hd hc hv,if_neg (by rintro(e|e);exact hn e;exact e hq2),XY,EZ hd1,hz.1];rfl
theorem Ya{n:Nat}{s:ZS}{m0 m z:Ms}{x:Nd}{N:Nat}{c d:Int}{y:Int×Ms}(hp:lPu n s m0 x)(h:wuI n s m0 x N m)(hc:x.kids[0]? =some c)(hv:vQu n s m c y)(hz:bQu n s y.2 d z):Dt m0 z 5159780352:=EI (GH (GH h.2.1 (v_g (Qr hp h) hc hv)) hz.2) (by omega)
theorem Yb{L:Int}{m:Ms}(h:uOk m)(hL:L≤1000):Dt m (Bm L m) 0:=by
 have hc:(Bm L m).cells=m.cells∧(Bm L m).ret=m.ret:=by
  unfold Bm;split
  ·split<;>exact⟨rfl,rfl⟩
  ·exact⟨rfl,rfl⟩
 have g:Ej (mc m) (mc (Bm L m)) 0:=by
  rw[b7h]
  generalize hM:mc m=M
  have hm:mOk M:=hM▸h.1
  unfold Su;split
  ·split
   ·exact⟨⟨hm,rfl⟩,Int.le_refl _,by simp only[pot];omega⟩
   ·have h1:=hm.1;have h2:=hm.2
    unfold pot at h2
    exact⟨⟨⟨by simp only;omega,by simp only[pot];omega⟩,rfl⟩,by simp only;omega,by simp only[pot];omega⟩
  ·exact WN hm
 exact⟨g,g.1.1,by rw[hc.1];exact Xu h.2.1 g.2.1,by rw[hc.2];exact h.2.2⟩
theorem a5O{L:Int}{m:Ms}(h:uOk m)(hL:L≤1000)(hq:(Bm L m).code=0):(Dt m (Bm L m) (-5159780352)∧(Bm L m).steps=m.steps+1)∧((Bm L m).cells=m.cells∧5159780352≤pot (mc (Bm L m))):=by
 have g0:=Yb h hL
 unfold Bm at hq g0 ⊢
 split
 ·rename_i h0
  rw[if_pos h0] at hq g0
  split
  ·rename_i h3;rw[if_pos h3] at hq;cases hq
  ·rename_i h3;rw[if_neg h3] at g0
   have h1:=h.1.1;have h2:=h.1.2
   refine⟨⟨⟨⟨g0.1.1,g0.1.2.1,?_⟩,g0.2⟩,rfl⟩,rfl,?_⟩
   ·simp only[pot,mc] at*;omega
   ·simp only[pot,mc] at*;omega
 ·rename_i h0;rw[if_neg h0] at hq;exact absurd hq h0
theorem b8M{n:Nat}{s:ZS}{m0 m z:Ms}{x:Nd}{N:Nat}{c d:Int}{y:Int×Ms}(hp:lPu n s m0 x)(h:wuI n s m0 x N m)(hq:m.code=0)(hd:m.done=false)(hc:x.kids[0]? =some c)(hv:vQu n s m c y)(hn:¬y.1=0)(hq2:y.2.code=0)(hd1:x.kids[1]? =some d)(hz:bQu n s y.2 d z)(hx:z.done=true):lQu n s m0 x z:=by
 obtain⟨M,rfl⟩:=Qq h
 refine⟨?_,Ya hp h hc hv hz⟩
 rw[XZ h hq hd hc hv hn hq2 hd1 hz,if_pos (.inl hx),if_pos hx]
theorem b8N{n:Nat}{s:ZS}{m0 m z:Ms}{x:Nd}{N:Nat}{c d:Int}{y:Int×Ms}(hp:lPu n s m0 x)(h:wuI n s m0 x N m)(hq:m.code=0)(hd:m.done=false)(hc:x.kids[0]? =some c)(hv:vQu n s m c y)(hn:¬y.1=0)(hq2:y.2.code=0)(hd1:x.kids[1]? =some d)(hz:bQu n s y.2 d z)(hx:z.done=false)(hs:¬(Bm s.L z).code=0):lQu n s m0 x (Bm s.L z):=by
 obtain⟨M,rfl⟩:=Qq h
 refine⟨?_,EI (GH (Ya hp h hc hv hz) (Yb hz.2.2 hp.1.1.1.1.2)) (by omega)⟩
 rw[XZ h hq hd hc hv hn hq2 hd1 hz,if_pos (.inr hs),if_neg (by simp [hx])]
theorem a5P{n:Nat}{s:ZS}{m0 m z:Ms}{x:Nd}{N:Nat}{c d:Int}{y:Int×Ms}(hp:lPu n s m0 x)(h:wuI n s m0 x N m)(hq:m.code=0)(hd:m.done=false)(hc:x.kids[0]? =some c)(hv:vQu n s m c y)(hn:¬y.1=0)(hq2:y.2.code=0)(hd1:x.kids[1]? =some d)(hz:bQu n s y.2 d z)(hx:z.done=false)(hs:(Bm s.L z).code=0):wuI n s m0 x (N-1) (Bm s.L z)∧N-1<N:=by
 obtain⟨M,rfl⟩:=Qq h
 obtain⟨⟨g,gs⟩,_,gp⟩:=a5O hz.2.2 hp.1.1.1.1.2 hs
 have g2:=GH (Ya hp h hc hv hz) g
 refine⟨⟨⟨⟨?_,?_⟩,h.1.2⟩,EI g2 (by omega),gp⟩,by omega⟩
 ·rw[XZ h hq hd hc hv hn hq2 hd1 hz,if_neg (by rintro(e|e);rw[hx] at e;cases e;exact e hs)];rfl
 ·have h1:=h.1.1.2;have h2:=hv.2.1.2.1;have h3:=hz.2.1.2.1;simp only[mc] at h2 h3;omega
theorem b8O{n:Nat}{s:ZS}{m0 m:Ms}{x:Nd}{N:Nat}(h:wuI n s m0 x N m):x.kids.length=2:=h.1.2
theorem a5Q{n:Nat}{s:ZS}{m y:Ms}{k:Int}(h:bQu n s m k y):0≤y.steps∧y.steps≤2^40:=by have h1:=h.2.2.1.1.1;simp only[mc] at h1;omega
attribute [local irreducible] vPu vQu cQu bPu bQu lQu wuI
def KU(n:Nat):Sig:= {X:=ZX Nd,args:=fun x=>[usA x.1 (uh x),.agg (ndA false (zl x))],pre:=fun x=>soP n x.1 (uh x) (zl x),Y:=Int×UY,post:=fun x y=>soQ n x.1 (uh x) (zl x) (yw y),res:=fun x y=> .int .i64 y.1,outs:=fun x y=>[usA x.1 (yu y.2),.top],keep:=true}
theorem b8P(n:Nat)(h:uAll G n):Aj G Tryz.prog 121 (KU n):=
 vcFun_okP [(122,0,(Dj n))] [] false (fun x=>[]) Tryz.func121 rfl (by decide) ⟨h.val,trivial⟩ (fun(x:ZX Nd)=>True∧Aa ((↑(List.length (zl x).kids):Int)==(0:Int)) (rA (KU n) x [.int .i64 (0:Int),.box 0 [nds x.1.ns,AV.sl false 0 2 (List UInt8×Int) Ah (uh x).cells,Ab (uh x).out,.int .i64 (uh x).code,.int .i64 (uh x).steps,.int .i64 x.1.L,.int .i64 (uh x).deep,.bool (uh x).done,.int .i64 (uh x).ret],.top]) (((0:Int)≤(0:Int)∧(0:Int)<(↑(List.length (zl x).kids):Int))∧∀(e:Int),(zl x).kids[(0:Nat)]? =some e→cA (Dj n) [.box 0 [nds x.1.ns,AV.sl false 0 2 (List UInt8×Int) Ah (uh x).cells,Ab (uh x).out,.int .i64 (uh x).code,.int .i64 (uh x).steps,.int .i64 x.1.L,.int .i64 (uh x).deep,.bool (uh x).done,.int .i64 (uh x).ret],.int .i64 e] fun x_1 y=>rA (KU n) x [.int .i64 y.1,.box 0 [nds x_1.1.ns,AV.sl false 0 2 (List UInt8×Int) Ah (yu y.2).cells,Ab (yu y.2).out,.int .i64 (yu y.2).code,.int .i64 (yu y.2).steps,.int .i64 x_1.1.L,.int .i64 (yu y.2).deep,.bool (yu y.2).done,.int .i64 (yu y.2).ret],.top])) (fun x=>by kernel_rfl) fun(x:ZX Nd) (hx:soP n x.1 (uh x) (zl x))=>(by
 dsimp only[cA,Ah,cls,Bu,nds,Ab,rA,KU,Dj,usA,Au,Az,mvL,lnL,mvE,lnE]
 obtain⟨s,o,c,t,d,cs,en,re,z⟩:=x;dsimp only[uh,zl] at hx ⊢
 have hx:soP n s ⟨o,c,t,d,cs,en,re⟩ z:=hx
 (repeat' first|(with_reducible first|rfl|exact True.intro|apply AK|apply And.intro|((first|apply AA|apply AI|apply AB|apply AJ)<;>intro _))|(apply Ax<;>intro _)|apply AH|refine Ae () ?_ ?_|((first|apply AO|apply AN|apply AM|apply AL|apply AG|apply AF|apply AE|apply AD|apply AC)<;>try dsimp only)|apply Ae|(refine Prod.forall.2 ?_;intro _;try dsimp only)|(intro _;try dsimp only))
 all_goals first
  |rfl
  |exact b8H hx ‹_›
  |exact XX hx ‹_›
  |exact b8I hx ‹_› ‹_› ‹_›
  |omega
  |skip)
def II(n:Nat):Sig:= {X:=ZX Nd,args:=fun x=>[usA x.1 (uh x),.agg (ndA false (zl x))],pre:=fun x=>lPu n x.1 (uh x) (zl x),Y:=UY,post:=fun x y=>lQu n x.1 (uh x) (zl x) (yu y),res:=fun x y=> .tup [],outs:=fun x y=>[usA x.1 (yu y),.top],keep:=true}
def Tm(n:Nat)(x:ZX Nd):LS:= {ι:=Nat×UY,inv:=fun i=>wuI n x.1 (uh x) (zl x) i.1 (yu i.2),regs:=fun i=>[(0,usA x.1 (yu i.2)),(3,.box 0 (ndA false (zl x)))],als:=[],meas:=fun i=>i.1}
theorem b8Q(n:Nat)(h:uAll G n):Aj G Tryz.prog 124 (II n):=
 vcFun_okP [(122,0,(Dj n)),(74,0,(Ia n)),(120,0,IG)] [] false (fun x=>[(1,Tm n x)]) Tryz.func124 rfl (by decide) ⟨h.val,h.blk,a5p,trivial⟩ (fun(x:ZX Nd)=>True∧eA (Tm n x) [.box 0 [nds x.1.ns,AV.sl false 0 2 (List UInt8×Int) Ah (uh x).cells,Ab (uh x).out,.int .i64 (uh x).code,.int .i64 (uh x).steps,.int .i64 x.1.L,.int .i64 (uh x).deep,.bool (uh x).done,.int .i64 (uh x).ret],.box 0 [.int .i64 (zl x).kind,.str (zl x).text,Af (zl x).kids,.bool (zl x).blank]]∧∀(i:Nat×UY),wuI n x.1 (uh x) (zl x) i.1 (yu i.2)→Aa ((yu i.2).code==(0:Int)) (Aa (!(yu i.2).done) (((0:Int)≤(0:Int)∧(0:Int)<(↑(List.length (zl x).kids):Int))∧∀(e:Int),(zl x).kids[(0:Nat)]? =some e→cA (Dj n) [.box 0 [nds x.1.ns,AV.sl false 0 2 (List UInt8×Int) Ah (yu i.2).cells,Ab (yu i.2).out,.int .i64 (yu i.2).code,.int .i64 (yu i.2).steps,.int .i64 x.1.L,.int .i64 (yu i.2).deep,.bool (yu i.2).done,.int .i64 (yu i.2).ret],.int .i64 e] fun x_1 y=>Aa (y.1==(0:Int)) (rA (II n) x [.tup [],.box 0 [nds x_1.1.ns,AV.sl false 0 2 (List UInt8×Int) Ah (yu y.2).cells,Ab (yu y.2).out,.int .i64 (yu y.2).code,.int .i64 (yu y.2).steps,.int .i64 x_1.1.L,.int .i64 (yu y.2).deep,.bool (yu y.2).done,.int .i64 (yu y.2).ret],.top]) (Aa ((yu y.2).code != (0:Int)) (rA (II n) x [.tup [],.box 0 [nds x_1.1.ns,AV.sl false 0 2 (List UInt8×Int) Ah (yu y.2).cells,Ab (yu y.2).out,.int .i64 (yu y.2).code,.int .i64 (yu y.2).steps,.int .i64 x_1.1.L,.int .i64 (yu y.2).deep,.bool (yu y.2).done,.int .i64 (yu y.2).ret],.top]) (((0:Int)≤(1:Int)∧(1:Int)<(↑(List.length (zl x).kids):Int))∧∀(e:Int),(zl x).kids[(1:Nat)]? =some e→cA (Ia n) [.box 0 [nds x_1.1.ns,AV.sl false 0 2 (List UInt8×Int) Ah (yu y.2).cells,Ab (yu y.2).out,.int .i64 (yu y.2).code,.int .i64 (yu y.2).steps,.int .i64 x_1.1.L,.int .i64 (yu y.2).deep,.bool (yu y.2).done,.int .i64 (yu y.2).ret],.int .i64 e] fun x_2 y=>Aa (yu y).done (rA (II n) x [.tup [],.box 0 [nds x_2.1.ns,AV.sl false 0 2 (List UInt8×Int) Ah (yu y).cells,Ab (yu y).out,.int .i64 (yu y).code,.int .i64 (yu y).steps,.int .i64 x_2.1.L,.int .i64 (yu y).deep,.bool (yu y).done,.int .i64 (yu y).ret],.top]) (cA IG [.box 0 [nds x_2.1.ns,AV.sl false 0 2 (List UInt8×Int) Ah (yu y).cells,Ab (yu y).out,.int .i64 (yu y).code,.int .i64 (yu y).steps,.int .i64 x_2.1.L,.int .i64 (yu y).deep,.bool (yu y).done,.int .i64 (yu y).ret]] fun x_3 y=>Aa (!decide ((Bm x_3.1.L (uh x_3)).code=(0:Int))) (rA (II n) x [.tup [],.box 0 [nds x_3.1.ns,AV.sl false 0 2 (List UInt8×Int) Ah (Bm x_3.1.L (uh x_3)).cells,Ab (Bm x_3.1.L (uh x_3)).out,.int .i64 (Bm x_3.1.L (uh x_3)).code,.int .i64 (Bm x_3.1.L (uh x_3)).steps,.int .i64 x_3.1.L,.int .i64 (Bm x_3.1.L (uh x_3)).deep,.bool (Bm x_3.1.L (uh x_3)).done,.int .i64 (Bm x_3.1.L (uh x_3)).ret],.top]) (eN (Tm n x) i [.box 0 [nds x_3.1.ns,AV.sl false 0 2 (List UInt8×Int) Ah (Bm x_3.1.L (uh x_3)).cells,Ab (Bm x_3.1.L (uh x_3)).out,.int .i64 (Bm x_3.1.L (uh x_3)).code,.int .i64 (Bm x_3.1.L (uh x_3)).steps,.int .i64 x_3.1.L,.int .i64 (Bm x_3.1.L (uh x_3)).deep,.bool (Bm x_3.1.L (uh x_3)).done,.int .i64 (Bm x_3.1.L (uh x_3)).ret],.box 0 [.int .i64 (zl x).kind,.str (zl x).text,Af (zl x).kids,.bool (zl x).blank]]))))) (rA (II n) x [.tup [],.box 0 [nds x.1.ns,AV.sl false 0 2 (List UInt8×Int) Ah (yu i.2).cells,Ab (yu i.2).out,.int .i64 (yu i.2).code,.int .i64 (yu i.2).steps,.int .i64 x.1.L,.int .i64 (yu i.2).deep,.bool (yu i.2).done,.int .i64 (yu i.2).ret],.top])) (rA (II n) x [.tup [],.box 0 [nds x.1.ns,AV.sl false 0 2 (List UInt8×Int) Ah (yu i.2).cells,Ab (yu i.2).out,.int .i64 (yu i.2).code,.int .i64 (yu i.2).steps,.int .i64 x.1.L,.int .i64 (yu i.2).deep,.bool (yu i.2).done,.int .i64 (yu i.2).ret],.top])) (fun x=>by kernel_rfl) fun(x:ZX Nd) (hx:lPu n x.1 (uh x) (zl x))=>(by
 dsimp only[cA,Ah,cls,eA,eN,Tm,Af,Bu,nds,Ab,rA,Ia,II,IG,Dj,usA,Au,Az,mvL,lnL,mvE,lnE,Br]
 obtain⟨s,o,c,t,d,cs,en,re,z⟩:=x;dsimp only[uh,zl] at hx ⊢
 have hx:lPu n s ⟨o,c,t,d,cs,en,re⟩ z:=hx
 (repeat' first|(with_reducible first|rfl|exact True.intro|apply AK|apply And.intro|((first|apply AA|apply AI|apply AB|apply AJ)<;>intro _))|(apply Ax<;>intro _)|apply AH|refine Ae () ?_ ?_|((first|apply AO|apply AN|apply AM|apply AL|apply AG|apply AF|apply AE|apply AD|apply AC)<;>try dsimp only)|apply Ae|(refine Prod.forall.2 ?_;intro _;try dsimp only)|(intro _;try dsimp only))
 all_goals first|(show Nat;skip)|(simp only[KP,decide_eq_true_eq,decide_eq_false_iff_not] at*)|skip
 all_goals first|(show Nat;skip)|(have hB:=b8O (show wuI _ _ _ _ _ _ by assumption))|skip
 all_goals first
  |(show Nat;skip)
  |rfl
  |exact()
  |exact b8J hx
  |exact a5K ‹_› (.inl ‹_›)
  |exact a5K ‹_› (.inr ‹_›)
  |exact b8K hx ‹_› ‹_›
  |exact a5M hx ‹_› ‹_› ‹_› ‹_› ‹_› (.inl ‹_›)
  |exact a5M hx ‹_› ‹_› ‹_› ‹_› ‹_› (.inr ‹_›)
  |exact b8L hx ‹_› (show z.kids[0]? =some _ by assumption) ‹_› ‹_›
  |exact b8M hx ‹_› ‹_› ‹_› (show z.kids[0]? =some _ by assumption) ‹_› ‹_› (by omega) (show z.kids[1]? =some _ by assumption) ‹_› ‹_›
  |exact b8N hx ‹_› ‹_› ‹_› (show z.kids[0]? =some _ by assumption) ‹_› ‹_› (by omega) (show z.kids[1]? =some _ by assumption) ‹_› ‹_› ‹_›
  |exact(a5P hx ‹_› ‹_› ‹_› (show z.kids[0]? =some _ by assumption) ‹_› ‹_› (by omega) (show z.kids[1]? =some _ by assumption) ‹_› ‹_› ‹_›).1
  |exact(a5Q ‹_›).1
  |exact(a5Q ‹_›).2
  |((try simp only[AQ]);omega)
  |skip
 all_goals first
  |exact(a5P hx ‹_› ‹_› ‹_› (show z.kids[0]? =some _ by assumption) ‹_› ‹_› (by omega) (show z.kids[1]? =some _ by assumption) ‹_› ‹_› ‹_›).2
  |skip)
end Go.My
end
section
namespace Go.My
open Go.Eng Go.Proofs
variable {G:GInv}
def kfU(x:Nd):Prop:=(x.kind=13∨x.kind=14→1≤x.kids.length)∧((x.kind=16→2≤x.kids.length)∧(x.kind=17→x.kids.length=2))
def sPu(n:Nat)(s:ZS)(m:Ms)(x:Nd):Prop:=(zB s∧uOk m)∧(((∀c∈x.kids,kOk s.ns (mc m) n c)∧x.kids.length≤12)∧kfU x)
def sQu(n:Nat)(s:ZS)(m:Ms)(x:Nd)(y:Ms):Prop:=stU (eu s.ns n).val (eu s.ns n).blk x s.L m=some ((),y)∧Dt m y 0
def sg(n:Nat)(s:ZS)(m:Ms)(x:Nd)(M:Ms):Prop:=((sPu n s m x∧soP n s M x)∧(stU (eu s.ns n).val (eu s.ns n).blk x s.L m=acU (eu s.ns n).val (eu s.ns n).blk x s.L M∧Dt m M (-5159780352)))∧(M.cells.length:Int)+1≤20+M.steps
theorem b8R{n:Nat}{s:ZS}{m:Ms}{x:Nd}(hp:sPu n s m x)(hk:¬x.kind=19)(hs:(Bm s.L m).code=0):sg n s m x (Bm s.L m):=by
 obtain⟨⟨g,gs⟩,gc,gp⟩:=a5O hp.1.2 hp.1.1.2 hs
 refine⟨⟨⟨hp,⟨⟨hp.1.1,g.2⟩,gp⟩,fun c hc=>NW (hp.2.1.1 c hc) g.1.1.2,hp.2.1.2⟩,?_,g⟩,?_⟩
 ·rw[stU,if_neg hk,if_neg (fun e=>e hs)]
 ·rw[gc,gs];have h1:=hp.1.2.2.1.2;simp only[mc] at h1;omega
theorem b8S{n:Nat}{s:ZS}{m:Ms}{x:Nd}(hp:sPu n s m x)(hk:x.kind=19):sQu n s m x m:=⟨by rw[stU,if_pos hk],Mn hp.1.2⟩
theorem b8T{n:Nat}{s:ZS}{m:Ms}{x:Nd}(hp:sPu n s m x)(hk:¬x.kind=19)(hs:¬(Bm s.L m).code=0):sQu n s m x (Bm s.L m):=⟨by rw[stU,if_neg hk,if_pos hs],Yb hp.1.2 hp.1.1.2⟩
theorem GI{n:Nat}{s:ZS}{m M y:Ms}{x:Nd}(h:sg n s m x M)(e:acU (eu s.ns n).val (eu s.ns n).blk x s.L M=some ((),y))(g:Dt M y 5159780352):sQu n s m x y:=
 ⟨by rw[h.1.2.1];exact e,EI (GH h.1.2.2 g) (by omega)⟩
theorem Om{n:Nat}{s:ZS}{m M:Ms}{x:Nd}(h:sg n s m x M):soP n s M x:=h.1.1.2
theorem b8U{n:Nat}{s:ZS}{m M:Ms}{x:Nd}{c:Int}(h:sg n s m x M)(hc:x.kids[0]? =some c):vPu n s M c:=XX (Om h) hc
theorem a5R{n:Nat}{s:ZS}{m M:Ms}{x:Nd}(h:sg n s m x M):(x.kind=13∨x.kind=14→1≤x.kids.length)∧((x.kind=16→2≤x.kids.length)∧(x.kind=17→x.kids.length=2)):=h.1.1.1.2.2
theorem a5S{m y:Ms}{t:List UInt8}{v e:Int}(g:Dt m y e)(hc:y.cells=m.cells)(hl:(m.cells.length:Int)+1≤20+m.steps)(hv:bdd v):Dt m ⟨y.out,y.code,y.steps,y.deep,CA y.cells t v,y.done,y.ret⟩ e:=by
 refine⟨g.1,g.2.1,⟨XD hv g.2.2.1.1,?_⟩,g.2.2.2⟩
 have h1:= @XC t v y.cells;have h2:=g.1.2.1;rw[hc] at h1 ⊢;simp only[mc] at h2 ⊢;omega
theorem b8V{n:Nat}{s:ZS}{m M:Ms}{x:Nd}{y:Int×Ms}(h:sg n s m x M)(hk:x.kind=12)(hy:soQ n s M x y)(hq:y.2.code=0):sQu n s m x ⟨y.2.out,y.2.code,y.2.steps,y.2.deep,CA y.2.cells x.text y.1,y.2.done,y.2.ret⟩:=by
 refine GI h ?_ (a5S hy.2 (b8G hy.1.1) h.2 hy.1.2)
 rw[acU,if_pos hk,Cg,hy.1.1]
 simp only[Option.bind_some,CC];rw[if_pos hq];rfl
theorem b8W{n:Nat}{s:ZS}{m M:Ms}{x:Nd}{y:Int×Ms}(h:sg n s m x M)(hk:x.kind=12)(hy:soQ n s M x y)(hq:¬y.2.code=0):sQu n s m x y.2:=by
 refine GI h ?_ hy.2
 rw[acU,if_pos hk,Cg,hy.1.1]
 simp only[Option.bind_some,CC];rw[if_neg hq]
theorem JW{n:Nat}{s:ZS}{m M:Ms}{x:Nd}{c:Int}{y:Int×Ms}(h:sg n s m x M)(hc:x.kids[0]? =some c)(hv:vQu n s M c y):Dt M y.2 5159780352:=v_g (Om h) hc hv
theorem b8X{n:Nat}{s:ZS}{m M:Ms}{x:Nd}{c:Int}{y:Int×Ms}(h:sg n s m x M)(hk:x.kind=13)(hc:x.kids[0]? =some c)(hv:vQu n s M c y)(hs:(Cz y.2.cells x.text).isSome=true)(hq:y.2.code=0):sQu n s m x ⟨y.2.out,y.2.code,y.2.steps,y.2.deep,CA y.2.cells x.text y.1,y.2.done,y.2.ret⟩:=by
 refine GI h ?_ (a5S (JW h hc hv) (XW _ _ hv.1.1) h.2 hv.1.2)
 rw[acU,if_neg (by omega),if_pos hk,Cg,EZ hc,hv.1.1]
 simp only[Option.bind_some,CC];rw[if_pos hq,seU]
 cases hc:Cz y.2.cells x.text with
 |none=>rw[hc] at hs;cases hs
 |some w=>rfl
theorem b8Y{n:Nat}{s:ZS}{m M:Ms}{x:Nd}{c:Int}{y:Int×Ms}(h:sg n s m x M)(hk:x.kind=13)(hc:x.kids[0]? =some c)(hv:vQu n s M c y)(hs:(Cz y.2.cells x.text).isSome=false)(hq:y.2.code=0):sQu n s m x (AW y.2):=by
 have g:=JW h hc hv
 refine GI h ?_ (EI (GH g (Mo g.2)) (by omega))
 rw[acU,if_neg (by omega),if_pos hk,Cg,EZ hc,hv.1.1]
 simp only[Option.bind_some,CC];rw[if_pos hq,seU]
 cases hc:Cz y.2.cells x.text with
 |none=>rfl
 |some w=>rw[hc] at hs;cases hs
theorem b8Z{n:Nat}{s:ZS}{m M:Ms}{x:Nd}{c:Int}{y:Int×Ms}(h:sg n s m x M)(hk:x.kind=13)(hc:x.kids[0]? =some c)(hv:vQu n s M c y)(hq:¬y.2.code=0):sQu n s m x y.2:=by
 refine GI h ?_ (JW h hc hv)
 rw[acU,if_neg (by omega),if_pos hk,Cg,EZ hc,hv.1.1]
 simp only[Option.bind_some,CC];rw[if_neg hq]
theorem b9a{m:Ms}:¬(AW m).code=0:=by
 unfold AW;split
 ·simp
 ·assumption
theorem b9b{n:Nat}{s:ZS}{m M:Ms}{x:Nd}{c:Int}{y:Int×Ms}(h:sg n s m x M)(hk:x.kind=14)(hc:x.kids[0]? =some c)(hv:vQu n s M c y):sQu n s m x y.2:=by
 refine GI h ?_ (JW h hc hv)
 rw[acU,if_neg (by omega),if_neg (by omega),if_pos hk,Cg,EZ hc,hv.1.1];rfl
theorem b9c{n:Nat}{s:ZS}{m M:Ms}{x:Nd}{y:Int×Ms}(h:sg n s m x M)(hk:x.kind=15)(hy:soQ n s M x y)(hq:y.2.code=0):sQu n s m x ⟨y.2.out,y.2.code,y.2.steps,y.2.deep,y.2.cells,true,y.1⟩:=by
 refine GI h ?_ ⟨hy.2.1,hy.2.2.1,hy.2.2.2.1,hy.1.2⟩
 rw[acU,if_neg (by omega),if_neg (by omega),if_neg (by omega),if_pos hk,Cg,hy.1.1]
 simp only[Option.bind_some,CC];rw[if_pos hq];rfl
theorem b9d{n:Nat}{s:ZS}{m M:Ms}{x:Nd}{y:Int×Ms}(h:sg n s m x M)(hk:x.kind=15)(hy:soQ n s M x y)(hq:¬y.2.code=0):sQu n s m x y.2:=by
 refine GI h ?_ hy.2
 rw[acU,if_neg (by omega),if_neg (by omega),if_neg (by omega),if_pos hk,Cg,hy.1.1]
 simp only[Option.bind_some,CC];rw[if_neg hq]
theorem Tn{n:Nat}{s:ZS}{M:Ms}{x:Nd}{c:Int}{y:Int×Ms}(hk:x.kind=16)(hc:x.kids[0]? =some c)(hv:vQu n s M c y):acU (eu s.ns n).val (eu s.ns n).blk x s.L M=Fk () (if y.1≠0 then(eu s.ns n).blk (BB x 1) else if 2<x.kids.length then(eu s.ns n).blk (BB x 2) else Fj ()) s.L y.2:=by
 rw[acU,if_neg (by omega),if_neg (by omega),if_neg (by omega),if_neg (by omega),if_pos hk,Cg,EZ hc,hv.1.1];rfl
theorem b9e{n:Nat}{s:ZS}{m M:Ms}{x:Nd}{c d:Int}{i:Nat}{y:Int×Ms}(h:sg n s m x M)(hc:x.kids[0]? =some c)(hv:vQu n s M c y)(hd:x.kids[i]? =some d):bPu n s y.2 d:=a5N (c:=c) (Om h) (JW h hc hv) hd
theorem b9f{n:Nat}{s:ZS}{m M z:Ms}{x:Nd}{c d:Int}{y:Int×Ms}(h:sg n s m x M)(hk:x.kind=16)(hc:x.kids[0]? =some c)(hv:vQu n s M c y)(hq:y.2.code=0)(hn:¬y.1=0)(hd:x.kids[1]? =some d)(hz:bQu n s y.2 d z):sQu n s m x z:=by
 refine GI h ?_ (EI (GH (JW h hc hv) hz.2) (by omega))
 rw[Tn hk hc hv,CC,if_pos hq,if_pos hn,EZ hd];exact hz.1
theorem b9g{n:Nat}{s:ZS}{m M z:Ms}{x:Nd}{c d:Int}{y:Int×Ms}(h:sg n s m x M)(hk:x.kind=16)(hc:x.kids[0]? =some c)(hv:vQu n s M c y)(hq:y.2.code=0)(hn:y.1=0)(hl:(x.kids.length:Int)>2)(hd:x.kids[2]? =some d)(hz:bQu n s y.2 d z):sQu n s m x z:=by
 refine GI h ?_ (EI (GH (JW h hc hv) hz.2) (by omega))
 rw[Tn hk hc hv,CC,if_pos hq,if_neg (fun e=>e hn),if_pos (by omega),EZ hd];exact hz.1
theorem b9h{n:Nat}{s:ZS}{m M:Ms}{x:Nd}{c:Int}{y:Int×Ms}(h:sg n s m x M)(hk:x.kind=16)(hc:x.kids[0]? =some c)(hv:vQu n s M c y)(hn:y.1=0)(hl:¬(x.kids.length:Int)>2):sQu n s m x y.2:=by
 refine GI h ?_ (JW h hc hv)
 have e:(if y.1≠0 then(eu s.ns n).blk (BB x 1) else if 2<x.kids.length then(eu s.ns n).blk (BB x 2) else Fj ())=Fj ():=by
  rw[if_neg (fun e=>e hn),if_neg (by omega)]
 rw[Tn hk hc hv,e,CC]
 split<;>rfl
theorem b9i{n:Nat}{s:ZS}{m M:Ms}{x:Nd}{c:Int}{y:Int×Ms}(h:sg n s m x M)(hk:x.kind=16)(hc:x.kids[0]? =some c)(hv:vQu n s M c y)(hq:¬y.2.code=0):sQu n s m x y.2:=by
 refine GI h ?_ (JW h hc hv)
 rw[Tn hk hc hv,CC,if_neg hq]
theorem b9j{n:Nat}{s:ZS}{m M:Ms}{x:Nd}(h:sg n s m x M)(hk:x.kind=17):lPu n s M x:=⟨Om h,(a5R h).2.2 hk⟩
theorem b9k{n:Nat}{s:ZS}{m M y:Ms}{x:Nd}(h:sg n s m x M)(hk:x.kind=17)(hy:lQu n s M x y):sQu n s m x y:=by
 refine GI h ?_ hy.2
 rw[acU,if_neg (by omega),if_neg (by omega),if_neg (by omega),if_neg (by omega),if_neg (by omega),if_pos hk];exact hy.1
theorem b9l{n:Nat}{s:ZS}{m M:Ms}{x:Nd}(h:sg n s m x M)(h1:¬x.kind=12)(h2:¬x.kind=13)(h3:¬x.kind=14)(h4:¬x.kind=15)(h5:¬x.kind=16)(h6:¬x.kind=17):sQu n s m x M:=by
 refine GI h ?_ (EI (Mn (Om h).1.1.2) (by omega))
 rw[acU,if_neg h1,if_neg h2,if_neg h3,if_neg h4,if_neg h5,if_neg h6];rfl
theorem a5T{m m2:Ms}{e:Int}(g:Dt m m2 e):m2.cells.length≤2^30:=by have h1:=g.2.2.1.2;have h2:=g.2.1.1.1;simp only[mc] at*;omega
theorem a5U{n:Nat}{s:ZS}{M:Ms}{c:Int}{y:Int×Ms}(hv:vQu n s M c y):y.2.cells.length≤2^30:=a5T hv.2
theorem b9m{n:Nat}{s:ZS}{M:Ms}{x:Nd}{y:Int×Ms}(hv:soQ n s M x y):y.2.cells.length≤2^30:=a5T hv.2
theorem b9n{n:Nat}{s:ZS}{m:Ms}{x:Nd}(hp:sPu n s m x):0≤m.steps∧m.steps≤2^40:=by have h2:=hp.1.2.1.1.1;simp only[mc] at*;omega
def bkU(n:Nat)(s:ZS)(m0:Ms)(k i:Int)(m:Ms):Prop:=(((0≤i∧i≤(ndAt s.ns k).kids.length)∧(ndAt s.ns k).kids.length≤12)∧blU s.ns (eu s.ns n).val (eu s.ns n).blk (ndAt s.ns k).kids s.L m0=blU s.ns (eu s.ns n).val (eu s.ns n).blk ((ndAt s.ns k).kids.drop i.toNat) s.L m)∧Dt m0 m 0
theorem a5V{ns:List Nd}{V:Int→Bg Int}{B:Int→Bg Unit}{k:Int}{ks:List Int}{L:Int}{m:Ms}:blU ns V B (k::ks) L m=if m.code=0∧m.done=false then Cg (stU V B (ndAt ns k)) (fun _=>blU ns V B ks) L m else some ((),m):=rfl
theorem b9o{n:Nat}{s:ZS}{m:Ms}{k:Int}(hp:bPu (n+1) s m k):bkU n s m k 0 m:=⟨⟨⟨by omega,(HS hp.1.1.1 hp.2.1.1).1⟩,rfl⟩,Mn hp.1.2⟩
theorem a5W{n:Nat}{s:ZS}{m0 m:Ms}{k i:Int}(h:bkU n s m0 k i m):(0≤i∧i≤(ndAt s.ns k).kids.length)∧(ndAt s.ns k).kids.length≤12:=h.1.1
theorem Yc{n:Nat}{s:ZS}{m0 m:Ms}{k i:Int}(h:bkU n s m0 k i m)(hx:¬i<((ndAt s.ns k).kids.length:Int)∨(¬m.code=0∨m.done=true)):bQu (n+1) s m0 k m:=by
 refine⟨?_,h.2⟩
 have e:(eu s.ns (n+1)).blk k s.L m0=blU s.ns (eu s.ns n).val (eu s.ns n).blk (ndAt s.ns k).kids s.L m0:=rfl
 rw[e,h.1.2]
 rcases hx with hx|hx
 ·rw[List.drop_eq_nil_of_le (by have:=h.1.1.1;omega)];rfl
 ·cases (ndAt s.ns k).kids.drop i.toNat with
  |nil=>rfl
  |cons c l=>
   rw[a5V,if_neg]
   rintro⟨h1,h2⟩
   rcases hx with hx|hx
   ·exact hx h1
   ·rw[hx] at h2;cases h2
theorem Yd{n:Nat}{s:ZS}{m:Ms}{k c:Int}{i:Nat}(hp:bPu (n+1) s m k)(hc:(ndAt s.ns k).kids[i]? =some c):(0≤c∧c<s.ns.length)∧BA s.ns c≤11∧c<k:=by
 have:=(HS hp.1.1.1 hp.2.1.1).2 c (BO hc)
 have:=hp.2.1;omega
theorem b9p{ns:List Nd}(ht:tOk ns){c:Int}(hc:0≤c∧c<ns.length):kfU (ndAt ns c):=by
 have p:=(DM (PU ht hc)).2.2.2.2.2.1
 refine⟨fun hk=> ?_,fun hk=> ?_,fun hk=> ?_⟩
 ·have:=Mb p (by omega);simpa using this
 ·rw[hk] at p;have:=(a3C p).1;simpa using this
 ·rw[hk] at p;have:=(a3D p).1;simpa using this
theorem b9q{n:Nat}{s:ZS}{m0 m:Ms}{k i c:Int}{j:Nat}(hp:bPu (n+1) s m0 k)(h:bkU n s m0 k i m)(hc:(ndAt s.ns k).kids[j]? =some c):sPu n s m (ndAt s.ns c):=by
 have hk:=Yd hp hc
 refine⟨⟨hp.1.1,h.2.2⟩,⟨a3n hp.1.1.1 hk.1 hk.2.1 (a3m ?_ h.2.1.1.2),(HS hp.1.1.1 hk.1).1⟩,b9p hp.1.1.1 hk.1⟩
 have:=hp.2.2;unfold Cw at*;omega
theorem b9r{n:Nat}{s:ZS}{m0 m z:Ms}{k i c:Int}(h:bkU n s m0 k i m)(hq:m.code=0)(hd:m.done=false)(hc:(ndAt s.ns k).kids[i.toNat]? =some c)(hz:sQu n s m (ndAt s.ns c) z):bkU n s m0 k (i+1) z:=by
 have hl:=(List.getElem?_eq_some_iff.1 hc).1
 refine⟨⟨⟨by have:=h.1.1.1;omega,h.1.1.2⟩,?_⟩,EI (GH h.2 hz.2) (by omega)⟩
 rw[h.1.2,GG h.1.1.1.1 hc,a5V,if_pos ⟨hq,hd⟩,XY,hz.1];rfl
theorem b9s{n:Nat}{s:ZS}{m:Ms}{k:Int}(hp:bPu n s m k):0≤k∧k<s.ns.length:=hp.2.1.1
attribute [local irreducible] vPu vQu cQu bPu bQu lPu lQu sg sQu soP bkU sPu
def Du(n:Nat):Sig:= {X:=ZX Nd,args:=fun x=>[usA x.1 (uh x),.agg (ndA false (zl x))],pre:=fun x=>sPu n x.1 (uh x) (zl x),Y:=UY,post:=fun x y=>sQu n x.1 (uh x) (zl x) (yu y),res:=fun x y=> .tup [],outs:=fun x y=>[usA x.1 (yu y),.top],keep:=true}
def Ye(n:Nat)(x:ZX Nd):LS:= {ι:=UY,inv:=fun i=>sg n x.1 (uh x) (zl x) (yu i),regs:=fun i=>[(0,usA x.1 (yu i)),(3,.box 0 (ndA false (zl x)))],als:=[],meas:=fun _=>0}
def To(n:Nat)(x:ZX Nd):LS:= {ι:=UY,inv:=fun i=>sQu n x.1 (uh x) (zl x) (yu i),regs:=fun i=>[(0,usA x.1 (yu i))],als:=[],meas:=fun _=>0}
def KV(n:Nat)(x:ZX Nd):LS:= {ι:=UY,inv:=fun i=>sQu n x.1 (uh x) (zl x) (yu i),regs:=fun i=>[(0,usA x.1 (yu i))],als:=[],meas:=fun _=>0}
theorem b9t(n:Nat)(h:uAll G n):Aj G Tryz.prog 97 (Du n):=
 vcFun_okP [(120,0,IG),(121,0,(KU n)),(26,0,Eo),(122,0,(Dj n)),(123,0,Oi),(43,0,Di),(74,0,(Ia n)),(124,0,(II n))] [(42,⟨List UInt8×Int,Ah⟩)] false (fun x=>[(200003,Ye n x),(100007,To n x),(100014,KV n x)]) Tryz.func97 rfl (by decide) ⟨a5p,(b8P n h),a5h,h.val,a5o,Mp,h.blk,(b8Q n h),trivial⟩ (fun(x:ZX Nd)=>True∧Aa ((zl x).kind==(19:Int)) (rA (Du n) x [.tup [],.box 0 [nds x.1.ns,AV.sl false 0 2 (List UInt8×Int) Ah (uh x).cells,Ab (uh x).out,.int .i64 (uh x).code,.int .i64 (uh x).steps,.int .i64 x.1.L,.int .i64 (uh x).deep,.bool (uh x).done,.int .i64 (uh x).ret],.top]) ((cA IG [.box 0 [nds x.1.ns,AV.sl false 0 2 (List UInt8×Int) Ah (uh x).cells,Ab (uh x).out,.int .i64 (uh x).code,.int .i64 (uh x).steps,.int .i64 x.1.L,.int .i64 (uh x).deep,.bool (uh x).done,.int .i64 (uh x).ret]] fun x_1 y=>Aa (!decide ((Bm x_1.1.L (uh x_1)).code=(0:Int))) (rA (Du n) x [.tup [],.box 0 [nds x_1.1.ns,AV.sl false 0 2 (List UInt8×Int) Ah (Bm x_1.1.L (uh x_1)).cells,Ab (Bm x_1.1.L (uh x_1)).out,.int .i64 (Bm x_1.1.L (uh x_1)).code,.int .i64 (Bm x_1.1.L (uh x_1)).steps,.int .i64 x_1.1.L,.int .i64 (Bm x_1.1.L (uh x_1)).deep,.bool (Bm x_1.1.L (uh x_1)).done,.int .i64 (Bm x_1.1.L (uh x_1)).ret],.top]) (eA (Ye n x) [.box 0 [nds x_1.1.ns,AV.sl false 0 2 (List UInt8×Int) Ah (Bm x_1.1.L (uh x_1)).cells,Ab (Bm x_1.1.L (uh x_1)).out,.int .i64 (Bm x_1.1.L (uh x_1)).code,.int .i64 (Bm x_1.1.L (uh x_1)).steps,.int .i64 x_1.1.L,.int .i64 (Bm x_1.1.L (uh x_1)).deep,.bool (Bm x_1.1.L (uh x_1)).done,.int .i64 (Bm x_1.1.L (uh x_1)).ret],.box 0 [.int .i64 (zl x).kind,.str (zl x).text,Af (zl x).kids,.bool (zl x).blank]]))∧∀(i:UY),sg n x.1 (uh x) (zl x) (yu i)→Aa ((zl x).kind==(12:Int)) (cA (KU n) [.box 0 [nds x.1.ns,AV.sl false 0 2 (List UInt8×Int) Ah (yu i).cells,Ab (yu i).out,.int .i64 (yu i).code,.int .i64 (yu i).steps,.int .i64 x.1.L,.int .i64 (yu i).deep,.bool (yu i).done,.int .i64 (yu i).ret],.agg [.int .i64 (zl x).kind,.str (zl x).text,Af (zl x).kids,.bool (zl x).blank]] fun x_1 y=>Aa ((yu y.2).code==(0:Int)) (true=true∧((cA Eo [AV.sl false 0 2 (List UInt8×Int) Ah (yu y.2).cells,.str (zl x).text,.int .i64 y.1] fun x_2 y_1=>true=true∧eA (To n x) [.box 0 [nds x_1.1.ns,AV.sl false 0 2 (List UInt8×Int) Ah (CA x_2.1 x_2.2.1 x_2.2.2),Ab (yu y.2).out,.int .i64 (yu y.2).code,.int .i64 (yu y.2).steps,.int .i64 x_1.1.L,.int .i64 (yu y.2).deep,.bool (yu y.2).done,.int .i64 (yu y.2).ret]])∧cA Eo [AV.sl false 0 2 (List UInt8×Int) Ah (yu y.2).cells,.str (zl x).text,.int .i64 y.1] fun x_2 y_1=>true=true∧eA (To n x) [.box 0 [nds x_1.1.ns,AV.sl false 0 2 (List UInt8×Int) Ah (CA x_2.1 x_2.2.1 x_2.2.2),Ab (yu y.2).out,.int .i64 (yu y.2).code,.int .i64 (yu y.2).steps,.int .i64 x_1.1.L,.int .i64 (yu y.2).deep,.bool (yu y.2).done,.int .i64 (yu y.2).ret]])∧∀(i:UY),sQu n x.1 (uh x) (zl x) (yu i)→rA (Du n) x [.tup [],.box 0 [nds x.1.ns,AV.sl false 0 2 (List UInt8×Int) Ah (yu i).cells,Ab (yu i).out,.int .i64 (yu i).code,.int .i64 (yu i).steps,.int .i64 x.1.L,.int .i64 (yu i).deep,.bool (yu i).done,.int .i64 (yu i).ret],.top]) (rA (Du n) x [.tup [],.box 0 [nds x_1.1.ns,AV.sl false 0 2 (List UInt8×Int) Ah (yu y.2).cells,Ab (yu y.2).out,.int .i64 (yu y.2).code,.int .i64 (yu y.2).steps,.int .i64 x_1.1.L,.int .i64 (yu y.2).deep,.bool (yu y.2).done,.int .i64 (yu y.2).ret],.top])) (Aa ((zl x).kind==(13:Int)) (((0:Int)≤(0:Int)∧(0:Int)<(↑(List.length (zl x).kids):Int))∧∀(e:Int),(zl x).kids[(0:Nat)]? =some e→cA (Dj n) [.box 0 [nds x.1.ns,AV.sl false 0 2 (List UInt8×Int) Ah (yu i).cells,Ab (yu i).out,.int .i64 (yu i).code,.int .i64 (yu i).steps,.int .i64 x.1.L,.int .i64 (yu i).deep,.bool (yu i).done,.int .i64 (yu i).ret],.int .i64 e] fun x_1 y=>true=true∧true=true∧∃(x_2:Cls×List UInt8),List.length x_2.1<(4611686018427387904:Nat)∧AV.sl false 0 2 (List UInt8×Int) Ah (yu y.2).cells=AV.sl false 0 2 (List UInt8×Int) Ah x_2.1∧(zl x).text=x_2.2∧∃(y0:Unit),(∀(y:Unit),True→AV.tup [.int .i64 (nOf (Cz x_2.1 x_2.2)),.bool (Option.isSome (Cz x_2.1 x_2.2))]=AV.tup [.int .i64 (nOf (Cz x_2.1 x_2.2)),.bool (Option.isSome (Cz x_2.1 x_2.2))])∧true=true∧Aa ((yu y.2).code==(0:Int)) (Aa (!Option.isSome (Cz x_2.1 x_2.2)) (cA Di [.box 0 [nds x_1.1.ns,AV.sl false 0 2 (List UInt8×Int) Ah (yu y.2).cells,Ab (yu y.2).out,.int .i64 (yu y.2).code,.int .i64 (yu y.2).steps,.int .i64 x_1.1.L,.int .i64 (yu y.2).deep,.bool (yu y.2).done,.int .i64 (yu y.2).ret]] fun x_3 y_1=>Aa ((AW (uh x_3)).code==(0:Int)) (true=true∧((cA Eo [AV.sl false 0 2 (List UInt8×Int) Ah (AW (uh x_3)).cells,.str (zl x).text,.int .i64 y.1] fun x_4 y=>true=true∧eA (KV n x) [.box 0 [nds x_3.1.ns,AV.sl false 0 2 (List UInt8×Int) Ah (CA x_4.1 x_4.2.1 x_4.2.2),Ab (AW (uh x_3)).out,.int .i64 (AW (uh x_3)).code,.int .i64 (AW (uh x_3)).steps,.int .i64 x_3.1.L,.int .i64 (AW (uh x_3)).deep,.bool (AW (uh x_3)).done,.int .i64 (AW (uh x_3)).ret]])∧cA Eo [AV.sl false 0 2 (List UInt8×Int) Ah (AW (uh x_3)).cells,.str (zl x).text,.int .i64 y.1] fun x_4 y=>true=true∧eA (KV n x) [.box 0 [nds x_3.1.ns,AV.sl false 0 2 (List UInt8×Int) Ah (CA x_4.1 x_4.2.1 x_4.2.2),Ab (AW (uh x_3)).out,.int .i64 (AW (uh x_3)).code,.int .i64 (AW (uh x_3)).steps,.int .i64 x_3.1.L,.int .i64 (AW (uh x_3)).deep,.bool (AW (uh x_3)).done,.int .i64 (AW (uh x_3)).ret]])∧∀(i:UY),sQu n x.1 (uh x) (zl x) (yu i)→rA (Du n) x [.tup [],.box 0 [nds x.1.ns,AV.sl false 0 2 (List UInt8×Int) Ah (yu i).cells,Ab (yu i).out,.int .i64 (yu i).code,.int .i64 (yu i).steps,.int .i64 x.1.L,.int .i64 (yu i).deep,.bool (yu i).done,.int .i64 (yu i).ret],.top]) (rA (Du n) x [.tup [],.box 0 [nds x_3.1.ns,AV.sl false 0 2 (List UInt8×Int) Ah (AW (uh x_3)).cells,Ab (AW (uh x_3)).out,.int .i64 (AW (uh x_3)).code,.int .i64 (AW (uh x_3)).steps,.int .i64 x_3.1.L,.int .i64 (AW (uh x_3)).deep,.bool (AW (uh x_3)).done,.int .i64 (AW (uh x_3)).ret],.top])) (Aa ((yu y.2).code==(0:Int)) (true=true∧((cA Eo [AV.sl false 0 2 (List UInt8×Int) Ah (yu y.2).cells,.str (zl x).text,.int .i64 y.1] fun x_3 y_1=>true=true∧eA (KV n x) [.box 0 [nds x_1.1.ns,AV.sl false 0 2 (List UInt8×Int) Ah (CA x_3.1 x_3.2.1 x_3.2.2),Ab (yu y.2).out,.int .i64 (yu y.2).code,.int .i64 (yu y.2).steps,.int .i64 x_1.1.L,.int .i64 (yu y.2).deep,.bool (yu y.2).done,.int .i64 (yu y.2).ret]])∧cA Eo [AV.sl false 0 2 (List UInt8×Int) Ah (yu y.2).cells,.str (zl x).text,.int .i64 y.1] fun x_3 y_1=>true=true∧eA (KV n x) [.box 0 [nds x_1.1.ns,AV.sl false 0 2 (List UInt8×Int) Ah (CA x_3.1 x_3.2.1 x_3.2.2),Ab (yu y.2).out,.int .i64 (yu y.2).code,.int .i64 (yu y.2).steps,.int .i64 x_1.1.L,.int .i64 (yu y.2).deep,.bool (yu y.2).done,.int .i64 (yu y.2).ret]])∧∀(i:UY),sQu n x.1 (uh x) (zl x) (yu i)→rA (Du n) x [.tup [],.box 0 [nds x.1.ns,AV.sl false 0 2 (List UInt8×Int) Ah (yu i).cells,Ab (yu i).out,.int .i64 (yu i).code,.int .i64 (yu i).steps,.int .i64 x.1.L,.int .i64 (yu i).deep,.bool (yu i).done,.int .i64 (yu i).ret],.top]) (rA (Du n) x [.tup [],.box 0 [nds x_1.1.ns,AV.sl false 0 2 (List UInt8×Int) Ah (yu y.2).cells,Ab (yu y.2).out,.int .i64 (yu y.2).code,.int .i64 (yu y.2).steps,.int .i64 x_1.1.L,.int .i64 (yu y.2).deep,.bool (yu y.2).done,.int .i64 (yu y.2).ret],.top]))) (Aa ((yu y.2).code==(0:Int)) (true=true∧((cA Eo [AV.sl false 0 2 (List UInt8×Int) Ah (yu y.2).cells,.str (zl x).text,.int .i64 y.1] fun x_3 y_1=>true=true∧eA (KV n x) [.box 0 [nds x_1.1.ns,AV.sl false 0 2 (List UInt8×Int) Ah (CA x_3.1 x_3.2.1 x_3.2.2),Ab (yu y.2).out,.int .i64 (yu y.2).code,.int .i64 (yu y.2).steps,.int .i64 x_1.1.L,.int .i64 (yu y.2).deep,.bool (yu y.2).done,.int .i64 (yu y.2).ret]])∧cA Eo [AV.sl false 0 2 (List UInt8×Int) Ah (yu y.2).cells,.str (zl x).text,.int .i64 y.1] fun x_3 y_1=>true=true∧eA (KV n x) [.box 0 [nds x_1.1.ns,AV.sl false 0 2 (List UInt8×Int) Ah (CA x_3.1 x_3.2.1 x_3.2.2),Ab (yu y.2).out,.int .i64 (yu y.2).code,.int .i64 (yu y.2).steps,.int .i64 x_1.1.L,.int .i64 (yu y.2).deep,.bool (yu y.2).done,.int .i64 (yu y.2).ret]])∧∀(i:UY),sQu n x.1 (uh x) (zl x) (yu i)→rA (Du n) x [.tup [],.box 0 [nds x.1.ns,AV.sl false 0 2 (List UInt8×Int) Ah (yu i).cells,Ab (yu i).out,.int .i64 (yu i).code,.int .i64 (yu i).steps,.int .i64 x.1.L,.int .i64 (yu i).deep,.bool (yu i).done,.int .i64 (yu i).ret],.top]) (rA (Du n) x [.tup [],.box 0 [nds x_1.1.ns,AV.sl false 0 2 (List UInt8×Int) Ah (yu y.2).cells,Ab (yu y.2).out,.int .i64 (yu y.2).code,.int .i64 (yu y.2).steps,.int .i64 x_1.1.L,.int .i64 (yu y.2).deep,.bool (yu y.2).done,.int .i64 (yu y.2).ret],.top]))) (Aa ((zl x).kind==(14:Int)) (((0:Int)≤(0:Int)∧(0:Int)<(↑(List.length (zl x).kids):Int))∧∀(e:Int),(zl x).kids[(0:Nat)]? =some e→cA (Dj n) [.box 0 [nds x.1.ns,AV.sl false 0 2 (List UInt8×Int) Ah (yu i).cells,Ab (yu i).out,.int .i64 (yu i).code,.int .i64 (yu i).steps,.int .i64 x.1.L,.int .i64 (yu i).deep,.bool (yu i).done,.int .i64 (yu i).ret],.int .i64 e] fun x_1 y=>rA (Du n) x [.tup [],.box 0 [nds x_1.1.ns,AV.sl false 0 2 (List UInt8×Int) Ah (yu y.2).cells,Ab (yu y.2).out,.int .i64 (yu y.2).code,.int .i64 (yu y.2).steps,.int .i64 x_1.1.L,.int .i64 (yu y.2).deep,.bool (yu y.2).done,.int .i64 (yu y.2).ret],.top]) (Aa ((zl x).kind==(15:Int)) (cA (KU n) [.box 0 [nds x.1.ns,AV.sl false 0 2 (List UInt8×Int) Ah (yu i).cells,Ab (yu i).out,.int .i64 (yu i).code,.int .i64 (yu i).steps,.int .i64 x.1.L,.int .i64 (yu i).deep,.bool (yu i).done,.int .i64 (yu i).ret],.agg [.int .i64 (zl x).kind,.str (zl x).text,Af (zl x).kids,.bool (zl x).blank]] fun x_1 y=>Aa ((yu y.2).code==(0:Int)) (rA (Du n) x [.tup [],.box 0 [nds x_1.1.ns,AV.sl false 0 2 (List UInt8×Int) Ah (yu y.2).cells,Ab (yu y.2).out,.int .i64 (yu y.2).code,.int .i64 (yu y.2).steps,.int .i64 x_1.1.L,.int .i64 (yu y.2).deep,.bool true,.int .i64 y.1],.top]) (rA (Du n) x [.tup [],.box 0 [nds x_1.1.ns,AV.sl false 0 2 (List UInt8×Int) Ah (yu y.2).cells,Ab (yu y.2).out,.int .i64 (yu y.2).code,.int .i64 (yu y.2).steps,.int .i64 x_1.1.L,.int .i64 (yu y.2).deep,.bool (yu y.2).done,.int .i64 (yu y.2).ret],.top])) (Aa ((zl x).kind==(16:Int)) (((0:Int)≤(0:Int)∧(0:Int)<(↑(List.length (zl x).kids):Int))∧∀(e:Int),(zl x).kids[(0:Nat)]? =some e→cA (Dj n) [.box 0 [nds x.1.ns,AV.sl false 0 2 (List UInt8×Int) Ah (yu i).cells,Ab (yu i).out,.int .i64 (yu i).code,.int .i64 (yu i).steps,.int .i64 x.1.L,.int .i64 (yu i).deep,.bool (yu i).done,.int .i64 (yu i).ret],.int .i64 e] fun x_1 y=>Aa ((yu y.2).code==(0:Int)) (Aa (y.1 != (0:Int)) (((0:Int)≤(1:Int)∧(1:Int)<(↑(List.length (zl x).kids):Int))∧∀(e:Int),(zl x).kids[(1:Nat)]? =some e→cA (Ia n) [.box 0 [nds x_1.1.ns,AV.sl false 0 2 (List UInt8×Int) Ah (yu y.2).cells,Ab (yu y.2).out,.int .i64 (yu y.2).code,.int .i64 (yu y.2).steps,.int .i64 x_1.1.L,.int .i64 (yu y.2).deep,.bool (yu y.2).done,.int .i64 (yu y.2).ret],.int .i64 e] fun x_2 y=>rA (Du n) x [.tup [],.box 0 [nds x_2.1.ns,AV.sl false 0 2 (List UInt8×Int) Ah (yu y).cells,Ab (yu y).out,.int .i64 (yu y).code,.int .i64 (yu y).steps,.int .i64 x_2.1.L,.int .i64 (yu y).deep,.bool (yu y).done,.int .i64 (yu y).ret],.top]) (Aa ((yu y.2).code==(0:Int)) (Aa (decide ((↑(List.length (zl x).kids):Int)>(2:Int))) (((0:Int)≤(2:Int)∧(2:Int)<(↑(List.length (zl x).kids):Int))∧∀(e:Int),(zl x).kids[(2:Nat)]? =some e→cA (Ia n) [.box 0 [nds x_1.1.ns,AV.sl false 0 2 (List UInt8×Int) Ah (yu y.2).cells,Ab (yu y.2).out,.int .i64 (yu y.2).code,.int .i64 (yu y.2).steps,.int .i64 x_1.1.L,.int .i64 (yu y.2).deep,.bool (yu y.2).done,.int .i64 (yu y.2).ret],.int .i64 e] fun x_2 y=>rA (Du n) x [.tup [],.box 0 [nds x_2.1.ns,AV.sl false 0 2 (List UInt8×Int) Ah (yu y).cells,Ab (yu y).out,.int .i64 (yu y).code,.int .i64 (yu y).steps,.int .i64 x_2.1.L,.int .i64 (yu y).deep,.bool (yu y).done,.int .i64 (yu y).ret],.top]) (rA (Du n) x [.tup [],.box 0 [nds x_1.1.ns,AV.sl false 0 2 (List UInt8×Int) Ah (yu y.2).cells,Ab (yu y.2).out,.int .i64 (yu y.2).code,.int .i64 (yu y.2).steps,.int .i64 x_1.1.L,.int .i64 (yu y.2).deep,.bool (yu y.2).done,.int .i64 (yu y.2).ret],.top])) (rA (Du n) x [.tup [],.box 0 [nds x_1.1.ns,AV.sl false 0 2 (List UInt8×Int) Ah (yu y.2).cells,Ab (yu y.2).out,.int .i64 (yu y.2).code,.int .i64 (yu y.2).steps,.int .i64 x_1.1.L,.int .i64 (yu y.2).deep,.bool (yu y.2).done,.int .i64 (yu y.2).ret],.top]))) (Aa ((yu y.2).code==(0:Int)) (Aa (decide ((↑(List.length (zl x).kids):Int)>(2:Int))) (((0:Int)≤(2:Int)∧(2:Int)<(↑(List.length (zl x).kids):Int))∧∀(e:Int),(zl x).kids[(2:Nat)]? =some e→cA (Ia n) [.box 0 [nds x_1.1.ns,AV.sl false 0 2 (List UInt8×Int) Ah (yu y.2).cells,Ab (yu y.2).out,.int .i64 (yu y.2).code,.int .i64 (yu y.2).steps,.int .i64 x_1.1.L,.int .i64 (yu y.2).deep,.bool (yu y.2).done,.int .i64 (yu y.2).ret],.int .i64 e] fun x_2 y=>rA (Du n) x [.tup [],.box 0 [nds x_2.1.ns,AV.sl false 0 2 (List UInt8×Int) Ah (yu y).cells,Ab (yu y).out,.int .i64 (yu y).code,.int .i64 (yu y).steps,.int .i64 x_2.1.L,.int .i64 (yu y).deep,.bool (yu y).done,.int .i64 (yu y).ret],.top]) (rA (Du n) x [.tup [],.box 0 [nds x_1.1.ns,AV.sl false 0 2 (List UInt8×Int) Ah (yu y.2).cells,Ab (yu y.2).out,.int .i64 (yu y.2).code,.int .i64 (yu y.2).steps,.int .i64 x_1.1.L,.int .i64 (yu y.2).deep,.bool (yu y.2).done,.int .i64 (yu y.2).ret],.top])) (rA (Du n) x [.tup [],.box 0 [nds x_1.1.ns,AV.sl false 0 2 (List UInt8×Int) Ah (yu y.2).cells,Ab (yu y.2).out,.int .i64 (yu y.2).code,.int .i64 (yu y.2).steps,.int .i64 x_1.1.L,.int .i64 (yu y.2).deep,.bool (yu y.2).done,.int .i64 (yu y.2).ret],.top]))) (Aa ((zl x).kind==(17:Int)) (cA (II n) [.box 0 [nds x.1.ns,AV.sl false 0 2 (List UInt8×Int) Ah (yu i).cells,Ab (yu i).out,.int .i64 (yu i).code,.int .i64 (yu i).steps,.int .i64 x.1.L,.int .i64 (yu i).deep,.bool (yu i).done,.int .i64 (yu i).ret],.agg [.int .i64 (zl x).kind,.str (zl x).text,Af (zl x).kids,.bool (zl x).blank]] fun x_1 y=>rA (Du n) x [.tup [],.box 0 [nds x_1.1.ns,AV.sl false 0 2 (List UInt8×Int) Ah (yu y).cells,Ab (yu y).out,.int .i64 (yu y).code,.int .i64 (yu y).steps,.int .i64 x_1.1.L,.int .i64 (yu y).deep,.bool (yu y).done,.int .i64 (yu y).ret],.top]) (rA (Du n) x [.tup [],.box 0 [nds x.1.ns,AV.sl false 0 2 (List UInt8×Int) Ah (yu i).cells,Ab (yu i).out,.int .i64 (yu i).code,.int .i64 (yu i).steps,.int .i64 x.1.L,.int .i64 (yu i).deep,.bool (yu i).done,.int .i64 (yu i).ret],.top])))))))) (fun x=>by kernel_rfl) fun(x:ZX Nd) (hx:sPu n x.1 (uh x) (zl x))=>(by
 dsimp only[cA,Ah,cls,eA,To,KV,Ye,Af,Bu,nds,KO,Ab,rA,Eo,Ia,Di,II,KU,Du,IG,Dj,usA,Au,Az,mvL,lnL,mvE,lnE,Br]
 obtain⟨s,o,c,t,d,cs,en,re,z⟩:=x;dsimp only[uh,zl] at hx ⊢
 have hx:sPu n s ⟨o,c,t,d,cs,en,re⟩ z:=hx
 have hT:=b9n hx
 (repeat' first|(with_reducible first|rfl|exact True.intro|apply AK|apply And.intro|((first|apply AA|apply AI|apply AB|apply AJ)<;>intro _))|(apply Ax<;>intro _)|apply AH|refine Ae () ?_ ?_|((first|apply AO|apply AN|apply AM|apply AL|apply AG|apply AF|apply AE|apply AD|apply AC)<;>try dsimp only)|apply Ae|(refine Prod.forall.2 ?_;intro _;try dsimp only)|(intro _;try dsimp only))
 all_goals(try simp only[KP,decide_eq_true_eq,decide_eq_false_iff_not,Bool.not_eq_true',Bool.not_eq_false'] at*)
 all_goals(try(have hK:=a5R (show sg _ _ _ _ _ by assumption)))
 all_goals first
  |rfl
  |exact()
  |assumption
  |exact b8S hx ‹_›
  |exact b8T hx ‹_› ‹_›
  |exact b8R hx ‹_› ‹_›
  |exact Om ‹_›
  |exact b8U ‹_› ‹_›
  |exact b8V ‹_› ‹_› ‹_› ‹_›
  |exact b8W ‹_› ‹_› ‹_› ‹_›
  |exact b8X ‹_› ‹_› ‹_› ‹_› ‹_› ‹_›
  |exact b8Y ‹_› ‹_› ‹_› ‹_› ‹_› ‹_›
  |exact b8Z ‹_› ‹_› ‹_› ‹_› ‹_›
  |exact(b9a ‹_›).elim
  |exact b9b ‹_› ‹_› ‹_› ‹_›
  |exact b9c ‹_› ‹_› ‹_› ‹_›
  |exact b9d ‹_› ‹_› ‹_› ‹_›
  |exact b9e ‹_› (show z.kids[0]? =some _ by assumption) ‹_› ‹_›
  |exact b9f ‹_› ‹_› (show z.kids[0]? =some _ by assumption) ‹_› ‹_› ‹_› (show z.kids[1]? =some _ by assumption) ‹_›
  |exact b9g ‹_› ‹_› (show z.kids[0]? =some _ by assumption) ‹_› ‹_› (by omega) ‹_› (show z.kids[2]? =some _ by assumption) ‹_›
  |exact b9h ‹_› ‹_› ‹_› ‹_› (by omega) ‹_›
  |exact b9i ‹_› ‹_› ‹_› ‹_› ‹_›
  |exact b9j ‹_› ‹_›
  |exact b9k ‹_› ‹_› ‹_›
  |exact b9l ‹_› ‹_› ‹_› ‹_› ‹_› ‹_› ‹_›
  |exact a5U ‹_›
  |exact b9m ‹_›
  |(have hq:=a5U ‹_›;dsimp only[yu] at hq;omega)
  |((try simp only[AQ]);omega)
  |skip)
def Yf(n:Nat):Sig:= {X:=ZX Int,args:=fun x=>[usA x.1 (uh x),.int .i64 (zl x)],pre:=fun x=>bPu (n+1) x.1 (uh x) (zl x),Y:=UY,post:=fun x y=>bQu (n+1) x.1 (uh x) (zl x) (yu y),res:=fun x y=> .tup [],outs:=fun x y=>[usA x.1 (yu y),.top],keep:=true}
def Tp(n:Nat)(x:ZX Int):LS:= {ι:=Int×UY,inv:=fun i=>bkU n x.1 (uh x) (zl x) i.1 (yu i.2),regs:=fun i=>[(0,usA x.1 (yu i.2)),(4,Af (ndAt x.1.ns (zl x)).kids),(5,.int .i64 i.1)],als:=[],meas:=fun i=>(ndAt x.1.ns (zl x)).kids.length-i.1.toNat,sub:=fun j=>[(100004,{ι:=UY,inv:=fun i=>bkU n x.1 (uh x) (zl x) (j.1+1) (yu i),regs:=fun i=>[(0,usA x.1 (yu i)),(4,Af (ndAt x.1.ns (zl x)).kids),(5,.int .i64 j.1)],als:=[],meas:=fun _=>0})]}
def Tq(n:Nat)(x:ZX Int)(i:Int×UY):Prop:=rA (Yf n) x [.tup [],.box 0 [nds x.1.ns,AV.sl false 0 2 (List UInt8×Int) Ah (yu i.2).cells,Ab (yu i.2).out,.int .i64 (yu i.2).code,.int .i64 (yu i.2).steps,.int .i64 x.1.L,.int .i64 (yu i.2).deep,.bool (yu i.2).done,.int .i64 (yu i.2).ret],.top]
theorem b9u(n:Nat)(h:uAll G n):Aj G Tryz.prog 74 (Yf n):=
 vcFun_okP [(97,0,(Du n))] [] false (fun x=>[(2,Tp n x)]) Tryz.func74 rfl (by decide) ⟨(b9t n h),trivial⟩ (fun(x:ZX Int)=>True∧((0:Int)≤zl x∧zl x<(↑(List.length x.1.ns):Int))∧∀(e:Nd),x.1.ns[Int.toNat (zl x)]? =some e→eA (Tp n x) [.box 0 [nds x.1.ns,AV.sl false 0 2 (List UInt8×Int) Ah (uh x).cells,Ab (uh x).out,.int .i64 (uh x).code,.int .i64 (uh x).steps,.int .i64 x.1.L,.int .i64 (uh x).deep,.bool (uh x).done,.int .i64 (uh x).ret],Af e.kids,.int .i64 (0:Int)]∧∀(i:Int×UY),bkU n x.1 (uh x) (zl x) i.1 (yu i.2)→Aa (decide (i.1<(↑(List.length (ndAt x.1.ns (zl x)).kids):Int))) (Aa ((yu i.2).code==(0:Int)) (Aa (!(yu i.2).done) (true=true∧(((0:Int)≤i.1∧i.1<(↑(List.length (ndAt x.1.ns (zl x)).kids):Int))∧∀(e:Int),(ndAt x.1.ns (zl x)).kids[Int.toNat i.1]? =some e→((0:Int)≤e∧e<(↑(List.length x.1.ns):Int))∧∀(e_1:Nd),x.1.ns[Int.toNat e]? =some e_1→cA (Du n) [.box 0 [nds x.1.ns,AV.sl false 0 2 (List UInt8×Int) Ah (yu i.2).cells,Ab (yu i.2).out,.int .i64 (yu i.2).code,.int .i64 (yu i.2).steps,.int .i64 x.1.L,.int .i64 (yu i.2).deep,.bool (yu i.2).done,.int .i64 (yu i.2).ret],.agg [.int .i64 e_1.kind,.str e_1.text,Af e_1.kids,.bool e_1.blank]] fun x_1 y=>true=true∧∃(i_1:UY),bkU n x.1 (uh x) (zl x) (i.1+(1:Int)) (yu i_1)∧(nds x_1.1.ns=nds x.1.ns∧AV.sl false 0 2 (List UInt8×Int) Ah (yu y).cells=AV.sl false 0 2 (List UInt8×Int) Ah (yu i_1).cells∧Ab (yu y).out=Ab (yu i_1).out∧(yu y).code=(yu i_1).code∧(yu y).steps=(yu i_1).steps∧x_1.1.L=x.1.L∧(yu y).deep=(yu i_1).deep∧(yu y).done=(yu i_1).done∧(yu y).ret=(yu i_1).ret∧Af (ndAt x.1.ns (zl x)).kids=Af (ndAt x.1.ns (zl x)).kids∧i.1=i.1∧True)∧True)∧∀(i_1:UY),bkU n x.1 (uh x) (zl x) (i.1+(1:Int)) (yu i_1)→inR IntKind.i64 (i.1+(1:Int))∧eN (Tp n x) i [.box 0 [nds x.1.ns,AV.sl false 0 2 (List UInt8×Int) Ah (yu i_1).cells,Ab (yu i_1).out,.int .i64 (yu i_1).code,.int .i64 (yu i_1).steps,.int .i64 x.1.L,.int .i64 (yu i_1).deep,.bool (yu i_1).done,.int .i64 (yu i_1).ret],Af (ndAt x.1.ns (zl x)).kids,.int .i64 (i.1+(1:Int))]) (Tq n x i)) (Tq n x i)) (Tq n x i)) (fun x=>by kernel_rfl) fun(x:ZX Int) (hx:bPu (n+1) x.1 (uh x) (zl x))=>(by
 dsimp only[Tq,cA,Ah,cls,eA,eN,Tp,Af,Bu,nds,Ab,rA,Yf,Du,usA,Au,Az,mvL,lnL,mvE,lnE,Br]
 obtain⟨s,o,c,t,d,cs,en,re,k⟩:=x;dsimp only[uh,zl] at hx ⊢
 have hx:bPu (n+1) s ⟨o,c,t,d,cs,en,re⟩ k:=hx
 have hk:=b9s hx
 (repeat' first|(with_reducible first|rfl|exact True.intro|apply AK|apply And.intro|((first|apply AA|apply AI|apply AB|apply AJ)<;>intro _))|(apply Ax<;>intro _)|apply AH|refine Ae () ?_ ?_|((first|apply AO|apply AN|apply AM|apply AL|apply AG|apply AF|apply AE|apply AD|apply AC)<;>try dsimp only)|apply Ae|(refine Prod.forall.2 ?_;intro _;try dsimp only)|(intro _;try dsimp only))
 all_goals(try simp only[KP] at*)
 all_goals(repeat(rename s.ns[_]? =some _=>hq;have hqe:=(Bn hq).symm;clear hq;subst hqe))
 all_goals(try(repeat(rename(_:List Int)[_]? =some _=>hq;revert hq;rename(_:List Int)[_]? =some _=>hr;intro hq;rw[hr] at hq;cases hq)))
 all_goals(try(have hB:=a5W (show bkU _ _ _ _ _ _ by assumption)))
 all_goals first
  |rfl
  |exact hx
  |exact hk.1
  |exact hk.2
  |exact b9o hx
  |exact Yc ‹_› (.inl ‹_›)
  |exact Yc ‹_› (.inr (.inl ‹_›))
  |exact Yc ‹_› (.inr (.inr ‹_›))
  |exact(Yd hx ‹_›).1.1
  |exact(Yd hx ‹_›).1.2
  |exact b9q hx ‹_› ‹_›
  |exact b9r ‹_› ‹_› ‹_› ‹_› ‹_›
  |((try simp only[AQ]);omega)
  |(rename bkU _ _ _ _ (_+1) _=>hq;clear hq;have hB2:=a5W (show bkU _ _ _ _ _ _ by assumption);omega)
  |skip)
end Go.My
end
section
namespace Go.My
open Go.Eng Go.Proofs
variable {G:GInv}
theorem a5X{P:Program}{f:FuncId}{S:Sig}{fn:Func}{c:Code}(hfn:P.funcs[f]? =some fn)(hb:fn.body=some c)(hn:(fn.name== "runtime.NumGoroutine")=false)(hp:∀x,¬S.pre x):Aj G P f S:=
 ⟨⟨⟨fn,hfn,hn,by simp [hb]⟩,fun x y hx _=>(hp x hx).elim⟩,fun x hx=>(hp x hx).elim⟩
theorem a5Y{ns:List Nd}{m:Mc}{c:Int}(h:mOk m)(hc:0≤c)(hf:Cw ns m 0 c):False:=by
 have h1:=h.1.2.2
 have:0≤(21-m.deep)*((ns.length:Int)+1):=Int.mul_nonneg (by omega) (by omega)
 unfold Cw at hf;omega
theorem b9v:uAll G 0:=
 ⟨a5X Tryz.func122 rfl (by decide) (fun x h=>a5Y h.1.2.1 h.2.1.1.1.1 h.2.1.2),a5X Tryz.func74 rfl (by decide) (fun x h=>a5Y h.1.2.1 h.2.1.1.1 h.2.2)⟩
theorem b9w(n:Nat):uAll G n:=by
 induction n with
 |zero=>exact b9v
 |succ n ih=>exact⟨b8x n ih,b9u n ih⟩
def uFU:Nat:=7000
def Qs:Sig:= {X:=ZX (Int×List Int),args:=fun x=>[usA x.1 (uh x),.int .i64 (zl x).1,Af (zl x).2],pre:=fun x=>mPu uFU x.1 (uh x) (zl x).1 (zl x).2,Y:=Int×UY,post:=fun x y=>mQu uFU x.1 (uh x) (zl x).1 (zl x).2 (yw y),res:=fun x y=> .int .i64 y.1,outs:=fun x y=>[usA x.1 (yu y.2),.top,.top],keep:=true}
theorem b9x:Aj G Go.Proofs.Tryz.prog 44 Qs:=a5x uFU (b9w uFU)
abbrev RuY:=List Int×Int×Int×Int
abbrev ms0:Ms:=⟨[],0,0,0,[],false,0⟩
def b9y(p:Int×Ms):RuY:=(p.2.out,if p.2.code=0 then p.1 else 0,p.2.code,p.2.steps)
def b9z(ns:List Nd)(t:List UInt8)(az:List Int)(L:Int)(y:RuY):Prop:=(Bb ns t (Bc ns).kids<0∧y=([],0,1,0))∨(0≤Bb ns t (Bc ns).kids∧∃p,meU ns (eu ns uFU).blk (Bb ns t (Bc ns).kids) az L ms0=some p∧y=b9y p)
def ruQ(ns:List Nd)(t:List UInt8)(az:List Int)(st:Int)(y:RuY):Prop:=b9z ns t az (min st 1000) y∧y.1.length≤5159780352000
theorem b9A{ns ms:List Nd}{R:Int→Int→Prop}(H:Alike ns ms R){t:List UInt8}{az:List Int}{st:Int}{y z:RuY}(h:ruQ ns t az st y)(g:ruQ ms t az st z):y=z:=by
 rcases h.1 with⟨h1,h2⟩|⟨h1,p,h2,h3⟩
 ·rcases g.1 with⟨g1,g2⟩|⟨g1,q,g2,g3⟩
  ·rw[h2,g2]
  ·rcases H.meth t with e|⟨e,_⟩<;>omega
 ·rcases g.1 with⟨g1,g2⟩|⟨g1,q,g2,g3⟩
  ·rcases H.meth t with e|⟨e,_⟩<;>omega
  ·rcases H.meth t with e|⟨_,e⟩
   ·omega
   ·have hB:=(a3L H uFU uFU).2
    have:=a3G H hB e (a3K t h1) _ _ _ _ h2 g2
    rw[h3,g3,this]
theorem b9B{ns:List Nd}{t:List UInt8}{az:List Int}{st:Int}(h:Bb ns t (Bc ns).kids<0):ruQ ns t az st ([],0,1,0):=⟨.inl ⟨h,rfl⟩,by simp⟩
theorem b9C:uOk ms0:=⟨⟨by simp [mc,ms0],by simp [mc,ms0,pot]⟩,⟨by simp [ms0],by simp [ms0,mc]⟩,Hq⟩
theorem b9D{ns:List Nd}{t:List UInt8}{az:List Int}{L:Int}(h:tOk ns)(hL:L≤1000)(hb:∀a∈az,bdd a)(hl:az.length≤12)(hk:¬Bb ns t (Bc ns).kids<0):mPu uFU ⟨ns,L⟩ ms0 (Bb ns t (Bc ns).kids) az:=by
 refine⟨⟨⟨⟨h,hL⟩,b9C⟩,hb,hl⟩,a5v (s:=⟨ns,L⟩) ⟨h,hL⟩ hk,?_⟩
 have:=h.2;unfold uFU ms0;simp only;omega
theorem a5Z{ns:List Nd}{t:List UInt8}{az:List Int}{st v r:Int}{m:Ms}(hk:¬Bb ns t (Bc ns).kids<0)(hm:mQu uFU ⟨ns,min st 1000⟩ ms0 (Bb ns t (Bc ns).kids) az (v,m))(hr:r=if m.code=0 then v else 0):ruQ ns t az st (m.out,r,m.code,m.steps):=by
 have g:=hm.2.1.1.1
 have h1:=g.2;have h2:=g.1.1;unfold pot at h1
 exact⟨.inr ⟨by omega,(v,m),hm.1.1,by rw[hr];rfl⟩,by simp only[mc] at*;omega⟩
theorem b9E{ns:List Nd}{t:List UInt8}{az:List Int}{st v:Int}{m:Ms}(hk:¬Bb ns t (Bc ns).kids<0)(hm:mQu uFU ⟨ns,min st 1000⟩ ms0 (Bb ns t (Bc ns).kids) az (v,m))(hq:m.code=0):ruQ ns t az st (m.out,v,m.code,m.steps):=a5Z hk hm (by rw[if_pos hq])
theorem b9F{ns:List Nd}{t:List UInt8}{az:List Int}{st v:Int}{m:Ms}(hk:¬Bb ns t (Bc ns).kids<0)(hm:mQu uFU ⟨ns,min st 1000⟩ ms0 (Bb ns t (Bc ns).kids) az (v,m))(hq:¬m.code=0):ruQ ns t az st (m.out,0,m.code,m.steps):=a5Z hk hm (by rw[if_neg hq])
theorem b9G{n:Int}{m:Ms}(h:bdd n):uKm n m=m:=if_pos (KB.2 h)
def ugI(az:List Int)(i:Int):Prop:=(0≤i∧i≤az.length)∧az.length≤12
theorem b9H{az:List Int}(h:az.length≤12):ugI az 0:=⟨by omega,h⟩
theorem b9I{az:List Int}{i:Int}(h:ugI az i):(0≤i∧i≤az.length)∧az.length≤12:=h
theorem b9J{az:List Int}{i:Int}(h:ugI az i)(hl:i<az.length):ugI az (i+1):=⟨by have:=h.1;omega,h.2⟩
theorem b9K{n:Nat}{s:ZS}{m:Ms}{k:Int}{az:List Int}{y:Int×Ms}(h:mQu n s m k az y):y.2.out.length<2^62:=by
 have g:=h.2.1.1.1
 have h1:=g.2;have h2:=g.1.1;unfold pot at h1;simp only[mc] at*;omega
theorem b9L{T0 T1 T2 T3 T4 T5 T6 T7:Type}{p q:ZS×T0×T1×T2×T3×T4×T5×T6×T7→Prop}(a:List Nd)(b:Int)(v0:T0)(v1:T1)(v2:T2)(v3:T3)(v4:T4)(v5:T5)(v6:T6)(v7:T7)(h2:q (⟨a,b⟩,v0,v1,v2,v3,v4,v5,v6,v7))(h1:p (⟨a,b⟩,v0,v1,v2,v3,v4,v5,v6,v7)):∃x,p x∧q x:=⟨_,h1,h2⟩
theorem b9M{T0 T1 T2 T3 T4 T5 T6 T7 T8:Type}{p q:ZS×T0×T1×T2×T3×T4×T5×T6×T7×T8→Prop}(a:List Nd)(b:Int)(v0:T0)(v1:T1)(v2:T2)(v3:T3)(v4:T4)(v5:T5)(v6:T6)(v7:T7)(v8:T8)(h2:q (⟨a,b⟩,v0,v1,v2,v3,v4,v5,v6,v7,v8))(h1:p (⟨a,b⟩,v0,v1,v2,v3,v4,v5,v6,v7,v8)):∃x,p x∧q x:=⟨_,h1,h2⟩
theorem b9N{ns:List Nd}{t:List UInt8}{az:List Int}{st:Int}{y:RuY}(h:ruQ ns t az st y):y.1.length≤5159780352000:=h.2
theorem b9O:AW ⟨[],0,0,0,[],false,0⟩=⟨[],1,0,0,[],false,0⟩:=rfl
attribute [local irreducible] ugI mPu cQu ruQ Bf meU
def Qt:Sig:= {X:=List Nd×List UInt8×List Int×Int,args:=fun x=>[nds x.1,.str x.2.1,Af x.2.2.1,.int .i64 x.2.2.2],pre:=fun x=>tOk x.1∧(∀a∈x.2.2.1,bdd a)∧x.2.2.1.length≤12,Y:=RuY,post:=fun x y=>ruQ x.1 x.2.1 x.2.2.1 x.2.2.2 y,res:=fun x y=> .agg [Af y.1,.int .i64 y.2.1,.int .i64 y.2.2.1,.int .i64 y.2.2.2],outs:=fun x y=>[.top,.top,.top,.top],keep:=true}
def b9P(x:List Nd×List UInt8×List Int×Int):LS:= {ι:=Unit,inv:=fun _=>True,regs:=fun _=>[(2,Af x.2.2.1),(8,.box 0 [Ab [],.int .i64 0,.int .i64 0,.int .i64 0]),(9,.int .i64 (Bb x.1 x.2.1 (Bc x.1).kids)),(10,usA ⟨x.1,min x.2.2.2 1000⟩ ⟨[],0,0,0,[],false,0⟩)],als:=[],meas:=fun _=>0}
def Tr(x:List Nd×List UInt8×List Int×Int):LS:= {ι:=Int,inv:=fun i=>ugI x.2.2.1 i,regs:=fun i=>[(2,Af x.2.2.1),(8,.box 0 [Ab [],.int .i64 0,.int .i64 0,.int .i64 0]),(9,.int .i64 (Bb x.1 x.2.1 (Bc x.1).kids)),(10,usA ⟨x.1,min x.2.2.2 1000⟩ ⟨[],0,0,0,[],false,0⟩),(11,.int .i64 0),(12,.int .i64 i)],als:=[],meas:=fun i=>x.2.2.1.length-i.toNat}
def KW(x:List Nd×List UInt8×List Int×Int):LS:= {ι:=Int×UY,inv:=fun i=>ruQ x.1 x.2.1 x.2.2.1 x.2.2.2 ((yu i.2).out,i.1,(yu i.2).code,(yu i.2).steps),regs:=fun i=>[(8,.box 0 [Ab [],.int .i64 0,.int .i64 0,.int .i64 0]),(10,usA ⟨x.1,min x.2.2.2 1000⟩ (yu i.2)),(11,.int .i64 i.1)],als:=[],meas:=fun _=>0}
def b9Q(x:List Nd×List UInt8×List Int×Int):LS:= {ι:=RuY,inv:=fun i=>ruQ x.1 x.2.1 x.2.2.1 x.2.2.2 i,regs:=fun i=>[(8,.box 0 [Af i.1,.int .i64 i.2.1,.int .i64 i.2.2.1,.int .i64 i.2.2.2])],als:=[],meas:=fun _=>0}
def Qu(x:List Nd×List UInt8×List Int×Int)(i:Int×UY):Prop:=∃(zs:List Int),Ab (yu i.2).out=Ab zs∧Bo AZ∧AY ((0:Nat)+List.length zs) (8:Nat)∧true=true∧∃(i_1:RuY),ruQ x.1 x.2.1 x.2.2.1 x.2.2.2 i_1∧(AV.sl false 0 1 Int (fun(x:Int)=>fzL (AZ x)) ([]++zs)=Af i_1.1∧i.1=i_1.2.1∧(yu i.2).code=i_1.2.2.1∧(yu i.2).steps=i_1.2.2.2∧True)∧True
def Ts(x:List Nd×List UInt8×List Int×Int)(i:Int×UY):Prop:=(Qu x i)∧∃(zs:List Int),Ab (yu i.2).out=Ab zs∧Bo AZ∧AY ((0:Nat)+List.length zs) (8:Nat)∧true=true∧∃(i_1:RuY),ruQ x.1 x.2.1 x.2.2.1 x.2.2.2 i_1∧(AV.sl false 0 1 Int (fun(x:Int)=>fzL (AZ x)) ([]++zs)=Af i_1.1∧i.1=i_1.2.1∧(yu i.2).code=i_1.2.2.1∧(yu i.2).steps=i_1.2.2.2∧True)∧True
def On(x:List Nd×List UInt8×List Int×Int)(i:Int×UY):Prop:=(Ts x i)∧∃(zs:List Int),Ab (yu i.2).out=Ab zs∧Bo AZ∧AY ((0:Nat)+List.length zs) (8:Nat)∧true=true∧∃(i_1:RuY),ruQ x.1 x.2.1 x.2.2.1 x.2.2.2 i_1∧(AV.sl false 0 1 Int (fun(x:Int)=>fzL (AZ x)) ([]++zs)=Af i_1.1∧i.1=i_1.2.1∧(yu i.2).code=i_1.2.2.1∧(yu i.2).steps=i_1.2.2.2∧True)∧True
def Yg(x:List Nd×List UInt8×List Int×Int)(i:Int×UY):Prop:=((∃(zs:List Int),Ab (yu i.2).out=Ab zs∧Bo AZ∧AY ((0:Nat)+List.length zs) (8:Nat)∧(true=true∧∃(i_1:RuY),ruQ x.1 x.2.1 x.2.2.1 x.2.2.2 i_1∧(AV.sl false 0 1 Int (fun(x:Int)=>fzL (AZ x)) ([]++zs)=Af i_1.1∧i.1=i_1.2.1∧(yu i.2).code=i_1.2.2.1∧(yu i.2).steps=i_1.2.2.2∧True)∧True)∧true=true∧∃(i_1:RuY),ruQ x.1 x.2.1 x.2.2.1 x.2.2.2 i_1∧(AV.sl false 0 1 Int (fun(x:Int)=>fzL (AZ x)) ([]++zs)=Af i_1.1∧i.1=i_1.2.1∧(yu i.2).code=i_1.2.2.1∧(yu i.2).steps=i_1.2.2.2∧True)∧True)∧(Ts x i)∧(Qu x i)∧∃(zs:List Int),Ab (yu i.2).out=Ab zs∧Bo AZ∧AY ((0:Nat)+List.length zs) (8:Nat)∧true=true∧∃(i_1:RuY),ruQ x.1 x.2.1 x.2.2.1 x.2.2.2 i_1∧(AV.sl false 0 1 Int (fun(x:Int)=>fzL (AZ x)) ([]++zs)=Af i_1.1∧i.1=i_1.2.1∧(yu i.2).code=i_1.2.2.1∧(yu i.2).steps=i_1.2.2.2∧True)∧True)∧(On x i)∧(Ts x i)∧∃(zs:List Int),Ab (yu i.2).out=Ab zs∧Bo AZ∧AY ((0:Nat)+List.length zs) (8:Nat)∧true=true∧∃(i_1:RuY),ruQ x.1 x.2.1 x.2.2.1 x.2.2.2 i_1∧(AV.sl false 0 1 Int (fun(x:Int)=>fzL (AZ x)) ([]++zs)=Af i_1.1∧i.1=i_1.2.1∧(yu i.2).code=i_1.2.2.1∧(yu i.2).steps=i_1.2.2.2∧True)∧True
def Tt(x:List Nd×List UInt8×List Int×Int)(i:Int×UY):Prop:=(Yg x i)∧(Yg x i)∧((On x i)∧(On x i)∧(Qu x i)∧∃(zs:List Int),Ab (yu i.2).out=Ab zs∧Bo AZ∧AY ((0:Nat)+List.length zs) (8:Nat)∧true=true∧∃(i_1:RuY),ruQ x.1 x.2.1 x.2.2.1 x.2.2.2 i_1∧(AV.sl false 0 1 Int (fun(x:Int)=>fzL (AZ x)) ([]++zs)=Af i_1.1∧i.1=i_1.2.1∧(yu i.2).code=i_1.2.2.1∧(yu i.2).steps=i_1.2.2.2∧True)∧True)∧(On x i)∧(On x i)∧(Qu x i)∧∃(zs:List Int),Ab (yu i.2).out=Ab zs∧Bo AZ∧AY ((0:Nat)+List.length zs) (8:Nat)∧true=true∧∃(i_1:RuY),ruQ x.1 x.2.1 x.2.2.1 x.2.2.2 i_1∧(AV.sl false 0 1 Int (fun(x:Int)=>fzL (AZ x)) ([]++zs)=Af i_1.1∧i.1=i_1.2.1∧(yu i.2).code=i_1.2.2.1∧(yu i.2).steps=i_1.2.2.2∧True)∧True
set_option maxHeartbeats 8000000 in
theorem b9R:Aj G Tryz.prog 13 Qt:=
 vcFun_okP [(14,0,HZ),(42,0,HY),(43,0,Di),(44,0,Qs)] [(25,⟨Int,AZ⟩)] false (fun x=>[(200005,b9P x),(7,Tr x),(200016,KW x),(100016,b9Q x)]) Tryz.func13 rfl (by decide) ⟨Xx,a5q,Mp,b9x,trivial⟩ (fun(x:List Nd×List UInt8×List Int×Int)=>True∧cA HZ [nds x.1,.str x.2.1] fun x_1 y=>Aa (decide (x.2.2.2>(1000:Int))) (∃(i:Unit),True∧(Af x.2.2.1=Af x.2.2.1∧(@List.nil (Int))=[]∧(0:Int)=(0:Int)∧(0:Int)=(0:Int)∧(0:Int)=(0:Int)∧Bb x_1.1 x_1.2 (Bc x_1.1).kids=Bb x.1 x.2.1 (Bc x.1).kids∧nds x.1=nds x.1∧(@List.nil (List UInt8×Int))=[]∧Ab []=Ab []∧(0:Int)=(0:Int)∧(0:Int)=(0:Int)∧(1000:Int)=min x.2.2.2 (1000:Int)∧(0:Int)=(0:Int)∧false=false∧(0:Int)=(0:Int)∧True)∧True) (∃(i:Unit),True∧(Af x.2.2.1=Af x.2.2.1∧(@List.nil (Int))=[]∧(0:Int)=(0:Int)∧(0:Int)=(0:Int)∧(0:Int)=(0:Int)∧Bb x_1.1 x_1.2 (Bc x_1.1).kids=Bb x.1 x.2.1 (Bc x.1).kids∧nds x.1=nds x.1∧(@List.nil (List UInt8×Int))=[]∧Ab []=Ab []∧(0:Int)=(0:Int)∧(0:Int)=(0:Int)∧x.2.2.2=min x.2.2.2 (1000:Int)∧(0:Int)=(0:Int)∧false=false∧(0:Int)=(0:Int)∧True)∧True)∧∀(i:Unit),True→eA (Tr x) [Af x.2.2.1,.box 0 [Ab [],.int .i64 (0:Int),.int .i64 (0:Int),.int .i64 (0:Int)],.int .i64 (Bb x.1 x.2.1 (Bc x.1).kids),.box 0 [nds x.1,AV.sl false 0 2 (List UInt8×Int) Ah [],Ab [],.int .i64 (0:Int),.int .i64 (0:Int),.int .i64 (min x.2.2.2 (1000:Int)),.int .i64 (0:Int),.bool false,.int .i64 (0:Int)],.int .i64 (0:Int),.int .i64 (0:Int)]∧∀(i:Int),ugI x.2.2.1 i→Aa (decide (i<(↑(List.length x.2.2.1):Int))) (((0:Int)≤i∧i<(↑(List.length x.2.2.1):Int))∧∀(e:Int),x.2.2.1[Int.toNat i]? =some e→cA HY [.box 0 [nds x.1,AV.sl false 0 2 (List UInt8×Int) Ah [],Ab [],.int .i64 (0:Int),.int .i64 (0:Int),.int .i64 (min x.2.2.2 (1000:Int)),.int .i64 (0:Int),.bool false,.int .i64 (0:Int)],.int .i64 e] fun x_2 y=>inR IntKind.i64 (i+(1:Int))∧eN (Tr x) i [Af x.2.2.1,.box 0 [Ab [],.int .i64 (0:Int),.int .i64 (0:Int),.int .i64 (0:Int)],.int .i64 (Bb x.1 x.2.1 (Bc x.1).kids),.box 0 [nds x_2.1.ns,AV.sl false 0 2 (List UInt8×Int) Ah (uKm (zl x_2) (uh x_2)).cells,Ab (uKm (zl x_2) (uh x_2)).out,.int .i64 (uKm (zl x_2) (uh x_2)).code,.int .i64 (uKm (zl x_2) (uh x_2)).steps,.int .i64 x_2.1.L,.int .i64 (uKm (zl x_2) (uh x_2)).deep,.bool (uKm (zl x_2) (uh x_2)).done,.int .i64 (uKm (zl x_2) (uh x_2)).ret],.int .i64 (0:Int),.int .i64 (i+(1:Int))]) (Aa (decide (Bb x.1 x.2.1 (Bc x.1).kids<(0:Int))) (cA Di [.box 0 [nds x.1,AV.sl false 0 2 (List UInt8×Int) Ah [],Ab [],.int .i64 (0:Int),.int .i64 (0:Int),.int .i64 (min x.2.2.2 (1000:Int)),.int .i64 (0:Int),.bool false,.int .i64 (0:Int)]] fun x_2 y=>Aa ((AW (uh x_2)).code==(0:Int)) (cA Qs [.box 0 [nds x_2.1.ns,AV.sl false 0 2 (List UInt8×Int) Ah (AW (uh x_2)).cells,Ab (AW (uh x_2)).out,.int .i64 (AW (uh x_2)).code,.int .i64 (AW (uh x_2)).steps,.int .i64 x_2.1.L,.int .i64 (AW (uh x_2)).deep,.bool (AW (uh x_2)).done,.int .i64 (AW (uh x_2)).ret],.int .i64 (Bb x.1 x.2.1 (Bc x.1).kids),Af x.2.2.1] fun x_3 y=>Aa ((yu y.2).code != (0:Int)) (eA (KW x) [.box 0 [Ab [],.int .i64 (0:Int),.int .i64 (0:Int),.int .i64 (0:Int)],.box 0 [nds x_3.1.ns,AV.sl false 0 2 (List UInt8×Int) Ah (yu y.2).cells,Ab (yu y.2).out,.int .i64 (yu y.2).code,.int .i64 (yu y.2).steps,.int .i64 x_3.1.L,.int .i64 (yu y.2).deep,.bool (yu y.2).done,.int .i64 (yu y.2).ret],.int .i64 (0:Int)]) (eA (KW x) [.box 0 [Ab [],.int .i64 (0:Int),.int .i64 (0:Int),.int .i64 (0:Int)],.box 0 [nds x_3.1.ns,AV.sl false 0 2 (List UInt8×Int) Ah (yu y.2).cells,Ab (yu y.2).out,.int .i64 (yu y.2).code,.int .i64 (yu y.2).steps,.int .i64 x_3.1.L,.int .i64 (yu y.2).deep,.bool (yu y.2).done,.int .i64 (yu y.2).ret],.int .i64 y.1])∧∀(i:Int×UY),ruQ x.1 x.2.1 x.2.2.1 x.2.2.2 ((yu i.2).out,i.1,(yu i.2).code,(yu i.2).steps)→true=true∧(Tt x i)∧∀(i:RuY),ruQ x.1 x.2.1 x.2.2.1 x.2.2.2 i→∃(y:RuY),ruQ x.1 x.2.1 x.2.2.1 x.2.2.2 y∧Af i.1=Af y.1∧i.2.1=y.2.1∧i.2.2.1=y.2.2.1∧i.2.2.2=y.2.2.2∧True) (Aa ((AW (uh x_2)).code != (0:Int)) (eA (KW x) [.box 0 [Ab [],.int .i64 (0:Int),.int .i64 (0:Int),.int .i64 (0:Int)],.box 0 [nds x_2.1.ns,AV.sl false 0 2 (List UInt8×Int) Ah (AW (uh x_2)).cells,Ab (AW (uh x_2)).out,.int .i64 (AW (uh x_2)).code,.int .i64 (AW (uh x_2)).steps,.int .i64 x_2.1.L,.int .i64 (AW (uh x_2)).deep,.bool (AW (uh x_2)).done,.int .i64 (AW (uh x_2)).ret],.int .i64 (0:Int)]) (eA (KW x) [.box 0 [Ab [],.int .i64 (0:Int),.int .i64 (0:Int),.int .i64 (0:Int)],.box 0 [nds x_2.1.ns,AV.sl false 0 2 (List UInt8×Int) Ah (AW (uh x_2)).cells,Ab (AW (uh x_2)).out,.int .i64 (AW (uh x_2)).code,.int .i64 (AW (uh x_2)).steps,.int .i64 x_2.1.L,.int .i64 (AW (uh x_2)).deep,.bool (AW (uh x_2)).done,.int .i64 (AW (uh x_2)).ret],.int .i64 (0:Int)])∧∀(i:Int×UY),ruQ x.1 x.2.1 x.2.2.1 x.2.2.2 ((yu i.2).out,i.1,(yu i.2).code,(yu i.2).steps)→true=true∧(Tt x i)∧∀(i:RuY),ruQ x.1 x.2.1 x.2.2.1 x.2.2.2 i→∃(y:RuY),ruQ x.1 x.2.1 x.2.2.1 x.2.2.2 y∧Af i.1=Af y.1∧i.2.1=y.2.1∧i.2.2.1=y.2.2.1∧i.2.2.2=y.2.2.2∧True)) (cA Qs [.box 0 [nds x.1,AV.sl false 0 2 (List UInt8×Int) Ah [],Ab [],.int .i64 (0:Int),.int .i64 (0:Int),.int .i64 (min x.2.2.2 (1000:Int)),.int .i64 (0:Int),.bool false,.int .i64 (0:Int)],.int .i64 (Bb x.1 x.2.1 (Bc x.1).kids),Af x.2.2.1] fun x_2 y=>Aa ((yu y.2).code != (0:Int)) (eA (KW x) [.box 0 [Ab [],.int .i64 (0:Int),.int .i64 (0:Int),.int .i64 (0:Int)],.box 0 [nds x_2.1.ns,AV.sl false 0 2 (List UInt8×Int) Ah (yu y.2).cells,Ab (yu y.2).out,.int .i64 (yu y.2).code,.int .i64 (yu y.2).steps,.int .i64 x_2.1.L,.int .i64 (yu y.2).deep,.bool (yu y.2).done,.int .i64 (yu y.2).ret],.int .i64 (0:Int)]) (eA (KW x) [.box 0 [Ab [],.int .i64 (0:Int),.int .i64 (0:Int),.int .i64 (0:Int)],.box 0 [nds x_2.1.ns,AV.sl false 0 2 (List UInt8×Int) Ah (yu y.2).cells,Ab (yu y.2).out,.int .i64 (yu y.2).code,.int .i64 (yu y.2).steps,.int .i64 x_2.1.L,.int .i64 (yu y.2).deep,.bool (yu y.2).done,.int .i64 (yu y.2).ret],.int .i64 y.1])∧∀(i:Int×UY),ruQ x.1 x.2.1 x.2.2.1 x.2.2.2 ((yu i.2).out,i.1,(yu i.2).code,(yu i.2).steps)→true=true∧(Tt x i)∧∀(i:RuY),ruQ x.1 x.2.1 x.2.2.1 x.2.2.2 i→∃(y:RuY),ruQ x.1 x.2.1 x.2.2.1 x.2.2.2 y∧Af i.1=Af y.1∧i.2.1=y.2.1∧i.2.2.1=y.2.2.1∧i.2.2.2=y.2.2.2∧True))) (fun x=>by kernel_rfl) fun(x:List Nd×List UInt8×List Int×Int) (hx:tOk x.1∧(∀a∈x.2.2.1,bdd a)∧x.2.2.1.length≤12)=>(by
 dsimp only[Tt,Yg,On,Ts,Qu,cA,Ah,cls,eA,eN,Tr,KW,Af,Bu,nds,Ab,HZ,Di,HY,Qs,usA,Au,Az,mvL,lnL,mvE,lnE,Br]
 obtain⟨ns,t,az,st⟩:=x;dsimp only at hx ⊢
 obtain⟨h1,h3,h4⟩:=hx
 (repeat' first|(apply b9M<;>try dsimp only)|(apply b9L<;>try dsimp only)|(with_reducible first|rfl|exact True.intro|apply AK|apply And.intro|((first|apply AA|apply AI|apply AB|apply AJ)<;>intro _))|(apply Ax<;>intro _)|apply AH|refine Ae () ?_ ?_|((first|apply AO|apply AN|apply AM|apply AL|apply AG|apply AF|apply AE|apply AD|apply AC)<;>try dsimp only)|apply Ae|(refine Prod.forall.2 ?_;intro _;try dsimp only)|(intro _;try dsimp only))
 all_goals first|exact()|skip
 all_goals(try dsimp only[uh] at*)
 all_goals(try simp only[b9O,KP] at*)
 all_goals(try(have hB:=b9I (show ugI _ _ by assumption)))
 all_goals(try(have hC:=b9G (m:=ms0) (h3 _ (BO (show az[_]? =some _ by assumption)))))
 all_goals first
  |rfl
  |assumption
  |exact h1
  |exact b9B ‹_›
  |exact b9H h4
  |exact b9J ‹_› ‹_›
  |(rw[hC];done)
  |exact b9D h1 (by omega) h3 h4 ‹_›
  |exact b9E ‹_› ‹_› ‹_›
  |exact b9F ‹_› ‹_› ‹_›
  |(have hq:=b9N (show ruQ _ _ _ _ _ by assumption);dsimp only at hq;(try simp only[AY,List.length_nil]);omega)
  |(have hq:=b9K ‹_›;(try simp only[AY,List.length_nil]);dsimp only[yu] at hq;omega)
  |((try simp only[AQ,AY,List.length_nil]);omega)
  |skip
 all_goals trace_state)
end Go.My
end
section
namespace Go.My
open Go.Eng
def Ht:Nat→List UInt8→Int→Int→Option (List Sg)
 |0,_,_,_=>none
 |n+1,s,at_,br=>match s with
  |[]=>some []
  |c::s2=>if c.toNat=32 then Ht n s2 (at_+1) br
   else if c.toNat=10 then Ht n s2 (at_+1) (br+1)
   else if(Bd (c::s2)).ok then(Ht n ((c::s2).drop (Bd (c::s2)).size.toNat) (at_+(Bd (c::s2)).size) 0).map (⟨(Bd (c::s2)).kind,(Bd (c::s2)).text,at_,decide (br>1)⟩:: ·)
   else none
theorem b9S{n:Nat}{i br:Int}:Ht (n+1) [] i br=some []:=rfl
theorem b9T{n:Nat}{c:UInt8}{s2:List UInt8}{i br:Int}:Ht (n+1) (c::s2) i br=if c.toNat=32 then Ht n s2 (i+1) br
 else if c.toNat=10 then Ht n s2 (i+1) (br+1)
 else if(Bd (c::s2)).ok then(Ht n ((c::s2).drop (Bd (c::s2)).size.toNat) (i+(Bd (c::s2)).size) 0).map (⟨(Bd (c::s2)).kind,(Bd (c::s2)).text,i,decide (br>1)⟩:: ·)
 else none:=rfl
theorem Qv{t:List UInt8}:∀(n:Nat) (i br:Int),0≤i→El t n i br=Ht n (t.drop i.toNat) i br
 |0,_,_,_=>rfl
 |n+1,i,br,h0=>by
  rw[El]
  cases hd:t.drop i.toNat with
  |nil=>
   have:t[i.toNat]? =none:=by
    rw[List.getElem?_eq_none];exact List.drop_eq_nil_iff.1 hd
   rw[this,b9S]
  |cons c s2=>
   have hc:t[i.toNat]? =some c:=by
    have:=congrArg (fun l:List UInt8=>l[0]?) hd
    simpa using this
   have h1:t.drop (i+1).toNat=s2:=by
    rw[show(i+1).toNat=i.toNat+1 by omega,←List.drop_drop,hd];rfl
   rw[hc,b9T]
   simp only[hd]
   rw[Qv n (i+1) _ (by omega),Qv n (i+1) _ (by omega),h1]
   by_cases hok:(Bd (c::s2)).ok=true
   ·have hs:=SW hok
    try rw[hd]
    rw[Qv n (i+(Bd (c::s2)).size) _ (by omega)]
    have h2:t.drop (i+(Bd (c::s2)).size).toNat=(c::s2).drop (Bd (c::s2)).size.toNat:=by
     have e:∀m:Nat,(c::s2).drop m=t.drop (i.toNat+m):=fun m=>by rw[←hd,List.drop_drop]
     rw[e];congr 1;omega
    rw[h2]
   ·rw[if_neg hok,if_neg hok]
theorem b9U{sg:List Sg}{b:Bool}{s s2:Ps}{k:Int}(h:EV sg b s=some (k,s2)):∃ns x,s2.nodes=ns++[x]∧(k=ns.length∧(x.kind=20∧x.text=(sgO sg s.pos).text)):=by
 obtain⟨p,h1,h2⟩:=Option.bind_eq_some_iff.1 h
 obtain⟨s1,h3,h4⟩:=Option.bind_eq_some_iff.1 h2
 obtain⟨q,h5,h6⟩:=Option.bind_eq_some_iff.1 h4
 obtain⟨s3,h7,h8⟩:=Option.bind_eq_some_iff.1 h6
 obtain⟨r,h9,h10⟩:=Option.bind_eq_some_iff.1 h8
 have e:p.1=(sgO sg s.pos).text:=by
  unfold EU at h1;split at h1
  ·cases h1;rfl
  ·cases h1
 unfold Be at h10
 split at h10
 ·cases h10
 ·cases h10;exact⟨r.2.nodes,_,rfl,rfl,rfl,e⟩
def a6a(t:List UInt8)(r:(List Int×List (Int×Int))×Ps):Prop:=∃k∈r.1.1,(0≤k∧k<r.2.nodes.length)∧(As r.2.nodes k=20∧(ndAt r.2.nodes k).text=t)
theorem b9V{ns e:List Nd}{x:Nd}:ndAt ((ns++[x])++e) ns.length=x:=by
 unfold ndAt;rw[List.append_assoc,List.getD_eq_getElem?_getD,List.getElem?_append_right (by omega)];simp
theorem a6b{sg:List Sg}:∀ {n:Nat} {ks:List Int} {ms:List (Int×Int)} {s:Ps} {r:(List Int×List (Int×Int))×Ps},Gh sg n ks ms s=some r→∃l,r.1.1=ks++l
 |0,_,_,_,_,h=>by cases h
 |n+1,ks,ms,s,r,h=>by
  rw[Gh] at h;split at h
  ·obtain⟨p,h1,h2⟩:=Option.bind_eq_some_iff.1 h
   obtain⟨l,e⟩:=a6b h2
   exact⟨p.1::l,by rw[e];simp⟩
  ·cases h;exact⟨[],by simp⟩
theorem a6c{sg:List Sg}(hS:Sb sg){n:Nat}{ks:List Int}{ms:List (Int×Int)}{s:Ps}{r:(List Int×List (Int×Int))×Ps}(h:Gh sg (n+1) ks ms s=some r)(h1:s.pos<sg.length)(e:∀b,CW sg b s=EV sg b s):a6a (sgO sg s.pos).text r:=by
 rw[Gh,if_pos h1] at h
 obtain⟨p,h2,h3⟩:=Option.bind_eq_some_iff.1 h
 rw[e] at h2
 obtain⟨ns,x,g1,g2,g3,g4⟩:=b9U (k:=p.1) (s2:=p.2) h2
 obtain⟨l,e1⟩:=a6b h3
 obtain⟨e2,e3⟩:=(Xq hS (ks2:=r.1.1) (ms2:=r.1.2) (s2:=r.2) h3).2
 refine⟨p.1,by rw[e1];simp,?_⟩
 rw[e3,g1,g2]
 refine⟨by simp;omega,?_⟩
 rw[As,b9V];exact⟨g3,g4⟩
theorem a6d{ns:List Nd}{t:List UInt8}:∀ {l:List Int},(∀c∈l,0≤c)→(∃c∈l,As ns c=20∧(ndAt ns c).text=t)→0≤Bb ns t l
 |[],_,h=>by obtain⟨c,hc,_⟩:=h;cases hc
 |c::l,h,hx=>by
  rw[Bb];split
  ·exact h c (by simp)
  ·rename_i hn
   obtain⟨d,hd,h2⟩:=hx
   rcases List.mem_cons.1 hd with rfl|hd
   ·exact absurd h2 hn
   ·exact a6d (fun e he=>h e (by simp [he])) ⟨d,hd,h2⟩
theorem a6e{sg:List Sg}{ms:List (Int×Int)}{L:List Nd}{t:List UInt8}(h:IB sg=some (ms,L))(hx:∀r,Gh sg (sg.length+1) [] [] ps0=some r→a6a t r):0≤Bb L t (Bc L).kids:=by
 unfold IB at h
 obtain⟨r,h5,h6⟩:=Option.bind_eq_some_iff.1 h
 obtain⟨q,h7,h8⟩:=Option.bind_eq_some_iff.1 h6
 obtain⟨k,k1,k2,k3,k4⟩:=hx r h5
 split at h8
 ·rename_i ht
  cases h8
  unfold Be at h7;split at h7
  ·cases h7
  ·cases h7
   simp only at ht ⊢
   have e:Bc (r.2.nodes++[⟨22,[],r.1.1,false⟩])=⟨22,[],r.1.1,false⟩:=by
    unfold Bc ndAt
    rw[List.getD_eq_getElem?_getD,List.getElem?_append_right (by simp)];simp
   have e2:ndAt (r.2.nodes++[⟨22,[],r.1.1,false⟩]) k=ndAt r.2.nodes k:=by
    unfold ndAt
    rw[List.getD_eq_getElem?_getD,List.getD_eq_getElem?_getD,List.getElem?_append_left (by omega)]
   rw[e]
   refine a6d (fun c hc=> ?_) ⟨k,k1,?_⟩
   ·have hp:=DM (JI (ER ht).2.2.2)
    have e3:ndAt (r.2.nodes++[(⟨22,[],r.1.1,false⟩:Nd)]) (((r.2.nodes++[(⟨22,[],r.1.1,false⟩:Nd)]).length:Int)-1)=⟨22,[],r.1.1,false⟩:=e
    rw[e3] at hp
    exact(hp.2.2.2.1 c hc).1
   ·rw[As,e2];exact⟨k3,k4⟩
 ·cases h8
def pA:List UInt8:=[116,119,105,99,101,40,120,41,32,123,32,114,101,116,117,114,110,32,120,32,43,32,120,59,32,125,10,10,109,97,105,110,40]
def pB:List UInt8:=[109,97,105,110,40]
def Mv:List Sg:=[⟨1,[116,119,105,99,101],0,false⟩,⟨4,[40],5,false⟩,⟨1,[120],6,false⟩,⟨4,[41],7,false⟩,⟨4,[123],9,false⟩,⟨1,[114,101,116,117,114,110],11,false⟩,⟨1,[120],18,false⟩,⟨4,[43],20,false⟩,⟨1,[120],22,false⟩,⟨4,[59],23,false⟩,⟨4,[125],25,false⟩,⟨1,[109,97,105,110],28,true⟩,⟨4,[40],32,false⟩]
def Tu:List Sg:=[⟨1,[109,97,105,110],0,false⟩,⟨4,[40],4,false⟩]
def Yh:List Nd:=[⟨1,[120],[],false⟩,⟨1,[120],[],false⟩,⟨1,[120],[],false⟩,⟨7,[43],[1,2],false⟩,⟨15,[],[3],false⟩,⟨18,[],[4],false⟩,⟨20,[116,119,105,99,101],[0,5],false⟩]
def Tv:List Sg→Option (List Sg)→Option (List Sg)
 |[],o=>o
 |s::l,o=>(Tv l o).map (s:: ·)
theorem Yi:∀ {l x:List Sg} {o:Option (List Sg)},Tv l o=some x→∃y,o=some y∧x=l++y
 |[],x,o,h=>⟨x,h,rfl⟩
 |s::l,x,o,h=>by
  obtain⟨z,h1,h2⟩:=Option.map_eq_some_iff.1 h
  obtain⟨y,h3,h4⟩:=Yi h1
  exact⟨y,h3,by rw[←h2,h4];rfl⟩
theorem b9W(k:Nat)(r:List UInt8):Ht (k+21) (pA++110::r) 0 0=Tv Mv (Ht k (110::r) 33 0):=by kernel_rfl
theorem lexB(k:Nat)(r:List UInt8):Ht (k+2) (pB++110::r) 0 0=Tv Tu (Ht k (110::r) 5 0):=by kernel_rfl
theorem b9X(l:List Sg):CW (Mv++l) false ps0=some (6,⟨11,0,Yh⟩):=by kernel_rfl
theorem b9Y(l:List Sg)(b:Bool):CW (Mv++l) b ⟨11,0,Yh⟩=EV (Mv++l) b ⟨11,0,Yh⟩:=by kernel_rfl
theorem b9Z(l:List Sg)(b:Bool):CW (Tu++l) b ps0=EV (Tu++l) b ps0:=by kernel_rfl
def Qw:List UInt8:=[109,97,105,110]
theorem c0a{r:List UInt8}{L:List Nd}(h:Cb (pA++110::r)=some L):0≤Bb L Qw (Bc L).kids:=by
 unfold Cb at h
 obtain⟨sg,h1,h2⟩:=Option.bind_eq_some_iff.1 h
 rw[Option.map_eq_some_iff] at h2
 obtain⟨⟨ms,L'⟩,h3,h4⟩:=h2
 simp only at h4;subst h4
 unfold Ct at h1
 split at h1
 ·cases h1
 ·have hS:=Xr (show Ct _=_ by unfold Ct;rw[if_neg ‹_›];exact h1)
  rw[Qv _ _ _ (by omega),show(pA++110::r).length+1=(r.length+14)+21 by simp [pA],show(0:Int).toNat=0 from rfl,List.drop_zero,b9W] at h1
  obtain⟨l,_,rfl⟩:=Yi h1
  refine a6e h3 fun q hq=> ?_
  have hl:(Mv++l).length=(l.length+12)+1:=by simp [Mv]
  rw[Gh,if_pos (by rw[hl];show(0:Int)<_;omega)] at hq
  have e:((sgO (Mv++l) ps0.pos).blank&&decide (0<([]:List Int).length))=false:=by simp
  rw[e,b9X,hl] at hq
  exact a6c hS hq (by rw[hl];show(11:Int)<_;omega) (b9Y l)
theorem c0b{r:List UInt8}{L:List Nd}(h:Cb (pB++110::r)=some L):0≤Bb L Qw (Bc L).kids:=by
 unfold Cb at h
 obtain⟨sg,h1,h2⟩:=Option.bind_eq_some_iff.1 h
 rw[Option.map_eq_some_iff] at h2
 obtain⟨⟨ms,L'⟩,h3,h4⟩:=h2
 simp only at h4;subst h4
 unfold Ct at h1
 split at h1
 ·cases h1
 ·have hS:=Xr (show Ct _=_ by unfold Ct;rw[if_neg ‹_›];exact h1)
  rw[Qv _ _ _ (by omega),show(pB++110::r).length+1=(r.length+5)+2 by simp [pB],show(0:Int).toNat=0 from rfl,List.drop_zero,lexB] at h1
  obtain⟨l,_,rfl⟩:=Yi h1
  refine a6e h3 fun q hq=> ?_
  exact a6c hS hq (by show(0:Int)<_;simp [Tu];omega) (b9Z l)
def bgn(s:List UInt8):Prop:=(∃r,s=pA++110::r)∨∃r,s=pB++110::r
theorem c0c{s u:List UInt8}(h:bgn s):bgn (s++u):=by
 rcases h with⟨r,rfl⟩|⟨r,rfl⟩
 ·exact .inl ⟨r++u,by simp⟩
 ·exact .inr ⟨r++u,by simp⟩
theorem c0d{s:List UInt8}{L:List Nd}(hs:bgn s)(h:Cb s=some L):0≤Bb L Qw (Bc L).kids:=by
 rcases hs with⟨r,rfl⟩|⟨r,rfl⟩
 ·exact c0a h
 ·exact c0b h
theorem a6f{ns:List Nd}:SB ns rId:=fun k x h=>by cases h
structure Od (ns A:List Nd) (fo:List Int):Prop where
 im:Im (BP ns) rId A fo
 fr:Fo A 0 [(A.length:Int)-1]
 len:1≤A.length∧A.length≤300
 root:oAt fo ((A.length:Int)-1)=(ns.length:Int)-1
theorem c0e{ns:List Nd}{n:Nat}{l m:List Int}(h:l.Perm m):DU ns n l=DU ns n m:=by
 unfold DU;exact(h.flatMap_right _).length_eq
theorem a6g{A B:List Nd}{n:Nat}:∀ {l:List Int},(∀c∈l,vis A n c=vis B n c)→DU A n l=DU B n l
 |[],_=>by simp [DU]
 |c::l,h=>by rw[NN,NN,h c (by simp),a6g fun d hd=>h d (by simp [hd])]
theorem c0f{ns:List Nd}(h:Bf ns=true):∃fo,Od ns (HR ns) fo:=by
 obtain⟨h1,h2,h3,h4⟩:=ER h
 have hs:∀k x,rId.stop k=some x→x.kids=[]:=fun k x hh=>by cases hh
 have hu:=a3a h (k:=(ns.length:Int)-1) (by omega) (by omega)
 have hn:(ns.length:Int)-1<Ea:=by unfold Ea;omega
 obtain⟨g,g1,g2,g3⟩:=a3P hs SE hu hn (out:=[]) (fo:=[]) ⟨rfl,fun j a b=>by simp at b;omega⟩
 have g4:=a3M hs SE.1 SE.2 hu hn (Fo.nil [])
 have g5:=a3Q (ns:=BP ns) (R:=rId) SE (n:=Ea) (k:=(ns.length:Int)-1) (out:=[])
 have e:HR ns=Bv (BP ns) rId Ea ((ns.length:Int)-1) []:=by rw[HR,if_pos h]
 have hv:(vis (BP ns) Ea ((ns.length:Int)-1)).length≤300:=by
  have hb:= @a2T ns Ea h
  have eb:Ea=1073741824+1:=rfl
  rw[eb,LW] at hb ⊢
  have e1:Df (BP ns) ((ns.length:Int)-1)=CQ ns:=by rw[Df,NS h];rfl
  have e2:DU (BP ns) 1073741824 (CQ ns)=DU ns 1073741824 (CQ ns):=a6g fun c hc=>by
   have hk:=(Jg h).1 hc
   have hr:=(FG h).2 c hk
   exact WF h (HP h4 hk).1 hr.2
  rw[e1,e2,c0e (NP h)];exact hb
 rw[e]
 have hl:=g1.1
 simp only[List.nil_append] at hl g1 g3 g4
 refine⟨g,g1,g4,⟨by omega,by simp only[List.length_nil] at g5;omega⟩,by rw[←hl];exact g3⟩
theorem oup{ns:List Nd}(h:Bf ns=true){k:Int}(hk:De (BP ns) k):De ns k:=by
 have hb:=BV.1 hk.1
 rw[NR] at hb
 exact⟨BV.2 hb,fun i hi=>(ER h).1.1 i (by omega)⟩
theorem c0g{ns:List Nd}(h:Bf ns=true){k c:Int}(hk:De ns k)(hc:c∈(ndAt (BP ns) k).kids):c∈(ndAt ns k).kids:=by
 have hb:=BV.1 hk.1
 by_cases e:k=(ns.length:Int)-1
 ·subst e;rw[NS h] at hc;exact(Jg h).1 hc
 ·rw[(LX h hb.1 (by omega)).2.2.1] at hc;exact hc
theorem Yj{ns A:List Nd}{fo:List Int}(h:Bf ns=true)(hF:Od ns A fo):Bf A=true:=
 b4c (H:=BA ns) a6f hF.im hF.fr hF.len.1 hF.len.2 (by rw[hF.root,NU h (by have:=(ER h).2.1;omega) (by omega)];exact b4j h) (fun k hk=>a3Z h (oup h hk))
  (fun k hk c hc=>a3g (by have:=a3Z h (oup h hk);omega) (c0g h (oup h hk) hc))
def Ro(ns A:List Nd)(fo:List Int)(i j:Int):Prop:=Rq A fo i j∧i<(ns.length:Int)-1
theorem a6h{ns A:List Nd}{fo:List Int}:∀ {l:List Int},(∀c∈l,(0≤c∧c<(A.length:Int)-1)∧oAt fo c<(ns.length:Int)-1)→F2 (Ro ns A fo) (l.map (oAt fo)) l
 |[],_=>F2.nil
 |c::l,h=>F2.cons ⟨⟨(h c (by simp)).1,rfl⟩,(h c (by simp)).2⟩ (a6h fun d hd=>h d (by simp [hd]))
theorem a6i{ns A:List Nd}{fo:List Int}(h:Bf ns=true)(hF:Od ns A fo):(Bc A).kids.map (oAt fo)=CQ ns∧∀c∈(Bc A).kids,0≤c∧c<(A.length:Int)-1:=by
 have hj:=hF.im.2 ((A.length:Int)-1) (by have:=hF.len;omega) (by omega)
 rcases hj.2 with hst|⟨_,_,g4⟩
 ·cases hst
 ·rw[hF.root,NS h] at g4;exact⟨g4,hj.1.2⟩
theorem a6j{ns:List Nd}(h:Bf ns=true){t:List UInt8}:∀ {l:List Int},(∀c∈l,0≤c∧c<(ns.length:Int)-1)→Bb (BP ns) t l=Bb ns t l
 |[],_=>rfl
 |c::l,hl=>by
  have hc:=hl c (by simp)
  have e:=LX h hc.1 hc.2
  rw[Bb,Bb,As,As,e.1,e.2.1,a6j h fun d hd=>hl d (by simp [hd])]
theorem c0h{ns A:List Nd}{fo:List Int}(h:Bf ns=true)(hF:Od ns A fo):Alike ns A (Ro ns A fo):=by
 refine⟨fun {i j} hr=> ?_,fun t=> ?_⟩
 ·obtain⟨⟨⟨h0,h1⟩,rfl⟩,h2⟩:=hr
  have hj:=hF.im.2 j h0 (by omega)
  have hu:=oup h hj.1.1
  have hb:=BV.1 hu.1
  have e:=LX h hb.1 h2
  rcases hj.2 with hst|⟨_,⟨g1,g2,g3⟩,g4⟩
  ·cases hst
  ·refine .inl ⟨⟨by rw[g1,e.1],by rw[g2,e.2.1]⟩,?_,(DM (JI hu)).2.2.2.2.2.1⟩
   rw[←e.2.2.1,←g4]
   refine a6h fun c hc=>⟨by have:=hj.1.2 c hc;omega,?_⟩
   have:oAt fo c∈(ndAt ns (oAt fo j)).kids:=by rw[←e.2.2.1,←g4];exact List.mem_map_of_mem hc
   have:=(HP hu this).2;omega
 ·obtain⟨r1,r2⟩:=a6i h hF
  have hk:∀c∈CQ ns,0≤c∧c<(ns.length:Int)-1:=fun c hc=>(FG h).2 c ((Jg h).1 hc)
  have e:Bb ns t (Bc ns).kids=Bb (BP ns) t ((Bc A).kids.map (oAt fo)):=by
   rw[r1,a6j h hk,b4o h];rfl
  have hm:=a4a a6f hF.im (t:=t) r2
  rw[←e] at hm
  refine hm.imp id fun x=>⟨x.1,x.2,?_⟩
  rcases @Sx ns t (Bc ns).kids with y|y
  ·omega
  ·exact((FG h).2 _ y.1).2
theorem c0i{ns A:List Nd}{fo:List Int}(h:Bf ns=true)(hF:Od ns A fo):(CF A).length=(CF ns).length:=by
 have ht:=Yj h hF
 obtain⟨r1,r2⟩:=a6i h hF
 rw[CF,if_pos ht,WS,←b4r h]
 have e:(Cf A).map (As A)=(CQ ns).map (As ns):=by
  have e1:Cf A=(Bc A).kids:=rfl
  rw[e1,←r1,List.map_map]
  apply List.map_congr_left
  intro c hc
  have hc2:=r2 c hc
  have hk:oAt fo c∈CQ ns:=by rw[←r1];exact List.mem_map_of_mem hc
  have hr:=(FG h).2 _ ((Jg h).1 hk)
  rcases(hF.im.2 c hc2.1 (by omega)).2 with hst|⟨_,g,_⟩
  ·cases hst
  ·show(ndAt A c).kind=As ns (oAt fo c)
   rw[g.1];exact NU h hr.1 (by omega)
 rw[e];rfl
theorem a6k{L:List Nd}(h:Bf L=true):L.length≤2^30∧∀e∈L,e.kids.length≤2^30:=by
 have t:=ER h
 refine⟨by have:=t.2.2.1;omega,fun e he=> ?_⟩
 obtain⟨i,hi⟩:=List.mem_iff_getElem?.1 he
 have hl:=(List.getElem?_eq_some_iff.1 hi).1
 have:=(DM (t.1.1 i hl)).2.1
 rw[Bn (c:=(i:Int)) (by simpa using hi)] at this;omega
theorem c0j{ns A:List Nd}{fo:List Int}(h:Bf ns=true)(ho:BM ns)(hF:Od ns A fo):BM A:=by
 have hk:=a6k (Yj h hF)
 refine⟨by have:=hk.1;omega,fun e he=> ?_⟩
 obtain⟨i,hi⟩:=List.mem_iff_getElem?.1 he
 have hl:=(List.getElem?_eq_some_iff.1 hi).1
 have e1:ndAt A (i:Int)=e:=Bn (by simpa using hi)
 have hkk:=hk.2 e he
 have hj:=hF.im.2 i (by omega) (by omega)
 have hb:=BV.1 (oup h hj.1.1).1
 rcases hj.2 with hst|⟨_,⟨_,g2,_⟩,_⟩
 ·cases hst
 ·rw[e1] at g2
  have htx:(ndAt (BP ns) (oAt fo i)).text=(ndAt ns (oAt fo i)).text:=by
   by_cases er:oAt fo i=(ns.length:Int)-1
   ·rw[er,NS h];rfl
   ·exact(LX h hb.1 (by omega)).2.1
  have:=Wr (k:=oAt fo i) ho
  exact⟨by rw[g2,htx];exact this.1,by omega⟩
structure OrB (L A:List Nd):Prop where
 t:tOk L
 ta:tOk A
 meth:0≤Bb A Qw (Bc A).kids
 grp:(CF A).length=(CF L).length
 run:∀ {t az st y z},ruQ L t az st y→ruQ A t az st z→y=z
theorem a6l{t:List UInt8}{L:List Nd}(h:Cb t=some L):Bf L=true:=by
 unfold Cb at h
 obtain⟨sg,h1,h2⟩:=Option.bind_eq_some_iff.1 h
 rw[Option.map_eq_some_iff] at h2
 obtain⟨⟨ms,L'⟩,h3,h4⟩:=h2
 simp only at h4;subst h4
 unfold IB at h3
 obtain⟨p,h5,h6⟩:=Option.bind_eq_some_iff.1 h3
 obtain⟨q,h7,h8⟩:=Option.bind_eq_some_iff.1 h6
 split at h8
 ·simp only[Option.some.injEq,Prod.mk.injEq] at h8
  rw[←h8.2];assumption
 ·cases h8
theorem c0k{t:List UInt8}{L:List Nd}(hb:bgn t)(hs:(Cb t).isSome=true)(hL:L=(Cb t).getD []∧BM L):OrB L (HR L):=by
 cases hr:Cb t with
 |none=>rw[hr] at hs;cases hs
 |some M=>
  rw[hr] at hL
  obtain⟨h1,h2⟩:=hL
  simp only[Option.getD_some] at h1
  subst h1
  have ht:=a6l hr
  obtain⟨fo,hF⟩:=c0f ht
  have hta:=Yj ht hF
  have ha:=c0h ht hF
  refine⟨⟨⟨ht,h2⟩,(ER ht).2.1,(ER ht).2.2.1⟩,⟨⟨hta,c0j ht h2 hF⟩,hF.len⟩,?_,c0i ht hF,fun h g=>b9A ha h g⟩
  have hm:=c0d hb hr
  rcases ha.meth Qw with x|x
  ·omega
  ·exact x.1.2
theorem c0l{t:List UInt8}{L:List Nd}(hL:L=(Cb t).getD []∧BM L):(BM L∧(L.length≤2^30∧∀e∈L,e.kids.length≤2^30))∧(L.length<2^62∧∀e∈L,e.text.length≤2^40):=by
 cases hr:Cb t with
 |none=>rw[hr] at hL;simp only[Option.getD_none] at hL;obtain⟨rfl,h2⟩:=hL;exact⟨⟨h2,by simp,by simp⟩,by simp,by simp⟩
 |some M=>
  rw[hr] at hL;simp only[Option.getD_some] at hL;obtain⟨rfl,h2⟩:=hL
  exact⟨⟨h2,a6k (a6l hr)⟩,h2.1,fun e he=>by have:=b6S hr e he;omega⟩
end Go.My
end
section
namespace Go.My
open Go.Eng Go.Proofs
variable {G:GInv}
def suT(x:Nd):Prop:=¬(x.text=[38,38]∨x.text=[124,124])∧¬(x.text=[61,61]∨x.text=[60])
def suI(n:Nat)(s:ZS)(m0:Mc)(cs:Cls)(x:Nd)(i:Int)(m:Mc)(v:Int):Prop:=
 ((lpI s m0 m x.kids i (wS s.ns x.kids)∧x.kids.length≤12)∧(suT x∧bdd v))∧LY ((ev s.ns n).val cs) x.text x.kids true 0 s.L m0=LY ((ev s.ns n).val cs) x.text (x.kids.drop i.toNat) (decide (i=0)) v s.L m
attribute [local irreducible] lgI vQz vPz cQz suI chG PP LY
end Go.My
end
section
namespace Go.My
open Go.Eng Go.Proofs
variable {G:GInv}
def mPz(n:Nat)(s:ZS)(m:Mc)(az:List Int):Prop:=((zB s∧mOk m)∧((∀a∈az,bdd a)∧az.length≤12))∧(21-m.deep)*((s.ns.length:Int)+1)≤n
def mK(s:ZS)(t:List UInt8):Int:=Bb s.ns t (Bc s.ns).kids
def mN(s:ZS)(t:List UInt8):Nd:=ndAt s.ns (mK s t)
def naI(s:ZS)(t:List UInt8)(az:List Int)(i:Int)(cs:Cls):Prop:=
 (((0≤i∧i≤az.length)∧az.length≤12)∧((mN s t).kids.length:Int)=az.length+1)∧(((∀p∈cs,bdd p.2)∧(cs.length:Int)≤i)∧Hi s.ns ((mN s t).kids.take az.length) az []=Hi s.ns (((mN s t).kids.take az.length).drop i.toNat) (az.drop i.toNat) cs)
attribute [local irreducible] bQz bPz cQz naI mK mN
end Go.My
end
section
namespace Go.My
open Go.Eng Go.Proofs
variable {G:GInv}
def caP(n:Nat)(s:ZS)(m:Mc)(cs:Cls)(x:Nd):Prop:=cPz n s m cs x∧((1≤x.kids.length∧wS s.ns (x.kids.drop 1)+1≤pot m)∧(21-m.deep)*((s.ns.length:Int)+1)≤n)
def cN(s:ZS)(x:Nd):Nd:=ndAt s.ns (BB x 0)
def caI(n:Nat)(s:ZS)(m0:Mc)(cs:Cls)(x:Nd)(i:Int)(m:Mc)(az:List Int):Prop:=
 ((lpI s m0 m (x.kids.drop 1) i (wS s.ns (x.kids.drop 1))∧x.kids.length≤12)∧(((cN s x).kind=1∧(az.length:Int)=i)∧(∀a∈az,bdd a)∧(0<i→m.code=0)))∧
   Sv ((ev s.ns n).val cs) (x.kids.drop 1) [] s.L m0=Sv ((ev s.ns n).val cs) ((x.kids.drop 1).drop i.toNat) az s.L m
attribute [local irreducible] caI cN mPz vQz vPz cQz
end Go.My
end
section
namespace Go.My
open Go.Eng Go.Proofs
variable {G:GInv}
attribute [local irreducible] vQz vPz cQz caP cPz
end Go.My
end
section
namespace Go.My
open Go.Eng Go.Proofs
variable {G:GInv}
def kfZ(x:Nd):Prop:=(x.kind=16→2≤x.kids.length)∧(x.kind=17→x.kids.length=2)
def sPz(n:Nat)(s:ZS)(m:Mc)(f:Fr)(x:Nd):Prop:=((zB s∧mOk m)∧((∀p∈f.cells,bdd p.2)∧(f.cells.length:Int)+1≤20+m.steps)∧bdd f.ret)∧(((∀c∈x.kids,kOk s.ns m n c)∧x.kids.length≤12)∧5159780352≤pot m)∧kfZ x
abbrev zsR (n:Nat) (s:ZS) (x:Nd) (f:Fr):Run Fr:=stG (ev s.ns n).val (ev s.ns n).blk x f
def sQz(n:Nat)(s:ZS)(m:Mc)(f:Fr)(x:Nd)(y:Fr×Mc):Prop:=(zsR n s x f s.L m=some y∧fOk y.1 y.2)∧Ej m y.2 5159780352
def zsI(n:Nat)(s:ZS)(m0:Mc)(f:Fr)(x:Nd)(v:Int)(m:Mc):Prop:=(zsR n s x f s.L m0=GB f (a3e (ev s.ns n).val (ev s.ns n).blk x f v) s.L m∧bdd v)∧Ej m0 m 5159780352
def whI(n:Nat)(s:ZS)(m0:Mc)(f0:Fr)(x:Nd)(v:Int)(m:Mc)(f:Fr)(N:Nat):Prop:=
 ((zsR n s x f0 s.L m0=WI (ev s.ns n).val (ev s.ns n).blk x N v f s.L m∧(1002≤N+m.steps∧x.kids.length=2))∧fOk f m)∧Ej m0 m 5159780352
def bkI(n:Nat)(s:ZS)(m0:Mc)(f0:Fr)(k:Int)(i:Int)(y:Fr×Mc):Prop:=
 (((0≤i∧i≤(ndAt s.ns k).kids.length)∧(ndAt s.ns k).kids.length≤12)∧(PQ s.ns (ev s.ns n).val (ev s.ns n).blk (ndAt s.ns k).kids f0 s.L m0=PQ s.ns (ev s.ns n).val (ev s.ns n).blk ((ndAt s.ns k).kids.drop i.toNat) y.1 s.L y.2∧fOk y.1 y.2))∧Ej m0 y.2 0
attribute [local irreducible] vQz vPz cQz bQz bPz sQz sPz zsI whI bkI
end Go.My
end
section
namespace Go.My
open Go.Eng Go.Proofs
variable {G:GInv}
def rsQ(t:List UInt8)(sg:List Sg)(ms:List (Int×Int))(g:Gs):Prop:=(g.bad=true∧Cb t=none)∨((g.bad=false∧sgB sg∧Ct t=some sg)∧IB sg=some (ms,g.nodes)∧BM g.nodes)
theorem a6m{sg:List Sg}{g:Gs}(h:gsOk sg g):BM g.nodes∧g.nodes.length≤300:=by
 refine⟨⟨by have:=h.2.2.1;omega,fun x hx=> ?_⟩,h.2.2.1⟩
 have:=h.2.2.2 x hx
 exact⟨by have:=this.1;omega,by have:=this.2;omega⟩
theorem Oo{t:List UInt8}{l:List Sg}(h:sgQ t l)(hn:(Ct t).isSome=true):Ct t=some l∧sgB l:=by
 rcases h with h|h
 ·exact h
 ·rw[h.1] at hn;cases hn
theorem c0m{t:List UInt8}{l:List Sg}{y:Gs}{ks:List Int}{ms:List (Int×Int)}{N:Nat}(h:sgQ t l)(hn:(Ct t).isSome=true)(hf:FR l y ks ms N∧(y.bad=true∨¬y.pos<l.length))(hb:(Fp l y ks).bad=true):rsQ t l ms (Fp l y ks):=by
 refine .inl ⟨hb,?_⟩
 rw[Cb,(Oo h hn).1]
 simp only[Option.bind_some,b6n hf.1 hb hf.2];rfl
theorem a6n{l:List Sg}{y:Gs}{ks:List Int}{ms:List (Int×Int)}{N:Nat}(hs:sgB l)(h:FR l y ks ms N):Dm ⟨22,[],ks,false⟩:=⟨by simp,by have:=(a4U hs h).1;simp only;omega⟩
theorem c0n{t:List UInt8}{l:List Sg}{y:Gs}{ks:List Int}{ms:List (Int×Int)}{N:Nat}(h:sgQ t l)(hn:(Ct t).isSome=true)(hf:FR l y ks ms N∧(y.bad=true∨¬y.pos<l.length))(hb:(Fp l y ks).bad=false):
 rsQ t l ms ⟨(Fp l y ks).pos,(Fp l y ks).deep,!Bf (Fp l y ks).nodes,(Fp l y ks).nodes⟩:=by
 have hk:=a6n (Oo h hn).2 hf.1
 have e:=b6o hf.1 hb hf.2
 cases htr:Bf (Fp l y ks).nodes with
 |false=>
  rw[htr] at e
  refine .inl ⟨rfl,?_⟩
  rw[Cb,(Oo h hn).1]
  simp only[Option.bind_some,e];rfl
 |true=>
  rw[htr] at e
  exact .inr ⟨⟨rfl,(Oo h hn).2,(Oo h hn).1⟩,e,(a6m (Qb hf.1.1 hk)).1⟩
theorem a6o{t:List UInt8}{l:List Sg}{ms:List (Int×Int)}{g:Gs}(h:rsQ t l ms g)(hb:g.bad=true):Cb t=none:=by
 rcases h with h|h
 ·exact h.2
 ·rw[h.1.1] at hb;cases hb
theorem c0o{t:List UInt8}{l:List Sg}{ms:List (Int×Int)}{g:Gs}(h:rsQ t l ms g)(hb:g.bad=false):Cb t=some g.nodes∧BM g.nodes:=by
 rcases h with h|h
 ·rw[h.1] at hb;cases hb
 ·refine⟨?_,h.2.2⟩
  rw[Cb,h.1.2.2];simp only[Option.bind_some,h.2.1];rfl
attribute [local irreducible] gsOk FR Fp Cb IB Ct Bf
end Go.My
end
section
namespace Go.My
open Go.Eng Go.Proofs
variable {G:GInv}
def zFU:Nat:=6400
abbrev RnY:=List Int×Int×Int×Int
def c0p(p:Int×Mc):RnY:=(p.2.out,if p.2.code=0 then p.1 else 0,p.2.code,p.2.steps)
def c0q(ns:List Nd)(t:List UInt8)(az:List Int)(L:Int)(y:RnY):Prop:=∃p,WH ns (ev ns zFU).blk t az L ⟨[],0,0,0⟩=some p∧y=c0p p
def rnQ(ns:List Nd)(t:List UInt8)(az:List Int)(st:Int)(y:RnY):Prop:=((Bf ns=false∧y=([],0,1,0))∨(Bf ns=true∧c0q ns t az (min st 1000) y))∧y.1.length<2^62
def agI(az:List Int)(i:Int):Prop:=(0≤i∧i≤az.length)∧az.length≤12
attribute [local irreducible] agI
attribute [local irreducible] cQz mPz rnQ Bf WH
end Go.My
end
section
namespace Go.My
open Go.Eng Go.Proofs
variable {G:GInv}
def zsQ(x:List UInt8)(t:List UInt8)(az:List Int)(st:Int)(y:RnY):Prop:=((Cb x=none∧y=([],0,1,0))∨∃ns,Cb x=some ns∧rnQ ns t az st y)∧y.1.length<2^62
theorem c0r{ns:List Nd}{t:List UInt8}{az:List Int}{st:Int}{y:RnY}(h:rnQ ns t az st y):y.1.length<2^62:=by unfold rnQ at h;exact h.2
theorem Co{x t:List UInt8}{az:List Int}{st:Int}{y:RnY}{L:List Nd}(hn:L=(Cb x).getD []∧BM L)(h:(Cb x).isSome=true)(hy:rnQ L t az st y):zsQ x t az st y:=by
 refine⟨.inr ?_,c0r hy⟩
 cases hr:Cb x with
 |none=>rw[hr] at h;cases h
 |some l=>rw[hn.1,hr] at hy;exact⟨l,rfl,hy⟩
attribute [local irreducible] zsQ Cb
end Go.My
end
section
namespace Go.My
open Go.Eng Go.Proofs
variable {G:GInv}
def byA:UInt8→List AV:=fun c=>[.int .u8 c.toNat]
theorem Gj(c:UInt8):byA c=[.int .u8 c.toNat]:=rfl
def byL(l:List UInt8):AV:= .sl false 0 1 UInt8 byA l
def cur(b:List UInt8)(i h:Int):List AV:=[.sl false 0 1 UInt8 byA b,.int .i64 i,.int .i64 h]
def Bq(b:List UInt8)(i:Int):Prop:=(0≤i∧i≤b.length)∧b.length≤2^21
theorem Yk{n:Int}(h1: -9223372036854775808≤n)(h2:n≤9223372036854775807):IntKind.i64.wrap n=n:=QU ⟨by simp [IntKind.min,IntKind.bits,IntKind.signed];omega,by simp [IntKind.max,IntKind.bits,IntKind.signed];omega⟩
theorem a6p(a:Int):0≤DV .and .i64 a 255∧DV .and .i64 a 255≤255:=by
 unfold DV
 have h:(BitVec.ofInt IntKind.i64.bits a&&& BitVec.ofInt IntKind.i64.bits 255).toNat≤255:=by
  rw[BitVec.toNat_and]
  exact Nat.le_trans Nat.and_le_right (by decide)
 simp only
 rw[Yk (by omega) (by omega)]
 omega
theorem Yl(a:Int):0≤DV .and .i64 a 1073741823∧DV .and .i64 a 1073741823≤1073741823:=by
 unfold DV
 have h:(BitVec.ofInt IntKind.i64.bits a&&& BitVec.ofInt IntKind.i64.bits 1073741823).toNat≤1073741823:=by
  rw[BitVec.toNat_and]
  exact Nat.le_trans Nat.and_le_right (by decide)
 simp only
 rw[Yk (by omega) (by omega)]
 omega
theorem Tw{a n:Int}(h0:0≤a)(hn:0<n):0≤a.tmod n∧a.tmod n<n:=⟨Int.tmod_nonneg n h0,Int.tmod_lt_of_pos a hn⟩
def GJ:Sig:= {X:=List UInt8×Int×Int,args:=fun x=>[.box 0 (cur x.1 x.2.1 x.2.2)],pre:=fun x=>Bq x.1 x.2.1,Y:=Int×Int×Int,post:=fun x y=>(0≤y.1∧y.1≤255)∧Bq x.1 y.2.1,res:=fun x y=> .int .i64 y.1,outs:=fun x y=>[.box 0 (cur x.1 y.2.1 y.2.2)],keep:=true}
theorem a6q:Aj G Tryz.prog 30 GJ:=
 vcFun_okP [] [] true (fun x=>[]) Tryz.func30 rfl (by decide) trivial (fun(x:List UInt8×Int×Int)=>True∧true=true∧true=true∧(0:Int)≤(33:Int)∧(0:Int)≤(45:Int)∧true=true∧true=true∧Aa (decide (x.2.1<(↑(List.length x.1):Int))) (true=true∧true=true∧((0:Int)≤x.2.1∧x.2.1<(↑(List.length x.1):Int))∧∀(e:UInt8),x.1[Int.toNat x.2.1]? =some e→rA GJ x [.int .i64 (DV BinOp.and IntKind.i64 (IntKind.wrap IntKind.i64 (DV BinOp.and IntKind.i64 (DV BinOp.xor IntKind.i64 (shI false IntKind.i64 (IntKind.wrap IntKind.i64 (IntKind.wrap IntKind.i64 (x.2.2*(6364136223846793005:Int))+(1442695040888963407:Int))) (33:Int)) (shI false IntKind.i64 (IntKind.wrap IntKind.i64 (IntKind.wrap IntKind.i64 (x.2.2*(6364136223846793005:Int))+(1442695040888963407:Int))) (45:Int))) (255:Int)+IntKind.wrap IntKind.i64 (↑(UInt8.toNat e):Int))) (255:Int)),.box 0 [byL x.1,.int .i64 (IntKind.wrap IntKind.i64 (x.2.1+(1:Int))),.int .i64 (IntKind.wrap IntKind.i64 (IntKind.wrap IntKind.i64 (x.2.2*(6364136223846793005:Int))+(1442695040888963407:Int)))]]) (rA GJ x [.int .i64 (DV BinOp.and IntKind.i64 (DV BinOp.xor IntKind.i64 (shI false IntKind.i64 (IntKind.wrap IntKind.i64 (IntKind.wrap IntKind.i64 (x.2.2*(6364136223846793005:Int))+(1442695040888963407:Int))) (33:Int)) (shI false IntKind.i64 (IntKind.wrap IntKind.i64 (IntKind.wrap IntKind.i64 (x.2.2*(6364136223846793005:Int))+(1442695040888963407:Int))) (45:Int))) (255:Int)),.box 0 [byL x.1,.int .i64 x.2.1,.int .i64 (IntKind.wrap IntKind.i64 (IntKind.wrap IntKind.i64 (x.2.2*(6364136223846793005:Int))+(1442695040888963407:Int)))]])) (fun x=>by kernel_rfl) fun(x:List UInt8×Int×Int) (hx:Bq x.1 x.2.1)=>(by
 dsimp only[Gj,byL,cur,rA,GJ,Au,Az]
 obtain⟨b,i,h⟩:=x;dsimp only at hx ⊢
 have hx:Bq b i:=hx
 have hb:=hx.1;have hl:=hx.2
 (repeat' first|(with_reducible first|rfl|exact True.intro|apply AK|apply And.intro|((first|apply AA|apply AI|apply AB|apply AJ)<;>intro _))|(apply Ax<;>intro _)|apply AH|refine Ae () ?_ ?_|((first|apply AO|apply AN|apply AM|apply AL|apply AG|apply AF|apply AE|apply AD|apply AC)<;>try dsimp only)|apply Ae|(refine Prod.forall.2 ?_;intro _;try dsimp only)|(intro _;try dsimp only))
 all_goals first
  |rfl
  |omega
  |exact(a6p _).1
  |exact(a6p _).2
  |exact hx
  |(rw[Yk (by omega) (by omega)];exact⟨by omega,hl⟩)
  |skip)
def Dv:Sig:= {X:=List UInt8×Int×Int×Int,args:=fun x=>[.box 0 (cur x.1 x.2.1 x.2.2.1),.int .i64 x.2.2.2],pre:=fun x=>Bq x.1 x.2.1,Y:=Int×Int×Int,post:=fun x y=>((0<x.2.2.2→0≤y.1∧y.1<x.2.2.2)∧(x.2.2.2≤0→y.1=0))∧Bq x.1 y.2.1,res:=fun x y=> .int .i64 y.1,outs:=fun x y=>[.box 0 (cur x.1 y.2.1 y.2.2),.top],keep:=true}
theorem Mw:Aj G Tryz.prog 31 Dv:=
 vcFun_okP [(30,0,GJ)] [] false (fun x=>[]) Tryz.func31 rfl (by decide) ⟨a6q,trivial⟩ (fun(x:List UInt8×Int×Int×Int)=>True∧Aa (decide (x.2.2.2≤(0:Int))) (rA Dv x [.int .i64 (0:Int),.box 0 (cur x.1 x.2.1 x.2.2.1),.top]) (Aa (decide (x.2.2.2≤(256:Int))) (cA GJ [.box 0 (cur x.1 x.2.1 x.2.2.1)] fun x_1 y=>x.2.2.2≠(0:Int)∧rA Dv x [.int .i64 (Int.tmod y.1 x.2.2.2),.box 0 (cur x_1.1 y.2.1 y.2.2),.top]) (cA GJ [.box 0 (cur x.1 x.2.1 x.2.2.1)] fun x_1 y=>cA GJ [.box 0 (cur x_1.1 y.2.1 y.2.2)] fun x_2 y_1=>cA GJ [.box 0 (cur x_2.1 y_1.2.1 y_1.2.2)] fun x_3 y_2=>cA GJ [.box 0 (cur x_3.1 y_2.2.1 y_2.2.2)] fun x_4 y_3=>inR IntKind.i64 (y.1*(16777216:Int))∧inR IntKind.i64 (y_1.1*(65536:Int))∧inR IntKind.i64 (y.1*(16777216:Int)+y_1.1*(65536:Int))∧inR IntKind.i64 (y_2.1*(256:Int))∧inR IntKind.i64 (y.1*(16777216:Int)+y_1.1*(65536:Int)+y_2.1*(256:Int))∧inR IntKind.i64 (y.1*(16777216:Int)+y_1.1*(65536:Int)+y_2.1*(256:Int)+y_3.1)∧x.2.2.2≠(0:Int)∧rA Dv x [.int .i64 (Int.tmod (y.1*(16777216:Int)+y_1.1*(65536:Int)+y_2.1*(256:Int)+y_3.1) x.2.2.2),.box 0 (cur x_4.1 y_3.2.1 y_3.2.2),.top]))) (fun x=>by kernel_rfl) fun(x:List UInt8×Int×Int×Int) (hx:Bq x.1 x.2.1)=>(by
 dsimp only[Gj,cA,cur,rA,Dv,GJ,Au,Az,mvL,lnL,mvE,lnE]
 obtain⟨b,i,h,n⟩:=x;dsimp only at hx ⊢
 have hx:Bq b i:=hx
 (repeat' first|(with_reducible first|rfl|exact True.intro|apply AK|apply And.intro|((first|apply AA|apply AI|apply AB|apply AJ)<;>intro _))|(apply Ax<;>intro _)|apply AH|refine Ae () ?_ ?_|((first|apply AO|apply AN|apply AM|apply AL|apply AG|apply AF|apply AE|apply AD|apply AC)<;>try dsimp only)|apply Ae|(refine Prod.forall.2 ?_;intro _;try dsimp only)|(intro _;try dsimp only))
 all_goals(repeat(rename(_∧_)∧Bq _ _=>hq;obtain⟨⟨_,_⟩,_⟩:=hq))
 all_goals first
  |rfl
  |assumption
  |omega
  |exact(Tw (by omega) (by omega)).1
  |exact(Tw (by omega) (by omega)).2
  |skip)
def KX:Sig:= {X:=List UInt8×Int×Int×Int,args:=fun x=>[.box 0 (cur x.1 x.2.1 x.2.2.1),.int .i64 x.2.2.2],pre:=fun x=>Bq x.1 x.2.1,Y:=Bool×Int×Int,post:=fun x y=>Bq x.1 y.2.1,res:=fun x y=> .bool y.1,outs:=fun x y=>[.box 0 (cur x.1 y.2.1 y.2.2),.top],keep:=true}
theorem c0s:Aj G Tryz.prog 56 KX:=
 vcFun_okP [(31,0,Dv)] [] false (fun x=>[]) Tryz.func56 rfl (by decide) ⟨Mw,trivial⟩ (fun(x:List UInt8×Int×Int×Int)=>True∧cA Dv [.box 0 (cur x.1 x.2.1 x.2.2.1),.int .i64 x.2.2.2] fun x_1 y=>rA KX x [.bool (y.1==(0:Int)),.box 0 (cur x_1.1 y.2.1 y.2.2),.top]) (fun x=>by kernel_rfl) fun(x:List UInt8×Int×Int×Int) (hx:Bq x.1 x.2.1)=>(by
 dsimp only[Gj,cA,cur,rA,Dv,KX,Au,Az,mvL,lnL,mvE,lnE]
 obtain⟨b,i,h,n⟩:=x;dsimp only at hx ⊢
 have hx:Bq b i:=hx
 (repeat' first|(with_reducible first|rfl|exact True.intro|apply AK|apply And.intro|((first|apply AA|apply AI|apply AB|apply AJ)<;>intro _))|(apply Ax<;>intro _)|apply AH|refine Ae () ?_ ?_|((first|apply AO|apply AN|apply AM|apply AL|apply AG|apply AF|apply AE|apply AD|apply AC)<;>try dsimp only)|apply Ae|(refine Prod.forall.2 ?_;intro _;try dsimp only)|(intro _;try dsimp only))
 all_goals(repeat(rename(_∧_)∧Bq _ _=>hq;obtain⟨⟨_,_⟩,_⟩:=hq))
 all_goals first
  |rfl
  |assumption
  |skip)
def Er:Sig:= {X:=List UInt8×Int×Int×List (List UInt8),args:=fun x=>[.box 0 (cur x.1 x.2.1 x.2.2.1),.sl false 0 1 (List UInt8) Ck x.2.2.2],pre:=fun x=>Bq x.1 x.2.1∧x.2.2.2≠[]∧x.2.2.2.length<2^30,Y:=List UInt8×Int×Int,post:=fun x y=>y.1∈x.2.2.2∧Bq x.1 y.2.1,res:=fun x y=> .str y.1,outs:=fun x y=>[.box 0 (cur x.1 y.2.1 y.2.2),.top],keep:=true}
theorem Tx:Aj G Tryz.prog 55 Er:=
 vcFun_okP [(31,0,Dv)] [] false (fun x=>[]) Tryz.func55 rfl (by decide) ⟨Mw,trivial⟩ (fun(x:List UInt8×Int×Int×List (List UInt8))=>True∧cA Dv [.box 0 (cur x.1 x.2.1 x.2.2.1),.int .i64 (↑(List.length x.2.2.2):Int)] fun x_1 y=>((0:Int)≤y.1∧y.1<(↑(List.length x.2.2.2):Int))∧∀(e:List UInt8),x.2.2.2[Int.toNat y.1]? =some e→rA Er x [.str e,.box 0 (cur x_1.1 y.2.1 y.2.2),.top]) (fun x=>by kernel_rfl) fun(x:List UInt8×Int×Int×List (List UInt8)) (hx:Bq x.1 x.2.1∧x.2.2.2≠[]∧x.2.2.2.length<2^30)=>(by
 dsimp only[Gj,cA,cur,rA,Dv,Er,Au,Az,mvL,lnL,mvE,lnE]
 obtain⟨b,i,h,l⟩:=x;dsimp only at hx ⊢
 obtain⟨hx,hn,hl⟩:=hx
 have hp:0<l.length:=by cases l with|nil=>exact(hn rfl).elim|cons _ _=>simp
 (repeat' first|(with_reducible first|rfl|exact True.intro|apply AK|apply And.intro|((first|apply AA|apply AI|apply AB|apply AJ)<;>intro _))|(apply Ax<;>intro _)|apply AH|refine Ae () ?_ ?_|((first|apply AO|apply AN|apply AM|apply AL|apply AG|apply AF|apply AE|apply AD|apply AC)<;>try dsimp only)|apply Ae|(refine Prod.forall.2 ?_;intro _;try dsimp only)|(intro _;try dsimp only))
 all_goals(repeat(rename(_∧_)∧Bq _ _=>hq;obtain⟨⟨_,_⟩,_⟩:=hq))
 all_goals first
  |rfl
  |assumption
  |exact BO ‹_›
  |omega
  |skip)
end Go.My
end
