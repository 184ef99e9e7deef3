/- joined -/
import Derived.Test.YtblmpjljedglaaaGreatDoorQK
import Derived.Shelf.Strings.Builder1
import Derived.Shelf.Strings.OnBuilder
import Derived.Shelf.Strings.Repeat
import Derived.Test.YtblmpjljedglaaaGreatDoorProg
import Derived.ProofKit
set_option linter.unusedSimpArgs false
set_option linter.unusedVariables false
section
namespace Go.My
open Go.Eng
variable {p:Pc}
def ru0:Ru:=⟨0,0⟩
def ch0:Ch:=⟨[],0,0,false,0⟩
def Jv(p:Pc)(i:Int):Ru:=p.rules.getD i.toNat ru0
def Fs(r:Ru):Bool:=inn r.vals 2 3&&inn r.cost 0 9
def Fb(p:Pc)(c:Ch):Bool:=inn c.rule 0 ((p.rules.length:Int)-1)&&(inn c.fr 1 ((Jv p c.rule).vals-1)&&inn c.nest 0 40)
def BD(s:List UInt8):Bool:=s.all BJ
def Ft(p:Pc):List Ch→Bool
 |[]=>true
 |[c]=>BD c.text
 |c::d::l=>BD c.text&&(Fb p c&&Ft p (d::l))
def Uw(c:Ch):Bool:=decide (c.rule=0)&&(decide (c.fr=0)&&(c.space==false&&decide (c.nest=0)))
def EJ(p:Pc)(s:Sn):Bool:=(decide (0≤s.fr)&&decide (s.fr≤s.tuu))&&(decide (s.tuu<(p.chunks.length:Int)-1)&&inn s.cost 0 9)
def Hn(p:Pc)(t:Ti):Bool:=inn t.kid 0 ((p.rules.length:Int)-1)&&(inn t.up 0 ((p.rules.length:Int)-1)&& !decide (t.kid=t.up))
def GQ(p:Pc):Bool:=decide (p.rules.length≤8)&&p.rules.all Fs
def Ga(p:Pc):Bool:=inn p.chunks.length 1 80&&(Ft p p.chunks&&Uw (p.chunks.getLast?.getD ch0))
def Dc(p:Pc):Bool:=
 inn p.ind 0 60&&(GQ p&&(Ga p&&((decide (p.spans.length≤40)&&decide (p.ties.length≤20))&&(p.spans.all (EJ p)&&p.ties.all (Hn p)))))
theorem c1h{c:Ch}{l:List Ch}:Ft p (c::l)=(BD c.text&&((l.isEmpty||Fb p c)&&Ft p l)):=by
 cases l<;>simp [Ft]
structure pcOk (p:Pc):Prop where
 ind:0≤p.ind∧p.ind≤60
 rl:p.rules.length≤8
 ru:∀r∈p.rules,(2≤r.vals∧r.vals≤3)∧0≤r.cost∧r.cost≤9
 cl:1≤p.chunks.length∧p.chunks.length≤80
 sp:∀(i:Nat) c,p.chunks[i]? =some c→i+1<p.chunks.length→(0≤c.rule∧c.rule<p.rules.length)∧(1≤c.fr∧c.fr<(Jv p c.rule).vals)∧0≤c.nest∧c.nest≤40
 snl:p.spans.length≤40
 til:p.ties.length≤20
 sn:∀s∈p.spans,(0≤s.fr∧s.fr≤s.tuu∧s.tuu<(p.chunks.length:Int)-1)∧0≤s.cost∧s.cost≤9
 ti:∀t∈p.ties,(0≤t.kid∧t.kid<p.rules.length)∧0≤t.up∧t.up<p.rules.length
theorem Ux{p:Pc}:∀ {l:List Ch},Ft p l=true→∀(i:Nat) c,l[i]? =some c→BD c.text=true∧(i+1<l.length→Fb p c=true)
 |[],_,i,c,hi=>by simp at hi
 |[d],h,i,c,hi=>by
  match i,hi with
  |0,hi=>simp at hi;subst hi;exact⟨h,fun hl=>by simp at hl⟩
 |d::e::l,h,0,c,hi=>by
  simp only[Ft,Bool.and_eq_true] at h
  simp at hi;subst hi;exact⟨h.1,fun _=>h.2.1⟩
 |d::e::l,h,i+1,c,hi=>by
  simp only[Ft,Bool.and_eq_true] at h
  have:=Ux h.2.2 i c (by simpa using hi)
  exact⟨this.1,fun hl=>this.2 (by simpa using hl)⟩
theorem a7c{p:Pc}:∀ {l:List Ch},Ft p l=true↔∀(i:Nat) c,l[i]? =some c→BD c.text=true∧(i+1<l.length→Fb p c=true)
 |[]=>by simp [Ft]
 |[d]=>by
  refine⟨Ux,fun h=>(h 0 d rfl).1⟩
 |d::e::l=>by
  refine⟨Ux,fun h=> ?_⟩
  simp only[Ft,Bool.and_eq_true]
  have h0:=h 0 d rfl
  refine⟨h0.1,h0.2 (by simp),a7c.2 fun i c hi=> ?_⟩
  have:=h (i+1) c (by simpa using hi)
  exact⟨this.1,fun hl=>this.2 (by simpa using hl)⟩
theorem a0s(h:Dc p=true):pcOk p:=by
 simp only[Dc,GQ,Ga,Bool.and_eq_true,decide_eq_true_eq,List.all_eq_true] at h
 obtain⟨h1,⟨h2,h3⟩,⟨h4,h5,h6⟩,⟨h7,h8⟩,h9,h10⟩:=h
 have h4:=BW.1 h4
 refine⟨BW.1 h1,h2,fun r hr=> ?_,by omega,fun i c hi hl=> ?_,h7,h8,fun s hs=> ?_,fun t ht=> ?_⟩
 ·have:=h3 r hr
  simp only[Fs,Bool.and_eq_true] at this
  exact⟨BW.1 this.1,BW.1 this.2⟩
 ·have:=(Ux h5 i c hi).2 hl
  simp only[Fb,Bool.and_eq_true] at this
  have a:=BW.1 this.1;have b:=BW.1 this.2.1;have c:=BW.1 this.2.2
  exact⟨by omega,by omega,c⟩
 ·have:=h9 s hs
  simp only[EJ,Bool.and_eq_true,decide_eq_true_eq] at this
  exact⟨⟨this.1.1,this.1.2,this.2.1⟩,BW.1 this.2.2⟩
 ·have:=h10 t ht
  simp only[Hn,Bool.and_eq_true] at this
  have a:=BW.1 this.1;have b:=BW.1 this.2.1
  exact⟨by omega,by omega⟩
def vAt(v:List Int)(i:Int):Int:=v.getD i.toNat 0
def vOk(p:Pc)(v:List Int):Prop:=v.length≤p.rules.length∧∀(i:Nat) n,v[i]? =some n→0≤n∧n<(Jv p i).vals
def DP(v:List Int)(c:Ch):Bool:=decide (c.fr≤vAt v c.rule)
def blk(n:Int):List UInt8:=List.replicate n.toNat 32
def rnL(ind:Int)(v:List Int):List Ch→List UInt8→List (List UInt8)
 |[],s=>[s]
 |[c],s=>[s++c.text]
 |c::d::l,s=>if DP v c then(s++c.text)::rnL ind v (d::l) (blk (ind+c.nest)) else rnL ind v (d::l) (s++c.text++(if c.space then [32] else []))
def CG(p:Pc)(v:List Int):List (List UInt8):=rnL p.ind v p.chunks (blk p.ind)
def ovL(w:Int)(l:List (List UInt8)):Int:=(l.map fun s=>max ((s.length:Int)-w) 0).sum
def wdF(w:Int):Int:=max 0 (min w 100000)
def a7d(p:Pc)(v:List Int)(c:Ch):Bool:=decide (c.rule<v.length)&&DP v c
def snS(p:Pc)(v:List Int)(s:Sn):Bool:=((p.chunks.take (s.tuu+1).toNat).drop s.fr.toNat).any (a7d p v)
def ruS(p:Pc)(v:List Int):Int:=(v.zipIdx.map fun q=>q.1*(Jv p q.2).cost).sum
def Rc(p:Pc)(v:List Int):Int:=ruS p v+(p.spans.map fun s=>if snS p v s then s.cost else 0).sum
structure Co where
 over:Int
 sum:Int
def Uy(p:Pc)(v:List Int)(w:Int):Co:=⟨ovL (wdF w) (CG p v),Rc p v⟩
def c1i(a b:Co):Bool:=decide (a.over<b.over)||(decide (a.over=b.over)&&decide (a.sum<b.sum))
def MQ:List Int→List Int→Int
 |[],[]=>0
 |[],_::_=> -1
 |_::_,[]=>1
 |a::l,b::m=>if a<b then-1 else if b<a then 1 else MQ l m
def Ic(p:Pc):List Int:=p.rules.map fun r=>r.vals-1
def c1j(v:List Int)(t:Ti):Bool:= !((inn t.kid 0 ((v.length:Int)-1)&&inn t.up 0 ((v.length:Int)-1))&&(decide (0<vAt v t.kid)&&decide (vAt v t.up=0)))
def c1k(p:Pc)(v:List Int):Bool:=p.ties.all (c1j v)
def lnS(l:List (List UInt8)):Nat:=(l.map List.length).sum
theorem a0t{ind:Int}{v:List Int}(h0:0≤ind∧ind≤60):∀ {l:List Ch} {s:List UInt8},(∀(i:Nat) c,l[i]? =some c→i+1<l.length→0≤c.nest∧c.nest≤40)→
 lnS (rnL ind v l s)≤s.length+Cz l+101*l.length∧(rnL ind v l s).length≤l.length+1
 |[],s,_=>by simp [rnL,lnS,Cz]
 |[c],s,_=>by simp [rnL,lnS,Cz]
 |c::d::l,s,h=>by
  have hn:=h 0 c rfl (by simp)
  have h':∀(i:Nat) e,(d::l)[i]? =some e→i+1<(d::l).length→0≤e.nest∧e.nest≤40:=fun i e hi hl=>h (i+1) e (by simpa using hi) (by simpa using hl)
  have hc:Cz (c::d::l)=c.text.length+Cz (d::l):=by simp [Cz]
  rw[rnL]
  split
  ·have h1:=a0t (v:=v) h0 (s:=blk (ind+c.nest)) h'
   have hb:(blk (ind+c.nest)).length≤100:=by simp [blk];omega
   have e:lnS ((s++c.text)::rnL ind v (d::l) (blk (ind+c.nest)))=s.length+c.text.length+lnS (rnL ind v (d::l) (blk (ind+c.nest))):=by simp [lnS]
   rw[e,hc]
   simp only[List.length_cons] at*
   omega
  ·have h1:=a0t (v:=v) h0 (s:=s++c.text++(if c.space then [32] else [])) h'
   have hb:(if c.space then [(32:UInt8)] else []).length≤1:=by split<;>simp
   rw[hc]
   simp only[List.length_cons,List.length_append] at*
   omega
theorem a7e{v:List Int}(h:pcOk p):lnS (CG p v)≤Cz p.chunks+8200∧(CG p v).length≤81:=by
 have h1:=a0t (v:=v) h.ind (l:=p.chunks) (s:=blk p.ind) fun i c hi hl=>(h.sp i c hi hl).2.2
 have h2:=h.cl
 have h3:(blk p.ind).length≤60:=by simp [blk];have:=h.ind;omega
 unfold CG
 omega
theorem c1l{l m:List (List UInt8)}:lnS (l++m)=lnS l+lnS m:=by simp [lnS]
structure StW where
 vals:List Int
 sum:Int
def OO(a b:StW):Bool:=decide (a.sum<b.sum)||(decide (a.sum=b.sum)&&decide (MQ a.vals b.vals<0))
def st0:StW:=⟨[],0⟩
def Ho(l:List StW)(i:Int):StW:=l.getD i.toNat st0
def swp(l:List StW)(i j:Int):List StW:=(l.set i.toNat (Ho l j)).set j.toNat (Ho l i)
def abv(i:Int):Int:=(i+1).tdiv 2-1
def sUp:Nat→List StW→Int→List StW
 |0,l,_=>l
 |n+1,l,i=>if 0<i∧OO (Ho l i) (Ho l (abv i))=true then sUp n (swp l i (abv i)) (abv i) else l
def Rd(l:List StW)(x:StW):List StW:=sUp (l.length+1) (l++[x]) l.length
def dnK(l:List StW)(i:Int):Int:=if 2*i+1+1<l.length∧OO (Ho l (2*i+1+1)) (Ho l (2*i+1))=true then 2*i+1+1 else 2*i+1
def sDn:Nat→List StW→Int→List StW
 |0,l,_=>l
 |n+1,l,i=>if 2*i+1<l.length∧OO (Ho l (dnK l i)) (Ho l i)=true then sDn n (swp l i (dnK l i)) (dnK l i) else l
def c1m(l:List StW):List StW:=(l.set 0 (Ho l ((l.length:Int)-1))).take (l.length-1)
def OP(l:List StW):List StW:=sDn l.length (c1m l) 0
def hS(f:StW→Nat)(l:List StW):Nat:=(l.map f).sum
structure Hu where
 best:List Int
 cost:Co
 heap:List StW
 pops:Int
def c1n(c d:Co)(v b:List Int):Bool:=c1i c d||((decide (c.over=d.over)&&decide (c.sum=d.sum))&&decide (MQ v b<0))
def a7f(p:Pc)(w:Int)(v:List Int)(h:Hu):Hu:=if c1n (Uy p v w) h.cost v h.best then⟨v,Uy p v w,h.heap,h.pops⟩ else h
def c1o(p:Pc)(c:Co)(v:List Int):Bool:= !c1k p v||(decide (c.over=0)&&decide (c.sum<Rc p v))
def opN(p:Pc)(c:Co)(x:List Int):Nat→Int→List StW→List StW
 |0,_,l=>l
 |r+1,i,l=>opN p c x r (i+1) (if c1o p c (x++[i]) then l else Rd l ⟨x++[i],Rc p (x++[i])⟩)
def c1p(p:Pc)(w:Int)(h:Hu):Hu:=
 if(Ho h.heap 0).vals.length=p.rules.length then a7f p w (Ho h.heap 0).vals ⟨h.best,h.cost,OP h.heap,h.pops+1⟩
 else⟨h.best,h.cost,opN p h.cost (Ho h.heap 0).vals (Jv p (Ho h.heap 0).vals.length).vals.toNat 0 (OP h.heap),h.pops+1⟩
def a0u(p:Pc)(w bud:Int):Nat→Hu→Hu×Int
 |0,h=>(h,0)
 |n+1,h=>if h.heap=[] then(h,1) else if bud≤h.pops then(h,2) else a0u p w bud n (c1p p w h)
def hu0(p:Pc)(w:Int):Hu:=⟨Ic p,Uy p (Ic p) w,[st0],0⟩
def srF(p:Pc)(w bud:Int):Hu×Int:=a0u p w bud 9842 (hu0 p w)
def wt:Nat→Nat
 |0=>1
 |n+1=>1+3*wt n
def wtS(p:Pc)(s:StW):Nat:=wt (p.rules.length-s.vals.length)
def hM(p:Pc)(l:List StW):Nat:=hS (wtS p) l
def c1q(p:Pc)(s:StW):Prop:=vOk p s.vals∧0≤s.sum∧s.sum≤1000
def a0v(p:Pc)(l:List StW):Prop:=∀s∈l,c1q p s
end Go.My
end
section
namespace Go.My
open Go.Eng Go.Proofs
variable {G:GInv}
variable {a b i:Int}{c:Ch}{ls:List (List UInt8)}{p:Pc}{s:List UInt8}{v:List Int}
theorem Re{q:Pc→Prop}(p:Pc)(h:q p):∃x,q x:=⟨p,h⟩
theorem Rf{β:Type}{q:Pc×β→Prop}(p:Pc)(h:∃b,q (p,b)):∃x,q x:=let⟨b,hb⟩:=h;⟨(p,b),hb⟩
def Cc{α:Type}(p:α→Bool)(l:List α)(i:Int):Prop:=(0≤i∧i≤l.length)∧(l.take i.toNat).all p=true
theorem Uz{α:Type}{p:α→Bool}{l:List α}:Cc p l 0:=⟨by omega,by simp⟩
theorem MR{α:Type}{p:α→Bool}{l:List α}{e:α}(h:Cc p l i)(hi:i<l.length)(he:l[i.toNat]? =some e)(hp:p e=true):Cc p l (i+1):=
 ⟨by have:=h.1;omega,by rw[Dd h.1.1,ED he,List.all_append,h.2];simp [hp]⟩
theorem Ie{α:Type}{p:α→Bool}{l:List α}{e:α}(he:l[i.toNat]? =some e)(hp:p e=false):l.all p=false:=by
 rw[List.all_eq_false];exact⟨e,Bm he,by simp [hp]⟩
theorem Kg{α:Type}{p:α→Bool}{l:List α}(h:Cc p l i)(hi:¬i<l.length):l.all p=true:=by
 have:=h.2;rwa [List.take_of_length_le (by have:=h.1;omega)] at this
def a0w(l:List Ru):AV:= .sl false 0 2 Ru ruA l
def chs(l:List Ch):AV:= .sl false 0 5 Ch chA l
def sns(l:List Sn):AV:= .sl false 0 3 Sn snA l
def tis(l:List Ti):AV:= .sl false 0 2 Ti tiA l
def pcS(p:Pc):Prop:=(p.rules.length<2^40∧p.chunks.length<2^40)∧((p.spans.length<2^40∧p.ties.length<2^40)∧Cz p.chunks≤2^61)∧∀r∈p.rules,-4611686018427387904≤r.vals∧r.vals≤4611686018427387904
theorem UA{c:Ch}:∀ {l:List Ch},c∈l→c.text.length≤Cz l
 |[],h=>by cases h
 |d::l,h=>by
  have e:Cz (d::l)=d.text.length+Cz l:=by simp [Cz]
  rcases List.mem_cons.1 h with rfl|h
  ·omega
  ·have:=UA h;omega
def Ll:Sig:= {X:=Pc,args:=fun x=>[.agg (pcA false x)],pre:=fun x=>pcS x,Y:=Unit,post:=fun x y=>True,res:=fun x y=> .bool (GQ x),outs:=fun x y=>[.top],keep:=false}
def UB(x:Pc):LS:= {ι:=Int,inv:=fun i=>Cc Fs x.rules i,regs:=fun i=>[(1,.box 0 (pcA false x)),(6,a0w x.rules),(7,.q x.rules.length),(8,.q i)],als:=[],meas:=fun i=>x.rules.length-i.toNat}
theorem c1r:Ai G Tryz.prog 116 Ll:=
 vcFun_okP [(36,0,CJ)] [] false (fun x=>[(2,UB x)]) Tryz.func116 rfl (by decide) ⟨JJ,trivial⟩ (fun(x:Pc)=>(∀(y:Unit),True→True∧True∧True)∧eA (UB x) [.box 0 (pcA false x),bRu x.rules,.q (x.rules.length:Int),.q 0]∧∀(i:Int),Cc Fs x.rules i→Aa (decide (i<(x.rules.length:Int))) ((0≤i∧i<(x.rules.length:Int))∧∀(e:Ru),x.rules[Int.toNat i]? =some e→cA CJ [.q e.vals,.q 2,.q 3] fun x_1 y=>Aa (!inn x_1.1 x_1.2.1 x_1.2.2) (rA Ll x [.bool false,.top]) (cA CJ [.q e.cost,.q 0,.q 9] fun x_2 y=>Aa (!inn x_2.1 x_2.2.1 x_2.2.2) (rA Ll x [.bool false,.top]) (inR .i64 (i+1)∧eN (UB x) i [.box 0 (pcA false x),bRu x.rules,.q (x.rules.length:Int),.q (i+1)]))) (rA Ll x [.bool (decide ((x.rules.length:Int)≤(8:Int))),.top])) (fun x=>by kernel_rfl) fun(x:Pc) (hx:pcS x)=>(by
 dsimp only[bRu,cA,CC,eA,eN,UB,pcA,rA,CB,a0w,CJ,Ll,CD,CE,As,Az,mvL,lnL,mvE,lnE,mvG,mvH,lnG,lnH,Bl,AV.q]
 have hz:=hx.1
 (repeat' first|(with_reducible first|rfl|exact True.intro|apply AK|apply And.intro|((first|apply AA|apply AI|apply AB|apply AJ)<;>intro _))|(apply Av<;>intro _)|apply AH|refine Ae () ?_ ?_|((first|apply AO|apply AN|apply AM|apply AL|apply AG|apply AF|apply AE|apply AD|apply AC)<;>try dsimp only)|apply Ae|(refine Prod.forall.2 ?_;intro _;try dsimp only)|(intro _;try dsimp only))
 all_goals first
  |rfl
  |exact Uz
  |exact MR ‹_› ‹_› ‹_› (by simp [Fs, *])
  |(have hq:=Ie (p:=Fs) ‹x.rules[_]? =some _› (by simp [Fs, *]);simp [GQ,hq];done)
  |(have hq:=Kg (p:=Fs) ‹_› ‹_›;rw[GQ,hq,Bool.and_true];exact decide_eq_decide.2 (by omega))
  |(have hq:= ‹Cc _ _ _›.1;(try simp only[An]);omega)
  |((try simp only[An]);omega)
  |skip)
theorem a7g{e:Ru}(h:p.rules[i.toNat]? =some e):Jv p i=e:=by simp [Jv,List.getD,h]
theorem a7h{c:Int}(h:inn a b c=false):¬(b≤a∧a≤c):=fun hh=>by rw[BW.2 hh] at h;cases h
def Lm:Sig:= {X:=Pc×Int×Int×Bool×Int,args:=fun x=>[.agg (pcA false x.1),.agg [.q x.2.1,.q x.2.2.1,.bool x.2.2.2.1,.q x.2.2.2.2]],pre:=fun x=>pcS x.1,Y:=Unit,post:=fun x y=>True,res:=fun x y=> .bool (Fb x.1 ⟨[],x.2.1,x.2.2.1,x.2.2.2.1,x.2.2.2.2⟩),outs:=fun x y=>[.top,.top],keep:=false}
theorem c1s:Ai G Tryz.prog 142 Lm:=
 vcFun_okP [(36,0,CJ)] [] false (fun x=>[]) Tryz.func142 rfl (by decide) ⟨JJ,trivial⟩ (fun(x:Pc×Int×Int×Bool×Int)=>(∀(y:Unit),True→True∧True∧True∧True)∧inR .i64 ((x.1.rules.length:Int)-(1:Int))∧cA CJ [.q x.2.1,.q 0,.q ((x.1.rules.length:Int)-(1:Int))] fun x_1 y=>Aa (!inn x_1.1 x_1.2.1 x_1.2.2) (rA Lm x [.bool false,.top,.top]) (cA CJ [.q x.2.2.2.2,.q 0,.q 40] fun x_2 y=>Aa (!inn x_2.1 x_2.2.1 x_2.2.2) (rA Lm x [.bool false,.top,.top]) (true=true∧true=true∧(0≤x.2.1∧x.2.1<(x.1.rules.length:Int))∧∀(e:Ru),x.1.rules[Int.toNat x.2.1]? =some e→inR .i64 (e.vals-1)∧∃(x_3:Int×Int×Int),True∧x.2.2.1=x_3.1∧1=x_3.2.1∧e.vals-1=x_3.2.2∧∃(y0:Unit),(∀(y:Unit),True→AV.bool (inn x_3.1 x_3.2.1 x_3.2.2)=AV.bool (inn x_3.1 x_3.2.1 x_3.2.2))∧true=true∧rA Lm x [.bool (inn x_3.1 x_3.2.1 x_3.2.2),.top,.top]))) (fun x=>by kernel_rfl) fun(x:Pc×Int×Int×Bool×Int) (hx:pcS x.1)=>(by
 dsimp only[cA,CC,pcA,rA,CB,CJ,Lm,CD,CE,As,Az,mvL,lnL,mvE,lnE,mvG,mvH,lnG,lnH,AV.q]
 obtain⟨p,r,f,s,n⟩:=x;dsimp only at hx ⊢
 have hx:pcS p:=hx
 have hz:=hx.1;have hv:=hx.2.2
 (repeat' first|(with_reducible first|rfl|exact True.intro|apply AK|apply And.intro|((first|apply AA|apply AI|apply AB|apply AJ)<;>intro _))|(apply Av<;>intro _)|apply AH|refine Ae () ?_ ?_|((first|apply AO|apply AN|apply AM|apply AL|apply AG|apply AF|apply AE|apply AD|apply AC)<;>try dsimp only)|apply Ae|(refine Prod.forall.2 ?_;intro _;try dsimp only)|(intro _;try dsimp only))
 all_goals first
  |rfl
  |((try simp only[BW] at*);omega)
  |(simp [Fb, *];done)
  |(have hm:=hv _ (Bm ‹_›);omega)
  |(rename p.rules[_]? =some _=>hq;have hr:=a7g hq;simp [Fb,hr, *];done)
  |skip)
theorem a7i:(0≤(0:Int)∧(0:Int)≤p.chunks.length)∧Ft p p.chunks=Ft p (p.chunks.drop (Int.toNat 0)):=⟨by omega,rfl⟩
def chI(p:Pc)(i:Int):Prop:=(0≤i∧i≤p.chunks.length)∧Ft p p.chunks=Ft p (p.chunks.drop i.toNat)
theorem a7j(h:chI p i)(hc:p.chunks[i.toNat]? =some c):Ft p p.chunks=(BD c.text&&((decide (p.chunks.length≤i+1)||Fb p c)&&Ft p (p.chunks.drop (i+1).toNat))):=by
 rw[h.2,HI hc,c1h,Dd h.1.1]
 congr 3
 have hl:(p.chunks.drop (i.toNat+1)).length=p.chunks.length-(i.toNat+1):=List.length_drop
 have h0:=h.1.1
 by_cases e:(p.chunks.length:Int)≤i+1
 ·rw[decide_eq_true e,List.isEmpty_iff,List.eq_nil_iff_length_eq_zero];omega
 ·rw[decide_eq_false e,Bool.eq_false_iff,ne_eq,List.isEmpty_iff,List.eq_nil_iff_length_eq_zero];omega
theorem UC(h:chI p i)(hi:i<p.chunks.length)(hc:p.chunks[i.toNat]? =some c)(h1:BD c.text=true)(h2:i<(p.chunks.length:Int)-1→Fb p c=true):chI p (i+1):=by
 refine⟨by have:=h.1;omega,?_⟩
 rw[a7j h hc,h1]
 by_cases e:(p.chunks.length:Int)≤i+1
 ·simp [e]
 ·rw[h2 (by omega)];simp
theorem UD(h:chI p i)(hc:p.chunks[i.toNat]? =some c)(h1:BD c.text=false∨(i<(p.chunks.length:Int)-1∧Fb p c=false)):Ga p=false:=by
 have:=a7j h hc
 unfold Ga
 rcases h1 with h1|⟨h1,h2⟩
 ·rw[this,h1];simp
 ·rw[this,h2,decide_eq_false (by omega)];simp
theorem a0x(h:chI p i)(hi:¬i<p.chunks.length)(hc:p.chunks[((p.chunks.length:Int)-1).toNat]? =some c)(hn:inn p.chunks.length 1 80=true):Ga p=Uw c:=by
 have h2:=h.2
 rw[List.drop_of_length_le (by omega)] at h2
 have hl:p.chunks.getLast? =some c:=by
  rw[List.getLast?_eq_getElem?,show p.chunks.length-1=((p.chunks.length:Int)-1).toNat by omega];exact hc
 unfold Ga
 rw[hn,h2,hl];simp [Ft]
theorem c1t(h:inn p.chunks.length 1 80=false):Ga p=false:=by simp [Ga,h]
theorem a0y:(true&&c.rule==0&&c.fr==0&&c.space==false&&c.nest==0)=Uw c:=by
 rw[Bool.eq_iff_iff];simp [Uw,and_assoc]
def Kh:Sig:= {X:=Pc,args:=fun x=>[.agg (pcA false x)],pre:=fun x=>pcS x,Y:=Unit,post:=fun x y=>True,res:=fun x y=> .bool (Ga x),outs:=fun x y=>[.top],keep:=false}
def Rg(x:Pc):LS:= {ι:=Int,inv:=fun i=>chI x i∧inn x.chunks.length 1 80=true,regs:=fun i=>[(1,.box 0 (pcA false x)),(3,.q x.chunks.length),(13,chs x.chunks),(14,.q x.chunks.length),(15,.q i)],als:=[],meas:=fun i=>x.chunks.length-i.toNat}
theorem c1u:Ai G Tryz.prog 117 Kh:=
 vcFun_okP [(36,0,CJ),(77,0,Fz),(142,0,Lm)] [] false (fun x=>[(5,Rg x)]) Tryz.func117 rfl (by decide) ⟨JJ,SC,c1s,trivial⟩ (fun(x:Pc)=>(∀(y:Unit),True→True∧True∧True)∧cA CJ [.q (x.chunks.length:Int),.q 1,.q 80] fun x_1 y=>Aa (!inn x_1.1 x_1.2.1 x_1.2.2) (rA Kh x [.bool false,.top]) (eA (Rg x) [.box 0 (pcA false x),.q (x.chunks.length:Int),bCh x.chunks,.q (x.chunks.length:Int),.q 0]∧∀(i:Int),chI x i∧inn (x.chunks.length:Int) (1:Int) 80=true→Aa (decide (i<(x.chunks.length:Int))) ((0≤i∧i<(x.chunks.length:Int))∧∀(e:Ch),x.chunks[Int.toNat i]? =some e→cA Fz [.str e.text] fun x_2 y=>Aa (!List.all x_2 BJ) (rA Kh x [.bool false,.top]) (inR .i64 ((x.chunks.length:Int)-(1:Int))∧Aa (decide (i<(x.chunks.length:Int)-(1:Int))) (cA Lm [.agg (pcA false x),.agg [.q e.rule,.q e.fr,.bool e.space,.q e.nest]] fun x_3 y=>Aa (!Fb x_3.1 {text:=[],rule:=x_3.2.1,fr:=x_3.2.2.1,space:=x_3.2.2.2.1,nest:=x_3.2.2.2.2}) (rA Kh x [.bool false,.top]) (inR .i64 (i+1)∧(eN (Rg x) i [.box 0 (pcA false x),.q (x.chunks.length:Int),bCh x.chunks,.q (x.chunks.length:Int),.q (i+1)]))) (inR .i64 (i+1)∧(eN (Rg x) i [.box 0 (pcA false x),.q (x.chunks.length:Int),bCh x.chunks,.q (x.chunks.length:Int),.q (i+1)])))) (inR .i64 ((x.chunks.length:Int)-(1:Int))∧(0≤(x.chunks.length:Int)-(1:Int)∧(x.chunks.length:Int)-1<(x.chunks.length:Int))∧∀(e:Ch),x.chunks[Int.toNat ((x.chunks.length:Int)-(1:Int))]? =some e→rA Kh x [.bool (true&&e.rule==0&&e.fr==0&&e.space==false&&e.nest==0),.top]))) (fun x=>by kernel_rfl) fun(x:Pc) (hx:pcS x)=>(by
 dsimp only[bCh,cA,CC,chs,eA,eN,Rg,pcA,rA,CB,CJ,Fz,Kh,Lm,CD,CE,As,Az,mvL,lnL,mvE,lnE,mvG,mvH,lnG,lnH,Bl,AV.q]
 have hz:=hx.1;have ht:=hx.2.1.2
 (repeat' first|refine Rf x ?_|(with_reducible first|rfl|exact True.intro|apply AK|apply And.intro|((first|apply AA|apply AI|apply AB|apply AJ)<;>intro _))|(apply Av<;>intro _)|apply AH|refine Ae () ?_ ?_|((first|apply AO|apply AN|apply AM|apply AL|apply AG|apply AF|apply AE|apply AD|apply AC)<;>try dsimp only)|apply Ae|(refine Prod.forall.2 ?_;intro _;try dsimp only)|(intro _;try dsimp only))
 all_goals first
  |rfl
  |assumption
  |exact a7i
  |exact hx
  |exact(c1t ‹_›).symm
  |(have hq:= ‹chI _ _∧_›.1.1;(try simp only[An]);omega)
  |(have hq:=UA (Bm ‹x.chunks[_]? =some _›);omega)
  |exact(UD ‹chI _ _∧_›.1 ‹_› (.inl ‹_›)).symm
  |exact(UD ‹chI _ _∧_›.1 ‹_› (.inr ⟨by assumption,by assumption⟩)).symm
  |exact UC ‹chI _ _∧_›.1 ‹_› ‹_› ‹_› (fun _=>by assumption)
  |exact UC ‹chI _ _∧_›.1 ‹_› ‹_› ‹_› (fun _=>by omega)
  |(rw[a0x ‹chI _ _∧_›.1 ‹_› ‹_› ‹_›];exact a0y)
  |((try simp only[BW] at*);omega)
  |skip)
def MS:Sig:= {X:=Pc×Int,args:=fun x=>[.agg (pcA false x.1),.q x.2],pre:=fun x=>pcS x.1,Y:=Unit,post:=fun x y=>True,res:=fun x y=> .bool (inn x.2 0 ((x.1.rules.length:Int)-1)),outs:=fun x y=>[.top,.top],keep:=false}
theorem c1v:Ai G Tryz.prog 118 MS:=
 vcFun_okP [(36,0,CJ)] [] false (fun x=>[]) Tryz.func118 rfl (by decide) ⟨JJ,trivial⟩ (fun(x:Pc×Int)=>(∀(y:Unit),True→True∧True∧True∧True)∧inR .i64 ((x.1.rules.length:Int)-(1:Int))∧cA CJ [.q x.2,.q 0,.q ((x.1.rules.length:Int)-(1:Int))] fun x_1 y=>rA MS x [.bool (inn x_1.1 x_1.2.1 x_1.2.2),.top,.top]) (fun x=>by kernel_rfl) fun(x:Pc×Int) (hx:pcS x.1)=>(by
 dsimp only[cA,CC,pcA,rA,CB,CJ,MS,CD,CE,As,Az,mvL,lnL,mvE,lnE,mvG,mvH,lnG,lnH,AV.q]
 obtain⟨p,r⟩:=x;dsimp only at hx ⊢
 have hx:pcS p:=hx
 have hz:=hx.1
 (repeat' first|(with_reducible first|rfl|exact True.intro|apply AK|apply And.intro|((first|apply AA|apply AI|apply AB|apply AJ)<;>intro _))|(apply Av<;>intro _)|apply AH|refine Ae () ?_ ?_|((first|apply AO|apply AN|apply AM|apply AL|apply AG|apply AF|apply AE|apply AD|apply AC)<;>try dsimp only)|apply Ae|(refine Prod.forall.2 ?_;intro _;try dsimp only)|(intro _;try dsimp only))
 all_goals first
  |rfl
  |((try simp only[An]);omega))
theorem UE{s:Sn}(h:((s.fr<0∨s.fr>s.tuu)∨s.tuu≥(p.chunks.length:Int)-1)∨inn s.cost 0 9=false):EJ p s=false:=by
 unfold EJ
 rw[Bool.eq_false_iff]
 simp only[ne_eq,Bool.and_eq_true,decide_eq_true_eq,not_and]
 intro h1 h2
 rcases h with h|h
 ·omega
 ·rw[h];simp
theorem a7k{s:Sn}(h1:¬s.fr<0)(h2:¬s.fr>s.tuu)(h3:¬s.tuu≥(p.chunks.length:Int)-1)(h4:inn s.cost 0 9=true):EJ p s=true:=by
 unfold EJ
 simp only[Bool.and_eq_true,decide_eq_true_eq]
 exact⟨⟨by omega,by omega⟩,by omega,h4⟩
def poA(p:Pc):Prop:=((inn p.ind 0 60=true∧GQ p=true)∧Ga p=true)∧p.spans.length≤40∧p.ties.length≤20
theorem MT(h:((inn p.ind 0 60=false∨GQ p=false)∨Ga p=false)∨(p.spans.length:Int)>40∨(p.ties.length:Int)>20):false=Dc p:=by
 symm
 rw[Bool.eq_false_iff]
 simp only[Dc,ne_eq,Bool.and_eq_true,decide_eq_true_eq,not_and]
 intro h1 h2 h3 h4
 rw[h1,h2,h3] at h
 simp at h;omega
theorem Ki(h:p.spans.all (EJ p)=false∨p.ties.all (Hn p)=false):false=Dc p:=by
 symm
 unfold Dc
 rcases h with h|h<;>rw[h]<;>simp
theorem a7l(h:poA p)(h1:p.spans.all (EJ p)=true)(h2:p.ties.all (Hn p)=true):true=Dc p:=by
 obtain⟨⟨⟨a,b⟩,c⟩,d,e⟩:=h
 unfold Dc
 rw[a,b,c,h1,h2];simp [d,e]
def Fc:Sig:= {X:=Pc,args:=fun x=>[.agg (pcA false x)],pre:=fun x=>pcS x,Y:=Unit,post:=fun x y=>True,res:=fun x y=> .bool (Dc x),outs:=fun x y=>[.top],keep:=false}
def UF(x:Pc):LS:= {ι:=Int,inv:=fun i=>poA x∧Cc (EJ x) x.spans i,regs:=fun i=>[(1,.box 0 (pcA false x)),(34,sns x.spans),(35,.q x.spans.length),(36,.q i)],als:=[],meas:=fun i=>x.spans.length-i.toNat}
def UG(x:Pc):LS:= {ι:=Int,inv:=fun i=>(poA x∧x.spans.all (EJ x)=true)∧Cc (Hn x) x.ties i,regs:=fun i=>[(1,.box 0 (pcA false x)),(67,tis x.ties),(68,.q x.ties.length),(69,.q i)],als:=[],meas:=fun i=>x.ties.length-i.toNat}
theorem c1w:Ai G Tryz.prog 82 Fc:=
 vcFun_okP [(36,0,CJ),(116,0,Ll),(117,0,Kh),(118,0,MS)] [] false (fun x=>[(4,UF x),(10,UG x)]) Tryz.func82 rfl (by decide) ⟨JJ,c1r,c1u,c1v,trivial⟩ (fun(x:Pc)=>(∀(y:Unit),True→True∧True∧True)∧cA CJ [.q x.ind,.q 0,.q 60] fun x_1 y=>Aa (!inn x_1.1 x_1.2.1 x_1.2.2) (rA Fc x [.bool false,.top]) (cA Ll [.agg (pcA false x)] fun x_2 y=>Aa (!GQ x_2) (rA Fc x [.bool false,.top]) (cA Kh [.agg (pcA false x)] fun x_3 y=>Aa (!Ga x_3) (rA Fc x [.bool false,.top]) (Aa (decide ((x.spans.length:Int)>(40:Int))) (rA Fc x [.bool false,.top]) (Aa (decide ((x.ties.length:Int)>(20:Int))) (rA Fc x [.bool false,.top]) (eA (UF x) [.box 0 (pcA false x),bSn x.spans,.q (x.spans.length:Int),.q 0]∧∀(i:Int),poA x∧Cc (EJ x) x.spans i→Aa (decide (i<(x.spans.length:Int))) ((0≤i∧i<(x.spans.length:Int))∧∀(e:Sn),x.spans[Int.toNat i]? =some e→Aa (decide (e.fr<0)) (rA Fc x [.bool false,.top]) (Aa (decide (e.fr>e.tuu)) (rA Fc x [.bool false,.top]) (inR .i64 ((x.chunks.length:Int)-(1:Int))∧Aa (decide (e.tuu≥(x.chunks.length:Int)-(1:Int))) (rA Fc x [.bool false,.top]) (cA CJ [.q e.cost,.q 0,.q 9] fun x_4 y=>Aa (!inn x_4.1 x_4.2.1 x_4.2.2) (rA Fc x [.bool false,.top]) (inR .i64 (i+1)∧eN (UF x) i [.box 0 (pcA false x),bSn x.spans,.q (x.spans.length:Int),.q (i+1)]))))) (eA (UG x) [.box 0 (pcA false x),bTi x.ties,.q (x.ties.length:Int),.q 0]∧∀(i:Int),(poA x∧List.all x.spans (EJ x)=true)∧Cc (Hn x) x.ties i→Aa (decide (i<(x.ties.length:Int))) ((0≤i∧i<(x.ties.length:Int))∧∀(e:Ti),x.ties[Int.toNat i]? =some e→cA MS [.agg (pcA false x),.q e.kid] fun x_4 y=>Aa (!inn x_4.2 (0:Int) ((x_4.1.rules.length:Int)-(1:Int))) (rA Fc x [.bool false,.top]) (cA MS [.agg (pcA false x),.q e.up] fun x_5 y=>Aa (!inn x_5.2 (0:Int) ((x_5.1.rules.length:Int)-(1:Int))) (rA Fc x [.bool false,.top]) (Aa (e.kid==e.up) (rA Fc x [.bool false,.top]) (inR .i64 (i+1)∧eN (UG x) i [.box 0 (pcA false x),bTi x.ties,.q (x.ties.length:Int),.q (i+1)])))) (rA Fc x [.bool true,.top])))))))) (fun x=>by kernel_rfl) fun(x:Pc) (hx:pcS x)=>(by
 dsimp only[bSn,bTi,cA,CC,chs,eA,eN,UG,UF,pcA,rA,CB,a0w,CJ,Kh,MS,Fc,Ll,CD,sns,CE,tis,As,Az,mvL,lnL,mvE,lnE,mvG,mvH,lnG,lnH,Bl,AV.q]
 have hz:=hx.1;have hz2:=hx.2.1.1
 (repeat' first|refine Re x ?_|refine Rf x ?_|(with_reducible first|rfl|exact True.intro|apply AK|apply And.intro|((first|apply AA|apply AI|apply AB|apply AJ)<;>intro _))|(apply Av<;>intro _)|apply AH|refine Ae () ?_ ?_|((first|apply AO|apply AN|apply AM|apply AL|apply AG|apply AF|apply AE|apply AD|apply AC)<;>try dsimp only)|apply Ae|(refine Prod.forall.2 ?_;intro _;try dsimp only)|(intro _;try dsimp only))
 all_goals first
  |rfl
  |assumption
  |exact hx
  |exact Uz
  |exact MT (.inl (.inl (.inl ‹_›)))
  |exact MT (.inl (.inl (.inr ‹_›)))
  |exact MT (.inl (.inr ‹_›))
  |exact MT (.inr (.inl ‹_›))
  |exact MT (.inr (.inr ‹_›))
  |exact⟨⟨⟨by assumption,by assumption⟩,by assumption⟩,by omega,by omega⟩
  |exact ‹poA _∧_›.1
  |(have hq:= ‹poA _∧Cc _ _ _›.2.1;(try simp only[An]);omega)
  |(have hq:= ‹(poA _∧_)∧Cc _ _ _›.2.1;(try simp only[An]);omega)
  |exact Ki (.inl (Ie ‹_› (UE (.inl (.inl (.inl ‹_›))))))
  |exact Ki (.inl (Ie ‹_› (UE (.inl (.inl (.inr ‹_›))))))
  |exact Ki (.inl (Ie ‹_› (UE (.inl (.inr ‹_›)))))
  |exact Ki (.inl (Ie ‹_› (UE (.inr ‹_›))))
  |exact MR ‹poA _∧Cc _ _ _›.2 ‹_› ‹_› (a7k ‹_› ‹_› ‹_› ‹_›)
  |exact⟨‹poA _∧Cc _ _ _›.1,Kg ‹poA _∧Cc _ _ _›.2 ‹_›⟩
  |exact Kg ‹poA _∧Cc _ _ _›.2 ‹_›
  |exact Ki (.inr (Ie ‹_› (by simp [Hn, *])))
  |exact MR ‹(poA _∧_)∧Cc _ _ _›.2 ‹_› ‹_› (by simp [Hn, *])
  |exact a7l ‹(poA _∧_)∧Cc _ _ _›.1.1 ‹(poA _∧_)∧Cc _ _ _›.1.2 (Kg ‹(poA _∧_)∧Cc _ _ _›.2 ‹_›)
  |((try simp only[An]);omega)
  |skip)
def Kj(p:Pc)(i:Int):Ch:=p.chunks.getD i.toNat ch0
theorem a0z(h:p.chunks[i.toNat]? =some c):Kj p i=c:=by simp [Kj,List.getD,h]
theorem a7m{n:Int}(h:v[i.toNat]? =some n):vAt v i=n:=by simp [vAt,List.getD,h]
structure renP (p:Pc) (v:List Int):Prop where
 ok:pcOk p
 vl:v.length=p.rules.length
 ct:Cz p.chunks≤2^61
def Ig(l:List (List UInt8)):AV:= .sl false 0 1 (List UInt8) Be l
def Ds(l:List (List UInt8)):AV:= .sl true 0 1 (List UInt8) Be l
theorem a0A{ind:Int}{v:List Int}:∀ {l:List Ch} {s:List UInt8},s.length≤lnS (rnL ind v l s)∧1≤(rnL ind v l s).length
 |[],s=>by simp [rnL,lnS]
 |[c],s=>by simp [rnL,lnS]
 |c::d::l,s=>by
  rw[rnL]
  split
  ·simp [lnS];omega
  ·have:=a0A (ind:=ind) (v:=v) (l:=d::l) (s:=s++c.text++(if c.space then [32] else []))
   simp only[List.length_append] at this ⊢
   omega
def rnI(p:Pc)(v:List Int)(i:Int)(ls:List (List UInt8))(s:List UInt8):Prop:=(0≤i∧i<p.chunks.length)∧ls++rnL p.ind v (p.chunks.drop i.toNat) s=CG p v
theorem c1x(h:pcOk p):rnI p v 0 [] (blk p.ind):=⟨by have:=h.cl;omega,rfl⟩
theorem c1y(hp:pcOk p)(h:rnI p v i ls s):(lnS ls+s.length≤Cz p.chunks+8200)∧ls.length≤80:=by
 have h1:=a7e (v:=v) hp
 rw[←h.2,c1l,List.length_append] at h1
 have h2:=a0A (ind:=p.ind) (v:=v) (l:=p.chunks.drop i.toNat) (s:=s)
 omega
theorem c1z(h:rnI p v i ls s)(hc:p.chunks[i.toNat]? =some c)(hi:i=(p.chunks.length:Int)-1):ls++[s++c.text]=CG p v:=by
 have h2:=h.2
 rw[HI hc,List.drop_of_length_le (by omega),rnL] at h2
 exact h2
theorem a0B(h:rnI p v i ls s)(hc:p.chunks[i.toNat]? =some c)(hi:i≠(p.chunks.length:Int)-1):
 rnL p.ind v (p.chunks.drop i.toNat) s=if DP v c then(s++c.text)::rnL p.ind v (p.chunks.drop (i+1).toNat) (blk (p.ind+c.nest)) else rnL p.ind v (p.chunks.drop (i+1).toNat) (s++c.text++(if c.space then [32] else [])):=by
 rw[HI hc,Dd h.1.1]
 have hl:(i.toNat+1)<p.chunks.length:=by have:=h.1;omega
 rw[List.drop_eq_getElem_cons hl,rnL]
theorem c1A(h:rnI p v i ls s)(hc:p.chunks[i.toNat]? =some c)(hi:i≠(p.chunks.length:Int)-1)(hs:DP v c=true):
 rnI p v (i+1) (ls++[s++c.text]) (blk (p.ind+c.nest)):=by
 refine⟨by have:=h.1;omega,?_⟩
 rw[←h.2,a0B h hc hi,if_pos hs];simp
theorem c1B(h:rnI p v i ls s)(hc:p.chunks[i.toNat]? =some c)(hi:i≠(p.chunks.length:Int)-1)(hs:DP v c=false)(hb:c.space=true):
 rnI p v (i+1) ls (s++c.text++[32]):=by
 refine⟨by have:=h.1;omega,?_⟩
 rw[←h.2,a0B h hc hi,if_neg (by simp [hs]),hb];rfl
theorem c1C(h:rnI p v i ls s)(hc:p.chunks[i.toNat]? =some c)(hi:i≠(p.chunks.length:Int)-1)(hs:DP v c=false)(hb:c.space=false):
 rnI p v (i+1) ls (s++c.text):=by
 refine⟨by have:=h.1;omega,?_⟩
 rw[←h.2,a0B h hc hi,if_neg (by simp [hs]),hb];simp
theorem c1D(h:renP p v)(h0:0≤i∧i<p.chunks.length)(hc:p.chunks[i.toNat]? =some c)(hi:i≠(p.chunks.length:Int)-1):(0≤c.rule∧c.rule<v.length)∧(0≤c.nest∧c.nest≤40):=by
 have:=h.ok.sp i.toNat c hc (by omega)
 rw[h.vl];exact⟨this.1,this.2.2⟩
structure spnP (p:Pc) (v:List Int) (s:Sn):Prop where
 ok:pcOk p
 vl:v.length≤p.rules.length
 sn:0≤s.fr∧s.fr≤s.tuu∧s.tuu<(p.chunks.length:Int)-1
structure BC where
 ind:Int
 ns:List Nd
 rd:Bool
def buA(c:BC)(s:Bs):AV:= .box 0 [.int .i64 c.ind,.sl true 0 2 Ru ruA s.rules,.sl true 0 5 Ch chA s.chunks,.sl true 0 3 Sn snA s.spans,.sl true 0 2 Ti tiA s.ties,nds c.ns,.str s.text,.bool c.rd]
abbrev xC {α:Type} (x:BC×List Ru×List Ch×List Sn×List Ti×List UInt8×α):Bs:=⟨x.2.1,x.2.2.1,x.2.2.2.1,x.2.2.2.2.1,x.2.2.2.2.2.1⟩
abbrev yBW (y:List Ru×List Ch×List Sn×List Ti×List UInt8):Bs:=⟨y.1,y.2.1,y.2.2.1,y.2.2.2.1,y.2.2.2.2⟩
abbrev BT:Type:=List Ru×List Ch×List Sn×List Ti×List UInt8
abbrev BX (α:Type):Type:=List Ru×List Ch×List Sn×List Ti×List UInt8×α
structure bB (s:Bs):Prop where
 ok:bOk s
 tt:tot s≤2^61
theorem IT{s:Bs}(h:bB s):s.text.length≤2^61:=by have:=h.tt;unfold tot at this;omega
theorem a7n{q:Ru→Prop}(h:q ⟨a,b⟩):∃x:Ru,a=x.vals∧b=x.cost∧q x:=⟨⟨a,b⟩,rfl,rfl,h⟩
theorem a7o{q:Ti→Prop}(h:q ⟨a,b⟩):∃x:Ti,a=x.kid∧b=x.up∧q x:=⟨⟨a,b⟩,rfl,rfl,h⟩
theorem a7p{c:Int}{q:Sn→Prop}(h:q ⟨a,b,c⟩):∃x:Sn,a=x.fr∧b=x.tuu∧c=x.cost∧q x:=⟨⟨a,b,c⟩,rfl,rfl,rfl,h⟩
theorem UH{t:List UInt8}{d:Int}{c:Bool}{q:Ch→Prop}(h:q ⟨t,a,b,c,d⟩):∃x:Ch,t=x.text∧a=x.rule∧b=x.fr∧c=x.space∧d=x.nest∧q x:=⟨⟨t,a,b,c,d⟩,rfl,rfl,rfl,rfl,rfl,h⟩
theorem UI{rd:Bool}{v c:Int}{s:Bs}(h:rd=false∨(s.rules.length:Int)≥8):Bo rd v c s=s∧Au rd s= -1:=by
 have:GN rd s=false:=by
  rcases h with h|h
  ·simp [GN,h]
  ·simp [GN];intro _;omega
 simp [Bo,Au,this]
theorem a7q{rd:Bool}{v c:Int}{s:Bs}(h:rd=true)(h2:¬(s.rules.length:Int)≥8):Bo rd v c s=⟨s.rules++[⟨v,c⟩],s.chunks,s.spans,s.ties,s.text⟩∧Au rd s=s.rules.length:=by
 have:GN rd s=true:=by simp [GN,h];omega
 simp [Bo,Au,this]
def UJ(t:List UInt8)(r f:Int)(sp:Bool)(n:Int):Ch:=⟨t,r,f,sp,min n 40⟩
theorem c1E{r fr nest:Int}{sp:Bool}{s:Bs}(h:r≥0)(h2:(s.chunks.length:Int)<79):Ba r fr sp nest s=⟨s.rules,s.chunks++[UJ s.text r fr sp nest],s.spans,s.ties,[]⟩:=by rw[Ba,if_pos ⟨by omega,by omega⟩];rfl
theorem a7r{r fr nest:Int}{sp:Bool}{s:Bs}(h:¬r≥0∨¬(s.chunks.length:Int)<79)(h2:sp=true):Ba r fr sp nest s=⟨s.rules,s.chunks,s.spans,s.ties,s.text++[32]⟩:=by rw[Ba,if_neg (by omega),if_pos h2];rfl
theorem a7s{r fr nest:Int}{sp:Bool}{s:Bs}(h:¬r≥0∨¬(s.chunks.length:Int)<79)(h2:sp=false):Ba r fr sp nest s=s:=by rw[Ba,if_neg (by omega),if_neg (by simp [h2])]
theorem c1F{k u:Int}{s:Bs}(h:k≥0)(h1:u≥0)(h2:(s.ties.length:Int)<20):CF k u s=⟨s.rules,s.chunks,s.spans,s.ties++[⟨k,u⟩],s.text⟩:=by rw[CF,if_pos (by omega)]
theorem a0C{k u:Int}{s:Bs}(h:(¬k≥0∨¬u≥0)∨¬(s.ties.length:Int)<20):CF k u s=s:=by rw[CF,if_neg (by omega)]
theorem a7t{f:Int}{s:Bs}(h:(s.chunks.length:Int)-1≥f)(h2:(s.spans.length:Int)<40):EY f s=⟨s.rules,s.chunks,s.spans++[⟨f,(s.chunks.length:Int)-1,1⟩],s.ties,s.text⟩:=by rw[EY,if_pos (by omega)]
theorem a0D{f:Int}{s:Bs}(h:¬(s.chunks.length:Int)-1≥f∨¬(s.spans.length:Int)<40):EY f s=s:=by rw[EY,if_neg (by omega)]
def El:Sig:= {X:=BC×BX (Int×Int),args:=fun x=>[buA x.1 (xC x),.q x.2.2.2.2.2.2.1,.q x.2.2.2.2.2.2.2],pre:=fun x=>bB (xC x),Y:=BT,post:=fun x y=>yBW y=Bo x.1.rd x.2.2.2.2.2.2.1 x.2.2.2.2.2.2.2 (xC x),res:=fun x y=> .q (Au x.1.rd (xC x)),outs:=fun x y=>[buA x.1 (yBW y),.top,.top],keep:=true}
theorem OQ:Ai G Tryz.prog 79 El:=
 vcFun_okP [] [(27,⟨Ru,ruA⟩)] false (fun x=>[]) Tryz.func79 rfl (by decide) trivial (fun(x:BC×BX (Int×Int))=>True∧Aa (!x.1.rd) (rA El x [.q (-1:Int),(buA x.1 (xC x)),.top,.top]) (Aa (decide ((↑((xC x).rules.length):Int)≥(8:Int))) (rA El x [.q (-1:Int),(buA x.1 (xC x)),.top,.top]) (∃(x_1:Ru),x.2.2.2.2.2.2.1=x_1.vals∧x.2.2.2.2.2.2.2=x_1.cost∧∃(zs:List Ru),oRu [x_1]=oRu zs∧BI ruA∧Bb ((xC x).rules.length+zs.length) (16:Nat)∧inR .i64 ((↑(((xC x).rules++zs).length):Int)-(1:Int))∧∃(y:BT),yBW y=Bo x.1.rd x.2.2.2.2.2.2.1 x.2.2.2.2.2.2.2 (xC x)∧(↑(((xC x).rules++zs).length):Int)-1=Au x.1.rd (xC x)∧x.1.ind=x.1.ind∧oRu ((xC x).rules++zs)=oRu (yBW y).rules∧oCh (xC x).chunks=oCh (yBW y).chunks∧oSn (xC x).spans=oSn (yBW y).spans∧oTi (xC x).ties=oTi (yBW y).ties∧nds x.1.ns=nds x.1.ns∧(xC x).text=(yBW y).text∧x.1.rd=x.1.rd∧True))) (fun x=>by kernel_rfl) fun(x:BC×BX (Int×Int)) (hx:bB (xC x))=>(by
 dsimp only[buA,CC,Br,nds,oCh,oRu,oSn,oTi,rA,CB,El,CD,CE,As,Az,AV.q]
 obtain⟨⟨i,ns,rd⟩,r,c,s,t,u,a,b⟩:=x;dsimp only[xC] at hx ⊢
 have hx:bB ⟨r,c,s,t,u⟩:=hx
 have h1:=hx.ok.ru;dsimp only at h1
 (repeat' first|refine a7n ?_|(with_reducible first|rfl|exact True.intro|apply AK|apply And.intro|((first|apply AA|apply AI|apply AB|apply AJ)<;>intro _))|(apply Av<;>intro _)|apply AH|refine Ae () ?_ ?_|((first|apply AO|apply AN|apply AM|apply AL|apply AG|apply AF|apply AE|apply AD|apply AC)<;>try dsimp only)|apply Ae|(refine Prod.forall.2 ?_;intro _;try dsimp only)|(intro _;try dsimp only))
 all_goals try(first|(have hF:= @UI rd a b ⟨r,c,s,t,u⟩ (.inl ‹_›))|(have hF:= @UI rd a b ⟨r,c,s,t,u⟩ (.inr ‹_›))|(have hF:= @a7q rd a b ⟨r,c,s,t,u⟩ ‹_› ‹_›))
 all_goals first
  |rfl
  |(simp only[hF];done)
  |(simp only[hF,List.length_append,List.length_cons,List.length_nil];omega)
  |((try simp only[An,Bb,List.length_append,List.length_cons,List.length_nil]);omega)
  |skip)
def DC:Sig:= {X:=BC×BX (Int×Int×Bool×Int),args:=fun x=>[buA x.1 (xC x),.q x.2.2.2.2.2.2.1,.q x.2.2.2.2.2.2.2.1,.bool x.2.2.2.2.2.2.2.2.1,.q x.2.2.2.2.2.2.2.2.2],pre:=fun x=>bB (xC x),Y:=BT,post:=fun x y=>yBW y=Ba x.2.2.2.2.2.2.1 x.2.2.2.2.2.2.2.1 x.2.2.2.2.2.2.2.2.1 x.2.2.2.2.2.2.2.2.2 (xC x),res:=fun x y=> .tup [],outs:=fun x y=>[buA x.1 (yBW y),.top,.top,.top,.top],keep:=true}
def c1G(x:BC×BX (Int×Int×Bool×Int)):LS:= {ι:=Unit,inv:=fun _=>x.2.2.2.2.2.2.1≥0∧((xC x).chunks.length:Int)<79,regs:=fun _=>[(0,buA x.1 ⟨(xC x).rules,(xC x).chunks++[UJ (xC x).text x.2.2.2.2.2.2.1 x.2.2.2.2.2.2.2.1 x.2.2.2.2.2.2.2.2.1 x.2.2.2.2.2.2.2.2.2],(xC x).spans,(xC x).ties,(xC x).text⟩)],als:=[],meas:=fun _=>0}
def IU(x:BC×BX (Int×Int×Bool×Int)):Prop:=∃(x_1:Ch),(xC x).text=x_1.text∧x.2.2.2.2.2.2.1=x_1.rule∧x.2.2.2.2.2.2.2.1=x_1.fr∧x.2.2.2.2.2.2.2.2.1=x_1.space∧min x.2.2.2.2.2.2.2.2.2 40=x_1.nest∧(∃(zs:List Ch),oCh [x_1]=oCh zs∧(BI chA∧(Bb ((xC x).chunks.length+zs.length) (48:Nat)∧(true=true∧(∃(i:Unit),(x.2.2.2.2.2.2.1≥(0:Int)∧(↑((xC x).chunks.length):Int)<(79:Int))∧((x.1.ind=x.1.ind∧oRu (xC x).rules=oRu (xC x).rules∧oCh ((xC x).chunks++zs)=oCh ((xC x).chunks++[UJ (xC x).text x.2.2.2.2.2.2.1 x.2.2.2.2.2.2.2.1 x.2.2.2.2.2.2.2.2.1 x.2.2.2.2.2.2.2.2.2])∧oSn (xC x).spans=oSn (xC x).spans∧oTi (xC x).ties=oTi (xC x).ties∧nds x.1.ns=nds x.1.ns∧(xC x).text=(xC x).text∧x.1.rd=x.1.rd∧True)∧True))))))
def a0E(x:BC×BX (Int×Int×Bool×Int)):Prop:=Aa x.2.2.2.2.2.2.2.2.1 ((↑((xC x).text.length+(1:Nat)):Int)≤Ag∧(rA DC x [.tup [],.box 0 [.q x.1.ind,oRu (xC x).rules,oCh (xC x).chunks,oSn (xC x).spans,oTi (xC x).ties,nds x.1.ns,.str ((xC x).text++ #[(32:UInt8)].toList),.bool x.1.rd],.top,.top,.top,.top])) (rA DC x [.tup [],(buA x.1 (xC x)),.top,.top,.top,.top])
theorem OT:Ai G Tryz.prog 80 DC:=
 vcFun_okP [] [(28,⟨Ch,chA⟩)] false (fun x=>[(100002,c1G x)]) Tryz.func80 rfl (by decide) trivial (fun(x:BC×BX (Int×Int×Bool×Int))=>True∧Aa (decide (x.2.2.2.2.2.2.1≥(0:Int))) (Aa (decide ((↑((xC x).chunks.length):Int)<(79:Int))) (true=true∧(((IU x)∧(IU x))∧((IU x)∧((IU x)∧((IU x)∧(IU x))))∧((IU x)∧((IU x)∧((IU x)∧(IU x)))))∧∀(i:Unit),x.2.2.2.2.2.2.1≥(0:Int)∧(↑((xC x).chunks.length):Int)<(79:Int)→rA DC x [.tup [],.box 0 [.q x.1.ind,oRu (xC x).rules,oCh ((xC x).chunks++[UJ (xC x).text x.2.2.2.2.2.2.1 x.2.2.2.2.2.2.2.1 x.2.2.2.2.2.2.2.2.1 x.2.2.2.2.2.2.2.2.2]),oSn (xC x).spans,oTi (xC x).ties,nds x.1.ns,.str #[].toList,.bool x.1.rd],.top,.top,.top,.top]) (a0E x)) (a0E x)) (fun x=>by kernel_rfl) fun(x:BC×BX (Int×Int×Bool×Int)) (hx:bB (xC x))=>(by
 dsimp only[a0E,IU,buA,CC,Br,nds,oCh,oRu,oSn,oTi,rA,CB,DC,CD,CE,As,Az,Ag,AV.q]
 obtain⟨⟨i,ns,rd⟩,r,c,s,t,u,a,b,d,e⟩:=x;dsimp only[xC] at hx ⊢
 have hx:bB ⟨r,c,s,t,u⟩:=hx
 have h1:=hx.ok.ch;have h2:=IT hx;dsimp only at h1 h2
 (repeat' first|refine UH ?_|(with_reducible first|rfl|exact True.intro|apply AK|apply And.intro|((first|apply AA|apply AI|apply AB|apply AJ)<;>intro _))|(apply Av<;>intro _)|apply AH|refine Ae () ?_ ?_|((first|apply AO|apply AN|apply AM|apply AL|apply AG|apply AF|apply AE|apply AD|apply AC)<;>try dsimp only)|apply Ae|(refine Prod.forall.2 ?_;intro _;try dsimp only)|(intro _;try dsimp only))
 all_goals try(first|(have hF:= @c1E a b e d ⟨r,c,s,t,u⟩ ‹_› ‹_›)|(have hF:= @a7r a b e d ⟨r,c,s,t,u⟩ (.inl ‹_›) ‹_›)|(have hF:= @a7r a b e d ⟨r,c,s,t,u⟩ (.inr ‹_›) ‹_›)|(have hF:= @a7s a b e d ⟨r,c,s,t,u⟩ (.inl ‹_›) ‹_›)|(have hF:= @a7s a b e d ⟨r,c,s,t,u⟩ (.inr ‹_›) ‹_›))
 all_goals first
  |rfl
  |(simp only[hF];done)
  |((try simp only[An,Bb,List.length_append,List.length_cons,List.length_nil]);omega)
  |skip)
def IV:Sig:= {X:=BC×BX (Int×Int),args:=fun x=>[buA x.1 (xC x),.q x.2.2.2.2.2.2.1,.q x.2.2.2.2.2.2.2],pre:=fun x=>bB (xC x),Y:=BT,post:=fun x y=>yBW y=CF x.2.2.2.2.2.2.1 x.2.2.2.2.2.2.2 (xC x),res:=fun x y=> .tup [],outs:=fun x y=>[buA x.1 (yBW y),.top,.top],keep:=true}
theorem a7u:Ai G Tryz.prog 140 IV:=
 vcFun_okP [] [(30,⟨Ti,tiA⟩)] false (fun x=>[]) Tryz.func140 rfl (by decide) trivial (fun(x:BC×BX (Int×Int))=>True∧Aa (decide (x.2.2.2.2.2.2.1≥(0:Int))) (Aa (decide (x.2.2.2.2.2.2.2≥(0:Int))) (Aa (decide ((↑((xC x).ties.length):Int)<(20:Int))) (∃(x_1:Ti),x.2.2.2.2.2.2.1=x_1.kid∧x.2.2.2.2.2.2.2=x_1.up∧∃(zs:List Ti),oTi [x_1]=oTi zs∧BI tiA∧Bb ((xC x).ties.length+zs.length) (16:Nat)∧∃(y:BT),yBW y=CF x.2.2.2.2.2.2.1 x.2.2.2.2.2.2.2 (xC x)∧x.1.ind=x.1.ind∧oRu (xC x).rules=oRu (yBW y).rules∧oCh (xC x).chunks=oCh (yBW y).chunks∧oSn (xC x).spans=oSn (yBW y).spans∧oTi ((xC x).ties++zs)=oTi (yBW y).ties∧nds x.1.ns=nds x.1.ns∧(xC x).text=(yBW y).text∧x.1.rd=x.1.rd∧True) (rA IV x [.tup [],(buA x.1 (xC x)),.top,.top])) (rA IV x [.tup [],(buA x.1 (xC x)),.top,.top])) (rA IV x [.tup [],(buA x.1 (xC x)),.top,.top])) (fun x=>by kernel_rfl) fun(x:BC×BX (Int×Int)) (hx:bB (xC x))=>(by
 dsimp only[buA,CC,Br,nds,oCh,oRu,oSn,oTi,rA,CB,IV,CD,CE,As,Az,AV.q]
 obtain⟨⟨i,ns,rd⟩,r,c,s,t,u,a,b⟩:=x;dsimp only[xC] at hx ⊢
 have hx:bB ⟨r,c,s,t,u⟩:=hx
 have h1:=hx.ok.ti;dsimp only at h1
 (repeat' first|refine a7o ?_|(with_reducible first|rfl|exact True.intro|apply AK|apply And.intro|((first|apply AA|apply AI|apply AB|apply AJ)<;>intro _))|(apply Av<;>intro _)|apply AH|refine Ae () ?_ ?_|((first|apply AO|apply AN|apply AM|apply AL|apply AG|apply AF|apply AE|apply AD|apply AC)<;>try dsimp only)|apply Ae|(refine Prod.forall.2 ?_;intro _;try dsimp only)|(intro _;try dsimp only))
 all_goals try(first|(have hF:= @c1F a b ⟨r,c,s,t,u⟩ ‹_› ‹_› ‹_›)|(have hF:= @a0C a b ⟨r,c,s,t,u⟩ (.inl (.inl ‹_›)))|(have hF:= @a0C a b ⟨r,c,s,t,u⟩ (.inl (.inr ‹_›)))|(have hF:= @a0C a b ⟨r,c,s,t,u⟩ (.inr ‹_›)))
 all_goals first
  |rfl
  |(simp only[hF];done)
  |((try simp only[An,Bb,List.length_append,List.length_cons,List.length_nil]);omega)
  |skip)
def MU:Sig:= {X:=BC×BX Int,args:=fun x=>[buA x.1 (xC x),.q x.2.2.2.2.2.2],pre:=fun x=>bB (xC x),Y:=BT,post:=fun x y=>yBW y=EY x.2.2.2.2.2.2 (xC x),res:=fun x y=> .tup [],outs:=fun x y=>[buA x.1 (yBW y),.top],keep:=true}
theorem c1H:Ai G Tryz.prog 141 MU:=
 vcFun_okP [] [(29,⟨Sn,snA⟩)] false (fun x=>[]) Tryz.func141 rfl (by decide) trivial (fun(x:BC×BX Int)=>True∧inR .i64 ((↑((xC x).chunks.length):Int)-(1:Int))∧Aa (decide ((↑((xC x).chunks.length):Int)-1≥x.2.2.2.2.2.2)) (Aa (decide ((↑((xC x).spans.length):Int)<(40:Int))) (∃(x_1:Sn),x.2.2.2.2.2.2=x_1.fr∧(↑((xC x).chunks.length):Int)-1=x_1.tuu∧1=x_1.cost∧∃(zs:List Sn),oSn [x_1]=oSn zs∧BI snA∧Bb ((xC x).spans.length+zs.length) (24:Nat)∧∃(y:BT),yBW y=EY x.2.2.2.2.2.2 (xC x)∧x.1.ind=x.1.ind∧oRu (xC x).rules=oRu (yBW y).rules∧oCh (xC x).chunks=oCh (yBW y).chunks∧oSn ((xC x).spans++zs)=oSn (yBW y).spans∧oTi (xC x).ties=oTi (yBW y).ties∧nds x.1.ns=nds x.1.ns∧(xC x).text=(yBW y).text∧x.1.rd=x.1.rd∧True) (rA MU x [.tup [],(buA x.1 (xC x)),.top])) (rA MU x [.tup [],(buA x.1 (xC x)),.top])) (fun x=>by kernel_rfl) fun(x:BC×BX Int) (hx:bB (xC x))=>(by
 dsimp only[buA,CC,Br,nds,oCh,oRu,oSn,oTi,rA,CB,MU,CD,CE,As,Az,AV.q]
 obtain⟨⟨i,ns,rd⟩,r,c,s,t,u,a⟩:=x;dsimp only[xC] at hx ⊢
 have hx:bB ⟨r,c,s,t,u⟩:=hx
 have h1:=hx.ok.sp;have h2:=hx.ok.ch;dsimp only at h1 h2
 (repeat' first|refine a7p ?_|(with_reducible first|rfl|exact True.intro|apply AK|apply And.intro|((first|apply AA|apply AI|apply AB|apply AJ)<;>intro _))|(apply Av<;>intro _)|apply AH|refine Ae () ?_ ?_|((first|apply AO|apply AN|apply AM|apply AL|apply AG|apply AF|apply AE|apply AD|apply AC)<;>try dsimp only)|apply Ae|(refine Prod.forall.2 ?_;intro _;try dsimp only)|(intro _;try dsimp only))
 all_goals try(first|(have hF:= @a7t a ⟨r,c,s,t,u⟩ ‹_› ‹_›)|(have hF:= @a0D a ⟨r,c,s,t,u⟩ (.inl ‹_›))|(have hF:= @a0D a ⟨r,c,s,t,u⟩ (.inr ‹_›)))
 all_goals first
  |rfl
  |(simp only[hF];done)
  |((try simp only[An,Bb,List.length_append,List.length_cons,List.length_nil]);omega)
  |skip)
end Go.My
end
section
namespace Go.My
open Go.Eng
variable {F:List Int→Int→Bs→Bs}{a c fr i ind inner k r v:Int}{f:Int→Int→Bs→Bs}{ks:List Int}{m n:Nat}{ns:List Nd}{post pre:List UInt8}{rd:Bool}{s s0 t:Bs}{w:Int→Nat}
def bR(m:Nat)(s:Bs):Prop:=bOk s∧tot s+m≤2^61
theorem DD(h:bR m s):bB s:=⟨h.1,by have:=h.2;omega⟩
theorem OU{k:Nat}(h:bR m s)(hl:bLe rd k s t∧(bOk s→bOk t))(hm:n+k≤m):bR n t:=⟨hl.2 h.1,by have:=hl.1.tt;have:=h.2;omega⟩
theorem DQ(h:bR m s)(hm:n≤m):bR n s:=⟨h.1,by have:=h.2;omega⟩
theorem Ln{t:List UInt8}(h:bR m s)(hm:n+t.length≤m):bR n (Aq t s):=OU (rd:=true) h ⟨EZ,Fa⟩ hm
theorem Lo{nest:Int}{sp:Bool}(h:bR m s)(hm:n+1≤m):bR n (Ba r fr sp nest s):=OU (rd:=true) h ⟨Hm,Ib⟩ hm
theorem Jw(h:bR m s):bR m (Bo rd v c s):=OU (rd:=rd) (k:=0) h ⟨MP,ON⟩ (by omega)
structure lpS (rd:Bool) (F:List Int→Int→Bs→Bs) (st:Int→Int→Bs→Bs) (w:Int→Nat) (ks:List Int):Prop where
 e0:∀i s,F [] i s=s
 e1:∀c l i s,0≤i→F (c::l) i s=F l (i+1) (st c i s)
 le:∀c∈ks,∀i s,bLe rd (w c) s (st c i s)∧(bOk s→bOk (st c i s))
def Jx(F:List Int→Int→Bs→Bs)(w:Int→Nat)(ks:List Int)(m:Nat)(s0:Bs)(i:Int)(s:Bs):Prop:=
 (0≤i∧i≤ks.length)∧F (ks.drop i.toNat) i s=F ks 0 s0∧bR (wL w (ks.drop i.toNat)+m) s
theorem UK(h:bR (wL w ks+m) s0):Jx F w ks m s0 0 s0:=⟨by omega,rfl,h⟩
theorem Rh{st:Int→Int→Bs→Bs}(hs:lpS rd F st w ks)(h:Jx F w ks m s0 i s)(hc:ks[i.toNat]? =some c):Jx F w ks m s0 (i+1) (st c i s):=by
 have hl:=(Ek hc).1
 have h2:=h.2.1;have h3:=h.2.2
 rw[HI hc] at h2 h3
 rw[hs.e1 _ _ _ _ h.1.1] at h2
 rw[FI] at h3
 refine⟨by have:=h.1;omega,?_,?_⟩
 ·rw[Dd h.1.1];exact h2
 ·rw[Dd h.1.1];exact OU h3 (hs.le c (Bm hc) i s) (by omega)
theorem OV{st:Int→Int→Bs→Bs}(hs:lpS rd F st w ks)(h:Jx F w ks m s0 i s)(hi:¬i<ks.length):s=F ks 0 s0∧bR m s:=by
 have h2:=h.2.1;have h3:=h.2.2
 rw[List.drop_of_length_le (by omega)] at h2 h3
 rw[hs.e0] at h2
 exact⟨h2,DQ h3 (by omega)⟩
theorem Ri(h:Jx F w ks m s0 i s):0≤i∧i≤ks.length:=h.1
theorem UL(h:Jx F w ks m s0 i s)(hc:ks[i.toNat]? =some c):bR (w c+m) s:=by
 have h3:=h.2.2
 rw[HI hc,FI] at h3
 exact DQ h3 (by omega)
def itF(f:Int→Int→Bs→Bs)(r g inner:Int)(l:List Int)(i:Int)(s:Bs):Bs:=itL f r g inner l (decide (i=0)) s
def itS(f:Int→Int→Bs→Bs)(r g inner:Int)(c i:Int)(s:Bs):Bs:=f c inner (if i=0 then s else Ba r g true inner (Aq [44] s))
theorem c1I{g:Int}(h:stp rd w f ks):lpS rd (itF f r g inner) (itS f r g inner) (fun c=>2+w c) ks where
 e0 i s:=rfl
 e1 c l i s hi:=by
  rw[itF,itL,itF,itS,decide_eq_false (show¬i+1=0 by omega)]
  by_cases e:i=0<;>simp [e]
 le c hc i s:=by
  have h1:bLe rd 2 s (if i=0 then s else Ba r g true inner (Aq [44] s))∧(bOk s→bOk (if i=0 then s else Ba r g true inner (Aq [44] s))):=by
   split
   ·exact⟨Db GP (by omega),id⟩
   ·exact⟨Cm (m:=1) (n:=1) (EZ (t:=[44])) Hm,fun ho=>Ib (Fa ho)⟩
  have h2:=h c hc inner (if i=0 then s else Ba r g true inner (Aq [44] s))
  exact⟨Cm h1.1 h2.1,fun ho=>h2.2 (h1.2 ho)⟩
def UM(ns:List Nd)(f:Int→Int→Bs→Bs)(r inner:Int)(t:List UInt8)(l:List Int)(i:Int)(s:Bs):Bs:=chL ns f r inner t l (decide (i=0)) s
def UN(ns:List Nd)(f:Int→Int→Bs→Bs)(r inner:Int)(t:List UInt8)(c i:Int)(s:Bs):Bs:=Hk ns f r inner c (if i=0 then s else Ba r 1 true inner (Aq (32::t) s))
theorem c1J{t:List UInt8}(ht:t.length≤2)(h:stp rd w f ks):lpS rd (UM ns f r inner t) (UN ns f r inner t) (fun c=>4+w c) ks where
 e0 i s:=rfl
 e1 c l i s hi:=by
  rw[UM,chL,UM,UN,decide_eq_false (show¬i+1=0 by omega)]
  by_cases e:i=0<;>simp [e]
 le c hc i s:=by
  have h1:bLe rd 4 s (if i=0 then s else Ba r 1 true inner (Aq (32::t) s))∧(bOk s→bOk (if i=0 then s else Ba r 1 true inner (Aq (32::t) s))):=by
   split
   ·exact⟨Db GP (by omega),id⟩
   ·exact⟨Db (Cm (n:=1) EZ Hm) (by simp;omega),fun ho=>Ib (Fa ho)⟩
  have h2:=a6U (ns:=ns) (r:=r) (inner:=inner) (s:=if i=0 then s else Ba r 1 true inner (Aq (32::t) s)) (h c hc)
  exact⟨Cm h1.1 h2.1,fun ho=>h2.2 (h1.2 ho)⟩
def pkS(ns:List Nd)(f:Int→Int→Bs→Bs)(r inner:Int)(c i:Int)(s:Bs):Bs:=Hl ns f r inner c (if i=0 then s else Aq (pkT i) (Ba r 1 true inner s))
theorem c1K(h:stp rd w f ks):lpS rd (pkL ns f r inner) (pkS ns f r inner) (fun c=>3+w c) ks where
 e0 i s:=rfl
 e1 c l i s hi:=rfl
 le c hc i s:=by
  have h1:bLe rd 3 s (if i=0 then s else Aq (pkT i) (Ba r 1 true inner s))∧(bOk s→bOk (if i=0 then s else Aq (pkT i) (Ba r 1 true inner s))):=by
   split
   ·exact⟨Db GP (by omega),id⟩
   ·exact⟨Db (Cm (m:=1) Hm EZ) (by have:= @a0n i;omega),fun ho=>Fa (Ib ho)⟩
  have h2:=a6V (ns:=ns) (r:=r) (inner:=inner) (s:=if i=0 then s else Aq (pkT i) (Ba r 1 true inner s)) (h c hc)
  exact⟨Cm h1.1 h2.1,fun ho=>h2.2 (h1.2 ho)⟩
def caF(f:Int→Int→Bs→Bs)(r inner:Int)(l:List Int)(i:Int)(s:Bs):Bs:=caL f r inner l s
def caS(f:Int→Int→Bs→Bs)(r inner:Int)(c i:Int)(s:Bs):Bs:=f c inner (Aq [46,46] (Ba r 1 false inner s))
theorem c1L(h:stp rd w f ks):lpS rd (caF f r inner) (caS f r inner) (fun c=>3+w c) ks where
 e0 i s:=rfl
 e1 c l i s hi:=rfl
 le c hc i s:=by
  have h1:bLe rd 3 s (Aq [46,46] (Ba r 1 false inner s))∧(bOk s→bOk (Aq [46,46] (Ba r 1 false inner s))):=
   ⟨Db (Cm (m:=1) Hm EZ) (by simp),fun ho=>Fa (Ib ho)⟩
  have h2:=h c hc inner (Aq [46,46] (Ba r 1 false inner s))
  exact⟨Cm h1.1 h2.1,fun ho=>h2.2 (h1.2 ho)⟩
theorem Rj{w:Int→Nat}{k:Nat}:∀ {l:List Int},wL (fun c=>k+w c) l=k*l.length+wL w l
 |[]=>by simp [wL]
 |c::l=>by rw[FI,FI,Rj,List.length_cons,Nat.mul_succ];omega
theorem UO(h:CS ns k)(hk:k<n)(h7:Bc ns k=7∨Bc ns k=8):DI s.rules.length (bV ns rd n k a s)=Ia rd (Ab ns k) s:=by
 have hv:Bf (Bc ns k)=true:=by rcases h7 with e|e<;>rw[e]<;>rfl
 have hle:=(Lk (rd:=rd) (a:=a) (s:=s) h hk hv).1
 have hr:=BB.1 h.1
 obtain⟨m,rfl⟩:∃m,n=m+1:=⟨n-1,by omega⟩
 unfold Bc at h7
 have hs:stp rd (tW ns m) (bV ns rd m) (Ab ns k).kids:=c1f h hk hv fun c hc=>hc
 rw[Ia,if_pos h7,Au]
 by_cases hb:GN rd s=true
 ·rw[if_pos hb]
  have h1:(Bo rd 2 1 s).rules.length=s.rules.length+1:=by rw[Bo,if_pos hb];simp
  have h2:(Bo rd 2 1 s).rules.length≤(bV ns rd (m+1) k a s).rules.length:=by
   rw[bV]
   unfold bV1
   rcases h7 with e|e
   ·simp only[e,Kf]
    exact(a0m (t:=(Ab ns k).text) (a0p h e) hs).1.ru
   ·simp only[e,Lj]
    exact(a0o hs).1.ru
  rw[DI,if_pos (by omega)]
 ·rw[if_neg hb]
  have:=hle.fu (by simpa using hb)
  rw[DI,this,if_neg (by omega)]
theorem Kk{s t:List UInt8}:BD (s++t)=(BD s&&BD t):=by simp [BD]
theorem c1M{c:UInt8}(h:BM c=true):BJ c=true:=by
 simp only[BM,Ck,Bn,Bool.or_eq_true,Bool.and_eq_true,decide_eq_true_eq] at h
 simp only[BJ,Bool.and_eq_true,decide_eq_true_eq];omega
theorem c1N{c:UInt8}(h:Bn c=true):BJ c=true:=by
 simp only[Bn,Bool.or_eq_true,Bool.and_eq_true,decide_eq_true_eq] at h
 simp only[BJ,Bool.and_eq_true,decide_eq_true_eq];omega
theorem a7v{p:UInt8→Bool}(hp:∀c,p c=true→BJ c=true){s:List UInt8}(h:s.all p=true):BD s=true:=by
 rw[BD,List.all_eq_true];rw[List.all_eq_true] at h
 exact fun c hc=>hp c (h c hc)
theorem c1O{s:List UInt8}(h:DL s=true):BD s=true:=by
 simp only[DL,Bool.and_eq_true] at h
 have h:=h.1
 rw[Yc] at h
 cases s with
 |nil=>rfl
 |cons b s=>
  simp only[Bool.and_eq_true] at h
  exact a7v (fun c hc=>c1M hc) h.2.1
theorem c1P{s:List UInt8}(h:Cr s 2=true):BD s=true:=by
 rw[Yd] at h
 simp only[Bool.and_eq_true] at h
 exact a7v (fun c hc=>c1N hc) h.1
theorem c1Q{s:List UInt8}(h:Cr s 3=true):BD s=true:=by
 have h2:=h
 rw[SF] at h2
 cases s with
 |nil=>rfl
 |cons c t=>
  simp only[Bool.and_eq_true] at h2
  have h39:c.toNat=39:=by simpa [isQ] using h2.1
  have hc:Ck c=false:=by simp [Ck];omega
  have hf:Bn c=false:=by simp [Bn];omega
  simp only[Cr,Bg,hc,hf,h39,Bool.false_eq_true,if_false,if_true,Bool.and_eq_true,beq_iff_eq] at h
  obtain⟨_,h4,_,h5,_⟩:=h
  unfold DK at h4 h5
  split at h4
  ·cases h4
  ·rename_i i hi
   simp only[hi] at h5
   rw[h5] at h4;exact h4
theorem c1R{s:List UInt8}(h:JG s=true):BD s=true:=by
 simp only[JG,Bool.or_eq_true,beq_iff_eq] at h
 rcases h with rfl|rfl|rfl|rfl|rfl|rfl|rfl<;>decide
theorem c1S{s:List UInt8}(h:EO k s=true)(hk:Bf k=true):BD s=true:=by
 have hv:=BW.1 hk
 unfold EO at h
 split at h
 ·exact c1O h
 split at h
 ·exact c1P h
 split at h
 ·exact c1Q h
 split at h
 ·omega
 split at h
 ·exact c1R h
 ·simp at h;rw[h];rfl
structure bW (s:Bs):Prop where
 ru:∀r∈s.rules,(2≤r.vals∧r.vals≤3)∧1≤r.cost∧r.cost≤2
 ch:∀c∈s.chunks,BD c.text=true∧(0≤c.rule∧c.rule<s.rules.length)∧(1≤c.fr∧c.fr<(s.rules.getD c.rule.toNat ru0).vals)∧0≤c.nest∧c.nest≤40
 sp:∀x∈s.spans,(0≤x.fr∧x.fr≤x.tuu∧x.tuu<s.chunks.length)∧x.cost=1
 ti:∀x∈s.ties,(0≤x.kid∧x.kid<s.rules.length)∧(0≤x.up∧x.up<s.rules.length)∧x.kid≠x.up
 tx:BD s.text=true
structure bG (s t:Bs):Prop where
 w:bW t
 ru:∃e,t.rules=s.rules++e
def rIn(s:Bs)(r fr:Int):Prop:=r<0∨((0≤r∧r<s.rules.length)∧fr<(s.rules.getD r.toNat ru0).vals)
theorem a7w{α:Type}{l e:List α}{i:Nat}{d:α}(h:i<l.length):(l++e).getD i d=l.getD i d:=by simp [List.getD,List.getElem?_append_left h]
theorem Hp(h:rIn s r fr)(g:bG s t):rIn t r fr:=by
 obtain⟨e,he⟩:=g.ru
 rcases h with h|⟨h1,h2⟩
 ·exact .inl h
 ·refine .inr ⟨by rw[he,List.length_append];omega,?_⟩
  rw[he,a7w (by omega)];exact h2
theorem IW(h:bW s):bG s s:=⟨h,[],by simp⟩
theorem Df{u:Bs}(h:bG s t)(g:bG t u):bG s u:=by
 obtain⟨e,he⟩:=h.ru;obtain⟨f,hf⟩:=g.ru
 exact⟨g.w,e++f,by rw[hf,he,List.append_assoc]⟩
theorem Hq{t:List UInt8}(h:bW s)(ht:BD t=true):bG s (Aq t s):=⟨⟨h.ru,h.ch,h.sp,h.ti,by show BD (s.text++t)=true;rw[Kk,h.tx,ht];rfl⟩,[],by simp [Aq]⟩
theorem OW(h:bW s)(hv:2≤v∧v≤3)(hc:1≤c∧c≤2):bG s (Bo rd v c s):=by
 unfold Bo
 split
 ·refine⟨⟨fun r hr=> ?_,fun x hx=> ?_,h.sp,fun x hx=> ?_,h.tx⟩,[⟨v,c⟩],rfl⟩
  ·rcases List.mem_append.1 hr with hr|hr
   ·exact h.ru r hr
   ·simp at hr;subst hr;exact⟨hv,hc⟩
  ·have:=h.ch x hx
   simp only[List.length_append,List.length_cons,List.length_nil]
   rw[a7w (by omega)]
   exact⟨this.1,by omega,this.2.2⟩
  ·have:=h.ti x hx
   simp only[List.length_append,List.length_cons,List.length_nil]
   omega
 ·exact IW h
theorem OX(hf:fr<v):rIn (Bo rd v c s) (Au rd s) fr:=by
 unfold Bo Au
 split
 ·refine .inr ⟨by simp;omega,?_⟩
  simp [List.getD,hf]
 ·exact .inl (by omega)
theorem Lp{nest:Int}{sp:Bool}(h:bW s)(hr:rIn s r fr)(hf:1≤fr)(hn:0≤nest):bG s (Ba r fr sp nest s):=by
 unfold Ba
 split
 ·rename_i hc
  refine⟨⟨h.ru,fun x hx=> ?_,fun x hx=> ?_,h.ti,rfl⟩,[],by simp⟩
  ·rcases List.mem_append.1 hx with hx|hx
   ·exact h.ch x hx
   ·simp at hx;subst hx
    rcases hr with hr|hr
    ·omega
    ·exact⟨h.tx,hr.1,⟨hf,hr.2⟩,by show 0≤min nest 40;omega,by show min nest 40≤40;omega⟩
  ·have:=h.sp x hx
   simp only[List.length_append,List.length_cons,List.length_nil]
   omega
 ·split
  ·exact Hq h rfl
  ·exact IW h
theorem c1T{u:Int}(h:bW s)(hk:k<s.rules.length)(hu:u<s.rules.length)(hne:0≤k→k≠u):bG s (CF k u s):=by
 unfold CF
 split
 ·rename_i hc
  refine⟨⟨h.ru,h.ch,h.sp,fun x hx=> ?_,h.tx⟩,[],by simp⟩
  rcases List.mem_append.1 hx with hx|hx
  ·exact h.ti x hx
  ·simp at hx;subst hx
   exact⟨⟨hc.1.1,hk⟩,⟨hc.1.2,hu⟩,hne hc.1.1⟩
 ·exact IW h
theorem c1U{f:Int}(h:bW s)(hf:0≤f):bG s (EY f s):=by
 unfold EY
 split
 ·rename_i hc
  refine⟨⟨h.ru,h.ch,fun x hx=> ?_,h.ti,h.tx⟩,[],by simp⟩
  rcases List.mem_append.1 hx with hx|hx
  ·exact h.sp x hx
  ·simp at hx;subst hx
   exact⟨⟨hf,hc.1,by show(s.chunks.length:Int)-1<s.chunks.length;omega⟩,rfl⟩
 ·exact IW h
def Lq(f:Int→Int→Bs→Bs)(l:List Int):Prop:=∀c∈l,∀a s,0≤a→bW s→bG s (f c a s)
theorem UP{l:List Int}(h:Lq f (c::l)):Lq f l:=fun d hd=>h d (by simp [hd])
theorem a7x{f:Int→Int→Bs→Bs}{r g inner:Int}(hg:1≤g)(hi:0≤inner):∀ {l:List Int} {first:Bool} {s:Bs},Lq f l→bW s→rIn s r g→bG s (itL f r g inner l first s)
 |[],_,s,_,h,_=>IW h
 |c::l,first,s,hf,h,hr=>by
  have h1:bG s (if first then s else Ba r g true inner (Aq [44] s)):=by
   split
   ·exact IW h
   ·have h2:=Hq h (t:=[44]) rfl
    exact Df h2 (Lp h2.w (Hp hr h2) hg hi)
  have h2:=Df h1 (hf c (by simp) inner _ hi h1.w)
  rw[itL]
  exact Df h2 (a7x hg hi (UP hf) h2.w (Hp hr h2))
theorem a7y{op en:List UInt8}(hf:Lq f ks)(h:bW s)(ho:BD op=true)(he:BD en=true)(ha:0≤a):bG s (Eg rd f op ks en a s):=by
 have h1:=Hq h ho
 unfold Eg
 split
 ·exact Df h1 (Hq h1.w he)
 ·rename_i hne
  have hk:0<ks.length:=List.length_pos_iff.2 hne
  have hu:0≤up4 a:=by unfold up4;omega
  have h2:=Df h1 (OW (rd:=rd) (v:=min ks.length 2+1) (c:=1) h1.w (by omega) (by omega))
  have hr:∀g:Int,g<min ks.length 2+1→rIn (Bo rd (min ks.length 2+1) 1 (Aq op s)) (Au rd (Aq op s)) g:=fun g hg=>OX hg
  have h3:=Lp (nest:=up4 a) (sp:=false) h2.w (hr 1 (by omega)) (by omega) hu
  have h4:=a7x (g:=min ks.length 2) (first:=true) (by omega) hu hf h3.w (Hp (hr (min ks.length 2) (by omega)) h3)
  have h5:=Lp (nest:=a) (sp:=false) h4.w (Hp (Hp (hr 1 (by omega)) h3) h4) (by omega) ha
  exact Df h2 (Df h3 (Df h4 (Df h5 (Hq h5.w he))))
theorem a0F(h:rIn s r fr):r<s.rules.length:=by rcases h with h|h<;>omega
theorem c1V:DI n s<s.rules.length:=by unfold DI;split<;>omega
theorem a7z(hn:r<n)(hg:bG s t)(hr:rIn s r 1):bG s (CF (DI n t) r t):=
 Df hg (c1T hg.w c1V (a0F (Hp hr hg)) (fun h=>by unfold DI at h ⊢;split at h<;>simp_all<;>omega))
theorem c1W{s:Bs}(hf:∀a s,0≤a→bW s→bG s (f c a s))(hi:0≤inner)(h:bW s)(hr:rIn s r 1):bG s (Hk ns f r inner c s):=by
 have h1:=hf inner s hi h
 have h2:bG s (if Bc ns c=7 then CF (DI s.rules.length (f c inner s)) r (f c inner s) else f c inner s):=by
  split
  ·exact a7z (by have:=a0F hr;omega) h1 hr
  ·exact h1
 unfold Hk
 simp only
 split
 ·exact h2
 ·exact Df h2 (c1U h2.w (by omega))
theorem a7A{ns:List Nd}{f:Int→Int→Bs→Bs}{r inner:Int}{t:List UInt8}(hi:0≤inner)(ht:BD t=true):∀ {l:List Int} {first:Bool} {s:Bs},Lq f l→bW s→rIn s r 1→bG s (chL ns f r inner t l first s)
 |[],_,s,_,h,_=>IW h
 |c::l,first,s,hf,h,hr=>by
  have h1:bG s (if first then s else Ba r 1 true inner (Aq (32::t) s)):=by
   split
   ·exact IW h
   ·have h2:=Hq h (t:=32::t) (by rw[show(32::t:List UInt8)=[32]++t from rfl,Kk,ht];rfl)
    exact Df h2 (Lp h2.w (Hp hr h2) (by omega) hi)
  have h2:=Df h1 (c1W (ns:=ns) (hf c (by simp)) hi h1.w (Hp hr h1))
  rw[chL]
  exact Df h2 (a7A hi ht (UP hf) h2.w (Hp hr h2))
theorem c1X{s:Bs}(hf:∀a s,0≤a→bW s→bG s (f c a s))(hi:0≤inner)(h:bW s)(hr:rIn s r 1):bG s (Hl ns f r inner c s):=by
 have h1:=hf inner s hi h
 unfold Hl
 split
 ·exact a7z (by have:=a0F hr;omega) h1 hr
 ·exact h1
theorem c1Y:BD (pkT i)=true:=by
 unfold pkT;split
 ·rfl
 ·split<;>rfl
theorem a7B{ns:List Nd}{f:Int→Int→Bs→Bs}{r inner:Int}(hi:0≤inner):∀ {l:List Int} {i:Int} {s:Bs},Lq f l→bW s→rIn s r 1→bG s (pkL ns f r inner l i s)
 |[],_,s,_,h,_=>IW h
 |c::l,i,s,hf,h,hr=>by
  have h1:bG s (if i=0 then s else Aq (pkT i) (Ba r 1 true inner s)):=by
   split
   ·exact IW h
   ·have h2:=Lp (nest:=inner) (sp:=true) h hr (by omega) hi
    exact Df h2 (Hq h2.w c1Y)
  have h2:=Df h1 (c1X (ns:=ns) (hf c (by simp)) hi h1.w (Hp hr h1))
  rw[pkL]
  exact Df h2 (a7B hi (UP hf) h2.w (Hp hr h2))
theorem a7C{f:Int→Int→Bs→Bs}{r inner:Int}(hi:0≤inner):∀ {l:List Int} {s:Bs},Lq f l→bW s→rIn s r 1→bG s (caL f r inner l s)
 |[],s,_,h,_=>IW h
 |c::l,s,hf,h,hr=>by
  have h1:=Lp (nest:=inner) (sp:=false) h hr (by omega) hi
  have h2:=Df h1 (Hq (t:=[46,46]) h1.w rfl)
  have h3:=Df h2 (hf c (by simp) inner _ hi h2.w)
  rw[caL]
  exact Df h3 (a7C hi (UP hf) h3.w (Hp hr h3))
theorem a7D{ns:List Nd}:∀ {l:List Int} {first:Bool},(∀c∈l,BD (Ab ns c).text=true)→BD (Fr ns l first)=true
 |[],_,_=>rfl
 |c::l,first,h=>by
  rw[Fr,Kk,Kk,h c (by simp),a7D fun d hd=>h d (by simp [hd])]
  split<;>rfl
theorem c1Z{x:Nd}(hf:Lq f x.kids)(h:bW s)(ha:0≤a)(hx:BD x.text=true)(hn:∀c∈x.kids,BD (Ab ns c).text=true)
 (hp:x.kind≠1→x.kind≠2→x.kind≠3→x.kind≠4→0<x.kids.length):bG s (bV1 ns rd f x a s):=by
 have hu:0≤up4 a:=by unfold up4;omega
 unfold bV1
 split
 ·exact Hq h hx
 split
 ·have h1:=Hq (t:=[40]) h rfl
  have h2:=hf _ (Ju (x:=x) (i:=0) (hp (by omega) (by omega) (by omega) (by omega))) a _ ha h1.w
  exact Df (Df h1 h2) (Hq h2.w rfl)
 split
 ·have h2:=hf _ (Ju (x:=x) (i:=0) (hp (by omega) (by omega) (by omega) (by omega))) a _ ha h
  exact Df h2 (Hq h2.w (by rw[show(46::x.text:List UInt8)=[46]++x.text from rfl,Kk,hx];rfl))
 split
 ·exact a7y hf h rfl rfl ha
 split
 ·have h2:=hf _ (Ju (x:=x) (i:=0) (hp (by omega) (by omega) (by omega) (by omega))) a _ ha h
  exact Df h2 (a7y (fun c hc=>hf c (List.mem_of_mem_drop hc)) h2.w rfl rfl ha)
 split
 ·have h1:=OW (rd:=rd) (v:=2) (c:=1) h (by omega) (by omega)
  exact Df h1 (a7A hu hx hf h1.w (OX (by omega)))
 split
 ·have h1:=OW (rd:=rd) (v:=2) (c:=1) h (by omega) (by omega)
  exact Df h1 (a7B hu hf h1.w (OX (by omega)))
 split
 ·have h0:BD (DJ ns x++[32,61,62])=true:=by
   rw[Kk,DJ,show∀l:List UInt8,(40::l)=[40]++l from fun _=>rfl,Kk,Kk,a7D fun c hc=>hn c (List.mem_of_mem_take hc)]
   rfl
  have h1:=Hq h h0
  have h2:=OW (rd:=rd) (v:=2) (c:=2) h1.w (by omega) (by omega)
  have h3:=Lp (nest:=up4 a) (sp:=true) (fr:=1) h2.w (OX (by omega)) (by omega) hu
  have h4:=hf _ (Ju (x:=x) (i:=x.kids.length-1) (by have:=hp (by omega) (by omega) (by omega) (by omega);omega)) (up4 a) _ hu h3.w
  exact Df h1 (Df h2 (Df h3 h4))
 ·have h1:=OW (rd:=rd) (v:=2) (c:=1) h (by omega) (by omega)
  have h2:=hf _ (Ju (x:=x) (i:=0) (hp (by omega) (by omega) (by omega) (by omega))) a _ ha h1.w
  exact Df h1 (Df h2 (a7C hu (fun c hc=>hf c (List.mem_of_mem_drop hc)) h2.w (Hp (OX (by omega)) h2)))
theorem a7E(h:CS ns k)(hv:Bf (Bc ns k)=true):BD (Ab ns k).text=true:=c1S (EF (Jm h)).2.2.1 hv
theorem c2a(h:CS ns k)(hv:Bf (Bc ns k)=true)(h1:(Ab ns k).kind≠1)(h2:(Ab ns k).kind≠2)(h3:(Ab ns k).kind≠3)(h4:(Ab ns k).kind≠4):0<(Ab ns k).kids.length:=by
 have hv:=BW.1 hv
 have hlo:=(Th h).2.1
 unfold Bc at hv
 unfold Ee at hlo
 split at hlo
 ·omega
 ·split at hlo
  ·simp only at hlo;omega
  ·split at hlo
   ·simp only at hlo;omega
   ·split at hlo
    ·simp only at hlo;omega
    ·split at hlo
     ·simp only at hlo;omega
     ·omega
theorem a7F{ns:List Nd}{rd:Bool}:∀ {n:Nat} {k a:Int} {s:Bs},CS ns k→k<n→Bf (Bc ns k)=true→0≤a→bW s→bG s (bV ns rd n k a s)
 |0,k,a,s,h,hk,_,_,_=>by have:=BB.1 h.1;omega
 |n+1,k,a,s,h,hk,hv,ha,hw=>by
  rw[bV]
  refine c1Z (fun c hc a s ha hw=> ?_) hw ha (a7E h hv) (fun c hc=>a7E (FC h hc).1 (Ra h hv hc)) (c2a h hv)
  have hm:=FC h hc
  exact a7F hm.1 (by omega) (Ra h hv hc) ha hw
def CU(s:List UInt8):Bool:=s.getLast? ==some 61
def b00(pre:List UInt8):Bs:=⟨[],[],[],[],pre⟩
def Fd(pre:List UInt8):Bs:=if CU pre then Ba (Au true (b00 pre)) 1 true 4 (Bo true 2 2 (b00 pre)) else b00 pre
def Cu(ns:List Nd)(n:Nat)(k:Int)(pre:List UInt8):Bs:=bV ns true n k 0 (Fd pre)
def Kl(ind:Int)(s:Bs)(post:List UInt8):Pc:=⟨ind,s.rules,s.chunks++[⟨s.text++post,0,0,false,0⟩],s.spans,s.ties⟩
def bdP(ns:List Nd)(n:Nat)(k:Int)(pre post:List UInt8)(ind:Int):Pc:=Kl ind (Cu ns n k pre) post
theorem c2b(h:BD pre=true):bW (b00 pre):=⟨by simp [b00],by simp [b00],by simp [b00],by simp [b00],h⟩
theorem a0G:bOk (b00 pre):=⟨by simp [b00],by simp [b00],by simp [b00],by simp [b00]⟩
theorem c2c(h:BD pre=true):bW (Fd pre):=by
 have h0:=c2b h
 unfold Fd
 split
 ·have h1:=OW (rd:=true) (v:=2) (c:=2) h0 (by omega) (by omega)
  exact(Lp (nest:=4) (sp:=true) (fr:=1) h1.w (OX (by omega)) (by omega) (by omega)).w
 ·exact h0
theorem c2d(h:pre.length+1+m≤2^61):bR m (Fd pre):=by
 have h0:bR (1+m) (b00 pre):=⟨a0G,by simp [tot,Cz,b00];omega⟩
 unfold Fd
 split
 ·exact Lo (Jw h0) (by omega)
 ·exact DQ h0 (by omega)
theorem c2e{α:Type}{l:List α}{x d:α}:(l++[x]).getLast?.getD d=x:=by simp
theorem c2f(hw:bW s)(ho:bOk s)(hp:BD post=true)(hi:0≤ind∧ind≤60):Dc (Kl ind s post)=true:=by
 have hru:(Kl ind s post).rules=s.rules:=rfl
 have hch:(Kl ind s post).chunks=s.chunks++[⟨s.text++post,0,0,false,0⟩]:=rfl
 have hl:(Kl ind s post).chunks.length=s.chunks.length+1:=by rw[hch];simp
 have h1:=ho.ru;have h2:=ho.ch
 unfold Dc
 simp only[Bool.and_eq_true,decide_eq_true_eq]
 refine⟨BW.2 hi,?_,?_,⟨ho.sp,ho.ti⟩,?_,?_⟩
 ·simp only[GQ,Bool.and_eq_true,decide_eq_true_eq,List.all_eq_true]
  refine⟨h1,fun r hr=> ?_⟩
  have:=hw.ru r hr
  simp only[Fs,Bool.and_eq_true]
  exact⟨BW.2 this.1,BW.2 (by omega)⟩
 ·simp only[Ga,Bool.and_eq_true]
  refine⟨BW.2 (by rw[hl];omega),a7c.2 fun i c hc=> ?_,?_⟩
  ·rw[hch] at hc
   by_cases e:i<s.chunks.length
   ·rw[List.getElem?_append_left e] at hc
    have:=hw.ch c (Bm hc)
    refine⟨this.1,fun _=> ?_⟩
    simp only[Fb,Bool.and_eq_true]
    refine⟨BW.2 (by rw[hru];omega),BW.2 ?_,BW.2 this.2.2.2⟩
    have h3:=this.2.2.1
    have h4:Jv (Kl ind s post) c.rule=s.rules.getD c.rule.toNat ru0:=rfl
    rw[h4];omega
   ·rw[List.getElem?_append_right (by omega)] at hc
    have hj:i-s.chunks.length=0:=by
     rcases Nat.eq_zero_or_pos (i-s.chunks.length) with h|h
     ·exact h
     ·rw[List.getElem?_eq_none (by simp;omega)] at hc;cases hc
    rw[hj] at hc
    simp at hc;subst hc
    refine⟨by show BD (s.text++post)=true;rw[Kk,hw.tx,hp];rfl,fun hlt=> ?_⟩
    rw[hl] at hlt;omega
  ·rw[hch,c2e];rfl
 ·rw[List.all_eq_true]
  intro x hx
  have:=hw.sp x hx
  simp only[EJ,Bool.and_eq_true,decide_eq_true_eq]
  rw[hl]
  exact⟨⟨this.1.1,this.1.2.1⟩,by omega,BW.2 (by omega)⟩
 ·rw[List.all_eq_true]
  intro x hx
  have:=hw.ti x hx
  simp only[Hn,Bool.and_eq_true,Bool.not_eq_true',decide_eq_false_iff_not]
  rw[hru]
  exact⟨BW.2 (by omega),BW.2 (by omega),this.2.2⟩
structure bdQ (ns:List Nd) (n:Nat) (k:Int) (pre post:List UInt8) (ind:Int):Prop where
 up:CS ns k
 lt:k<n
 vl:Bf (Bc ns k)=true
 tw:tW ns n k≤2^60
 pr:pre.length≤40∧BD pre=true
 po:post.length≤40∧BD post=true
 ind:0≤ind∧ind≤60
theorem a0H(h:bdQ ns n k pre post ind):bR (tW ns n k+100) (Fd pre):=c2d (by have:=h.pr;have:=h.tw;omega)
theorem UQ(h:bdQ ns n k pre post ind):bR 100 (Cu ns n k pre):=OU (rd:=true) (a0H h) (Lk h.up h.lt h.vl) (by omega)
theorem UR(h:bdQ ns n k pre post ind):Dc (bdP ns n k pre post ind)=true:=
 c2f (a7F h.up h.lt h.vl (by omega) (c2c h.pr.2)).w (UQ h).1 h.po.2 h.ind
theorem US(h:bdQ ns n k pre post ind):pcS (bdP ns n k pre post ind):=by
 have h1:=a0s (UR h)
 have h2:=(UQ h).2
 have h3:Cz (bdP ns n k pre post ind).chunks=Cz (Cu ns n k pre).chunks+((Cu ns n k pre).text.length+post.length):=by
  rw[bdP,Kl,a0j];simp [Cz]
 unfold tot at h2
 have h4:=h.po
 refine⟨⟨by have:=h1.rl;omega,by have:=h1.cl;omega⟩,⟨⟨by have:=h1.snl;omega,by have:=h1.til;omega⟩,by omega⟩,fun r hr=> ?_⟩
 have:=(h1.ru r hr).1;omega
end Go.My
end
section
namespace Go.Proofs
open Go.Shelf
def Tryz.lays156_ren:Go.Shelf.Ren:=⟨fun|156=>128|165=>166|166=>167|169=>168|240=>197|241=>198|276=>220|277=>221|n=>n,fun|31=>42|9=>9|3=>3|4=>4|0=>0|20=>20|72=>186|76=>189|70=>184|37=>22|75=>188|127=>201|164=>216|5=>5|80=>161|n=>n,fun|n=>n⟩
theorem Tryz.lays156:Go.Proofs.Lays.n156 Tryz.prog Tryz.lays156_ren:= {
 mixed:=by kernel_rfl
 f156:=Tryz.func128.trans (congrArg some (by kernel_rfl))
 f165:=Tryz.func166.trans (congrArg some (by kernel_rfl))
 f166:=Tryz.func167.trans (congrArg some (by kernel_rfl))
 f169:=Tryz.func168.trans (congrArg some (by kernel_rfl))
 f240:=Tryz.func197.trans (congrArg some (by kernel_rfl))
 f241:=Tryz.func198.trans (congrArg some (by kernel_rfl))
 f276:=Tryz.func220.trans (congrArg some (by kernel_rfl))
 f277:=Tryz.func221.trans (congrArg some (by kernel_rfl))
 t0:=Tryz.underlying0
 a0:=Tryz.isAgg0
 z0:=Tryz.sizeOf0
 v0:=Tryz.zeroValue0
 t3:=Tryz.underlying3
 a3:=Tryz.isAgg3
 z3:=Tryz.sizeOf3
 v3:=Tryz.zeroValue3
 t4:=Tryz.underlying4
 a4:=Tryz.isAgg4
 z4:=Tryz.sizeOf4
 v4:=Tryz.zeroValue4
 t9:=Tryz.underlying9
 a9:=Tryz.isAgg9
 z9:=Tryz.sizeOf9
 v9:=Tryz.zeroValue9
 t20:=Tryz.underlying20
 a20:=Tryz.isAgg20
 z20:=Tryz.sizeOf20
 v20:=Tryz.zeroValue20
 t31:=Tryz.underlying42
 a31:=Tryz.isAgg42
 z31:=Tryz.sizeOf42
 v31:=Tryz.zeroValue42
 t37:=Tryz.underlying22
 a37:=Tryz.isAgg22
 z37:=Tryz.sizeOf22
 v37:=Tryz.zeroValue22
 t70:=Tryz.underlying184
 a70:=Tryz.isAgg184
 z70:=Tryz.sizeOf184
 v70:=Tryz.zeroValue184
 t72:=Tryz.underlying186
 a72:=Tryz.isAgg186
 z72:=Tryz.sizeOf186
 v72:=Tryz.zeroValue186
 t75:=Tryz.underlying188
 a75:=Tryz.isAgg188
 z75:=Tryz.sizeOf188
 v75:=Tryz.zeroValue188
 t76:=Tryz.underlying189
 a76:=Tryz.isAgg189
 z76:=Tryz.sizeOf189
 v76:=Tryz.zeroValue189
 t127:=Tryz.underlying201
 a127:=Tryz.isAgg201
 z127:=Tryz.sizeOf201
 v127:=Tryz.zeroValue201
 t164:=Tryz.underlying216
 a164:=Tryz.isAgg216
 z164:=Tryz.sizeOf216
 v164:=Tryz.zeroValue216}
theorem Tryz.Builder_Extra_156:Builder.Extra Tryz.prog Tryz.lays156_ren:= {
 sizeBuilder:=by kernel_rfl
 liesBuilder:=by kernel_rfl
 t5:=Tryz.underlying5
 a5:=Tryz.isAgg5
 z5:=Tryz.sizeOf5
 v5:=Tryz.zeroValue5
 infoByte:=by kernel_rfl
 cellsByte:=by kernel_rfl
 sizeByte:=by kernel_rfl
 neB5:=by decide}
open Go.RowKit in
theorem Tryz.strings_Join_none(a:Option Addr)(c:Nat)(sep:ByteArray)(w:World):
 Calls Tryz.prog 128 #[.slice a 0 c,.string sep] w fun e w'=>e= .returned (.string ⟨#[]⟩)∧w'=w:=Any.strings_Join_none Tryz.lays156 Tryz.Builder_Extra_156 a c sep w
open Go.RowKit in
theorem Tryz.strings_Join(bk o c:Nat)(xs:List ByteArray)(sep:ByteArray)(w:World)(hcells:∀(j:Nat) x,xs[j]? =some x→w.cell? ⟨bk,o+j,none⟩=some (.string x))(hbk:bk<w.heap.size)(hN:xs.length≤140737488355328)(hcap:xs.length≤c)(hlen:(Lib.join (xs.map (·.data.toList)) sep.data.toList).length≤140737488355328):
 Calls Tryz.prog 128 #[.slice (some ⟨bk,o,none⟩) xs.length c,.string sep] w fun e w'=>e= .returned (.string ⟨(Lib.join (xs.map (·.data.toList)) sep.data.toList).toArray⟩)∧Below w.heap.size w w':=Any.strings_Join Tryz.lays156 Tryz.Builder_Extra_156 bk o c xs sep w hcells hbk hN hcap hlen
end Go.Proofs
end
section
namespace Go.Eng
def Old(w:World):FP:=fun b=>w.heap.size≤b
def Km(P:Program)(t:TypeId){α:Type}(f:α→List AV)(good:α→Prop):Prop:=
 ∀ {H:Type} (enc:TypeId×Value→H) (w:World) (spare:Nat→Bool) (held:Bool) (fuel:Nat) (cs:List Value) (y:DataW H×List MemPlace),
   DataW.trod enc P w 0 spare held fuel t cs=some y→∃x:α,good x∧AZ (Old w) w (f x) cs (fun _=>False)
theorem UT{Z:FP}{w:World}{a:AV}{v:Value}:AZ Z w [a] [v] (fun _=>False)↔Aj Z w a v (fun _=>False):=by
 simp only[AZ]
 constructor
 ·rintro⟨u,cs',A,B,e,hj,h1,h2,h3⟩
  simp only[List.cons.injEq] at e
  obtain⟨rfl,rfl⟩:=e
  have:=(Hv hj AW).1
  rwa [EB this] at h1
 ·intro h
  exact⟨v,[],fun _=>False,fun _=>False,rfl,BS _,h,rfl,AW⟩
theorem c2g{Z:FP}{w:World}{a:AV}{azs:List AV}{v:Value}{vs:List Value}(h1:Aj Z w a v (fun _=>False))(h2:AZ Z w azs vs (fun _=>False)):
 AZ Z w (a::azs) (v::vs) (fun _=>False):=by
 simp only[AZ]
 exact⟨v,vs,_,_,rfl,BS _,h1,h2⟩
theorem c2h{k:IntKind}{n:Int}(h:(Lit.int k n).wf=true):inR k n:=by
 unfold inR
 simpa [Lit.wf] using h
theorem c2i{P:Program}{t:TypeId}{k:IntKind}(ht:P.underlying t=some (.int k)):Km P t (fun n:Int=>[.int k n]) (fun n=>inR k n):=by
 intro H enc w spare held fuel cs y h
 obtain⟨n,rfl,_,hw⟩:=DataW.trod_int ht h
 exact⟨n,c2h hw,UT.2 (by simp [Aj,emp])⟩
theorem a7G{α:Type}{p:Nat→α→Prop}:∀n,(∀i,i<n→∃x,p i x)→∃l:List α,l.length=n∧∀i x,l[i]? =some x→p i x
 |0,_=>⟨[],rfl,fun i x h=>by simp at h⟩
 |n+1,h=>by
  obtain⟨l,hl,hp⟩:=a7G n fun i hi=>h i (by omega)
  obtain⟨x,hx⟩:=h n (by omega)
  refine⟨l++[x],by simp [hl],fun i y hy=> ?_⟩
  by_cases hi:i<l.length
  ·rw[List.getElem?_append_left hi] at hy;exact hp i y hy
  ·rw[List.getElem?_append_right (by omega)] at hy
   have:i-l.length=0:=by
    rcases Nat.eq_zero_or_pos (i-l.length) with h|h
    ·exact h
    ·rw[List.getElem?_eq_none (by simp;omega)] at hy;cases hy
   rw[this] at hy;simp at hy;subst hy
   rwa [show i=n by omega]
theorem a7H{α:Type}{sz:Nat}{R:α→List Value→FP→Prop}:∀(xs:List α) (arr:List Value),
 (∀(i:Nat) (x:α),xs[i]? =some x→((arr.drop (i*sz)).take sz).length=sz∧R x ((arr.drop (i*sz)).take sz) (fun _=>False))→Rows sz R xs arr (fun _=>False)
 |[],arr,h=>AW
 |x::xs,arr,h=>by
  have h0:=h 0 x rfl
  simp only[Nat.zero_mul,List.drop_zero] at h0
  refine⟨_,_,BS _,h0.1,h0.2,a7H xs (arr.drop sz) fun i y hy=> ?_⟩
  have:=h (i+1) y (by simpa using hy)
  rwa [Nat.succ_mul,Nat.add_comm,←List.drop_drop] at this
theorem c2j{P:Program}{t e:TypeId}{sz:Nat}{α:Type}{f:α→List AV}{good:α→Prop}(ht:P.underlying t=some (.slice e))(hc:P.cellsOf e=sz)(hpos:0<sz)
 (ho:Km P e f good):Km P t (fun l:List α=>[.sl false 0 sz α f l]) (fun l=>l.length<2^63∧∀x∈l,good x):=by
 intro H enc w spare held fuel cs y h
 rcases DataW.trod_slice ht h with⟨rfl,_⟩|⟨a,len,cap,elems,rest,n,_,rfl,_,hb,hl,hm,hlen,hel,_,_⟩
 ·refine⟨[],⟨by simp,by simp⟩,UT.2 ?_⟩
  simp only[Aj]
  exact⟨none,0,0,rfl,rfl,Nat.le_refl _,.inr ⟨trivial,AW,.inl trivial⟩⟩
 ·have each:∀i,i<len→∃x:α,good x∧∃cs,w.cells? 0 (a.add (i*sz)) sz=some cs∧AZ (Old w) w (f x) cs (fun _=>False):=by
   intro i hi
   have h1:=hel i hi
   rw[hc] at h1
   rw[List.getElem?_eq_getElem (by omega:i<elems.length),Option.bind_eq_some_iff] at h1
   obtain⟨cs,h2,h3⟩:=h1
   obtain⟨x,hg,hr⟩:=ho enc w spare held n cs _ h3
   exact⟨x,hg,cs,h2,hr⟩
  obtain⟨l,hll,hp⟩:=a7G len each
  refine⟨l,⟨?_,?_⟩,UT.2 ?_⟩
  ·unfold maxLen at hm;omega
  ·intro x hx
   obtain⟨i,hi⟩:=List.getElem?_of_mem hx
   exact(hp i x hi).1
  ·simp only[Aj]
   refine⟨some a,len,cap,rfl,hll.symm,hl,.inr ⟨trivial,AW,?_⟩⟩
   rcases Nat.eq_zero_or_pos len with h0|h0
   ·exact .inl (List.length_eq_zero_iff.1 (by omega))
   ·refine .inr ?_
    obtain⟨x0,_,c0,hc0,_⟩:=each 0 h0
    have h00:=(World.cells?_some hc0).2.2 0 hpos
    have hcl:=(World.cells?_some hc0).2.1
    simp only[Nat.zero_mul,Addr.add] at h00
    obtain⟨b,off,sp⟩:=a
    simp only[World.cell?,if_true] at h00
    split at h00
    ·rename_i arr ty fr harr
     split at h00
     ·rw[List.getElem?_eq_getElem (by omega)] at h00;cases h00
     ·rename_i hsp
      have hsp:sp=none:=by simpa using hsp
      subst hsp
      have hlt:b<w.heap.size:=by
       rcases Nat.lt_or_ge b w.heap.size with h|h
       ·exact h
       ·rw[Array.getElem?_eq_none h] at harr;cases harr
      refine⟨b,off,arr,ty,fr,rfl,by unfold Old;omega,harr,a7H l _ fun i x hx=> ?_⟩
      have hi:i<l.length:=(List.getElem?_eq_some_iff.1 hx).1
      obtain⟨hg,cs,hcs,hr⟩:=hp i x hx
      obtain⟨_,hcl,hce⟩:=World.cells?_some hcs
      have e:((arr.toList.drop off).drop (i*sz)).take sz=cs:=by
       refine List.ext_getElem? fun j=> ?_
       rw[List.getElem?_take]
       split
       ·rename_i hj
        have:=hce j hj
        rw[←this]
        simp only[List.getElem?_drop,Array.getElem?_toList]
        have ea:((⟨b,off,none⟩:Addr).add (i*sz)).add j=⟨b,off+i*sz+j,none⟩:=by
         unfold Addr.add
         by_cases h1:i*sz=0<;>by_cases h2:j=0<;>simp [h1,h2]
        rw[ea]
        simp only[World.cell?,harr]
        simp [Nat.add_assoc]
       ·rw[List.getElem?_eq_none (by omega)]
      rw[e]
      exact⟨hcl,hr⟩
    ·rw[List.getElem?_eq_getElem (by omega)] at h00;cases h00
end Go.Eng
end
section
namespace Go.My
open Go.Eng Go.Proofs Go.RowKit
variable {G:GInv}
theorem after_below{Z A:FP}{w w':World}(h:Below w.heap.size w w'):After Z w A Z w' (fun _=>False):=
 ⟨h.os,h.tape,h.output,h.size,fun b hb _=>⟨h.block b hb,Iff.rfl⟩,fun _ h=>h.elim⟩
theorem c2k{Z:FP}{w:World}{l:List UInt8}{vs:List Value}{n:Nat}(h:vs.length=n):AZ Z w (.str l::List.replicate n .top) (.string ⟨l.toArray⟩::vs) (fun _=>False):=by
 have key:∀(vs:List Value) (n:Nat),vs.length=n→AZ Z w (List.replicate n .top) vs (fun _=>False):=by
  intro vs
  induction vs with
  |nil=>intro n h;subst h;exact⟨rfl,AW⟩
  |cons v vs ih=>
   intro n h
   subst h
   exact⟨v,vs,_,_,rfl,BS _,by simp only[Aj];exact AW,ih _ rfl⟩
 exact⟨_,vs,_,_,rfl,BS _,⟨rfl,AW⟩,key vs n h⟩
def Hr(xs:List (List UInt8))(sep:List UInt8):List UInt8:=Lib.join xs sep
def Lr:Sig:= {X:=List (List UInt8)×List UInt8,args:=fun x=>[Ig x.1,.str x.2],pre:=fun x=>(Hr x.1 x.2).length≤140737488355328∧x.1.length≤140737488355328,Y:=Unit,post:=fun _ _=>True,res:=fun x _=> .str (Hr x.1 x.2),outs:=fun _ _=>[.top,.top],keep:=false}
theorem c2l:Ai G Go.Proofs.Tryz.prog 128 Lr:=by
 refine⟨⟨⟨_,Go.Proofs.Tryz.func128,by kernel_rfl,by kernel_rfl⟩,fun x y _ _=>⟨trivial,trivial,trivial,trivial⟩⟩,?_⟩
 rintro⟨xs,sep⟩ ⟨h0,h1⟩ Z w vals A hG h hA _
 simp only[Lr,AZ,Ig] at h
 obtain⟨v,cs,A1,A2,rfl,_,hsl,v2,cs2,A3,A4,rfl,_,⟨rfl,_⟩,rfl,_⟩:=h
 simp only[Aj] at hsl
 obtain⟨a,n,c,rfl,hn,hc,hsl⟩:=hsl
 subst hn
 rcases hsl with⟨ho,_⟩|⟨_,_,hsl⟩
 ·cases ho
 have fin:∀ {e:Ending} {w':World},e= .returned (.string ⟨(Hr xs sep).toArray⟩)∧Below w.heap.size w w'→
  ∃y v Z' A',Lr.post (xs,sep) y∧e= .returned v∧AZ Z' w' (Lr.res (xs,sep) y::Lr.outs (xs,sep) y) (v::[.slice a xs.length c,.string ⟨sep.toArray⟩]) A'∧After Z w A Z' w' A':=by
  rintro e w' ⟨rfl,hb⟩
  exact⟨(),_,Z,(fun _=>False),trivial,rfl,c2k (n:=2) rfl,after_below hb⟩
 rcases hsl with hnil|⟨b,off,arr,ty,fr,rfl,hz,hb,hrows⟩
 ·subst hnil
  refine(Go.Proofs.Tryz.strings_Join_none a c ⟨sep.toArray⟩ w).mono ?_
  rintro e w' ⟨rfl,rfl⟩
  exact fin ⟨by rw[Hr,Lib.join_nil],Below.refl _ _⟩
 ·let bs:List ByteArray:=xs.map fun l=>⟨l.toArray⟩
  have hid:((fun x:ByteArray=>x.data.toList)∘fun l:List UInt8=>(⟨l.toArray⟩:ByteArray))=id:=by funext l;simp
  have hbs:bs.map (·.data.toList)=xs:=by simp only[bs,List.map_map];rw[hid,List.map_id]
  have hlen:bs.length=xs.length:=by simp [bs]
  have hcells:∀(j:Nat) x,bs[j]? =some x→w.cell? ⟨b,off+j,none⟩=some (.string x):=by
   intro j x hj
   simp only[bs,List.getElem?_map,Option.map_eq_some_iff] at hj
   obtain⟨l,hl,rfl⟩:=hj
   obtain⟨B,_,hlen1,hr⟩:=RP xs _ _ j l hrows hl
   simp only[Be,AZ,Aj] at hr
   obtain⟨v,cs',B1,B2,e1,_,⟨rfl,_⟩,rfl,_⟩:=hr
   have hb2:arr.toList[off+j]? =some (.string ⟨l.toArray⟩):=by
    have:((arr.toList.drop off).drop (j*1)).take 1=[.string ⟨l.toArray⟩]:=e1
    rw[Nat.mul_one,List.drop_drop] at this
    have h3:=congrArg (fun l=>l[0]?) this
    simpa [List.getElem?_take,List.getElem?_drop] using h3
   have:=LE (off:=off+j) hb
   unfold ad at this
   rw[this]
   simpa [Array.getElem?_toList] using hb2
  have hlt:b<w.heap.size:=by
   rcases Nat.lt_or_ge b w.heap.size with hh|hh
   ·exact hh
   ·rw[Array.getElem?_eq_none hh] at hb;cases hb
  have hj:=Go.Proofs.Tryz.strings_Join b off c bs ⟨sep.toArray⟩ w hcells hlt (by rw[hlen];exact h1) (by rw[hlen];exact hc) (by rw[hbs];exact h0)
  rw[hlen,hbs] at hj
  exact hj.mono fun e w' h=>fin h
theorem a7I{ns:List Nd}:∀ {l:List Int},Fr ns l false=Lib.joinTail [44,32] (l.map fun c=>(Ab ns c).text)
 |[]=>rfl
 |c::l=>by
  rw[Fr,a7I]
  simp [Lib.joinTail]
theorem c2m{ns:List Nd}{l:List Int}:Fr ns l true=Hr (l.map fun c=>(Ab ns c).text) [44,32]:=by
 cases l with
 |nil=>rfl
 |cons c l=>
  rw[Fr,a7I,Hr,List.map_cons,Lib.join_cons]
  simp
theorem a0I{p:Pc}{v:List Int}{i:Int}{c:Ch}{b:Bool}(hc:p.chunks[i.toNat]? =some c)(hs:DP v (Kj p i)=b):DP v c=b:=by rw[←hs,a0z hc]
attribute [local irreducible] rnI CG rnL DP blk
end Go.My
end
section
namespace Go.My
open Go.Eng Go.Proofs
variable {G:GInv}
variable {a e i k kind o:Int}{c:BC}{en op:List UInt8}{ks:List Int}{n:Nat}{s t u v z:Bs}{x:Nd}
abbrev zBW (x:List Ru×List Ch×List Sn×List Ti×List UInt8×Int):Bs:=⟨x.1,x.2.1,x.2.2.1,x.2.2.2.1,x.2.2.2.2.1⟩
abbrev zI (x:List Ru×List Ch×List Sn×List Ti×List UInt8×Int):Int:=x.2.2.2.2.2
def isB(w t:Bs):Prop:=t=w
structure vlP (ns:List Nd) (n:Nat) (s:Bs) (k a:Int):Prop where
 up:CS ns k
 lt:k<n
 vl:Bf (Bc ns k)=true
 rm:bR (tW ns n k) s
 ar:0≤a∧a≤40
def Cf(c:BC)(n:Nat)(s:Bs)(k a:Int)(o:Int)(t:Bs):Prop:=t=bV c.ns c.rd n k a s∧o=Ia c.rd (Ab c.ns k) s
def CH(n:Nat):Sig:= {X:=BC×List Ru×List Ch×List Sn×List Ti×List UInt8×Int×Int,args:=fun x=>[buA x.1 (xC x),.int .i64 x.2.2.2.2.2.2.1,.int .i64 x.2.2.2.2.2.2.2],pre:=fun x=>vlP x.1.ns n (xC x) x.2.2.2.2.2.2.1 x.2.2.2.2.2.2.2,Y:=Int×BT,post:=fun x y=>Cf x.1 n (xC x) x.2.2.2.2.2.2.1 x.2.2.2.2.2.2.2 y.1 (yBW y.2),res:=fun x y=> .int .i64 y.1,outs:=fun x y=>[buA x.1 (yBW y.2),.top,.top],keep:=true}
def kdP(ns:List Nd)(n:Nat)(ks:List Int):Prop:=∀c∈ks,CS ns c∧c<n∧Bf (Bc ns c)=true
theorem UU{ns:List Nd}{rd:Bool}(h:kdP ns n ks):stp rd (tW ns n) (bV ns rd n) ks:=fun c hc a s=>Lk (h c hc).1 (h c hc).2.1 (h c hc).2.2
theorem OY(h:0≤a∧a≤40):0≤up4 a∧up4 a≤40:=by unfold up4;omega
structure liP (c:BC) (n:Nat) (s:Bs) (op:List UInt8) (ks:List Int) (en:List UInt8) (a:Int):Prop where
 kd:kdP c.ns n ks
 kl:ks.length≤12
 ol:op.length≤1
 el:en.length≤1
 rm:bR (28+wL (tW c.ns n) ks) s
 ar:0≤a∧a≤40
def liR(c:BC)(s:Bs)(op:List UInt8):Int:=Au c.rd (Aq op s)
def li0(c:BC)(s:Bs)(op:List UInt8)(ks:List Int)(a:Int):Bs:=Ba (liR c s op) 1 false (up4 a) (Bo c.rd (min (ks.length:Int) 2+1) 1 (Aq op s))
def a0J(c:BC)(n:Nat)(s:Bs)(op:List UInt8)(ks:List Int)(a:Int):List Int→Int→Bs→Bs:=itF (bV c.ns c.rd n) (liR c s op) (min (ks.length:Int) 2) (up4 a)
def liI(c:BC)(n:Nat)(s:Bs)(op:List UInt8)(ks:List Int)(a:Int)(i:Int)(t:Bs):Prop:=
 Jx (a0J c n s op ks a) (fun k=>2+tW c.ns n k) ks 2 (li0 c s op ks a) i t
theorem c2n:wL (fun k=>2+tW c.ns n k) ks=2*ks.length+wL (tW c.ns n) ks:=Rj
theorem a0K(h:liP c n s op ks en a):bR (27+wL (tW c.ns n) ks) (Aq op s):=Ln h.rm (by have:=h.ol;omega)
theorem UV(h:liP c n s op ks en a):bB (Aq op s):=DD (a0K h)
theorem a7J(h:liP c n s op ks en a)(ht:t=Bo c.rd (min (ks.length:Int) 2+1) 1 (Aq op s)):bB t:=by subst ht;exact DD (Jw (a0K h))
theorem a7K(h:liP c n s op ks en a)(hu:u=Ba (Au c.rd (Aq op s)) 1 false (min (a+4) 40) t)(ht:t=Bo c.rd (min (ks.length:Int) 2+1) 1 (Aq op s)):liI c n s op ks a 0 u:=by
 subst hu;subst ht
 have h1:bR (wL (fun k=>2+tW c.ns n k) ks+2) (li0 c s op ks a):=by
  rw[c2n];exact Lo (Jw (a0K h)) (by have:=h.kl;omega)
 exact UK (F:=a0J c n s op ks a) h1
theorem liS(h:liP c n s op ks en a):lpS c.rd (a0J c n s op ks a) (itS (bV c.ns c.rd n) (liR c s op) (min (ks.length:Int) 2) (up4 a)) (fun k=>2+tW c.ns n k) ks:=c1I (UU h.kd)
theorem a0L(h:liI c n s op ks a i t):0≤i∧i≤ks.length:=Ri h
theorem UW(h:liI c n s op ks a i t)(hc:ks[i.toNat]? =some k):bR (tW c.ns n k+2) t:=DQ (UL h hc) (by omega)
theorem a0M(h:liI c n s op ks a i t)(hc:ks[i.toNat]? =some k):t.text.length≤2^61:=IT (DD (UW h hc))
theorem a7L(h:liI c n s op ks a i t)(hc:ks[i.toNat]? =some k):bB (Aq [44] t):=DD (m:=1) (Ln (UW h hc) (by show 1+1≤_;omega))
theorem a7M(h:liI c n s op ks a i t)(hx:liP c n s op ks en a)(hc:ks[i.toNat]? =some k):vlP c.ns n t k (min (a+4) 40):=
 ⟨(hx.kd k (Bm hc)).1,(hx.kd k (Bm hc)).2.1,(hx.kd k (Bm hc)).2.2,DQ (UW h hc) (by omega),OY hx.ar⟩
theorem a7N(h:liI c n s op ks a i t)(hu:u=Ba (Au c.rd (Aq op s)) (min (ks.length:Int) 2) true (min (a+4) 40) (Aq [44] t))(hx:liP c n s op ks en a)(hc:ks[i.toNat]? =some k):vlP c.ns n u k (min (a+4) 40):=by
 subst hu
 exact⟨(hx.kd k (Bm hc)).1,(hx.kd k (Bm hc)).2.1,(hx.kd k (Bm hc)).2.2,Lo (Ln (n:=tW c.ns n k+1) (UW h hc) (by simp)) (by omega),OY hx.ar⟩
theorem a7O(hu:Cf c n t k (min (a+4) 40) o u)(h:liI c n s op ks a i t)(hx:liP c n s op ks en a)(hc:ks[i.toNat]? =some k)(hi:¬i>0):liI c n s op ks a (i+1) u:=by
 have:=Rh (liS hx) h hc
 have e:i=0:=by have:=(Ri h);omega
 rw[hu.1]
 rw[itS,if_pos e] at this
 exact this
theorem a7P(h:liI c n s op ks a i t)(hu:Cf c n v k (min (a+4) 40) o u)(hv:v=Ba (Au c.rd (Aq op s)) (min (ks.length:Int) 2) true (min (a+4) 40) (Aq [44] t))(hx:liP c n s op ks en a)(hc:ks[i.toNat]? =some k)(hi:i>0):liI c n s op ks a (i+1) u:=by
 have:=Rh (liS hx) h hc
 rw[hu.1,hv]
 rw[itS,if_neg (by omega)] at this
 exact this
theorem a7Q(h:liI c n s op ks a i t)(hx:liP c n s op ks en a)(hi:¬i<ks.length):bB t:=DD (OV (liS hx) h hi).2
theorem a7R(hu:u=Ba (Au c.rd (Aq op s)) 1 false a t)(h:liI c n s op ks a i t)(hx:liP c n s op ks en a)(hi:¬i<ks.length):u.text.length≤2^61:=by
 subst hu
 exact IT (DD (m:=1) (Lo (OV (liS hx) h hi).2 (by omega)))
theorem a7S(hu:u=Ba (Au c.rd (Aq op s)) 1 false a t)(h:liI c n s op ks a i t)(hx:liP c n s op ks en a)(hi:¬i<ks.length)(hk:(ks.length:Int)>0):isB (Eg c.rd (bV c.ns c.rd n) op ks en a s) (Aq en u):=by
 have:=(OV (liS hx) h hi).1
 subst hu
 unfold isB
 rw[Eg,if_neg (by intro e;rw[e] at hk;simp at hk),this,show((min ks.length 2:Nat):Int)=min (ks.length:Int) 2 by omega]
 rfl
theorem a7T(hk:¬(ks.length:Int)>0):isB (Eg c.rd (bV c.ns c.rd n) op ks en a s) (Aq en (Aq op s)):=by
 unfold isB;rw[Eg,if_pos (List.eq_nil_of_length_eq_zero (by omega))]
attribute [local irreducible] liI
def Ls(n:Nat):Sig:= {X:=BC×BX (List UInt8×List Int×List UInt8×Int),args:=fun x=>[buA x.1 (xC x),.str x.2.2.2.2.2.2.1,AQ x.2.2.2.2.2.2.2.1,.str x.2.2.2.2.2.2.2.2.1,.q x.2.2.2.2.2.2.2.2.2],pre:=fun x=>liP x.1 n (xC x) x.2.2.2.2.2.2.1 x.2.2.2.2.2.2.2.1 x.2.2.2.2.2.2.2.2.1 x.2.2.2.2.2.2.2.2.2,Y:=BT,post:=fun x y=>isB (Eg x.1.rd (bV x.1.ns x.1.rd n) x.2.2.2.2.2.2.1 x.2.2.2.2.2.2.2.1 x.2.2.2.2.2.2.2.2.1 x.2.2.2.2.2.2.2.2.2 (xC x)) (yBW y),res:=fun x y=> .tup [],outs:=fun x y=>[buA x.1 (yBW y),.top,.top,.top,.top],keep:=true}
def Rk(n:Nat)(x:BC×BX (List UInt8×List Int×List UInt8×Int)):LS:= {ι:=BX Int,inv:=fun i=>liI x.1 n (xC x) x.2.2.2.2.2.2.1 x.2.2.2.2.2.2.2.1 x.2.2.2.2.2.2.2.2.2 (zI i) (zBW i),regs:=fun i=>[(0,buA x.1 (zBW i)),(3,.str x.2.2.2.2.2.2.2.2.1),(4,.q x.2.2.2.2.2.2.2.2.2),(10,.q (min (x.2.2.2.2.2.2.2.2.2+4) 40)),(11,.q (min (x.2.2.2.2.2.2.2.1.length:Int) 2)),(12,.q (Au x.1.rd (Aq x.2.2.2.2.2.2.1 (xC x)))),(40,AQ x.2.2.2.2.2.2.2.1),(41,.q x.2.2.2.2.2.2.2.1.length),(42,.q (zI i))],als:=[],meas:=fun i=>x.2.2.2.2.2.2.2.1.length-(zI i).toNat}
theorem c2o(n:Nat)(hc:Ai G Go.Proofs.Tryz.prog 81 (CH n)):Ai G Tryz.prog 112 (Ls n):=
 vcFun_okP [(79,0,El),(80,0,DC),(81,0,(CH n))] [] false (fun x=>[(7,Rk n x)]) Tryz.func112 rfl (by decide) ⟨OQ,OT,hc,trivial⟩ (fun(x:BC×BX (List UInt8×List Int×List UInt8×Int))=>True∧(↑((xC x).text.length+x.2.2.2.2.2.2.1.length):Int)≤Ag∧Aa (decide ((x.2.2.2.2.2.2.2.1.length:Int)>(0:Int))) (inR .i64 (x.2.2.2.2.2.2.2.2.2+(4:Int))∧inR .i64 (min (x.2.2.2.2.2.2.2.1.length:Int) (2:Int)+(1:Int))∧cA El [.box 0 [.q x.1.ind,oRu (xC x).rules,oCh (xC x).chunks,oSn (xC x).spans,oTi (xC x).ties,nds x.1.ns,.str ((xC x).text++x.2.2.2.2.2.2.1),.bool x.1.rd],.q (min (x.2.2.2.2.2.2.2.1.length:Int) (2:Int)+(1:Int)),.q 1] fun x_1 y=>cA DC [(buA x_1.1 (yBW y)),.q (Au x_1.1.rd (xC x_1)),.q 1,.bool false,.q (min (x.2.2.2.2.2.2.2.2.2+(4:Int)) (40:Int))] fun x_2 y=>eA (Rk n x) [(buA x_2.1 (yBW y)),.str x.2.2.2.2.2.2.2.2.1,.q x.2.2.2.2.2.2.2.2.2,.q (min (x.2.2.2.2.2.2.2.2.2+(4:Int)) (40:Int)),.q (min (x.2.2.2.2.2.2.2.1.length:Int) (2:Int)),.q (Au x_1.1.rd (xC x_1)),AQ x.2.2.2.2.2.2.2.1,.q (x.2.2.2.2.2.2.2.1.length:Int),.q 0]∧∀(i:BX Int),liI x.1 n (xC x) x.2.2.2.2.2.2.1 x.2.2.2.2.2.2.2.1 x.2.2.2.2.2.2.2.2.2 (zI i) (zBW i)→Aa (decide (zI i<(x.2.2.2.2.2.2.2.1.length:Int))) ((0≤zI i∧zI i<(x.2.2.2.2.2.2.2.1.length:Int))∧∀(e:Int),x.2.2.2.2.2.2.2.1[Int.toNat (zI i)]? =some e→Aa (decide (zI i>0)) ((↑((zBW i).text.length+(1:Nat)):Int)≤Ag∧cA DC [.box 0 [.q x.1.ind,oRu (zBW i).rules,oCh (zBW i).chunks,oSn (zBW i).spans,oTi (zBW i).ties,nds x.1.ns,.str ((zBW i).text++ #[(44:UInt8)].toList),.bool x.1.rd],.q (Au x.1.rd (Aq x.2.2.2.2.2.2.1 (xC x))),.q (min (x.2.2.2.2.2.2.2.1.length:Int) (2:Int)),.bool true,.q (min (x.2.2.2.2.2.2.2.2.2+(4:Int)) (40:Int))] fun x_3 y=>cA (CH n) [(buA x_3.1 (yBW y)),.q e,.q (min (x.2.2.2.2.2.2.2.2.2+(4:Int)) (40:Int))] fun x_4 y=>inR .i64 (zI i+1)∧eN (Rk n x) i [(buA x_4.1 (yBW y.2)),.str x.2.2.2.2.2.2.2.2.1,.q x.2.2.2.2.2.2.2.2.2,.q (min (x.2.2.2.2.2.2.2.2.2+(4:Int)) (40:Int)),.q (min (x.2.2.2.2.2.2.2.1.length:Int) (2:Int)),.q (Au x.1.rd (Aq x.2.2.2.2.2.2.1 (xC x))),AQ x.2.2.2.2.2.2.2.1,.q (x.2.2.2.2.2.2.2.1.length:Int),.q (zI i+1)]) (cA (CH n) [(buA x.1 (zBW i)),.q e,.q (min (x.2.2.2.2.2.2.2.2.2+(4:Int)) (40:Int))] fun x_3 y=>inR .i64 (zI i+1)∧eN (Rk n x) i [(buA x_3.1 (yBW y.2)),.str x.2.2.2.2.2.2.2.2.1,.q x.2.2.2.2.2.2.2.2.2,.q (min (x.2.2.2.2.2.2.2.2.2+(4:Int)) (40:Int)),.q (min (x.2.2.2.2.2.2.2.1.length:Int) (2:Int)),.q (Au x.1.rd (Aq x.2.2.2.2.2.2.1 (xC x))),AQ x.2.2.2.2.2.2.2.1,.q (x.2.2.2.2.2.2.2.1.length:Int),.q (zI i+1)])) (cA DC [(buA x.1 (zBW i)),.q (Au x.1.rd (Aq x.2.2.2.2.2.2.1 (xC x))),.q 1,.bool false,.q x.2.2.2.2.2.2.2.2.2] fun x_3 y=>(↑((yBW y).text.length+x.2.2.2.2.2.2.2.2.1.length):Int)≤Ag∧rA (Ls n) x [.tup [],.box 0 [.q x_3.1.ind,oRu (yBW y).rules,oCh (yBW y).chunks,oSn (yBW y).spans,oTi (yBW y).ties,nds x_3.1.ns,.str ((yBW y).text++x.2.2.2.2.2.2.2.2.1),.bool x_3.1.rd],.top,.top,.top,.top])) ((↑(((xC x).text++x.2.2.2.2.2.2.1).length+x.2.2.2.2.2.2.2.2.1.length):Int)≤Ag∧rA (Ls n) x [.tup [],.box 0 [.q x.1.ind,oRu (xC x).rules,oCh (xC x).chunks,oSn (xC x).spans,oTi (xC x).ties,nds x.1.ns,.str ((xC x).text++x.2.2.2.2.2.2.1++x.2.2.2.2.2.2.2.2.1),.bool x.1.rd],.top,.top,.top,.top])) (fun x=>by kernel_rfl) fun(x:BC×BX (List UInt8×List Int×List UInt8×Int)) (hx:liP x.1 n (xC x) x.2.2.2.2.2.2.1 x.2.2.2.2.2.2.2.1 x.2.2.2.2.2.2.2.2.1 x.2.2.2.2.2.2.2.2.2)=>(by
 dsimp only[buA,cA,CC,eA,eN,Rk,AQ,Br,nds,oCh,oRu,oSn,oTi,rA,CB,Ls,El,DC,CH,CD,CE,As,Az,mvL,lnL,mvE,lnE,Bl,Ag,AV.q]
 obtain⟨b,r,c,s,t,u,op,ks,en,a⟩:=x;dsimp only[xC] at hx ⊢
 have hx:liP b n ⟨r,c,s,t,u⟩ op ks en a:=hx
 have h1:=hx.ar;have h2:=hx.kl
 (repeat' first|(with_reducible first|rfl|exact True.intro|apply AK|apply And.intro|((first|apply AA|apply AI|apply AB|apply AJ)<;>intro _))|(apply Av<;>intro _)|apply AH|refine Ae () ?_ ?_|((first|apply AO|apply AN|apply AM|apply AL|apply AG|apply AF|apply AE|apply AD|apply AC)<;>try dsimp only)|apply Ae|(refine Prod.forall.2 ?_;intro _;try dsimp only)|(intro _;try dsimp only))
 all_goals(try dsimp only[yBW,xC,zBW,zI] at*)
 all_goals first
  |with_reducible rfl
  |exact UV hx
  |exact a7J hx ‹_›
  |exact a7K hx ‹_› ‹_›
  |exact a7L ‹_› ‹_›
  |exact a7N ‹_› ‹_› hx ‹_›
  |exact a7M ‹_› hx ‹_›
  |exact a7P ‹_› ‹_› ‹_› hx ‹_› ‹_›
  |exact a7O ‹_› ‹_› hx ‹_› ‹_›
  |exact a7Q ‹_› hx ‹_›
  |exact a7S ‹_› ‹_› hx ‹_› ‹_›
  |exact a7T ‹_›
  |(have hq:=a0L ‹liI _ _ _ _ _ _ _ _›;(try simp only[An]);omega)
  |(have hq:=a0M ‹liI _ _ _ _ _ _ _ _› ‹_›;dsimp only at hq;(try simp only[An]);omega)
  |(have hq:=IT (DD hx.rm);have hq2:=hx.ol;(try simp only[An]);omega)
  |(have hq:=IT (UV hx);have hq2:=hx.el;(try simp only[An,List.length_append,Aq] at*);omega)
  |(have hq:=a7R ‹_› ‹_› hx ‹_›;have hq2:=hx.el;(try simp only[An] at*);omega)
  |rfl
  |skip)
structure cnP (c:BC) (n:Nat) (s:Bs) (x:Nd) (a:Int):Prop where
 kd:kdP c.ns n x.kids
 kl:x.kids.length≤12
 tl:x.text.length≤2
 rm:bR (60+wL (tW c.ns n) x.kids) s
 ar:0≤a∧a≤40
def a0N(c:BC)(n:Nat)(s:Bs)(x:Nd)(a:Int):List Int→Int→Bs→Bs:=UM c.ns (bV c.ns c.rd n) (Au c.rd s) a x.text
def CI(c:BC)(n:Nat)(s:Bs)(x:Nd)(a:Int)(i:Int)(t:Bs):Prop:=Jx (a0N c n s x a) (fun k=>4+tW c.ns n k) x.kids 2 (Bo c.rd 2 1 s) i t
def cnB(c:BC)(s:Bs)(x:Nd)(a:Int)(i:Int)(z:Bs):Bs:=if i=0 then z else Ba (Au c.rd s) 1 true a (Aq (32::x.text) z)
def cnJ(c:BC)(n:Nat)(s:Bs)(x:Nd)(a:Int)(z:Bs)(i k:Int)(t:Bs):Prop:=(CI c n s x a i z∧x.kids[i.toNat]? =some k)∧t=cnB c s x a i z
def MV(c:BC)(n:Nat)(s:Bs)(kind a k:Int)(z:Bs):Bs:=if Bc c.ns k=kind then CF (DI z.rules.length (bV c.ns c.rd n k a z)) (Au c.rd s) (bV c.ns c.rd n k a z) else bV c.ns c.rd n k a z
def cnK(c:BC)(n:Nat)(s:Bs)(x:Nd)(a:Int)(z:Bs)(i:Int)(t:Bs)(e kind:Int):Prop:=
 ∃k u,(cnJ c n s x a z i k u∧kind=Bc c.ns k)∧(e=u.chunks.length∧t=MV c n s 7 a k u)
def cnQ(c:BC)(n:Nat)(s:Bs)(x:Nd)(a:Int)(o:Int)(t:Bs):Prop:=t=Kf c.ns c.rd (bV c.ns c.rd n) x a s∧o=Au c.rd s
theorem cnS(h:cnP c n s x a):lpS c.rd (a0N c n s x a) (UN c.ns (bV c.ns c.rd n) (Au c.rd s) a x.text) (fun k=>4+tW c.ns n k) x.kids:=c1J h.tl (UU h.kd)
theorem a7U(h:cnP c n s x a)(ht:t=Bo c.rd 2 1 s):CI c n s x a 0 t:=by
 subst ht
 have h1:bR (wL (fun k=>4+tW c.ns n k) x.kids+2) (Bo c.rd 2 1 s):=by
  rw[Rj];exact DQ (Jw h.rm) (by have:=h.kl;omega)
 exact UK (F:=a0N c n s x a) h1
theorem Rl(h:CI c n s x a i t):0≤i∧i≤x.kids.length:=Ri h
theorem a0O(h:CI c n s x a i t)(hc:x.kids[i.toNat]? =some k):bR (tW c.ns n k+4+2) t:=DQ (UL h hc) (by omega)
theorem a7V(h:CI c n s x a i t)(hc:x.kids[i.toNat]? =some k):t.text.length+6≤2^61:=by
 have:=(a0O h hc).2;unfold tot at this;omega
theorem a0P(hx:cnP c n s x a)(h:CI c n s x a i t)(hc:x.kids[i.toNat]? =some k):bR (tW c.ns n k+3) (Aq (32::x.text) t):=Ln (a0O h hc) (by have:=hx.tl;rw[List.length_cons];omega)
theorem a7W(h:CI c n s x a i t)(hc:x.kids[i.toNat]? =some k)(hi:¬i>0):cnJ c n s x a t i k t:=⟨⟨h,hc⟩,by rw[cnB,if_pos (by have:=Rl h;omega)]⟩
theorem a0Q(h:CI c n s x a i t)(hu:u=Ba (Au c.rd s) 1 true a (Aq (32::x.text) t))(hc:x.kids[i.toNat]? =some k)(hi:i>0):cnJ c n s x a t i k u:=⟨⟨h,hc⟩,by rw[cnB,if_neg (by omega)];exact hu⟩
theorem UX(hx:cnP c n s x a)(h:cnJ c n s x a z i k t):bR (tW c.ns n k+2) t:=by
 rw[h.2,cnB]
 split
 ·exact DQ (a0O h.1.1 h.1.2) (by omega)
 ·exact Lo (a0P hx h.1.1 h.1.2) (by omega)
theorem a0R(h:cnJ c n s x a z i k t)(hx:cnP c n s x a):vlP c.ns n t k a:=by
 have hk:=hx.kd k (Bm h.1.2)
 exact⟨hk.1,hk.2.1,hk.2.2,DQ (UX hx h) (by omega),hx.ar⟩
theorem a0S{m:Nat}(h:vlP c.ns n s k a)(hq:Cf c n s k a o t)(hm:bR (tW c.ns n k+m) s):bR m t:=by
 rw[hq.1]
 exact OU hm (Lk (rd:=c.rd) h.up h.lt h.vl) (by omega)
theorem a0T(h:cnJ c n s x a z i k t)(hu:Cf c n t k a o u)(hx:cnP c n s x a):bB u:=DD (a0S (a0R h hx) hu (UX hx h))
theorem a7X(h:cnJ c n s x a z i k t)(hx:cnP c n s x a):(0≤k∧k<c.ns.length)∧t.chunks.length≤79:=⟨BB.1 (hx.kd k (Bm h.1.2)).1.1,(UX hx h).1.ch⟩
theorem Gb{ns:List Nd}{e:Nd}(h:ns[k.toNat]? =some e):Bc ns k=e.kind:=by rw[Bc,BA h]
theorem a7Y{e:Nd}(h:cnJ c n s x a z i k t)(hu:Cf c n t k a o u)(he:c.ns[k.toNat]? =some e)(hk:¬e.kind=7):cnK c n s x a z i u t.chunks.length e.kind:=
 ⟨k,t,⟨h,(Gb he).symm⟩,rfl,by rw[MV,if_neg (by rw[Gb he];exact hk)];exact hu.1⟩
theorem a7Z{e:Nd}(h:cnJ c n s x a z i k t)(hu:Cf c n t k a o u)(hv:v=CF o (Au c.rd s) u)(hx:cnP c n s x a)(he:c.ns[k.toNat]? =some e)(hk:e.kind=7):cnK c n s x a z i v t.chunks.length e.kind:=by
 refine⟨k,t,⟨h,(Gb he).symm⟩,rfl,?_⟩
 have hkp:=hx.kd k (Bm h.1.2)
 rw[MV,if_pos (by rw[Gb he];exact hk),UO hkp.1 hkp.2.1 (.inl (by rw[Gb he];exact hk)),hv,hu.1,hu.2]
theorem UY(h:cnK c n s x a z i t e kind)(hx:cnP c n s x a):bB t:=by
 obtain⟨k,u,⟨h1,_⟩,_,h2⟩:=h
 have hb:=a0T (o:=Ia c.rd (Ab c.ns k) u) h1 ⟨rfl,rfl⟩ hx
 rw[h2,MV]
 split
 ·exact⟨a0l hb.ok,by have:=(a0k (rd:=true) (k:=DI u.rules.length (bV c.ns c.rd n k a u)) (u:=Au c.rd s) (s:=bV c.ns c.rd n k a u)).tt;have:=hb.tt;omega⟩
 ·exact hb
theorem UZ(h:cnK c n s x a z i t e kind)(hx:cnP c n s x a):CI c n s x a (i+1) (if kind=1∨kind=2∨kind=3 then t else EY e t):=by
 obtain⟨k,u,⟨h1,hk⟩,he,h2⟩:=h
 have:=Rh (cnS hx) h1.1.1 h1.1.2
 rw[UN,show(if i=0 then z else Ba (Au c.rd s) 1 true a (Aq (32::x.text) z))=u from h1.2.symm,Hk] at this
 rw[hk,he,h2]
 exact this
theorem c2p(h:cnK c n s x a z i t e kind)(hx:cnP c n s x a)(hk:kind=1∨kind=2∨kind=3):CI c n s x a (i+1) t:=by
 have:=UZ h hx;rwa [if_pos hk] at this
theorem c2q(h:cnK c n s x a z i t e kind)(hv:v=EY e t)(hx:cnP c n s x a)(hk:¬kind=1)(hk2:¬kind=2)(hk3:¬kind=3):CI c n s x a (i+1) v:=by
 have:=UZ h hx;rw[if_neg (by omega)] at this;rw[hv];exact this
theorem a8a(h:CI c n s x a i t)(hx:cnP c n s x a)(hi:¬i<x.kids.length):cnQ c n s x a (Au c.rd s) t:=⟨(OV (cnS hx) h hi).1,rfl⟩
attribute [local irreducible] CI cnJ cnK
abbrev wB (x:List Ru×List Ch×List Sn×List Ti×List UInt8×Int×Int):Bs:=⟨x.1,x.2.1,x.2.2.1,x.2.2.2.1,x.2.2.2.2.1⟩
def a0U(n:Nat)(x:BC×List Ru×List Ch×List Sn×List Ti×List UInt8×Nd×Int)(i:List Ru×List Ch×List Sn×List Ti×List UInt8×Int):LS:= {ι:=Int×Unit,inv:=fun k=>zI i>0∧x.2.2.2.2.2.2.1.kids[(zI i).toNat]? =some k.1,regs:=fun k=>[(0,buA x.1 (Aq (32::x.2.2.2.2.2.2.1.text) (zBW i))),(9,.int .i64 k.1),(2,.int .i64 x.2.2.2.2.2.2.2),(4,.box 0 (ndA false x.2.2.2.2.2.2.1)),(7,.int .i64 (Au x.1.rd (xC x))),(16,AQ x.2.2.2.2.2.2.1.kids),(17,.int .i64 x.2.2.2.2.2.2.1.kids.length),(18,.int .i64 (zI i))],als:=[],meas:=fun _=>0}
def Va(n:Nat)(x:BC×List Ru×List Ch×List Sn×List Ti×List UInt8×Nd×Int)(i:List Ru×List Ch×List Sn×List Ti×List UInt8×Int):LS:= {ι:=List Ru×List Ch×List Sn×List Ti×List UInt8×Int,inv:=fun j=>cnJ x.1 n (xC x) x.2.2.2.2.2.2.1 x.2.2.2.2.2.2.2 (zBW i) (zI i) (zI j) (zBW j),regs:=fun j=>[(0,buA x.1 (zBW j)),(9,.int .i64 (zI j)),(2,.int .i64 x.2.2.2.2.2.2.2),(4,.box 0 (ndA false x.2.2.2.2.2.2.1)),(7,.int .i64 (Au x.1.rd (xC x))),(16,AQ x.2.2.2.2.2.2.1.kids),(17,.int .i64 x.2.2.2.2.2.2.1.kids.length),(18,.int .i64 (zI i))],als:=[],meas:=fun _=>0}
def Vb(n:Nat)(x:BC×List Ru×List Ch×List Sn×List Ti×List UInt8×Nd×Int)(i:List Ru×List Ch×List Sn×List Ti×List UInt8×Int):LS:= {ι:=List Ru×List Ch×List Sn×List Ti×List UInt8×Int×Int,inv:=fun j=>cnK x.1 n (xC x) x.2.2.2.2.2.2.1 x.2.2.2.2.2.2.2 (zBW i) (zI i) (wB j) j.2.2.2.2.2.1 j.2.2.2.2.2.2,regs:=fun j=>[(0,buA x.1 (wB j)),(10,.int .i64 j.2.2.2.2.2.1),(12,.int .i64 j.2.2.2.2.2.2),(2,.int .i64 x.2.2.2.2.2.2.2),(4,.box 0 (ndA false x.2.2.2.2.2.2.1)),(7,.int .i64 (Au x.1.rd (xC x))),(16,AQ x.2.2.2.2.2.2.1.kids),(17,.int .i64 x.2.2.2.2.2.2.1.kids.length),(18,.int .i64 (zI i))],als:=[],meas:=fun _=>0}
def Rm(n:Nat)(x:BC×List Ru×List Ch×List Sn×List Ti×List UInt8×Nd×Int):LS:= {ι:=List Ru×List Ch×List Sn×List Ti×List UInt8×Int,inv:=fun i=>CI x.1 n (xC x) x.2.2.2.2.2.2.1 x.2.2.2.2.2.2.2 (zI i) (zBW i),regs:=fun i=>[(0,buA x.1 (zBW i)),(2,.int .i64 x.2.2.2.2.2.2.2),(4,.box 0 (ndA false x.2.2.2.2.2.2.1)),(7,.int .i64 (Au x.1.rd (xC x))),(16,AQ x.2.2.2.2.2.2.1.kids),(17,.int .i64 x.2.2.2.2.2.2.1.kids.length),(18,.int .i64 (zI i))],als:=[],meas:=fun i=>x.2.2.2.2.2.2.1.kids.length-(zI i).toNat,sub:=fun i=>[(200008,Va n x i),(100006,a0U n x i),(200013,Vb n x i)]}
def OZ(n:Nat):Sig:= {X:=BC×BX (Nd×Int),args:=fun x=>[buA x.1 (xC x),.agg (ndA false x.2.2.2.2.2.2.1),.q x.2.2.2.2.2.2.2],pre:=fun x=>cnP x.1 n (xC x) x.2.2.2.2.2.2.1 x.2.2.2.2.2.2.2,Y:=Int×BT,post:=fun x y=>cnQ x.1 n (xC x) x.2.2.2.2.2.2.1 x.2.2.2.2.2.2.2 y.1 (yBW y.2),res:=fun x y=> .q y.1,outs:=fun x y=>[buA x.1 (yBW y.2),.top,.top],keep:=true}
def a0V(n:Nat)(x:BC×BX (Nd×Int))(e:Int)(i:BX Int):Prop:=(↑((1:Nat)+x.2.2.2.2.2.2.1.text.length):Int)≤Ag∧((↑((zBW i).text.length+(#[(32:UInt8)].toList++x.2.2.2.2.2.2.1.text).length):Int)≤Ag∧(true=true∧(eA (a0U n x i) [.box 0 [.q x.1.ind,oRu (zBW i).rules,oCh (zBW i).chunks,oSn (zBW i).spans,oTi (zBW i).ties,nds x.1.ns,.str ((zBW i).text++(#[(32:UInt8)].toList++x.2.2.2.2.2.2.1.text)),.bool x.1.rd],.q e,.q x.2.2.2.2.2.2.2,.box 0 (ndA false x.2.2.2.2.2.2.1),.q (Au x.1.rd (xC x)),AQ x.2.2.2.2.2.2.1.kids,.q (x.2.2.2.2.2.2.1.kids.length:Int),.q (zI i)])))
def Vc(n:Nat)(x:BC×BX (Nd×Int))(i:BX Int)(i_2:BX (Int×Int)):Prop:=eN (Rm n x) i [(buA x.1 (wB i_2)),.q x.2.2.2.2.2.2.2,.box 0 (ndA false x.2.2.2.2.2.2.1),.q (Au x.1.rd (xC x)),AQ x.2.2.2.2.2.2.1.kids,.q (x.2.2.2.2.2.2.1.kids.length:Int),.q (zI i+1)]
theorem c2r(n:Nat)(hc:Ai G Go.Proofs.Tryz.prog 81 (CH n)):Ai G Tryz.prog 113 (OZ n):=
 vcFun_okP [(79,0,El),(80,0,DC),(81,0,(CH n)),(140,0,IV),(141,0,MU)] [] false (fun x=>[(3,Rm n x)]) Tryz.func113 rfl (by decide) ⟨OQ,OT,hc,a7u,c1H,trivial⟩ (fun(x:BC×BX (Nd×Int))=>True∧cA El [(buA x.1 (xC x)),.q 2,.q 1] fun x_1 y=>eA (Rm n x) [(buA x_1.1 (yBW y)),.q x.2.2.2.2.2.2.2,.box 0 (ndA false x.2.2.2.2.2.2.1),.q (Au x_1.1.rd (xC x_1)),AQ x.2.2.2.2.2.2.1.kids,.q (x.2.2.2.2.2.2.1.kids.length:Int),.q 0]∧∀(i:BX Int),CI x.1 n (xC x) x.2.2.2.2.2.2.1 x.2.2.2.2.2.2.2 (zI i) (zBW i)→Aa (decide (zI i<(x.2.2.2.2.2.2.1.kids.length:Int))) ((0≤zI i∧zI i<(x.2.2.2.2.2.2.1.kids.length:Int))∧∀(e:Int),x.2.2.2.2.2.2.1.kids[Int.toNat (zI i)]? =some e→Aa (decide (zI i>0)) (true=true∧((a0V n x e i)∧(a0V n x e i))∧∀(i_1:Int×Unit),zI i>0∧x.2.2.2.2.2.2.1.kids[Int.toNat (zI i)]? =some i_1.1→cA DC [(buA x.1 (Aq ((32:UInt8)::x.2.2.2.2.2.2.1.text) (zBW i))),.q (Au x.1.rd (xC x)),.q 1,.bool true,.q x.2.2.2.2.2.2.2] fun x_2 y=>eA (Va n x i) [(buA x_2.1 (yBW y)),.q i_1.1,.q x.2.2.2.2.2.2.2,.box 0 (ndA false x.2.2.2.2.2.2.1),.q (Au x.1.rd (xC x)),AQ x.2.2.2.2.2.2.1.kids,.q (x.2.2.2.2.2.2.1.kids.length:Int),.q (zI i)]) (eA (Va n x i) [(buA x.1 (zBW i)),.q e,.q x.2.2.2.2.2.2.2,.box 0 (ndA false x.2.2.2.2.2.2.1),.q (Au x.1.rd (xC x)),AQ x.2.2.2.2.2.2.1.kids,.q (x.2.2.2.2.2.2.1.kids.length:Int),.q (zI i)])∧∀(i_1:BX Int),cnJ x.1 n (xC x) x.2.2.2.2.2.2.1 x.2.2.2.2.2.2.2 (zBW i) (zI i) (zI i_1) (zBW i_1)→cA (CH n) [(buA x.1 (zBW i_1)),.q (zI i_1),.q x.2.2.2.2.2.2.2] fun x_2 y=>(0≤zI i_1∧zI i_1<(x_2.1.ns.length:Int))∧∀(e:Nd),x_2.1.ns[Int.toNat (zI i_1)]? =some e→Aa (e.kind==7) (cA IV [(buA x_2.1 (yBW y.2)),.q y.1,.q (Au x.1.rd (xC x))] fun x_3 y=>eA (Vb n x i) [(buA x_3.1 (yBW y)),.q (↑((zBW i_1).chunks.length):Int),.q e.kind,.q x.2.2.2.2.2.2.2,.box 0 (ndA false x.2.2.2.2.2.2.1),.q (Au x.1.rd (xC x)),AQ x.2.2.2.2.2.2.1.kids,.q (x.2.2.2.2.2.2.1.kids.length:Int),.q (zI i)]) (eA (Vb n x i) [(buA x_2.1 (yBW y.2)),.q (↑((zBW i_1).chunks.length):Int),.q e.kind,.q x.2.2.2.2.2.2.2,.box 0 (ndA false x.2.2.2.2.2.2.1),.q (Au x.1.rd (xC x)),AQ x.2.2.2.2.2.2.1.kids,.q (x.2.2.2.2.2.2.1.kids.length:Int),.q (zI i)])∧∀(i_2:BX (Int×Int)),cnK x.1 n (xC x) x.2.2.2.2.2.2.1 x.2.2.2.2.2.2.2 (zBW i) (zI i) (wB i_2) i_2.2.2.2.2.2.1 i_2.2.2.2.2.2.2→Aa (i_2.2.2.2.2.2.2 != (1:Int)) (Aa (i_2.2.2.2.2.2.2 != (2:Int)) (Aa (i_2.2.2.2.2.2.2 != (3:Int)) (cA MU [(buA x.1 (wB i_2)),.q i_2.2.2.2.2.2.1] fun x_3 y=>inR .i64 (zI i+1)∧eN (Rm n x) i [(buA x_3.1 (yBW y)),.q x.2.2.2.2.2.2.2,.box 0 (ndA false x.2.2.2.2.2.2.1),.q (Au x.1.rd (xC x)),AQ x.2.2.2.2.2.2.1.kids,.q (x.2.2.2.2.2.2.1.kids.length:Int),.q (zI i+1)]) (inR .i64 (zI i+1)∧(Vc n x i i_2))) (inR .i64 (zI i+1)∧(Vc n x i i_2))) (inR .i64 (zI i+1)∧(Vc n x i i_2))) (rA (OZ n) x [.q (Au x.1.rd (xC x)),(buA x.1 (zBW i)),.top,.top])) (fun x=>by kernel_rfl) fun(x:BC×BX (Nd×Int)) (hx:cnP x.1 n (xC x) x.2.2.2.2.2.2.1 x.2.2.2.2.2.2.2)=>(by
 dsimp only[Vc,a0V,buA,cA,CC,Vb,Rm,a0U,Va,eA,eN,AQ,Br,nds,oCh,oRu,oSn,oTi,rA,CB,OZ,El,MU,DC,IV,CH,CD,CE,As,Az,mvL,lnL,mvE,lnE,mvG,mvH,lnG,lnH,Bl,Ag,AV.q]
 obtain⟨b,r,c,s,t,u,x,a⟩:=x;dsimp only[xC] at hx ⊢
 have hx:cnP b n ⟨r,c,s,t,u⟩ x a:=hx
 have h1:=hx.ar;have h2:=hx.kl;have h3:=hx.tl
 (repeat' first|(with_reducible first|rfl|exact True.intro|apply AK|apply And.intro|((first|apply AA|apply AI|apply AB|apply AJ)<;>intro _))|(apply Av<;>intro _)|apply AH|refine Ae () ?_ ?_|((first|apply AO|apply AN|apply AM|apply AL|apply AG|apply AF|apply AE|apply AD|apply AC)<;>try dsimp only)|apply Ae|(refine Prod.forall.2 ?_;intro _;try dsimp only)|(intro _;try dsimp only))
 all_goals(try dsimp only[yBW,xC,zBW,zI,wB] at*)
 all_goals first
  |with_reducible rfl
  |exact DD hx.rm
  |exact a7U hx ‹_›
  |exact DD (a0P hx ‹_› ‹_›)
  |exact a7W ‹_› ‹_› ‹_›
  |exact a0Q ‹_› ‹_› ‹_› ‹_›
  |exact a0Q ‹_› ‹_› ‹_∧x.kids[_]? =some _›.2 ‹_›
  |exact a0R ‹_› hx
  |exact a0T ‹_› ‹_› hx
  |exact a7Y ‹_› ‹_› ‹_› ‹_›
  |exact a7Z ‹_› ‹_› ‹_› hx ‹_› ‹_›
  |exact UY ‹_› hx
  |exact c2p ‹_› hx (by omega)
  |exact c2q ‹_› ‹_› hx ‹_› ‹_› ‹_›
  |exact a8a ‹_› hx ‹_›
  |(have hq:=Rl ‹CI _ _ _ _ _ _ _›;(try simp only[An]);omega)
  |(have hq:=a7V ‹CI _ _ _ _ _ _ _› ‹_›;dsimp only at hq;(try simp only[An,List.length_append,List.length_cons,List.length_nil]);omega)
  |(have hq:=a7X ‹cnJ _ _ _ _ _ _ _ _ _› hx;dsimp only at hq;(try simp only[An]);omega)
  |exact⟨by assumption,by assumption⟩
  |exact()
  |rfl
  |skip)
end Go.My
end
