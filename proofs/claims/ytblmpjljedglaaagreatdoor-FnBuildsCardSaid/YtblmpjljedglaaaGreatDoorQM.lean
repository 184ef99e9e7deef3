/- joined -/
import Derived.Test.YtblmpjljedglaaaGreatDoorQL
set_option linter.unusedSimpArgs false
set_option linter.unusedVariables false
section
namespace Go.My
open Go.Eng Go.Proofs
variable {G:GInv}
variable {a i k o:Int}{c:BC}{e x:Nd}{l:List UInt8}{n:Nat}{s t u z:Bs}
structure pnP (c:BC) (n:Nat) (s:Bs) (x:Nd) (a:Int):Prop where
 kd:kdP c.ns n x.kids
 kl:x.kids.length≤3
 rm:bR (60+wL (tW c.ns n) x.kids) s
 ar:0≤a∧a≤40
def pnF(c:BC)(n:Nat)(s:Bs)(a:Int):List Int→Int→Bs→Bs:=pkL c.ns (bV c.ns c.rd n) (Au c.rd s) a
def pnI(c:BC)(n:Nat)(s:Bs)(x:Nd)(a:Int)(i:Int)(t:Bs):Prop:=Jx (pnF c n s a) (fun k=>3+tW c.ns n k) x.kids 2 (Bo c.rd 2 1 s) i t
def pnB(c:BC)(s:Bs)(a:Int)(i:Int)(z:Bs):Bs:=if i=0 then z else Aq (pkT i) (Ba (Au c.rd s) 1 true a z)
def pnJ(c:BC)(n:Nat)(s:Bs)(x:Nd)(a:Int)(z:Bs)(i k:Int)(t:Bs):Prop:=(pnI c n s x a i z∧x.kids[i.toNat]? =some k)∧t=pnB c s a i z
def pnQ(c:BC)(n:Nat)(s:Bs)(x:Nd)(a:Int)(o:Int)(t:Bs):Prop:=t=Lj c.ns c.rd (bV c.ns c.rd n) x a s∧o=Au c.rd s
theorem pnS(h:pnP c n s x a):lpS c.rd (pnF c n s a) (pkS c.ns (bV c.ns c.rd n) (Au c.rd s) a) (fun k=>3+tW c.ns n k) x.kids:=c1K (UU h.kd)
theorem a8b(h:pnP c n s x a)(ht:t=Bo c.rd 2 1 s):pnI c n s x a 0 t:=by
 subst ht
 have h1:bR (wL (fun k=>3+tW c.ns n k) x.kids+2) (Bo c.rd 2 1 s):=by
  rw[Rj];exact DQ (Jw h.rm) (by have:=h.kl;omega)
 exact UK (F:=pnF c n s a) h1
theorem Vd(h:pnI c n s x a i t):0≤i∧i≤x.kids.length:=Ri h
theorem a0W(h:pnI c n s x a i t)(hc:x.kids[i.toNat]? =some k):bR (tW c.ns n k+3+2) t:=DQ (UL h hc) (by omega)
theorem a8c(h:pnI c n s x a i t)(hc:x.kids[i.toNat]? =some k):bB t:=DD (a0W h hc)
theorem a8d(h:pnI c n s x a i t)(hu:u=Ba (Au c.rd s) 1 true a t)(hc:x.kids[i.toNat]? =some k):bR (tW c.ns n k+4) u:=by
 subst hu;exact Lo (a0W h hc) (by omega)
theorem a8e(h:pnI c n s x a i t)(hu:u=Ba (Au c.rd s) 1 true a t)(hc:x.kids[i.toNat]? =some k):u.text.length+4≤2^61:=by
 have:=(a8d h hu hc).2;unfold tot at this;omega
theorem a8f(h:pnI c n s x a i t)(hc:x.kids[i.toNat]? =some k)(hi:¬i>0):pnJ c n s x a t i k t:=⟨⟨h,hc⟩,by rw[pnB,if_pos (by have:=Vd h;omega)]⟩
theorem c2s(h:pnI c n s x a i t)(hc:x.kids[i.toNat]? =some k)(hi:i>0)(hu:u=Ba (Au c.rd s) 1 true a t):pnJ c n s x a t i k (Aq (pkT i) u):=⟨⟨h,hc⟩,by rw[pnB,if_neg (by omega),hu]⟩
theorem a0X(h:pnJ c n s x a z i k t):bR (tW c.ns n k+2) t:=by
 rw[h.2,pnB]
 split
 ·exact DQ (a0W h.1.1 h.1.2) (by omega)
 ·exact Ln (a8d h.1.1 rfl h.1.2) (by have:= @a0n i;omega)
theorem a0Y(h:pnJ c n s x a z i k t)(hx:pnP c n s x a):vlP c.ns n t k a:=by
 have hk:=hx.kd k (Bm h.1.2)
 exact⟨hk.1,hk.2.1,hk.2.2,DQ (a0X h) (by omega),hx.ar⟩
theorem a8g(h:pnJ c n s x a z i k t)(hu:Cf c n t k a o u)(hx:pnP c n s x a):bB u:=DD (a0S (a0Y h hx) hu (a0X h))
theorem a8h(h:pnJ c n s x a z i k t)(hx:pnP c n s x a):0≤k∧k<c.ns.length:=BB.1 (hx.kd k (Bm h.1.2)).1.1
theorem a8i(h:pnJ c n s x a z i k t)(hx:pnP c n s x a):pnI c n s x a (i+1) (MV c n s 8 a k t):=by
 have:=Rh (pnS hx) h.1.1 h.1.2
 rw[pkS,show(if i=0 then z else Aq (pkT i) (Ba (Au c.rd s) 1 true a z))=t from h.2.symm,Hl] at this
 exact this
theorem a8j(h:pnJ c n s x a z i k t)(hu:Cf c n t k a o u)(hx:pnP c n s x a)(he:c.ns[k.toNat]? =some e)(hk:¬e.kind=8):pnI c n s x a (i+1) u:=by
 have:=a8i h hx
 rw[MV,if_neg (by rw[Gb he];exact hk),←hu.1] at this;exact this
theorem a8k{v:Bs}(h:pnJ c n s x a z i k t)(hu:Cf c n t k a o u)(hv:v=CF o (Au c.rd s) u)(hx:pnP c n s x a)(he:c.ns[k.toNat]? =some e)(hk:e.kind=8):pnI c n s x a (i+1) v:=by
 have:=a8i h hx
 have hkp:=hx.kd k (Bm h.1.2)
 rw[MV,if_pos (by rw[Gb he];exact hk),UO hkp.1 hkp.2.1 (.inr (by rw[Gb he];exact hk)),←hu.2,←hu.1,←hv] at this;exact this
theorem a8l(h:pnI c n s x a i t)(hx:pnP c n s x a)(hi:¬i<x.kids.length):pnQ c n s x a (Au c.rd s) t:=⟨(OV (pnS hx) h hi).1,rfl⟩
theorem a0Z(h:([[],[63,32],[58,32]]:List (List UInt8))[i.toNat]? =some l)(hi:i>0):l=pkT i∧l.length≤2:=by
 have hlt:=(Ek h).1
 simp only[List.length_cons,List.length_nil] at hlt
 have:i=1∨i=2:=by omega
 rcases this with rfl|rfl
 ·simp at h;subst h;exact⟨rfl,by simp⟩
 ·simp at h;subst h;exact⟨rfl,by simp⟩
theorem a8m(h:pnI c n s x a i t)(hc:x.kids[i.toNat]? =some k)(hi:i>0)(hu:u=Ba (Au c.rd s) 1 true a t)(hl:([[],[63,32],[58,32]]:List (List UInt8))[i.toNat]? =some l):pnJ c n s x a t i k (Aq l u):=by
 rw[(a0Z hl hi).1];exact c2s h hc hi hu
theorem c2t{r1:List Ru}{r2:List Ch}{r3:List Sn}{r4:List Ti}{r5:List UInt8}(h:pnI c n s x a i t)(hc:x.kids[i.toNat]? =some k)(hi:i>0)(hu:⟨r1,r2,r3,r4,r5⟩=Ba (Au c.rd s) 1 true a t)(hl:([[],[63,32],[58,32]]:List (List UInt8))[i.toNat]? =some l):pnJ c n s x a t i k ⟨r1,r2,r3,r4,r5++l⟩:=a8m h hc hi hu hl
attribute [local irreducible] pnI pnJ
def Pa(n:Nat)(x:BC×List Ru×List Ch×List Sn×List Ti×List UInt8×Nd×Int)(i:List Ru×List Ch×List Sn×List Ti×List UInt8×Int):LS:= {ι:=List Ru×List Ch×List Sn×List Ti×List UInt8×Int,inv:=fun j=>pnJ x.1 n (xC x) x.2.2.2.2.2.2.1 x.2.2.2.2.2.2.2 (zBW i) (zI i) (zI j) (zBW j),regs:=fun j=>[(0,buA x.1 (zBW j)),(9,.int .i64 (zI j)),(2,.int .i64 x.2.2.2.2.2.2.2),(4,.box 0 (ndA false x.2.2.2.2.2.2.1)),(7,.int .i64 (Au x.1.rd (xC x))),(14,AQ x.2.2.2.2.2.2.1.kids),(15,.int .i64 x.2.2.2.2.2.2.1.kids.length),(16,.int .i64 (zI i))],als:=[],meas:=fun _=>0}
def Rn(n:Nat)(x:BC×List Ru×List Ch×List Sn×List Ti×List UInt8×Nd×Int):LS:= {ι:=List Ru×List Ch×List Sn×List Ti×List UInt8×Int,inv:=fun i=>pnI x.1 n (xC x) x.2.2.2.2.2.2.1 x.2.2.2.2.2.2.2 (zI i) (zBW i),regs:=fun i=>[(0,buA x.1 (zBW i)),(2,.int .i64 x.2.2.2.2.2.2.2),(4,.box 0 (ndA false x.2.2.2.2.2.2.1)),(7,.int .i64 (Au x.1.rd (xC x))),(14,AQ x.2.2.2.2.2.2.1.kids),(15,.int .i64 x.2.2.2.2.2.2.1.kids.length),(16,.int .i64 (zI i))],als:=[],meas:=fun i=>x.2.2.2.2.2.2.1.kids.length-(zI i).toNat,sub:=fun i=>[(200008,Pa n x i),(100007,Pa n x i)]}
def Pd(n:Nat):Sig:= {X:=BC×BX (Nd×Int),args:=fun x=>[buA x.1 (xC x),.agg (ndA false x.2.2.2.2.2.2.1),.q x.2.2.2.2.2.2.2],pre:=fun x=>pnP x.1 n (xC x) x.2.2.2.2.2.2.1 x.2.2.2.2.2.2.2,Y:=Int×BT,post:=fun x y=>pnQ x.1 n (xC x) x.2.2.2.2.2.2.1 x.2.2.2.2.2.2.2 y.1 (yBW y.2),res:=fun x y=> .q y.1,outs:=fun x y=>[buA x.1 (yBW y.2),.top,.top],keep:=true}
def Ve(n:Nat)(x:BC×BX (Nd×Int))(e:Int)(i:BX Int)(x_2:DC.X)(y:DC.Y):Prop:=(0≤zI i∧zI i<(↑(3:Nat):Int))∧(∀(l:List UInt8),[#[].toList,#[(63:UInt8),32].toList,#[(58:UInt8),32].toList][Int.toNat (zI i)]? =some l→(↑((yBW y).text.length+l.length):Int)≤Ag∧(true=true∧(eA (Pa n x i) [.box 0 [.q x_2.1.ind,oRu (yBW y).rules,oCh (yBW y).chunks,oSn (yBW y).spans,oTi (yBW y).ties,nds x_2.1.ns,.str ((yBW y).text++l),.bool x_2.1.rd],.q e,.q x.2.2.2.2.2.2.2,.box 0 (ndA false x.2.2.2.2.2.2.1),.q (Au x.1.rd (xC x)),AQ x.2.2.2.2.2.2.1.kids,.q (x.2.2.2.2.2.2.1.kids.length:Int),.q (zI i)])))
theorem c2u(n:Nat)(hc:Ai G Go.Proofs.Tryz.prog 81 (CH n)):Ai G Tryz.prog 114 (Pd n):=
 vcFun_okP [(79,0,El),(80,0,DC),(81,0,(CH n)),(140,0,IV)] [] false (fun x=>[(3,Rn n x)]) Tryz.func114 rfl (by decide) ⟨OQ,OT,hc,a7u,trivial⟩ (fun(x:BC×BX (Nd×Int))=>True∧cA El [(buA x.1 (xC x)),.q 2,.q 1] fun x_1 y=>eA (Rn n x) [(buA x_1.1 (yBW y)),.q x.2.2.2.2.2.2.2,.box 0 (ndA false x.2.2.2.2.2.2.1),.q (Au x_1.1.rd (xC x_1)),AQ x.2.2.2.2.2.2.1.kids,.q (x.2.2.2.2.2.2.1.kids.length:Int),.q 0]∧∀(i:BX Int),pnI x.1 n (xC x) x.2.2.2.2.2.2.1 x.2.2.2.2.2.2.2 (zI i) (zBW i)→Aa (decide (zI i<(x.2.2.2.2.2.2.1.kids.length:Int))) ((0≤zI i∧zI i<(x.2.2.2.2.2.2.1.kids.length:Int))∧∀(e:Int),x.2.2.2.2.2.2.1.kids[Int.toNat (zI i)]? =some e→Aa (decide (zI i>0)) (cA DC [(buA x.1 (zBW i)),.q (Au x.1.rd (xC x)),.q 1,.bool true,.q x.2.2.2.2.2.2.2] fun x_2 y=>true=true∧((Ve n x e i x_2 y)∧(Ve n x e i x_2 y)∧(Ve n x e i x_2 y))∧∀(i_1:BX Int),pnJ x.1 n (xC x) x.2.2.2.2.2.2.1 x.2.2.2.2.2.2.2 (zBW i) (zI i) (zI i_1) (zBW i_1)→eA (Pa n x i) [(buA x.1 (zBW i_1)),.q (zI i_1),.q x.2.2.2.2.2.2.2,.box 0 (ndA false x.2.2.2.2.2.2.1),.q (Au x.1.rd (xC x)),AQ x.2.2.2.2.2.2.1.kids,.q (x.2.2.2.2.2.2.1.kids.length:Int),.q (zI i)]) (eA (Pa n x i) [(buA x.1 (zBW i)),.q e,.q x.2.2.2.2.2.2.2,.box 0 (ndA false x.2.2.2.2.2.2.1),.q (Au x.1.rd (xC x)),AQ x.2.2.2.2.2.2.1.kids,.q (x.2.2.2.2.2.2.1.kids.length:Int),.q (zI i)])∧∀(i_1:BX Int),pnJ x.1 n (xC x) x.2.2.2.2.2.2.1 x.2.2.2.2.2.2.2 (zBW i) (zI i) (zI i_1) (zBW i_1)→cA (CH n) [(buA x.1 (zBW i_1)),.q (zI i_1),.q x.2.2.2.2.2.2.2] fun x_2 y=>(0≤zI i_1∧zI i_1<(x_2.1.ns.length:Int))∧∀(e:Nd),x_2.1.ns[Int.toNat (zI i_1)]? =some e→Aa (e.kind==8) (cA IV [(buA x_2.1 (yBW y.2)),.q y.1,.q (Au x.1.rd (xC x))] fun x_3 y=>inR .i64 (zI i+1)∧eN (Rn n x) i [(buA x_3.1 (yBW y)),.q x.2.2.2.2.2.2.2,.box 0 (ndA false x.2.2.2.2.2.2.1),.q (Au x.1.rd (xC x)),AQ x.2.2.2.2.2.2.1.kids,.q (x.2.2.2.2.2.2.1.kids.length:Int),.q (zI i+1)]) (inR .i64 (zI i+1)∧eN (Rn n x) i [(buA x_2.1 (yBW y.2)),.q x.2.2.2.2.2.2.2,.box 0 (ndA false x.2.2.2.2.2.2.1),.q (Au x.1.rd (xC x)),AQ x.2.2.2.2.2.2.1.kids,.q (x.2.2.2.2.2.2.1.kids.length:Int),.q (zI i+1)])) (rA (Pd n) x [.q (Au x.1.rd (xC x)),(buA x.1 (zBW i)),.top,.top])) (fun x=>by kernel_rfl) fun(x:BC×BX (Nd×Int)) (hx:pnP x.1 n (xC x) x.2.2.2.2.2.2.1 x.2.2.2.2.2.2.2)=>(by
 dsimp only[Ve,buA,cA,CC,eA,eN,AQ,Br,nds,oCh,oRu,oSn,oTi,Rn,Pa,rA,CB,Pd,El,DC,IV,CH,CD,CE,As,Az,mvL,lnL,mvE,lnE,mvG,mvH,lnG,lnH,Bl,Ag,AV.q]
 obtain⟨b,r,c,s,t,u,x,a⟩:=x;dsimp only[xC] at hx ⊢
 have hx:pnP b n ⟨r,c,s,t,u⟩ x a:=hx
 have h1:=hx.ar;have h2:=hx.kl
 (repeat' first|(with_reducible first|rfl|exact True.intro|apply AK|apply And.intro|((first|apply AA|apply AI|apply AB|apply AJ)<;>intro _))|(apply Av<;>intro _)|apply AH|refine Ae () ?_ ?_|((first|apply AO|apply AN|apply AM|apply AL|apply AG|apply AF|apply AE|apply AD|apply AC)<;>try dsimp only)|apply Ae|(refine Prod.forall.2 ?_;intro _;try dsimp only)|(intro _;try dsimp only))
 all_goals(try dsimp only[yBW,xC,zBW,zI,wB] at*)
 all_goals first
  |with_reducible rfl
  |exact DD hx.rm
  |exact a8b hx ‹_›
  |exact a8c ‹_› ‹_›
  |exact a8f ‹_› ‹_› ‹_›
  |exact c2t ‹_› ‹_› ‹_› ‹_› ‹_›
  |exact a0Y ‹_› hx
  |exact a8g ‹_› ‹_› hx
  |exact a8j ‹_› ‹_› hx ‹_› ‹_›
  |exact a8k ‹_› ‹_› ‹_› hx ‹_› ‹_›
  |exact a8l ‹_› hx ‹_›
  |(have hq:=Vd ‹pnI _ _ _ _ _ _ _›;(try simp only[An]);omega)
  |(have hq:=a8h ‹pnJ _ _ _ _ _ _ _ _ _› hx;(try simp only[An]);omega)
  |(have hq2:=(a0Z ‹_› ‹_›).2;have hq:=a8e ‹pnI _ _ _ _ _ _ _› ‹_› ‹_›;dsimp only at hq;(try simp only[An,List.length_append,List.length_cons,List.length_nil]);omega)
  |exact()
  |skip)
structure fnP (c:BC) (n:Nat) (s:Bs) (x:Nd) (a:Int):Prop where
 kd:kdP c.ns n x.kids
 kl:1≤x.kids.length∧x.kids.length≤12
 nm:∀k∈x.kids,k∈x.kids.take (x.kids.length-1)→(Ab c.ns k).text.length≤30
 rm:bR (80+wL (tW c.ns n) x.kids) s
 ar:0≤a∧a≤40
def fnT(x:Nd):List Int:=x.kids.take (x.kids.length-1)
def fnM(c:BC)(x:Nd)(i:Int):List (List UInt8):=((fnT x).take i.toNat).map fun k=>(Ab c.ns k).text
def fnQ(c:BC)(n:Nat)(s:Bs)(x:Nd)(a:Int)(t:Bs):Prop:=t=bFn c.ns c.rd (bV c.ns c.rd n) x a s
theorem a8n(h:1≤x.kids.length):x.kids.take ((x.kids.length:Int)-1).toNat=fnT x:=by rw[fnT,show((x.kids.length:Int)-1).toNat=x.kids.length-1 by omega]
theorem MW{x:Nd}:(fnT x).length=x.kids.length-1:=by rw[fnT,List.length_take];omega
theorem a8o{i:Nat}(h:(fnT x)[i]? =some k):k∈x.kids:=List.mem_of_mem_take (Bm h)
theorem a8p{i:Nat}(hx:fnP c n s x a)(h:(fnT x)[i]? =some k):0≤k∧k<c.ns.length:=BB.1 (hx.kd k (a8o h)).1.1
theorem c2v:fnM c x 0=[]:=rfl
theorem a8q(h0:0≤i)(h:(fnT x)[i.toNat]? =some k)(he:c.ns[k.toNat]? =some e):fnM c x i++[e.text]=fnM c x (i+1):=by
 rw[fnM,fnM,Dd h0,ED h,List.map_append,←BA he];rfl
theorem a1a{c:BC}{x:Nd}{i:Int}:(fnM c x i).length≤x.kids.length:=by
 rw[fnM,List.length_map,List.length_take,MW];omega
theorem c2w{t:List UInt8}(h:x.kids.length≤12):Bb ((fnM c x i).length+[t].length) 16:=by
 have:= @a1a c x i
 simp only[Bb,List.length_cons,List.length_nil];omega
theorem a8r(h:¬i<(fnT x).length):Hr (fnM c x i) [44,32]=Fr c.ns (fnT x) true:=by
 rw[c2m,fnM,List.take_of_length_le (by omega)]
theorem c2x(hx:fnP c n s x a)(h:¬i<(fnT x).length):(Hr (fnM c x i) [44,32]).length≤400:=by
 rw[a8r h]
 have h1:=QZ (ns:=c.ns) (w:=fun _=>30) (l:=fnT x) (first:=true) fun k hk=>hx.nm k (List.mem_of_mem_take hk) hk
 have h2:=a0r (w:=fun _=>30) (b:=30) (l:=fnT x) fun _ _=>by omega
 have h3:= @MW x;have h4:=hx.kl
 omega
theorem c2y{u:List UInt8}(h:¬i<(fnT x).length):u++([40]++Hr (fnM c x i) [44,32]++[41,32,61,62])=u++(DJ c.ns x++[32,61,62]):=by
 rw[a8r h,DJ,fnT];simp
theorem Vf(hx:fnP c n s x a):bR (20+tW c.ns n (kd x (x.kids.length-1))) (Aq (DJ c.ns x++[32,61,62]) s):=by
 have h1:=QZ (ns:=c.ns) (w:=tW c.ns n) (l:=fnT x) (first:=true) fun k hk=>by
  have h2:=hx.kd k (List.mem_of_mem_take hk)
  have h3:=BB.1 h2.1.1
  rw[show n=(n-1)+1 by omega];exact a6X
 have h2:=a6Z (w:=tW c.ns n) (x:=x) (by have:=hx.kl;omega)
 have h3:= @MW x;have h4:=hx.kl
 refine Ln hx.rm ?_
 rw[DJ]
 simp only[fnT] at h1 h3
 simp only[List.length_append,List.length_cons,List.length_nil];omega
theorem a8s(ht:t=Bo c.rd 2 2 (Aq (DJ c.ns x++[32,61,62]) s))(hx:fnP c n s x a):bB t:=by subst ht;exact DD (Jw (Vf hx))
theorem a8t(hu:u=Ba (Au c.rd (Aq (DJ c.ns x++[32,61,62]) s)) 1 true a t)(ht:t=Bo c.rd 2 2 (Aq (DJ c.ns x++[32,61,62]) s))(hx:fnP c n s x a)(hk:x.kids[((x.kids.length:Int)-1).toNat]? =some k):vlP c.ns n u k a:=by
 subst hu;subst ht
 have h1:=hx.kd k (Bm hk)
 have h2:=hx.kl
 rw[show((x.kids.length:Int)-1).toNat=x.kids.length-1 by omega] at hk
 exact⟨h1.1,h1.2.1,h1.2.2,Lo (Jw (Vf hx)) (by rw[KU hk];omega),hx.ar⟩
theorem a8u{v:Bs}(hv:Cf c n u k a o v)(hu:u=Ba (Au c.rd (Aq (DJ c.ns x++[32,61,62]) s)) 1 true a t)(ht:t=Bo c.rd 2 2 (Aq (DJ c.ns x++[32,61,62]) s))(hx:fnP c n s x a)(hk:x.kids[((x.kids.length:Int)-1).toNat]? =some k):fnQ c n s x a v:=by
 have h1:=hx.kl
 rw[show((x.kids.length:Int)-1).toNat=x.kids.length-1 by omega] at hk
 rw[fnQ,bFn,KU hk,hv.1,hu,ht]
def Pe(n:Nat):Sig:= {X:=BC×BX (Nd×Int),args:=fun x=>[buA x.1 (xC x),.agg (ndA false x.2.2.2.2.2.2.1),.q x.2.2.2.2.2.2.2],pre:=fun x=>fnP x.1 n (xC x) x.2.2.2.2.2.2.1 x.2.2.2.2.2.2.2,Y:=BT,post:=fun x y=>fnQ x.1 n (xC x) x.2.2.2.2.2.2.1 x.2.2.2.2.2.2.2 (yBW y),res:=fun x y=> .tup [],outs:=fun x y=>[buA x.1 (yBW y),.top,.top],keep:=true}
def Vg(n:Nat)(x:BC×BX (Nd×Int)):LS:= {ι:=Int,inv:=fun i=>0≤i∧i≤(fnT x.2.2.2.2.2.2.1).length,regs:=fun i=>[(0,buA x.1 (xC x)),(2,.q x.2.2.2.2.2.2.2),(4,.box 0 (ndA false x.2.2.2.2.2.2.1)),(6,.q (x.2.2.2.2.2.2.1.kids.length-1)),(7,Ds (fnM x.1 x.2.2.2.2.2.2.1 i)),(18,AQ (fnT x.2.2.2.2.2.2.1)),(19,.q (fnT x.2.2.2.2.2.2.1).length),(20,.q i)],als:=[],meas:=fun i=>(fnT x.2.2.2.2.2.2.1).length-i.toNat}
def a1b(n:Nat)(x:BC×BX (Nd×Int)):LS:= {ι:=Unit,inv:=fun _=>True,regs:=fun _=>[(0,buA x.1 (Aq (DJ x.1.ns x.2.2.2.2.2.2.1++[32,61,62]) (xC x))),(2,.q x.2.2.2.2.2.2.2),(4,.box 0 (ndA false x.2.2.2.2.2.2.1)),(6,.q (x.2.2.2.2.2.2.1.kids.length-1))],als:=[],meas:=fun _=>0}
def a1c(n:Nat)(x:BC×BX (Nd×Int))(i:Int):Prop:=cA Lr [Ds (fnM x.1 x.2.2.2.2.2.2.1 i),.str #[(44:UInt8),32].toList] fun x_1 y=>(↑((1:Nat)+(Hr x_1.1 x_1.2).length):Int)≤Ag∧((↑((#[(40:UInt8)].toList++Hr x_1.1 x_1.2).length+(4:Nat)):Int)≤Ag∧((↑((xC x).text.length+(#[(40:UInt8)].toList++Hr x_1.1 x_1.2++ #[(41:UInt8),32,61,62].toList).length):Int)≤Ag∧(true=true∧(eA (a1b n x) [.box 0 [.q x.1.ind,oRu (xC x).rules,oCh (xC x).chunks,oSn (xC x).spans,oTi (xC x).ties,nds x.1.ns,.str ((xC x).text++(#[(40:UInt8)].toList++Hr x_1.1 x_1.2++ #[(41:UInt8),32,61,62].toList)),.bool x.1.rd],.q x.2.2.2.2.2.2.2,.box 0 (ndA false x.2.2.2.2.2.2.1),.q ((x.2.2.2.2.2.2.1.kids.length:Int)-(1:Int))]))))
theorem c2z(n:Nat)(hc:Ai G Go.Proofs.Tryz.prog 81 (CH n)):Ai G Tryz.prog 115 (Pe n):=
 vcFun_okP [(79,0,El),(80,0,DC),(81,0,(CH n)),(128,0,Lr)] [(42,⟨List UInt8,Be⟩)] false (fun x=>[(4,Vg n x),(100008,a1b n x)]) Tryz.func115 rfl (by decide) ⟨OQ,OT,hc,c2l,trivial⟩ (fun(x:BC×BX (Nd×Int))=>True∧inR .i64 ((x.2.2.2.2.2.2.1.kids.length:Int)-(1:Int))∧((0:Int)≤(0:Int)∧0≤(x.2.2.2.2.2.2.1.kids.length:Int)-(1:Int)∧(x.2.2.2.2.2.2.1.kids.length:Int)-1≤(x.2.2.2.2.2.2.1.kids.length:Int))∧eA (Vg n x) [(buA x.1 (xC x)),.q x.2.2.2.2.2.2.2,.box 0 (ndA false x.2.2.2.2.2.2.1),.q ((x.2.2.2.2.2.2.1.kids.length:Int)-(1:Int)),.nil,AQ (List.take (Int.toNat ((x.2.2.2.2.2.2.1.kids.length:Int)-(1:Int))) x.2.2.2.2.2.2.1.kids),.q (↑(List.length (List.take (Int.toNat ((x.2.2.2.2.2.2.1.kids.length:Int)-(1:Int))) x.2.2.2.2.2.2.1.kids)):Int),.q 0]∧∀(i:Int),0≤i∧i≤(↑((fnT x.2.2.2.2.2.2.1).length):Int)→Aa (decide (i<(↑((fnT x.2.2.2.2.2.2.1).length):Int))) ((0≤i∧i<(↑((fnT x.2.2.2.2.2.2.1).length):Int))∧∀(e:Int),(fnT x.2.2.2.2.2.2.1)[Int.toNat i]? =some e→(0≤e∧e<(x.1.ns.length:Int))∧∀(e_1:Nd),x.1.ns[Int.toNat e]? =some e_1→∃(x_1:List UInt8),e_1.text=x_1∧∃(zs:List (List UInt8)),Ds [x_1]=Ds zs∧BI Be∧Bb ((fnM x.1 x.2.2.2.2.2.2.1 i).length+zs.length) (16:Nat)∧inR .i64 (i+1)∧eN (Vg n x) i [(buA x.1 (xC x)),.q x.2.2.2.2.2.2.2,.box 0 (ndA false x.2.2.2.2.2.2.1),.q ((x.2.2.2.2.2.2.1.kids.length:Int)-(1:Int)),Ds (fnM x.1 x.2.2.2.2.2.2.1 i++zs),AQ (fnT x.2.2.2.2.2.2.1),.q (↑((fnT x.2.2.2.2.2.2.1).length):Int),.q (i+1)]) (true=true∧((a1c n x i)∧(a1c n x i))∧∀(i:Unit),True→cA El [(buA x.1 (Aq (DJ x.1.ns x.2.2.2.2.2.2.1++[(32:UInt8),61,62]) (xC x))),.q 2,.q 2] fun x_1 y=>cA DC [(buA x_1.1 (yBW y)),.q (Au x_1.1.rd (xC x_1)),.q 1,.bool true,.q x.2.2.2.2.2.2.2] fun x_2 y=>(0≤(x.2.2.2.2.2.2.1.kids.length:Int)-(1:Int)∧(x.2.2.2.2.2.2.1.kids.length:Int)-1<(x.2.2.2.2.2.2.1.kids.length:Int))∧∀(e:Int),x.2.2.2.2.2.2.1.kids[Int.toNat ((x.2.2.2.2.2.2.1.kids.length:Int)-(1:Int))]? =some e→cA (CH n) [(buA x_2.1 (yBW y)),.q e,.q x.2.2.2.2.2.2.2] fun x_3 y=>rA (Pe n) x [.tup [],(buA x_3.1 (yBW y.2)),.top,.top])) (fun x=>by kernel_rfl) fun(x:BC×BX (Nd×Int)) (hx:fnP x.1 n (xC x) x.2.2.2.2.2.2.1 x.2.2.2.2.2.2.2)=>(by
 dsimp only[a1c,buA,cA,CC,eA,eN,a1b,Vg,AQ,Br,nds,oCh,oRu,oSn,oTi,Ds,rA,CB,Pe,El,DC,CH,Lr,CD,CE,Ig,As,Az,mvL,lnL,mvE,lnE,mvG,mvH,lnG,lnH,Bl,Ag,AV.q]
 obtain⟨b,r,c,s,t,u,x,a⟩:=x;dsimp only[xC] at hx ⊢
 have hx:fnP b n ⟨r,c,s,t,u⟩ x a:=hx
 have h1:=hx.ar;have h2:=hx.kl
 (repeat' first|(with_reducible first|rfl|exact True.intro|apply AK|apply And.intro|((first|apply AA|apply AI|apply AB|apply AJ)<;>intro _))|(apply Av<;>intro _)|apply AH|refine Ae () ?_ ?_|((first|apply AO|apply AN|apply AM|apply AL|apply AG|apply AF|apply AE|apply AD|apply AC)<;>try dsimp only)|apply Ae|(refine Prod.forall.2 ?_;intro _;try dsimp only)|(intro _;try dsimp only))
 all_goals(try dsimp only[yBW,xC,zBW,zI,wB] at*)
 all_goals first
  |with_reducible rfl
  |exact a8n hx.kl.1
  |(rw[a8n hx.kl.1];done)
  |exact c2v
  |exact a8q (by omega) ‹_› ‹_›
  |exact(a8q (by omega) ‹_› ‹_›).symm
  |exact DD (Vf hx)
  |exact a8s ‹_› hx
  |exact a8t ‹_› ‹_› hx ‹_›
  |exact a8u ‹_› ‹_› ‹_› hx ‹_›
  |exact c2y ‹_›
  |(have hl:= @MW x;(try simp only[An]);omega)
  |(have hq:=a8p hx ‹_›;(try simp only[An]);omega)
  |(have hq:=c2x hx ‹_›;have hb:=IT (DD hx.rm);have hm:= @a1a b x;(try have hm:= @a1a b x ‹Int›);dsimp only at hb;(try simp only[An,List.length_append,List.length_cons,List.length_nil]);omega)
  |exact c2w hx.kl.2
  |exact()
  |rfl
  |skip)
end Go.My
end
section
namespace Go.My
open Go.Eng Go.Proofs
variable {G:GInv}
variable {a d i k o:Int}{c:BC}{n:Nat}{ns:List Nd}{s t u:Bs}
theorem a8v(h:vlP ns n s k a):ns[k.toNat]? =some (Ab ns k):=by
 have hr:=BB.1 h.up.1
 have e:ns[k.toNat]? =some ns[k.toNat]:=List.getElem?_eq_getElem (by omega)
 rw[BA e];exact e
theorem Lt(h:vlP ns (n+1) s k a):kdP ns n (Ab ns k).kids:=fun c hc=>by
 have hm:=FC h.up hc
 have:=h.lt
 exact⟨hm.1,by omega,Ra h.up h.vl hc⟩
theorem Lu(h:vlP ns n s k a):(Ab ns k).kids.length≤12:=(EF (Jm h.up)).2.1
theorem Kn(h:vlP ns (n+1) s k a):bR ((Ab ns k).text.length+80+wL (tW ns n) (Ab ns k).kids) s:=h.rm
theorem a1d(h:vlP ns n s k a)(h1:¬(Ab ns k).kind=1)(h2:¬(Ab ns k).kind=2)(h3:¬(Ab ns k).kind=3)(h4:¬(Ab ns k).kind=4):0<(Ab ns k).kids.length:=by
 have hv:=BW.1 h.vl
 have hlo:=(Th h.up).2.1
 unfold Bc at hv
 unfold Ee at hlo
 split at hlo
 ·omega
 ·split at hlo
  ·simp only at hlo;omega
  ·split at hlo
   ·simp only at hlo;omega
   ·split at hlo
    ·simp only at hlo;omega
    ·split at hlo
     ·simp only at hlo;omega
     ·omega
theorem MX(h:vlP c.ns (n+1) s k a)(hd:(Ab c.ns k).kids[(0:Nat)]? =some d)(ht:bR ((Ab c.ns k).text.length+79+wL (tW c.ns n) (Ab c.ns k).kids) t):vlP c.ns n t d a∧∀ {o:Int} {u:Bs},Cf c n t d a o u→bR ((Ab c.ns k).text.length+79+wL (tW c.ns n) ((Ab c.ns k).kids.drop 1)) u:=by
 have hk:=Lt h d (Bm hd)
 have e:wL (tW c.ns n) (Ab c.ns k).kids=tW c.ns n d+wL (tW c.ns n) ((Ab c.ns k).kids.drop 1):=by
  have:=HI hd
  rw[List.drop_zero] at this
  conv=>lhs;rw[this]
  rw[FI]
 have hp:vlP c.ns n t d a:=⟨hk.1,hk.2.1,hk.2.2,DQ ht (by omega),h.ar⟩
 exact⟨hp,fun {o u} hq=>a0S hp hq (DQ ht (by omega))⟩
theorem MY(ht:t=bV1 c.ns c.rd (bV c.ns c.rd n) (Ab c.ns k) a s)(hk:¬(Ab c.ns k).kind=7)(hk2:¬(Ab c.ns k).kind=8):Cf c (n+1) s k a (-1) t:=by
 refine⟨by rw[bV];exact ht,?_⟩
 rw[Ia,if_neg (by intro hh;rcases hh with hh|hh;exact hk hh;exact hk2 hh)]
theorem a1e(hk:(Ab c.ns k).kind=1∨(Ab c.ns k).kind=2∨(Ab c.ns k).kind=3):Cf c (n+1) s k a (-1) (Aq (Ab c.ns k).text s):=
 MY (by rw[bV1,if_pos hk]) (by omega) (by omega)
theorem a8w(h:vlP c.ns (n+1) s k a):s.text.length+(Ab c.ns k).text.length+80≤2^61:=by
 have:=(Kn h).2;unfold tot at this;omega
theorem a8x(h:vlP c.ns (n+1) s k a):bR ((Ab c.ns k).text.length+79+wL (tW c.ns n) (Ab c.ns k).kids) (Aq [40] s):=Ln (Kn h) (by show _+1≤_;omega)
theorem a8y(h:vlP c.ns (n+1) s k a)(hd:(Ab c.ns k).kids[(0:Nat)]? =some d):vlP c.ns n (Aq [40] s) d a:=(MX h hd (a8x h)).1
theorem a8z(h:vlP c.ns (n+1) s k a)(hu:Cf c n (Aq [40] s) d a o u)(hd:(Ab c.ns k).kids[(0:Nat)]? =some d):u.text.length+79≤2^61:=by
 have:=((MX h hd (a8x h)).2 hu).2;unfold tot at this;omega
theorem a8A{r1:List Ru}{r2:List Ch}{r3:List Sn}{r4:List Ti}{r5:List UInt8}(hu:Cf c n (Aq [40] s) d a o ⟨r1,r2,r3,r4,r5⟩)(hd:(Ab c.ns k).kids[(0:Nat)]? =some d)(hk:(Ab c.ns k).kind=11):Cf c (n+1) s k a (-1) ⟨r1,r2,r3,r4,r5++[41]⟩:=
 MY (by rw[bV1,if_neg (by omega),if_pos hk,KU hd,←hu.1];rfl) (by omega) (by omega)
theorem Ro(h:vlP c.ns (n+1) s k a):bR ((Ab c.ns k).text.length+79+wL (tW c.ns n) (Ab c.ns k).kids) s:=DQ (Kn h) (by omega)
theorem a8B(h:vlP c.ns (n+1) s k a)(hd:(Ab c.ns k).kids[(0:Nat)]? =some d):vlP c.ns n s d a:=(MX h hd (Ro h)).1
theorem a8C(h:vlP c.ns (n+1) s k a)(hu:Cf c n s d a o u)(hd:(Ab c.ns k).kids[(0:Nat)]? =some d):u.text.length+(Ab c.ns k).text.length+79≤2^61:=by
 have:=((MX h hd (Ro h)).2 hu).2;unfold tot at this;omega
theorem a8D(hu:Cf c n s d a o u)(hd:(Ab c.ns k).kids[(0:Nat)]? =some d)(hk:(Ab c.ns k).kind=6):Cf c (n+1) s k a (-1) (Aq (46::(Ab c.ns k).text) u):=
 MY (by rw[bV1,if_neg (by omega),if_neg (by omega),if_pos hk,KU hd,hu.1]) (by omega) (by omega)
theorem a8E(h:vlP c.ns (n+1) s k a):liP c n s [91] (Ab c.ns k).kids [93] a:=⟨Lt h,Lu h,by simp,by simp,DQ (Kn h) (by omega),h.ar⟩
theorem a8F(hu:isB (Eg c.rd (bV c.ns c.rd n) [91] (Ab c.ns k).kids [93] a s) u)(hk:(Ab c.ns k).kind=4):Cf c (n+1) s k a (-1) u:=
 MY (by rw[bV1,if_neg (by omega),if_neg (by omega),if_neg (by omega),if_pos hk];exact hu) (by omega) (by omega)
theorem a8G(h:vlP c.ns (n+1) s k a)(hu:Cf c n s d a o u)(hd:(Ab c.ns k).kids[(0:Nat)]? =some d):liP c n u [40] ((Ab c.ns k).kids.drop 1) [41] a:=
 ⟨fun e he=>Lt h e (List.mem_of_mem_drop he),by have:=Lu h;rw[List.length_drop];omega,by simp,by simp,DQ ((MX h hd (Ro h)).2 hu) (by omega),h.ar⟩
theorem a8H{v:Bs}(hv:isB (Eg c.rd (bV c.ns c.rd n) [40] ((Ab c.ns k).kids.drop 1) [41] a u) v)(hu:Cf c n s d a o u)(hd:(Ab c.ns k).kids[(0:Nat)]? =some d)(hk:(Ab c.ns k).kind=5):Cf c (n+1) s k a (-1) v:=
 MY (by rw[bV1,if_neg (by omega),if_neg (by omega),if_neg (by omega),if_neg (by omega),if_pos hk,KU hd,←hu.1];exact hv) (by omega) (by omega)
theorem a8I(h:vlP c.ns (n+1) s k a)(hk:(Ab c.ns k).kind=7):cnP c n s (Ab c.ns k) (min (a+4) 40):=⟨Lt h,Lu h,a0p h.up hk,DQ (Kn h) (by omega),OY h.ar⟩
theorem a8J(hu:cnQ c n s (Ab c.ns k) (min (a+4) 40) o u)(hk:(Ab c.ns k).kind=7):Cf c (n+1) s k a o u:=by
 refine⟨?_,?_⟩
 ·rw[bV,bV1,if_neg (by omega),if_neg (by omega),if_neg (by omega),if_neg (by omega),if_neg (by omega),if_pos hk];exact hu.1
 ·rw[Ia,if_pos (.inl hk)];exact hu.2
theorem a8K(h:vlP c.ns (n+1) s k a)(hk:(Ab c.ns k).kind=8):pnP c n s (Ab c.ns k) (min (a+4) 40):=⟨Lt h,by
 have hs:=(Th h.up).2.2
 skip
 rw[hk] at hs
 have:(Ee 8).2=3:=rfl
 omega,DQ (Kn h) (by omega),OY h.ar⟩
theorem a8L(hu:pnQ c n s (Ab c.ns k) (min (a+4) 40) o u)(hk:(Ab c.ns k).kind=8):Cf c (n+1) s k a o u:=by
 refine⟨?_,?_⟩
 ·rw[bV,bV1,if_neg (by omega),if_neg (by omega),if_neg (by omega),if_neg (by omega),if_neg (by omega),if_neg (by omega),if_pos hk];exact hu.1
 ·rw[Ia,if_pos (.inr hk)];exact hu.2
theorem c2A(h:CS ns k)(hk:(Ab ns k).kind=9):∀c∈(Ab ns k).kids,c∈(Ab ns k).kids.take ((Ab ns k).kids.length-1)→(Ab ns c).text.length≤30:=by
 intro c hc hm
 have hko:=(EF (Jm h)).2.2.2.2.2.1
 rw[hk] at hko
 have hko:Gj Bf ((Ab ns k).kids.map (Bc ns))=true:=hko
 unfold Gj at hko
 split at hko
 ·rename_i l hl
  rw[Bool.and_eq_true,List.all_eq_true] at hko
  have h2:Bc ns c∈((Ab ns k).kids.map (Bc ns)).dropLast:=by
   rw[List.dropLast_eq_take,List.length_map,←List.map_take]
   exact List.mem_map.2 ⟨c,hm,rfl⟩
  have h3:=hko.2 _ h2
  simp [Ep] at h3
  have ht:=(EF (Jm (FC h hc).1)).2.2.1
  have h4:(Ab ns c).kind=1:=h3
  rw[h4] at ht
  exact c1g (by simpa [EO] using ht)
 ·cases hko
theorem a8M(h:vlP c.ns (n+1) s k a)(hk:(Ab c.ns k).kind=9):fnP c n s (Ab c.ns k) (min (a+4) 40):=⟨Lt h,⟨a1d h (by omega) (by omega) (by omega) (by omega),Lu h⟩,c2A h.up hk,DQ (Kn h) (by omega),OY h.ar⟩
theorem a8N(hu:fnQ c n s (Ab c.ns k) (min (a+4) 40) u)(hk:(Ab c.ns k).kind=9):Cf c (n+1) s k a (-1) u:=
 MY (by rw[bV1,if_neg (by omega),if_neg (by omega),if_neg (by omega),if_neg (by omega),if_neg (by omega),if_neg (by omega),if_neg (by omega),if_pos hk];exact hu) (by omega) (by omega)
def vaF(c:BC)(n:Nat)(s:Bs)(a:Int):List Int→Int→Bs→Bs:=caF (bV c.ns c.rd n) (Au c.rd s) (up4 a)
def vaI(c:BC)(n:Nat)(s:Bs)(k a:Int)(i:Int)(t:Bs):Prop:=Jx (vaF c n s a) (fun e=>3+tW c.ns n e) ((Ab c.ns k).kids.drop 1) 2 (bV c.ns c.rd n (kd (Ab c.ns k) 0) a (Bo c.rd 2 1 s)) i t
theorem vaS(h:vlP c.ns (n+1) s k a):lpS c.rd (vaF c n s a) (caS (bV c.ns c.rd n) (Au c.rd s) (up4 a)) (fun e=>3+tW c.ns n e) ((Ab c.ns k).kids.drop 1):=
 c1L (UU fun e he=>Lt h e (List.mem_of_mem_drop he))
theorem a8O(ht:t=Bo c.rd 2 1 s)(h:vlP c.ns (n+1) s k a)(hd:(Ab c.ns k).kids[(0:Nat)]? =some d):vlP c.ns n t d a:=by
 subst ht;exact(MX h hd (Jw (Ro h))).1
theorem a8P(hu:Cf c n t d a o u)(ht:t=Bo c.rd 2 1 s)(h:vlP c.ns (n+1) s k a)(hd:(Ab c.ns k).kids[(0:Nat)]? =some d):vaI c n s k a 0 u:=by
 subst ht
 have h1:=(MX h hd (Jw (Ro h))).2 hu
 have h2:bR (wL (fun e=>3+tW c.ns n e) ((Ab c.ns k).kids.drop 1)+2) u:=by
  rw[Rj];exact DQ h1 (by have:=Lu h;rw[List.length_drop];omega)
 have e:bV c.ns c.rd n (kd (Ab c.ns k) 0) a (Bo c.rd 2 1 s)=u:=by rw[KU hd,hu.1]
 unfold vaI
 rw[e];exact UK (F:=vaF c n s a) h2
theorem a8Q(h:vaI c n s k a i t):0≤i∧i≤((Ab c.ns k).kids.drop 1).length:=Ri h
theorem a8R(h:vlP c.ns (n+1) s k a):((Ab c.ns k).kids.drop 1).length≤12:=by have:=Lu h;rw[List.length_drop];omega
theorem a8S(h:vaI c n s k a i t)(hd:((Ab c.ns k).kids.drop 1)[i.toNat]? =some d):bR (tW c.ns n d+5) t:=DQ (UL h hd) (by omega)
theorem a8T(h:vaI c n s k a i t)(hd:((Ab c.ns k).kids.drop 1)[i.toNat]? =some d):bB t:=DD (a8S h hd)
theorem a8U(h:vaI c n s k a i t)(hu:u=Ba (Au c.rd s) 1 false (min (a+4) 40) t)(hd:((Ab c.ns k).kids.drop 1)[i.toNat]? =some d):bR (tW c.ns n d+4) u:=by
 subst hu;exact Lo (a8S h hd) (by omega)
theorem a8V(h:vaI c n s k a i t)(hu:u=Ba (Au c.rd s) 1 false (min (a+4) 40) t)(hd:((Ab c.ns k).kids.drop 1)[i.toNat]? =some d):u.text.length+4≤2^61:=by
 have:=(a8U h hu hd).2;unfold tot at this;omega
theorem a8W(h:vaI c n s k a i t)(hu:u=Ba (Au c.rd s) 1 false (min (a+4) 40) t)(hx:vlP c.ns (n+1) s k a)(hd:((Ab c.ns k).kids.drop 1)[i.toNat]? =some d):vlP c.ns n (Aq [46,46] u) d (min (a+4) 40):=by
 have hk:=Lt hx d (List.mem_of_mem_drop (Bm hd))
 exact⟨hk.1,hk.2.1,hk.2.2,Ln (a8U h hu hd) (by show _+2≤_;omega),OY hx.ar⟩
theorem a8X{v:Bs}(h:vaI c n s k a i t)(hd:((Ab c.ns k).kids.drop 1)[i.toNat]? =some d)(hu:u=Ba (Au c.rd s) 1 false (min (a+4) 40) t)(hv:Cf c n (Aq [46,46] u) d (min (a+4) 40) o v)(hx:vlP c.ns (n+1) s k a):vaI c n s k a (i+1) v:=by
 have:=Rh (vaS hx) h hd
 subst hu
 rw[hv.1];exact this
theorem a8Y(h:vaI c n s k a i t)(hx:vlP c.ns (n+1) s k a)(hi:¬i<((Ab c.ns k).kids.drop 1).length)(hk:(Ab c.ns k).kind=10):Cf c (n+1) s k a (-1) t:=
 MY (by rw[bV1,if_neg (by omega),if_neg (by omega),if_neg (by omega),if_neg (by omega),if_neg (by omega),if_neg (by omega),if_neg (by omega),if_neg (by omega)];exact(OV (vaS hx) h hi).1) (by omega) (by omega)
theorem c2B(h:vlP c.ns n s k a)(hk:((((((((((¬(Ab c.ns k).kind=1∧¬(Ab c.ns k).kind=2)∧¬(Ab c.ns k).kind=3)∧¬(Ab c.ns k).kind=11)∧¬(Ab c.ns k).kind=6)∧¬(Ab c.ns k).kind=4)∧¬(Ab c.ns k).kind=5)∧¬(Ab c.ns k).kind=7)∧¬(Ab c.ns k).kind=8)∧¬(Ab c.ns k).kind=9)∧¬(Ab c.ns k).kind=10)):False:=by
 have hv:=BW.1 h.vl
 unfold Bc at hv
 omega
attribute [local irreducible] vaI
def Ih(n:Nat):Sig:= {X:=BC×BX (Int×Int),args:=fun x=>[buA x.1 (xC x),.q x.2.2.2.2.2.2.1,.q x.2.2.2.2.2.2.2],pre:=fun x=>vlP x.1.ns (n+1) (xC x) x.2.2.2.2.2.2.1 x.2.2.2.2.2.2.2,Y:=Int×BT,post:=fun x y=>Cf x.1 (n+1) (xC x) x.2.2.2.2.2.2.1 x.2.2.2.2.2.2.2 y.1 (yBW y.2),res:=fun x y=> .q y.1,outs:=fun x y=>[buA x.1 (yBW y.2),.top,.top],keep:=true}
def Vh(n:Nat)(x:BC×BX (Int×Int)):LS:= {ι:=BX Int,inv:=fun i=>vaI x.1 n (xC x) x.2.2.2.2.2.2.1 x.2.2.2.2.2.2.2 (zI i) (zBW i),regs:=fun i=>[(0,buA x.1 (zBW i)),(7,.box 0 (ndA false (Ab x.1.ns x.2.2.2.2.2.2.1))),(8,.q (min (x.2.2.2.2.2.2.2+4) 40)),(9,.q (Au x.1.rd (xC x))),(132,AQ ((Ab x.1.ns x.2.2.2.2.2.2.1).kids.drop 1)),(133,.q ((Ab x.1.ns x.2.2.2.2.2.2.1).kids.drop 1).length),(134,.q (zI i))],als:=[],meas:=fun i=>((Ab x.1.ns x.2.2.2.2.2.2.1).kids.drop 1).length-(zI i).toNat}
def Vi(n:Nat)(x:BC×BX (Int×Int)):LS:= {ι:=Unit,inv:=fun _=>(Ab x.1.ns x.2.2.2.2.2.2.1).kind=1∨(Ab x.1.ns x.2.2.2.2.2.2.1).kind=2∨(Ab x.1.ns x.2.2.2.2.2.2.1).kind=3,regs:=fun _=>[(0,buA x.1 (Aq (Ab x.1.ns x.2.2.2.2.2.2.1).text (xC x)))],als:=[],meas:=fun _=>0}
def a1f(n:Nat)(x:BC×BX (Int×Int)):LS:= {ι:=BT,inv:=fun i=>Cf x.1 (n+1) (xC x) x.2.2.2.2.2.2.1 x.2.2.2.2.2.2.2 (-1) (yBW i),regs:=fun i=>[(0,buA x.1 (yBW i))],als:=[],meas:=fun _=>0}
def Vj(n:Nat)(x:BC×BX (Int×Int))(e:Nd):Prop:=true=true∧((((↑((xC x).text.length+e.text.length):Int)≤Ag∧(true=true∧(eA (Vi n x) [.box 0 [.q x.1.ind,oRu (xC x).rules,oCh (xC x).chunks,oSn (xC x).spans,oTi (xC x).ties,nds x.1.ns,.str ((xC x).text++e.text),.bool x.1.rd]])))∧((↑((xC x).text.length+e.text.length):Int)≤Ag∧(true=true∧(eA (Vi n x) [.box 0 [.q x.1.ind,oRu (xC x).rules,oCh (xC x).chunks,oSn (xC x).spans,oTi (xC x).ties,nds x.1.ns,.str ((xC x).text++e.text),.bool x.1.rd]]))))∧(∀(i:Unit),(Ab x.1.ns x.2.2.2.2.2.2.1).kind=1∨(Ab x.1.ns x.2.2.2.2.2.2.1).kind=2∨(Ab x.1.ns x.2.2.2.2.2.2.1).kind=3→rA (Ih n) x [.q (-1:Int),(buA x.1 (Aq (Ab x.1.ns x.2.2.2.2.2.2.1).text (xC x))),.top,.top]))
def a1g(n:Nat)(x:BC×BX (Int×Int))(e:Nd)(x_1:(CH n).X)(y:(CH n).Y):Prop:=(↑((1:Nat)+e.text.length):Int)≤Ag∧((↑((yBW y.2).text.length+(#[(46:UInt8)].toList++e.text).length):Int)≤Ag∧(true=true∧(eA (a1f n x) [.box 0 [.q x_1.1.ind,oRu (yBW y.2).rules,oCh (yBW y.2).chunks,oSn (yBW y.2).spans,oTi (yBW y.2).ties,nds x_1.1.ns,.str ((yBW y.2).text++(#[(46:UInt8)].toList++e.text)),.bool x_1.1.rd]])))
theorem c2C(n:Nat)(hc:Ai G Go.Proofs.Tryz.prog 81 (CH n)):Ai G Tryz.prog 81 (Ih n):=
 vcFun_okP [(81,0,(CH n)),(79,0,El),(80,0,DC),(112,0,(Ls n)),(113,0,(OZ n)),(114,0,(Pd n)),(115,0,(Pe n))] [] false (fun x=>[(30,Vh n x),(100007,Vi n x),(100014,a1f n x)]) Tryz.func81 rfl (by decide) ⟨hc,OQ,OT,(c2o n hc),(c2r n hc),(c2u n hc),(c2z n hc),trivial⟩ (fun(x:BC×BX (Int×Int))=>True∧(0≤x.2.2.2.2.2.2.1∧x.2.2.2.2.2.2.1<(x.1.ns.length:Int))∧∀(e:Nd),x.1.ns[Int.toNat x.2.2.2.2.2.2.1]? =some e→inR .i64 (x.2.2.2.2.2.2.2+(4:Int))∧Aa (e.kind==1) (Vj n x e) (Aa (e.kind==2) (Vj n x e) (Aa (e.kind==3) (Vj n x e) (Aa (e.kind==11) ((↑((xC x).text.length+(1:Nat)):Int)≤Ag∧((0:Int)≤(0:Int)∧0<(e.kids.length:Int))∧∀(e_1:Int),e.kids[(0:Nat)]? =some e_1→cA (CH n) [.box 0 [.q x.1.ind,oRu (xC x).rules,oCh (xC x).chunks,oSn (xC x).spans,oTi (xC x).ties,nds x.1.ns,.str ((xC x).text++ #[(40:UInt8)].toList),.bool x.1.rd],.q e_1,.q x.2.2.2.2.2.2.2] fun x_1 y=>(↑((yBW y.2).text.length+(1:Nat)):Int)≤Ag∧rA (Ih n) x [.q (-1:Int),.box 0 [.q x_1.1.ind,oRu (yBW y.2).rules,oCh (yBW y.2).chunks,oSn (yBW y.2).spans,oTi (yBW y.2).ties,nds x_1.1.ns,.str ((yBW y.2).text++ #[(41:UInt8)].toList),.bool x_1.1.rd],.top,.top]) (Aa (e.kind==6) (((0:Int)≤(0:Int)∧0<(e.kids.length:Int))∧∀(e_1:Int),e.kids[(0:Nat)]? =some e_1→cA (CH n) [(buA x.1 (xC x)),.q e_1,.q x.2.2.2.2.2.2.2] fun x_1 y=>true=true∧((a1g n x e x_1 y)∧(a1g n x e x_1 y))∧∀(i:BT),Cf x.1 (n+(1:Nat)) (xC x) x.2.2.2.2.2.2.1 x.2.2.2.2.2.2.2 (-1:Int) (yBW i)→rA (Ih n) x [.q (-1:Int),(buA x.1 (yBW i)),.top,.top]) (Aa (e.kind==4) (cA (Ls n) [(buA x.1 (xC x)),.str #[(91:UInt8)].toList,AQ e.kids,.str #[(93:UInt8)].toList,.q x.2.2.2.2.2.2.2] fun x_1 y=>rA (Ih n) x [.q (-1:Int),(buA x_1.1 (yBW y)),.top,.top]) (Aa (e.kind==5) (((0:Int)≤(0:Int)∧0<(e.kids.length:Int))∧∀(e_1:Int),e.kids[(0:Nat)]? =some e_1→cA (CH n) [(buA x.1 (xC x)),.q e_1,.q x.2.2.2.2.2.2.2] fun x_1 y=>((0:Int)≤(1:Int)∧1≤(e.kids.length:Int)∧(e.kids.length:Int)≤(e.kids.length:Int))∧cA (Ls n) [(buA x_1.1 (yBW y.2)),.str #[(40:UInt8)].toList,AQ (List.drop (1:Nat) e.kids),.str #[(41:UInt8)].toList,.q x.2.2.2.2.2.2.2] fun x_2 y=>rA (Ih n) x [.q (-1:Int),(buA x_2.1 (yBW y)),.top,.top]) (Aa (e.kind==7) (cA (OZ n) [(buA x.1 (xC x)),.agg (ndA false e),.q (min (x.2.2.2.2.2.2.2+(4:Int)) (40:Int))] fun x_1 y=>rA (Ih n) x [.q y.1,(buA x_1.1 (yBW y.2)),.top,.top]) (Aa (e.kind==8) (cA (Pd n) [(buA x.1 (xC x)),.agg (ndA false e),.q (min (x.2.2.2.2.2.2.2+(4:Int)) (40:Int))] fun x_1 y=>rA (Ih n) x [.q y.1,(buA x_1.1 (yBW y.2)),.top,.top]) (Aa (e.kind==9) (cA (Pe n) [(buA x.1 (xC x)),.agg (ndA false e),.q (min (x.2.2.2.2.2.2.2+(4:Int)) (40:Int))] fun x_1 y=>rA (Ih n) x [.q (-1:Int),(buA x_1.1 (yBW y)),.top,.top]) (Aa (e.kind==10) (cA El [(buA x.1 (xC x)),.q 2,.q 1] fun x_1 y=>((0:Int)≤(0:Int)∧0<(e.kids.length:Int))∧∀(e_1:Int),e.kids[(0:Nat)]? =some e_1→cA (CH n) [(buA x_1.1 (yBW y)),.q e_1,.q x.2.2.2.2.2.2.2] fun x_2 y=>((0:Int)≤(1:Int)∧1≤(e.kids.length:Int)∧(e.kids.length:Int)≤(e.kids.length:Int))∧eA (Vh n x) [(buA x_2.1 (yBW y.2)),.box 0 (ndA false e),.q (min (x.2.2.2.2.2.2.2+(4:Int)) (40:Int)),.q (Au x_1.1.rd (xC x_1)),AQ (List.drop (1:Nat) e.kids),.q (↑((List.drop (1:Nat) e.kids).length):Int),.q 0]∧∀(i:BX Int),vaI x.1 n (xC x) x.2.2.2.2.2.2.1 x.2.2.2.2.2.2.2 (zI i) (zBW i)→Aa (decide (zI i<(↑((List.drop (1:Nat) (Ab x.1.ns x.2.2.2.2.2.2.1).kids).length):Int))) ((0≤zI i∧zI i<(↑((List.drop (1:Nat) (Ab x.1.ns x.2.2.2.2.2.2.1).kids).length):Int))∧∀(e:Int),(List.drop (1:Nat) (Ab x.1.ns x.2.2.2.2.2.2.1).kids)[Int.toNat (zI i)]? =some e→cA DC [(buA x.1 (zBW i)),.q (Au x.1.rd (xC x)),.q 1,.bool false,.q (min (x.2.2.2.2.2.2.2+(4:Int)) (40:Int))] fun x_3 y=>(↑((yBW y).text.length+(2:Nat)):Int)≤Ag∧cA (CH n) [.box 0 [.q x_3.1.ind,oRu (yBW y).rules,oCh (yBW y).chunks,oSn (yBW y).spans,oTi (yBW y).ties,nds x_3.1.ns,.str ((yBW y).text++ #[(46:UInt8),46].toList),.bool x_3.1.rd],.q e,.q (min (x.2.2.2.2.2.2.2+(4:Int)) (40:Int))] fun x_4 y=>inR .i64 (zI i+1)∧eN (Vh n x) i [(buA x_4.1 (yBW y.2)),.box 0 (ndA false (Ab x.1.ns x.2.2.2.2.2.2.1)),.q (min (x.2.2.2.2.2.2.2+(4:Int)) (40:Int)),.q (Au x.1.rd (xC x)),AQ (List.drop (1:Nat) (Ab x.1.ns x.2.2.2.2.2.2.1).kids),.q (↑((List.drop (1:Nat) (Ab x.1.ns x.2.2.2.2.2.2.1).kids).length):Int),.q (zI i+1)]) (rA (Ih n) x [.q (-1:Int),(buA x.1 (zBW i)),.top,.top])) (rA (Ih n) x [.q (-1:Int),(buA x.1 (xC x)),.top,.top])))))))))))) (fun x=>by kernel_rfl) fun(x:BC×BX (Int×Int)) (hx:vlP x.1.ns (n+1) (xC x) x.2.2.2.2.2.2.1 x.2.2.2.2.2.2.2)=>(by
 dsimp only[a1g,Vj,buA,cA,CC,eA,eN,Vi,a1f,Vh,AQ,Br,nds,oCh,oRu,oSn,oTi,Ds,rA,CB,OZ,Pe,Ls,Pd,El,DC,CH,Ih,CD,CE,As,Az,mvL,lnL,mvE,lnE,mvG,mvH,lnG,lnH,Bl,Ag,AV.q]
 obtain⟨b,r,c,s,t,u,k,a⟩:=x;dsimp only[xC] at hx ⊢
 have hx:vlP b.ns (n+1) ⟨r,c,s,t,u⟩ k a:=hx
 have h1:=hx.ar;have hr:=BB.1 hx.up.1
 have hz:=a8v hx
 simp only[hz,Option.some.injEq,forall_eq']
 (repeat' first|(with_reducible first|rfl|exact True.intro|apply AK|apply And.intro|((first|apply AA|apply AI|apply AB|apply AJ)<;>intro _))|(apply Av<;>intro _)|apply AH|refine Ae () ?_ ?_|((first|apply AO|apply AN|apply AM|apply AL|apply AG|apply AF|apply AE|apply AD|apply AC)<;>try dsimp only)|apply Ae|(refine Prod.forall.2 ?_;intro _;try dsimp only)|(intro _;try dsimp only))
 all_goals(try dsimp only[yBW,xC,zBW,zI,wB] at*)
 all_goals first
  |with_reducible rfl
  |exact a1e (by omega)
  |exact a1e ‹_›
  |omega
  |exact a8y hx ‹_›
  |exact a8A ‹_› ‹_› ‹_›
  |exact a8D ‹_› ‹_› ‹_›
  |exact a8B hx ‹_›
  |exact a8E hx
  |exact a8F ‹_› ‹_›
  |exact a8G hx ‹_› ‹_›
  |exact a8H ‹_› ‹_› ‹_› ‹_›
  |exact a8I hx ‹_›
  |exact a8J ‹_› ‹_›
  |exact a8K hx ‹_›
  |exact a8L ‹_› ‹_›
  |exact a8M hx ‹_›
  |exact a8N ‹_› ‹_›
  |exact DD (Kn hx)
  |exact a8O ‹_› hx ‹_›
  |exact a8P ‹_› ‹_› hx ‹_›
  |exact a8T ‹_› ‹_›
  |exact a8W ‹_› ‹_› hx ‹_›
  |exact a8X ‹_› ‹_› ‹_› ‹_› hx
  |exact a8Y ‹_› hx ‹_› ‹_›
  |(have hq:=a8w hx;dsimp only at hq;(try simp only[An,List.length_append,List.length_cons,List.length_nil]);omega)
  |(have hq:=a8z hx ‹_› ‹_›;dsimp only at hq;(try simp only[An,List.length_append,List.length_cons,List.length_nil]);omega)
  |(have hq:=a8C hx ‹_› ‹_›;dsimp only at hq;(try simp only[An,List.length_append,List.length_cons,List.length_nil]);omega)
  |(have hq:=a8Q ‹vaI _ _ _ _ _ _ _›;have hl:=a8R hx;(try simp only[An]);omega)
  |(have hq:=a8V ‹vaI _ _ _ _ _ _ _› ‹_› ‹_›;dsimp only at hq;(try simp only[An,List.length_append,List.length_cons,List.length_nil]);omega)
  |(have hq:=a1d hx ‹_› ‹_› ‹_› (by first|assumption|omega);have hl:=Lu hx;(try simp only[An]);omega)
  |(exfalso;exact c2B hx (by omega))
  |exact()
  |rfl
  |skip)
theorem c2D:Ai G Go.Proofs.Tryz.prog 81 (CH 0):=
 ⟨⟨⟨_,Go.Proofs.Tryz.func81,by kernel_rfl,by kernel_rfl⟩,fun x y _ _=>trivial⟩,fun x hx=>by
   exfalso
   have hx:vlP x.1.ns 0 (xC x) x.2.2.2.2.2.2.1 x.2.2.2.2.2.2.2:=hx
   have h1:=BB.1 hx.up.1
   have h2:=hx.lt
   omega⟩
theorem a1h:∀n,Ai G Go.Proofs.Tryz.prog 81 (CH n)
 |0=>c2D
 |n+1=>c2C n (a1h n)
end Go.My
end
section
namespace Go.My
open Go.Eng Go.Proofs
variable {G:GInv}
variable {L ns:List Nd}{i ind k:Int}{n:Nat}{o:List Int}{post pre:List UInt8}{t:Bs}
theorem c2E{s:List UInt8}(h:(s.length:Int)≥1):(s.drop ((s.length:Int)-1).toNat==[61])=CU s:=by
 have hl:((s.length:Int)-1).toNat=s.length-1:=by omega
 rw[hl]
 have h2:s≠[]:=by intro e;rw[e] at h;simp at h
 have h3:=List.dropLast_concat_getLast h2
 have h4:s.drop (s.length-1)=[s.getLast h2]:=by
  conv=>lhs;rw[←h3]
  rw[List.drop_append,List.length_dropLast];simp
 rw[h4,CU,List.getLast?_eq_some_getLast h2]
 simp
theorem c2F{s:List UInt8}(h:¬(s.length:Int)≥1):false=CU s:=by
 have:s=[]:=List.eq_nil_of_length_eq_zero (by omega)
 subst this;rfl
def MZ:Sig:= {X:=List UInt8×List UInt8,args:=fun x=>[.str x.1,.str x.2],pre:=fun x=>x.2=[61]∧x.1.length≤2^62,Y:=Unit,post:=fun x y=>True,res:=fun x y=> .bool (CU x.1),outs:=fun x y=>[.top,.top],keep:=false}
theorem c2G:Ai G Tryz.prog 111 MZ:=
 vcFun_okP [] [] false (fun x=>[]) Tryz.func111 rfl (by decide) trivial (fun(x:List UInt8×List UInt8)=>(∀(y:Unit),True→True∧True∧True∧True)∧Aa (decide ((x.1.length:Int)≥(x.2.length:Int))) (inR .i64 ((x.1.length:Int)-(x.2.length:Int))∧(0≤(x.1.length:Int)-(x.2.length:Int)∧(x.1.length:Int)-(x.2.length:Int)≤(x.1.length:Int)∧(x.1.length:Int)≤(x.1.length:Int))∧rA MZ x [.bool (List.drop (Int.toNat ((x.1.length:Int)-(x.2.length:Int))) x.1==x.2),.top,.top]) (rA MZ x [.bool false,.top,.top])) (fun x=>by kernel_rfl) fun(x:List UInt8×List UInt8) (hx:x.2=[61]∧x.1.length≤2^62)=>(by
 dsimp only[rA,MZ,As,Az]
 obtain⟨s,t⟩:=x;dsimp only at hx ⊢
 obtain⟨rfl,h2⟩:=hx
 (repeat' first|(with_reducible first|rfl|exact True.intro|apply AK|apply And.intro|((first|apply AA|apply AI|apply AB|apply AJ)<;>intro _))|(apply Av<;>intro _)|apply AH|refine Ae () ?_ ?_|((first|apply AO|apply AN|apply AM|apply AL|apply AG|apply AF|apply AE|apply AD|apply AC)<;>try dsimp only)|apply Ae|(refine Prod.forall.2 ?_;intro _;try dsimp only)|(intro _;try dsimp only))
 all_goals first
  |rfl
  |exact c2F ‹_›
  |exact c2E ‹_›
  |((try simp only[An,List.length_cons,List.length_nil] at*);omega)
  |skip)
def Pf:Sig:= {X:=List UInt8×List UInt8,args:=fun x=>[.str x.1,.str x.2],pre:=fun x=>x.2=[61]∧x.1.length≤2^62,Y:=Unit,post:=fun x y=>True,res:=fun x y=> .bool (CU x.1),outs:=fun x y=>[.top,.top],keep:=false}
theorem c2H:Ai G Tryz.prog 78 Pf:=
 vcFun_okP [(111,0,MZ)] [] false (fun x=>[]) Tryz.func78 rfl (by decide) ⟨c2G,trivial⟩ (fun(x:List UInt8×List UInt8)=>(∀(y:Unit),True→True∧True∧True∧True)∧cA MZ [.str x.1,.str x.2] fun x_1 y=>rA Pf x [.bool (CU x_1.1),.top,.top]) (fun x=>by kernel_rfl) fun(x:List UInt8×List UInt8) (hx:x.2=[61]∧x.1.length≤2^62)=>(by
 dsimp only[cA,rA,Pf,MZ,As,Az,mvL,lnL,mvE,lnE]
 obtain⟨s,t⟩:=x;dsimp only at hx ⊢
 obtain⟨rfl,h2⟩:=hx
 (repeat' first|(with_reducible first|rfl|exact True.intro|apply AK|apply And.intro|((first|apply AA|apply AI|apply AB|apply AJ)<;>intro _))|(apply Av<;>intro _)|apply AH|refine Ae () ?_ ?_|((first|apply AO|apply AN|apply AM|apply AL|apply AG|apply AF|apply AE|apply AD|apply AC)<;>try dsimp only)|apply Ae|(refine Prod.forall.2 ?_;intro _;try dsimp only)|(intro _;try dsimp only))
 all_goals first
  |rfl
  |exact h2
  |skip)
def Em(s:List UInt8):Bool:=decide (s.length≤40)&&BD s
def Lv:Sig:= {X:=List UInt8,args:=fun x=>[.str x],pre:=fun x=>x.length<2^62,Y:=Unit,post:=fun x y=>True,res:=fun x y=> .bool (Em x),outs:=fun x y=>[.top],keep:=false}
theorem c2I:Ai G Tryz.prog 37 Lv:=
 vcFun_okP [(77,0,Fz)] [] false (fun x=>[]) Tryz.func37 rfl (by decide) ⟨SC,trivial⟩ (fun(x:List UInt8)=>(∀(y:Unit),True→True∧True∧True)∧Aa (decide ((x.length:Int)≤(40:Int))) (cA Fz [.str x] fun x_1 y=>rA Lv x [.bool (List.all x_1 BJ),.top]) (rA Lv x [.bool false,.top])) (fun x=>by kernel_rfl) fun(x:List UInt8) (hx:x.length<2^62)=>(by
 dsimp only[cA,rA,Fz,Lv,As,Az,mvL,lnL,mvE,lnE]
 have hx:x.length<2^62:=hx
 (repeat' first|(with_reducible first|rfl|exact True.intro|apply AK|apply And.intro|((first|apply AA|apply AI|apply AB|apply AJ)<;>intro _))|(apply Av<;>intro _)|apply AH|refine Ae () ?_ ?_|((first|apply AO|apply AN|apply AM|apply AL|apply AG|apply AF|apply AE|apply AD|apply AC)<;>try dsimp only)|apply Ae|(refine Prod.forall.2 ?_;intro _;try dsimp only)|(intro _;try dsimp only))
 all_goals first
  |rfl
  |omega
  |(simp [Em,BD];omega)
  |(simp only[Em,BD];rw[decide_eq_true (show x.length≤40 by omega)];rfl)
  |skip)
def Ca(ns:List Nd)(k:Int):Bool:=BG ns k&&(Bf (Bc ns k)&&decide (0<Cx ns k))
def IX:Sig:= {X:=List Nd×Int,args:=fun x=>[nds x.1,.q x.2],pre:=fun x=>BH x.1∧x.1.length≤2^30,Y:=Unit,post:=fun x y=>True,res:=fun x y=> .bool (Ca x.1 x.2),outs:=fun x y=>[.top,.top],keep:=false}
theorem a8Z:Ai G Tryz.prog 35 IX:=
 vcFun_okP [(57,0,FS),(76,0,FA),(58,0,JM)] [] false (fun x=>[]) Tryz.func35 rfl (by decide) ⟨SO,SN,b4g,trivial⟩ (fun(x:List Nd×Int)=>(∀(y:Unit),True→True∧True∧True∧True)∧cA FS [nds x.1,.q x.2] fun x_1 y=>Aa (BG x_1.1 x_1.2) ((0≤x.2∧x.2<(x.1.length:Int))∧∀(e:Nd),x.1[Int.toNat x.2]? =some e→cA FA [.q e.kind] fun x_2 y=>Aa (Bf x_2) (cA JM [nds x.1,.q x.2] fun x_3 y=>rA IX x [.bool (decide (Cx x_3.1 x_3.2>(0:Int))),.top,.top]) (rA IX x [.bool false,.top,.top])) (rA IX x [.bool false,.top,.top])) (fun x=>by kernel_rfl) fun(x:List Nd×Int) (hx:BH x.1∧x.1.length≤2^30)=>(by
 dsimp only[cA,Br,nds,rA,JM,FS,FA,IX,As,Az,mvL,lnL,mvE,lnE,AV.q]
 obtain⟨ns,k⟩:=x;dsimp only at hx ⊢
 obtain⟨h1,h2⟩:=hx
 (repeat' first|(with_reducible first|rfl|exact True.intro|apply AK|apply And.intro|((first|apply AA|apply AI|apply AB|apply AJ)<;>intro _))|(apply Av<;>intro _)|apply AH|refine Ae () ?_ ?_|((first|apply AO|apply AN|apply AM|apply AL|apply AG|apply AF|apply AE|apply AD|apply AC)<;>try dsimp only)|apply Ae|(refine Prod.forall.2 ?_;intro _;try dsimp only)|(intro _;try dsimp only))
 all_goals(try(have hi:=BB.1 ‹BG ns k=true›))
 all_goals first
  |rfl
  |exact⟨h1,h2⟩
  |omega
  |(simp [Ca, *];done)
  |(rename ns[_]? =some _=>he;simp [Ca,Gb he, *];done)
  |skip)
theorem Vk{β:Type}{q:BC×β→Prop}(c:BC)(h:∃b,q (c,b)):∃x,q x:=let⟨b,hb⟩:=h;⟨(c,b),hb⟩
theorem a1i(h:pre.length≤40):bB (b00 pre):=⟨a0G,by simp [tot,Cz,b00];omega⟩
theorem a9a(ht:t=Bo true 2 2 (b00 pre))(h:pre.length≤40):bB t:=by
 subst ht
 have h1:=a1i h
 exact DD (m:=0) (Jw ⟨h1.ok,h1.tt⟩)
theorem a9b{u:Bs}(ht:t=Ba (Au true (b00 pre)) 1 true 4 u)(hu:u=Bo true 2 2 (b00 pre))(he:CU pre=true)(h:bdQ ns n k pre post ind):vlP ns n t k 0:=by
 have e:t=Fd pre:=by rw[Fd,if_pos he,ht,hu]
 rw[e];exact⟨h.up,h.lt,h.vl,DQ (a0H h) (by omega),by omega⟩
theorem a9c(he:CU pre=false)(h:bdQ ns n k pre post ind):vlP ns n (b00 pre) k 0:=by
 have e:b00 pre=Fd pre:=by rw[Fd,if_neg (by rw[he];simp)]
 rw[e];exact⟨h.up,h.lt,h.vl,DQ (a0H h) (by omega),by omega⟩
theorem a9d{o:Int}{u v:Bs}(hv:Cf ⟨ind,ns,true⟩ n t k 0 o v)(ht:t=Ba (Au true (b00 pre)) 1 true 4 u)(hu:u=Bo true 2 2 (b00 pre))(he:CU pre=true):v=Cu ns n k pre:=by
 have e:t=Fd pre:=by rw[Fd,if_pos he,ht,hu]
 rw[Cu,←e];exact hv.1
theorem a9e{o:Int}{v:Bs}(hv:Cf ⟨ind,ns,true⟩ n (b00 pre) k 0 o v)(he:CU pre=false):v=Cu ns n k pre:=by
 have e:b00 pre=Fd pre:=by rw[Fd,if_neg (by rw[he];simp)]
 rw[Cu,←e];exact hv.1
theorem Vl{r1:List Ru}{r2:List Ch}{r3:List Sn}{r4:List Ti}{r5:List UInt8}(h:⟨r1,r2,r3,r4,r5⟩=Cu ns n k pre):(r1=(bdP ns n k pre post ind).rules∧r2++[⟨r5++post,0,0,false,0⟩]=(bdP ns n k pre post ind).chunks)∧r3=(bdP ns n k pre post ind).spans∧r4=(bdP ns n k pre post ind).ties:=by
 rw[bdP,←h];exact⟨⟨rfl,rfl⟩,rfl,rfl⟩
theorem c2J{r1:List Ru}{r2:List Ch}{r3:List Sn}{r4:List Ti}{r5:List UInt8}(h:⟨r1,r2,r3,r4,r5⟩=Cu ns n k pre)(hx:bdQ ns n k pre post ind):r2.length≤79∧r5.length≤2^61:=by
 have:=UQ hx
 rw[←h] at this
 exact⟨this.1.ch,IT (DD this)⟩
def Vm(n:Nat):Sig:= {X:=List Nd×Int×List UInt8×List UInt8×Int,args:=fun x=>[nds x.1,.q x.2.1,.str x.2.2.1,.str x.2.2.2.1,.q x.2.2.2.2],pre:=fun x=>bdQ x.1 n x.2.1 x.2.2.1 x.2.2.2.1 x.2.2.2.2,Y:=Unit,post:=fun x y=>True,res:=fun x y=> .tup [.agg (pcA true (bdP x.1 n x.2.1 x.2.2.1 x.2.2.2.1 x.2.2.2.2)),.bool true],outs:=fun x y=>[.top,.top,.top,.top,.top],keep:=false}
def a1j(n:Nat)(x:List Nd×Int×List UInt8×List UInt8×Int):Prop:=∃(y:Unit),True∧0=(bdP x.1 n x.2.1 x.2.2.1 x.2.2.2.1 x.2.2.2.2).ind∧((bdP x.1 n x.2.1 x.2.2.1 x.2.2.2.1 x.2.2.2.2).rules=[]∧((bdP x.1 n x.2.1 x.2.2.1 x.2.2.2.1 x.2.2.2.2).chunks=[]∧((bdP x.1 n x.2.1 x.2.2.1 x.2.2.2.1 x.2.2.2.2).spans=[]∧(bdP x.1 n x.2.1 x.2.2.1 x.2.2.2.1 x.2.2.2.2).ties=[]∧false=true∧True)))
theorem c2K(n:Nat):Ai G Tryz.prog 38 (Vm n):=
 vcFun_okP [(78,0,Pf),(79,0,El),(80,0,DC),(81,0,(CH n)),(82,0,Fc)] [(28,⟨Ch,chA⟩)] false (fun x=>[]) Tryz.func38 rfl (by decide) ⟨c2H,OQ,OT,(a1h n),c1w,trivial⟩ (fun(x:List Nd×Int×List UInt8×List UInt8×Int)=>(∀(y:Unit),True→((True∧(∀(x:Ru),True∧True∧True)∧(∀(x:Ch),True∧True∧True∧True∧True∧True)∧(∀(x:Sn),True∧True∧True∧True)∧(∀(x:Ti),True∧True∧True)∧True)∧True∧True)∧True∧True∧True∧True∧True∧True)∧cA Pf [.str x.2.2.1,.str #[(61:UInt8)].toList] fun x_1 y=>Aa (CU x_1.1) (cA El [.box 0 [.q x.2.2.2.2,.nil,.nil,.nil,.nil,nds x.1,.str x.2.2.1,.bool true],.q 2,.q 2] fun x_2 y=>cA DC [(buA x_2.1 (yBW y)),.q (Au x_2.1.rd (xC x_2)),.q 1,.bool true,.q 4] fun x_3 y=>cA (CH n) [(buA x_3.1 (yBW y)),.q x.2.1,.q 0] fun x_4 y=>(↑((yBW y.2).text.length+x.2.2.2.1.length):Int)≤Ag∧∃(x_5:Ch),(yBW y.2).text++x.2.2.2.1=x_5.text∧0=x_5.rule∧0=x_5.fr∧false=x_5.space∧0=x_5.nest∧∃(zs:List Ch),oCh [x_5]=oCh zs∧BI chA∧Bb ((yBW y.2).chunks.length+zs.length) (48:Nat)∧cA Fc [.agg [.q x_4.1.ind,oRu (yBW y.2).rules,oCh ((yBW y.2).chunks++zs),oSn (yBW y.2).spans,oTi (yBW y.2).ties]] fun x_6 y_1=>Aa (!Dc x_6) (a1j n x) (∃(y_2:Unit),True∧x_4.1.ind=(bdP x.1 n x.2.1 x.2.2.1 x.2.2.2.1 x.2.2.2.2).ind∧oRu (yBW y.2).rules=oRu (bdP x.1 n x.2.1 x.2.2.1 x.2.2.2.1 x.2.2.2.2).rules∧oCh ((yBW y.2).chunks++zs)=oCh (bdP x.1 n x.2.1 x.2.2.1 x.2.2.2.1 x.2.2.2.2).chunks∧oSn (yBW y.2).spans=oSn (bdP x.1 n x.2.1 x.2.2.1 x.2.2.2.1 x.2.2.2.2).spans∧oTi (yBW y.2).ties=oTi (bdP x.1 n x.2.1 x.2.2.1 x.2.2.2.1 x.2.2.2.2).ties∧true=true∧True)) (cA (CH n) [.box 0 [.q x.2.2.2.2,.nil,.nil,.nil,.nil,nds x.1,.str x.2.2.1,.bool true],.q x.2.1,.q 0] fun x_2 y=>(↑((yBW y.2).text.length+x.2.2.2.1.length):Int)≤Ag∧∃(x_3:Ch),(yBW y.2).text++x.2.2.2.1=x_3.text∧0=x_3.rule∧0=x_3.fr∧false=x_3.space∧0=x_3.nest∧∃(zs:List Ch),oCh [x_3]=oCh zs∧BI chA∧Bb ((yBW y.2).chunks.length+zs.length) (48:Nat)∧cA Fc [.agg [.q x_2.1.ind,oRu (yBW y.2).rules,oCh ((yBW y.2).chunks++zs),oSn (yBW y.2).spans,oTi (yBW y.2).ties]] fun x_4 y_1=>Aa (!Dc x_4) (a1j n x) (∃(y_2:Unit),True∧x_2.1.ind=(bdP x.1 n x.2.1 x.2.2.1 x.2.2.2.1 x.2.2.2.2).ind∧oRu (yBW y.2).rules=oRu (bdP x.1 n x.2.1 x.2.2.1 x.2.2.2.1 x.2.2.2.2).rules∧oCh ((yBW y.2).chunks++zs)=oCh (bdP x.1 n x.2.1 x.2.2.1 x.2.2.2.1 x.2.2.2.2).chunks∧oSn (yBW y.2).spans=oSn (bdP x.1 n x.2.1 x.2.2.1 x.2.2.2.1 x.2.2.2.2).spans∧oTi (yBW y.2).ties=oTi (bdP x.1 n x.2.1 x.2.2.1 x.2.2.2.1 x.2.2.2.2).ties∧true=true∧True))) (fun x=>by kernel_rfl) fun(x:List Nd×Int×List UInt8×List UInt8×Int) (hx:bdQ x.1 n x.2.1 x.2.2.1 x.2.2.2.1 x.2.2.2.2)=>(by
 dsimp only[a1j,buA,cA,CC,Br,nds,oCh,oRu,oSn,oTi,pcA,CB,El,DC,CH,Fc,Pf,CD,sns,CE,tis,As,Az,mvL,lnL,mvE,lnE,mvG,mvH,lnG,lnH,Ag,AV.q]
 obtain⟨ns,k,pre,post,ind⟩:=x;dsimp only at hx ⊢
 have hx:bdQ ns n k pre post ind:=hx
 have hp:=hx.pr.1;have hp2:=hx.po.1
 (repeat' first|refine UH ?_|refine Vk ⟨ind,ns,true⟩ ?_|refine Re (bdP ns n k pre post ind) ?_|(with_reducible first|rfl|exact True.intro|apply AK|apply And.intro|((first|apply AA|apply AI|apply AB|apply AJ)<;>intro _))|(apply Av<;>intro _)|apply AH|refine Ae () ?_ ?_|((first|apply AO|apply AN|apply AM|apply AL|apply AG|apply AF|apply AE|apply AD|apply AC)<;>try dsimp only)|apply Ae|(refine Prod.forall.2 ?_;intro _;try dsimp only)|(intro _;try dsimp only))
 all_goals(try dsimp only[yBW,xC,zBW,zI,wB] at*)
 all_goals(try(first|(have hE:=a9d ‹Cf _ _ _ _ _ _ _› ‹_› ‹_› ‹_›)|(have hE:=a9e ‹Cf _ _ _ _ _ _ _› ‹_›)))
 all_goals first
  |with_reducible rfl
  |exact a1i hp
  |exact a9a ‹_› hp
  |exact a9b ‹_› ‹_› ‹_› hx
  |exact a9c ‹_› hx
  |exact(Vl hE).1.1
  |exact(Vl hE).1.2
  |exact(Vl hE).2.1
  |exact(Vl hE).2.2
  |exact US hx
  |(exfalso;rename Dc _=false=>hf;rw[UR hx] at hf;cases hf)
  |(have hl:=c2J hE hx;(try simp only[An,Bb,List.length_cons,List.length_nil]);omega)
  |omega
  |rfl
  |skip)
def pc0:Pc:=⟨0,[],[],[],[]⟩
def Di(ns:List Nd)(k:Int)(pre post:List UInt8)(ind:Int):Bool:=Ca ns k&&(inn ind 0 60&&(Em pre&&Em post))
structure pfP (ns:List Nd) (n:Nat) (k:Int) (pre post:List UInt8):Prop where
 ok:BH ns
 l30:ns.length≤2^30
 ln:ns.length≤n
 tw:Ca ns k=true→tW ns n k≤2^60
 pr:pre.length<2^62
 po:post.length<2^62
theorem Vn(h:Ca ns k=true):CS ns k∧Bf (Bc ns k)=true:=by
 simp only[Ca,Bool.and_eq_true,decide_eq_true_eq] at h
 exact⟨KT (by omega),h.2.1⟩
theorem Vo(h:pfP ns n k pre post)(h1:Ca ns k=true)(h2:inn ind 0 60=true)(h3:Em pre=true)(h4:Em post=true):bdQ ns n k pre post ind:=by
 have hv:=Vn h1
 have hr:=BB.1 hv.1.1
 simp only[Em,Bool.and_eq_true,decide_eq_true_eq] at h3 h4
 exact⟨hv.1,by have:=h.ln;omega,hv.2,h.tw h1,h3,h4,BW.1 h2⟩
def pfR(ns:List Nd)(n:Nat)(k:Int)(pre post:List UInt8)(ind:Int):Pc:=if Di ns k pre post ind then bdP ns n k pre post ind else pc0
theorem a1k{ns:List Nd}{n:Nat}{k ind:Int}{pre post:List UInt8}(h1:Ca ns k=true)(h2:inn ind 0 60=true)(h3:Em pre=true)(h4:Em post=true):pfR ns n k pre post ind=bdP ns n k pre post ind∧Di ns k pre post ind=true:=by
 have:Di ns k pre post ind=true:=by simp [Di, *]
 exact⟨by rw[pfR,if_pos this],this⟩
theorem Rp{ns:List Nd}{n:Nat}{k ind:Int}{pre post:List UInt8}(h:((Ca ns k=false∨inn ind 0 60=false)∨Em pre=false)∨Em post=false):pfR ns n k pre post ind=pc0∧Di ns k pre post ind=false:=by
 have:Di ns k pre post ind=false:=by
  rcases h with((h|h)|h)|h<;>simp [Di,h]
 exact⟨by rw[pfR,if_neg (by rw[this];simp)],this⟩
def Pg(n:Nat):Sig:= {X:=List Nd×Int×List UInt8×List UInt8×Int,args:=fun x=>[nds x.1,.q x.2.1,.str x.2.2.1,.str x.2.2.2.1,.q x.2.2.2.2],pre:=fun x=>pfP x.1 n x.2.1 x.2.2.1 x.2.2.2.1,Y:=Unit,post:=fun x y=>True,res:=fun x y=> .tup [.agg (pcA true (pfR x.1 n x.2.1 x.2.2.1 x.2.2.2.1 x.2.2.2.2)),.bool (Di x.1 x.2.1 x.2.2.1 x.2.2.2.1 x.2.2.2.2)],outs:=fun x y=>[.top,.top,.top,.top,.top],keep:=false}
def Rq(n:Nat)(x:List Nd×Int×List UInt8×List UInt8×Int):Prop:=∃(y:Unit),True∧0=(pfR x.1 n x.2.1 x.2.2.1 x.2.2.2.1 x.2.2.2.2).ind∧((pfR x.1 n x.2.1 x.2.2.1 x.2.2.2.1 x.2.2.2.2).rules=[]∧((pfR x.1 n x.2.1 x.2.2.1 x.2.2.2.1 x.2.2.2.2).chunks=[]∧((pfR x.1 n x.2.1 x.2.2.1 x.2.2.2.1 x.2.2.2.2).spans=[]∧((pfR x.1 n x.2.1 x.2.2.1 x.2.2.2.1 x.2.2.2.2).ties=[]∧false=Di x.1 x.2.1 x.2.2.1 x.2.2.2.1 x.2.2.2.2∧True))))
theorem c2L(n:Nat):Ai G Tryz.prog 8 (Pg n):=
 vcFun_okP [(35,0,IX),(36,0,CJ),(37,0,Lv),(38,0,(Vm n))] [] false (fun x=>[]) Tryz.func8 rfl (by decide) ⟨a8Z,JJ,c2I,(c2K n),trivial⟩ (fun(x:List Nd×Int×List UInt8×List UInt8×Int)=>(∀(y:Unit),True→((True∧(∀(x:Ru),True∧True∧True)∧(∀(x:Ch),True∧True∧True∧True∧True∧True)∧(∀(x:Sn),True∧True∧True∧True)∧(∀(x:Ti),True∧True∧True)∧True)∧True∧True)∧True∧True∧True∧True∧True∧True)∧cA IX [nds x.1,.q x.2.1] fun x_1 y=>Aa (!Ca x_1.1 x_1.2) (Rq n x) (cA CJ [.q x.2.2.2.2,.q 0,.q 60] fun x_2 y=>Aa (!inn x_2.1 x_2.2.1 x_2.2.2) (Rq n x) (cA Lv [.str x.2.2.1] fun x_3 y=>Aa (!Em x_3) (Rq n x) (cA Lv [.str x.2.2.2.1] fun x_4 y=>Aa (!Em x_4) (Rq n x) (cA (Vm n) [nds x.1,.q x.2.1,.str x.2.2.1,.str x.2.2.2.1,.q x.2.2.2.2] fun x_5 y=>∃(y:Unit),True∧(bdP x_5.1 n x_5.2.1 x_5.2.2.1 x_5.2.2.2.1 x_5.2.2.2.2).ind=(pfR x.1 n x.2.1 x.2.2.1 x.2.2.2.1 x.2.2.2.2).ind∧oRu (bdP x_5.1 n x_5.2.1 x_5.2.2.1 x_5.2.2.2.1 x_5.2.2.2.2).rules=oRu (pfR x.1 n x.2.1 x.2.2.1 x.2.2.2.1 x.2.2.2.2).rules∧oCh (bdP x_5.1 n x_5.2.1 x_5.2.2.1 x_5.2.2.2.1 x_5.2.2.2.2).chunks=oCh (pfR x.1 n x.2.1 x.2.2.1 x.2.2.2.1 x.2.2.2.2).chunks∧oSn (bdP x_5.1 n x_5.2.1 x_5.2.2.1 x_5.2.2.2.1 x_5.2.2.2.2).spans=oSn (pfR x.1 n x.2.1 x.2.2.1 x.2.2.2.1 x.2.2.2.2).spans∧oTi (bdP x_5.1 n x_5.2.1 x_5.2.2.1 x_5.2.2.2.1 x_5.2.2.2.2).ties=oTi (pfR x.1 n x.2.1 x.2.2.1 x.2.2.2.1 x.2.2.2.2).ties∧true=Di x.1 x.2.1 x.2.2.1 x.2.2.2.1 x.2.2.2.2∧True))))) (fun x=>by kernel_rfl) fun(x:List Nd×Int×List UInt8×List UInt8×Int) (hx:pfP x.1 n x.2.1 x.2.2.1 x.2.2.2.1)=>(by
 dsimp only[Rq,cA,CC,Br,nds,oCh,oRu,oSn,oTi,pcA,CB,CJ,Vm,Lv,IX,CD,CE,As,Az,mvL,lnL,mvE,lnE,mvG,mvH,lnG,lnH,AV.q]
 obtain⟨ns,k,pre,post,ind⟩:=x;dsimp only at hx ⊢
 have hx:pfP ns n k pre post:=hx
 (repeat' first|(with_reducible first|rfl|exact True.intro|apply AK|apply And.intro|((first|apply AA|apply AI|apply AB|apply AJ)<;>intro _))|(apply Av<;>intro _)|apply AH|refine Ae () ?_ ?_|((first|apply AO|apply AN|apply AM|apply AL|apply AG|apply AF|apply AE|apply AD|apply AC)<;>try dsimp only)|apply Ae|(refine Prod.forall.2 ?_;intro _;try dsimp only)|(intro _;try dsimp only))
 all_goals(try(first|(have hF:= @Rp ns n k ind pre post (.inl (.inl (.inl ‹_›))))|(have hF:= @Rp ns n k ind pre post (.inl (.inl (.inr ‹_›))))|(have hF:= @Rp ns n k ind pre post (.inl (.inr ‹_›)))|(have hF:= @Rp ns n k ind pre post (.inr ‹_›))|(have hF:= @a1k ns n k ind pre post ‹_› ‹_› ‹_› ‹_›)))
 all_goals first
  |with_reducible rfl
  |exact hx.ok
  |exact hx.l30
  |exact hx.pr
  |exact hx.po
  |exact Vo hx ‹_› ‹_› ‹_› ‹_›
  |(rw[hF.1];done)
  |(rw[hF.1];rfl)
  |exact hF.2.symm
  |(rw[hF.2];done)
  |skip)
def Dg(ns:List Nd)(n:Nat)(k:Int):List UInt8:=(bV ns false n k 0 (b00 [])).text
structure plP (ns:List Nd) (n:Nat) (k:Int):Prop where
 up:CS ns k
 lt:k<n
 vl:Bf (Bc ns k)=true
 tw:tW ns n k≤2^60
theorem a9f(h:plP ns n k):vlP ns n (b00 []) k 0:=⟨h.up,h.lt,h.vl,⟨a0G,by have:=h.tw;simp [tot,Cz,b00];omega⟩,by omega⟩
def Ph(n:Nat):Sig:= {X:=List Nd×Int,args:=fun x=>[nds x.1,.q x.2],pre:=fun x=>plP x.1 n x.2,Y:=Unit,post:=fun x y=>True,res:=fun x y=> .str (Dg x.1 n x.2),outs:=fun x y=>[.top,.top],keep:=false}
theorem c2M(n:Nat):Ai G Tryz.prog 39 (Ph n):=
 vcFun_okP [(81,0,(CH n))] [] false (fun x=>[]) Tryz.func39 rfl (by decide) ⟨(a1h n),trivial⟩ (fun(x:List Nd×Int)=>(∀(y:Unit),True→True∧True∧True∧True)∧cA (CH n) [.box 0 [.q 0,.nil,.nil,.nil,.nil,nds x.1,.str #[].toList,.bool false],.q x.2,.q 0] fun x_1 y=>rA (Ph n) x [.str (yBW y.2).text,.top,.top]) (fun x=>by kernel_rfl) fun(x:List Nd×Int) (hx:plP x.1 n x.2)=>(by
 dsimp only[buA,cA,CC,Br,nds,rA,CB,CH,Ph,CD,CE,As,Az,mvL,lnL,mvE,lnE,AV.q]
 obtain⟨ns,k⟩:=x;dsimp only at hx ⊢
 have hx:plP ns n k:=hx
 (repeat' first|refine Vk ⟨0,ns,false⟩ ?_|(with_reducible first|rfl|exact True.intro|apply AK|apply And.intro|((first|apply AA|apply AI|apply AB|apply AJ)<;>intro _))|(apply Av<;>intro _)|apply AH|refine Ae () ?_ ?_|((first|apply AO|apply AN|apply AM|apply AL|apply AG|apply AF|apply AE|apply AD|apply AC)<;>try dsimp only)|apply Ae|(refine Prod.forall.2 ?_;intro _;try dsimp only)|(intro _;try dsimp only))
 all_goals(try dsimp only[yBW,xC,zBW,zI,wB] at*)
 all_goals first
  |with_reducible rfl
  |exact a9f hx
  |(rename Cf _ _ _ _ _ _ _=>hq;exact congrArg Bs.text hq.1)
  |rfl
  |skip)
def txK(l:List Nd):Prop:=∀x∈l,x.text.length≤3000
theorem c2N{t:List UInt8}(h:L=(DH t).getD []∧BH L):txK L:=by
 cases hr:DH t with
 |none=>rw[h.1,hr];intro x hx;cases hx
 |some M=>rw[h.1,hr];exact c0V hr
theorem c2O:txK [⟨22,[],[],false⟩]:=by intro x hx;simp at hx;subst hx;simp
theorem c2P{l:List Nd}{z:Nd}(h:txK l)(hz:z.text.length≤3000):txK (l.set n z):=fun x hx=>by
 rcases List.mem_or_eq_of_mem_set hx with hx|hx
 ·exact h x hx
 ·subst hx;exact hz
def tkB(l:List Nd):Prop:=(Dl l=true∧BH l)∧txK l
attribute [local irreducible] DH Dl txK
def a1l:Sig:= {X:=Value×List UInt8×Int×Int,args:=fun x=>[.bv x.1 (cur x.2.1 x.2.2.1 x.2.2.2)],pre:=fun x=>Af x.2.1 x.2.2.1,Y:=List Nd×Int×Int,post:=fun x y=>tkB y.1∧Af x.2.1 y.2.1,res:=fun x y=>nds y.1,outs:=fun x y=>[.bv x.1 (cur x.2.1 y.2.1 y.2.2)],keep:=true}
theorem a9g:Ai G Tryz.prog 32 a1l:=
 vcFun_okP [(73,0,a6L),(72,0,IQ)] [(24,⟨Nd,ndA true⟩)] false (fun x=>[]) Tryz.func32 rfl (by decide) ⟨c0C,c0x,trivial⟩ (fun(x:Value×List UInt8×Int×Int)=>True∧∃(x_1:Value×List UInt8×Int×Int),Af x_1.2.1 x_1.2.2.1∧(x.1=x.1∧x.1=x_1.1)∧byL x.2.1=byL x_1.2.1∧x.2.2.1=x_1.2.2.1∧x.2.2.2=x_1.2.2.2∧∀(y:List UInt8×Int×Int),y.1.length≤(16777216:Nat)∧Af x_1.2.1 y.2.1→x.1=x.1∧cA IQ [.str y.1] fun x_2 y_1=>Aa (!Option.isSome (DH x_2)) (cA IQ [.str #[(109:UInt8),97,105,110,40,41,32,123,32,97,40,98,44,32,99,32,43,32,100,41,59,32,125].toList] fun x_3 y_2=>Aa ((y_2.1.length:Int)==(0:Int)) (∃(x_4:Nd),22=x_4.kind∧ #[].toList=x_4.text∧x_4.kids=[]∧false=x_4.blank∧∃(y_3:List Nd×Int×Int),(tkB y_3.1∧Af x.2.1 y_3.2.1)∧AV.sl false 0 4 Nd (fun(x:Nd)=>fzL (ndA true x)) [x_4]=nds y_3.1∧((x.1=x.1∧x.1=x.1)∧byL x_1.2.1=byL x.2.1∧y.2.1=y_3.2.1∧y.2.2=y_3.2.2∧True)) (∃(y_3:List Nd×Int×Int),(tkB y_3.1∧Af x.2.1 y_3.2.1)∧nds y_2.1=nds y_3.1∧((x.1=x.1∧x.1=x.1)∧byL x_1.2.1=byL x.2.1∧y.2.1=y_3.2.1∧y.2.2=y_3.2.2∧True))) (Aa ((y_1.1.length:Int)==(0:Int)) (∃(x_3:Nd),22=x_3.kind∧ #[].toList=x_3.text∧x_3.kids=[]∧false=x_3.blank∧∃(y_2:List Nd×Int×Int),(tkB y_2.1∧Af x.2.1 y_2.2.1)∧AV.sl false 0 4 Nd (fun(x:Nd)=>fzL (ndA true x)) [x_3]=nds y_2.1∧((x.1=x.1∧x.1=x.1)∧byL x_1.2.1=byL x.2.1∧y.2.1=y_2.2.1∧y.2.2=y_2.2.2∧True)) (∃(y_2:List Nd×Int×Int),(tkB y_2.1∧Af x.2.1 y_2.2.1)∧nds y_1.1=nds y_2.1∧((x.1=x.1∧x.1=x.1)∧byL x_1.2.1=byL x.2.1∧y.2.1=y_2.2.1∧y.2.2=y_2.2.2∧True)))) (fun x=>by kernel_rfl) fun(x:Value×List UInt8×Int×Int) (hx:Af x.2.1 x.2.2.1)=>(by
 dsimp only[DM,byL,cA,Br,nds,Al,Bj,IQ,Du,sgs,srd,As,Az,mvL,lnL,mvE,lnE]
 obtain⟨cv,b,i,h⟩:=x;dsimp only at hx ⊢
 have hx:Af b i:=hx
 (repeat' first|refine a6M ?_|(with_reducible first|rfl|exact True.intro|apply AK|apply And.intro|((first|apply AA|apply AI|apply AB|apply AJ)<;>intro _))|(apply Av<;>intro _)|apply AH|refine Ae () ?_ ?_|((first|apply AO|apply AN|apply AM|apply AL|apply AG|apply AF|apply AE|apply AD|apply AC)<;>try dsimp only)|apply Ae|(refine Prod.forall.2 ?_;intro _;try dsimp only)|(intro _;try dsimp only))
 all_goals first
  |rfl
  |exact hx
  |exact⟨c0E ‹_› ‹_›,c2N ‹_›⟩
  |exact⟨c0F,c2O⟩
  |exact And.right ‹_∧Af _ _›
  |skip
 all_goals(repeat(rename _∧Af _ _=>hq;obtain⟨_,_⟩:=hq))
 all_goals first
  |omega
  |(simp only[List.length_cons,List.length_nil];omega)
  |(simp;done)
  |skip)
def stK(l:List Nd):Prop:=spB l∧txK l
theorem c2Q{l:List Nd}(h:tkB l):(spB l∧∀e∈l,e.kids.length≤12)∧txK l:=⟨c0J h.1,h.2⟩
def a1m:Sig:= {X:=Value×List UInt8×Int×Int,args:=fun x=>[.bv x.1 (cur x.2.1 x.2.2.1 x.2.2.2)],pre:=fun x=>Af x.2.1 x.2.2.1,Y:=List Nd×Int×Int,post:=fun x y=>stK y.1∧Af x.2.1 y.2.1,res:=fun x y=>Bj y.1,outs:=fun x y=>[.bv x.1 (cur x.2.1 y.2.1 y.2.2)],keep:=true}
def Vp(x:Value×List UInt8×Int×Int)(x':Nd)(x_3:Value×List UInt8×Int×Int)(x_4:MO.X)(y_1:Int×Int×Int)(y_2:List Nd×Int×Int):Prop:=∃(y:List Nd×Int×Int),(stK y.1∧Af x.2.1 y.2.1)∧Bj (List.set x_4.1 (Int.toNat (Int.tmod y_1.1 (x_4.1.length:Int))) x')=Bj y.1∧((x.1=x.1∧x.1=x.1)∧byL x_3.2.1=byL x.2.1∧y_2.2.1=y.2.1∧y_2.2.2=y.2.2∧True)
theorem a9h:Ai G Tryz.prog 43 a1m:=
 vcFun_okP [(75,0,Ec),(32,0,a1l),(83,0,MO)] [(24,⟨Nd,ndA true⟩),(38,⟨Int,Bx⟩),(42,⟨List UInt8,Be⟩)] false (fun x=>[(400011,a0a),(400015,a0a),(400016,a0a)]) Tryz.func43 rfl (by decide) ⟨HK,a9g,c0I,trivial⟩ (fun(x:Value×List UInt8×Int×Int)=>True∧∃(x_1:List UInt8×Int×Int×Int),Af x_1.1 x_1.2.1∧x.1=x.1∧byL x.2.1=byL x_1.1∧x.2.2.1=x_1.2.1∧x.2.2.2=x_1.2.2.1∧12=x_1.2.2.2∧∀(y:Int×Int×Int),((0<x_1.2.2.2→0≤y.1∧y.1<x_1.2.2.2)∧(x_1.2.2.2≤(0:Int)→y.1=(0:Int)))∧Af x_1.1 y.2.1→x.1=x.1∧∃(x_2:List UInt8×Int×Int×Int),Af x_2.1 x_2.2.1∧x.1=x.1∧byL x_1.1=byL x_2.1∧y.2.1=x_2.2.1∧y.2.2=x_2.2.2.1∧200=x_2.2.2.2∧∀(y_1:Int×Int×Int),((0<x_2.2.2.2→0≤y_1.1∧y_1.1<x_2.2.2.2)∧(x_2.2.2.2≤(0:Int)→y_1.1=(0:Int)))∧Af x_2.1 y_1.2.1→x.1=x.1∧∃(x_3:Value×List UInt8×Int×Int),Af x_3.2.1 x_3.2.2.1∧(x.1=x.1∧x.1=x_3.1)∧byL x_2.1=byL x_3.2.1∧y_1.2.1=x_3.2.2.1∧y_1.2.2=x_3.2.2.2∧∀(y_2:List Nd×Int×Int),tkB y_2.1∧Af x_3.2.1 y_2.2.1→x.1=x.1∧cA MO [nds y_2.1] fun x_4 y_3=>(x_4.1.length:Int)≠(0:Int)∧Aa (y.1==(0:Int)) ((24:Int)≠(0:Int)∧(0≤Int.tmod y_1.1 (x_4.1.length:Int)∧Int.tmod y_1.1 (x_4.1.length:Int)<(x_4.1.length:Int))∧Int.toNat (Int.tmod y_1.1 (x_4.1.length:Int))<x_4.1.length∧∀(x_5:Nd),x_4.1[Int.toNat (Int.tmod y_1.1 (x_4.1.length:Int))]? =some x_5→∃(x':Nd),((@List.nil AV)=[]∧[AV.str x'.text,Al x'.kids,.bool x'.blank]=[.str x_5.text,Al x_5.kids,.bool x_5.blank])∧Int.tmod y_1.1 24=x'.kind∧(Vp x x' x_3 x_4 y_1 y_2)) (Aa (y.1==(1:Int)) (∃(x_5:List UInt8),#[].toList=x_5∧∃(x_6:List UInt8),#[(97:UInt8)].toList=x_6∧∃(x_7:List UInt8),#[(99:UInt8),108,97,115,115].toList=x_7∧∃(x_8:List UInt8),#[(39:UInt8),120,39].toList=x_8∧∃(x_9:List UInt8),#[(47:UInt8),47,32,97].toList=x_9∧∃(x_10:List UInt8),#[(49:UInt8),50].toList=x_10∧∃(x_11:List UInt8),#[(43:UInt8)].toList=x_11∧(7:Int)≠(0:Int)∧(0≤Int.tmod y_1.1 (7:Int)∧Int.tmod y_1.1 7<(↑(List.length [x_5,x_6,x_7,x_8,x_9,x_10,x_11]):Int))∧Int.toNat (Int.tmod y_1.1 (7:Int))<List.length [x_5,x_6,x_7,x_8,x_9,x_10,x_11]∧∀(x_12:List UInt8),[x_5,x_6,x_7,x_8,x_9,x_10,x_11][Int.toNat (Int.tmod y_1.1 (7:Int))]? =some x_12→(0≤Int.tmod y_1.1 (x_4.1.length:Int)∧Int.tmod y_1.1 (x_4.1.length:Int)<(x_4.1.length:Int))∧Int.toNat (Int.tmod y_1.1 (x_4.1.length:Int))<x_4.1.length∧∀(x_13:Nd),x_4.1[Int.toNat (Int.tmod y_1.1 (x_4.1.length:Int))]? =some x_13→∃(x':Nd),([AV.q x'.kind]=[.q x_13.kind]∧[Al x'.kids,.bool x'.blank]=[Al x_13.kids,.bool x_13.blank])∧x_12=x'.text∧(Vp x x' x_3 x_4 y_1 y_2)) (Aa (y.1==(2:Int)) (true=true∧(0≤Int.tmod y_1.1 (x_4.1.length:Int)∧Int.tmod y_1.1 (x_4.1.length:Int)<(x_4.1.length:Int))∧(0≤Int.tmod y_1.1 (x_4.1.length:Int)∧Int.tmod y_1.1 (x_4.1.length:Int)<(x_4.1.length:Int))∧Int.toNat (Int.tmod y_1.1 (x_4.1.length:Int))=Int.toNat (Int.tmod y_1.1 (x_4.1.length:Int))∧Int.toNat (Int.tmod y_1.1 (x_4.1.length:Int))<x_4.1.length∧∀(z:Nd),x_4.1[Int.toNat (Int.tmod y_1.1 (x_4.1.length:Int))]? =some z→(9:Int)≠(0:Int)∧∃(x_5:Int),Int.tmod y_1.1 9=x_5∧∃(zs:List Int),Al [x_5]=Al zs∧BI Bx∧Bb (z.kids.length+zs.length) (8:Nat)∧∃(z':Nd),[AV.q z'.kind,.str z'.text,Al z'.kids,.bool z'.blank]=[.q z.kind,.str z.text,Al (z.kids++zs),.bool z.blank]∧(∃(y:List Nd×Int×Int),(stK y.1∧Af x.2.1 y.2.1)∧Bj (List.set x_4.1 (Int.toNat (Int.tmod y_1.1 (x_4.1.length:Int))) z')=Bj y.1∧((x.1=x.1∧x.1=x.1)∧byL x_3.2.1=byL x.2.1∧y_2.2.1=y.2.1∧y_2.2.2=y.2.2∧True))) (Aa (y.1==(3:Int)) ((0≤Int.tmod y_1.1 (x_4.1.length:Int)∧Int.tmod y_1.1 (x_4.1.length:Int)<(x_4.1.length:Int))∧Int.toNat (Int.tmod y_1.1 (x_4.1.length:Int))<x_4.1.length∧∀(x_5:Nd),x_4.1[Int.toNat (Int.tmod y_1.1 (x_4.1.length:Int))]? =some x_5→(0≤Int.tmod y_1.1 (x_4.1.length:Int)∧Int.tmod y_1.1 (x_4.1.length:Int)<(x_4.1.length:Int))∧Int.toNat (Int.tmod y_1.1 (x_4.1.length:Int))<x_4.1.length∧∀(x_6:Nd),x_4.1[Int.toNat (Int.tmod y_1.1 (x_4.1.length:Int))]? =some x_6→∃(x':Nd),([AV.q x'.kind,.str x'.text,Al x'.kids]=[.q x_6.kind,.str x_6.text,Al x_6.kids]∧(@List.nil AV)=[])∧(!x_5.blank)=x'.blank∧(Vp x x' x_3 x_4 y_1 y_2)) (Aa (y.1==(4:Int)) (true=true∧(0≤Int.tmod y_1.1 (x_4.1.length:Int)∧Int.tmod y_1.1 (x_4.1.length:Int)<(x_4.1.length:Int))∧Int.toNat (Int.tmod y_1.1 (x_4.1.length:Int))<x_4.1.length∧∀(z:Nd),x_4.1[Int.toNat (Int.tmod y_1.1 (x_4.1.length:Int))]? =some z→Aa (decide ((z.kids.length:Int)>(0:Int))) (true=true∧(0≤Int.tmod y_1.1 (x_4.1.length:Int)∧Int.tmod y_1.1 (x_4.1.length:Int)<(x_4.1.length:Int))∧(0≤Int.tmod y_1.1 (x_4.1.length:Int)∧Int.tmod y_1.1 (x_4.1.length:Int)<(x_4.1.length:Int))∧Int.toNat (Int.tmod y_1.1 (x_4.1.length:Int))=Int.toNat (Int.tmod y_1.1 (x_4.1.length:Int))∧Int.toNat (Int.tmod y_1.1 (x_4.1.length:Int))<x_4.1.length∧∀(z:Nd),x_4.1[Int.toNat (Int.tmod y_1.1 (x_4.1.length:Int))]? =some z→((0:Int)≤(1:Int)∧1≤(z.kids.length:Int)∧(z.kids.length:Int)≤(z.kids.length:Int))∧∃(z':Nd),[AV.q z'.kind,.str z'.text,Al z'.kids,.bool z'.blank]=[.q z.kind,.str z.text,Al (List.drop (1:Nat) z.kids),.bool z.blank]∧(∃(y:List Nd×Int×Int),(stK y.1∧Af x.2.1 y.2.1)∧Bj (List.set x_4.1 (Int.toNat (Int.tmod y_1.1 (x_4.1.length:Int))) z')=Bj y.1∧((x.1=x.1∧x.1=x.1)∧byL x_3.2.1=byL x.2.1∧y_2.2.1=y.2.1∧y_2.2.2=y.2.2∧True))) (∃(y:List Nd×Int×Int),(stK y.1∧Af x.2.1 y.2.1)∧Bj x_4.1=Bj y.1∧((x.1=x.1∧x.1=x.1)∧byL x_3.2.1=byL x.2.1∧y_2.2.1=y.2.1∧y_2.2.2=y.2.2∧True))) (∃(y:List Nd×Int×Int),(stK y.1∧Af x.2.1 y.2.1)∧Bj x_4.1=Bj y.1∧((x.1=x.1∧x.1=x.1)∧byL x_3.2.1=byL x.2.1∧y_2.2.1=y.2.1∧y_2.2.2=y.2.2∧True))))))) (fun x=>by kernel_rfl) fun(x:Value×List UInt8×Int×Int) (hx:Af x.2.1 x.2.2.1)=>(by
 dsimp only[Vp,DM,byL,cA,Br,nds,Al,Bj,MO,As,Az,mvL,lnL,mvE,lnE,AV.q]
 obtain⟨cv,b,i,h⟩:=x;dsimp only at hx ⊢
 have hx:Af b i:=hx
 (repeat' first|refine c0M ?_|refine c0L _ _ _ _ ⟨rfl,?_⟩ ⟨rfl,rfl⟩|(with_reducible first|rfl|exact True.intro|apply AK|apply And.intro|((first|apply AA|apply AI|apply AB|apply AJ)<;>intro _))|(apply Av<;>intro _)|apply AH|refine Ae () ?_ ?_|((first|apply AO|apply AN|apply AM|apply AL|apply AG|apply AF|apply AE|apply AD|apply AC)<;>try dsimp only)|apply Ae|(refine Prod.forall.2 ?_;intro _;try dsimp only)|(intro _;try dsimp only))
 all_goals(try(have hTT:=c2Q (And.left ‹tkB _∧Af _ _›);have hT:=hTT.1;have hX:=hTT.2;have hL:=hT.1.1))
 all_goals(try(have hy:=And.left (show(((0:Int)<200→_)∧(_→_))∧Af _ _ by assumption);have hy1:=hy.1 (by decide)))
 all_goals first
  |rfl
  |exact hx
  |omega
  |exact And.right ‹_∧Af _ _›
  |exact(LX (by omega) (by omega)).1
  |exact(LX (by omega) (by omega)).2
  |exact()
  |exact⟨hT.1,hX⟩
  |exact hT.1.2.1
  |(exact Nat.le_trans (hT.2 _ ‹_›) (by decide))
  |(intro e he;have hq:=hT.2 e he;omega)
  |exact c0N (by omega) (by omega)
  |exact c0O (by omega)
  |(have hq:=hT.2 _ (Bm ‹(_:List Nd)[_]? =some _›);simp only[Bb,List.length_cons,List.length_nil];omega)
  |(refine⟨c0K hT.1 ?_ ?_,c2P hX ?_⟩<;>dsimp only<;>first
    |exact hT.1.2.2 _ (Bm ‹(_:List Nd)[_]? =some _›)
    |exact(hT.1.2.1.2 _ (Bm ‹(_:List Nd)[_]? =some _›)).1
    |(unfold txK at hX;exact hX _ (Bm ‹(_:List Nd)[_]? =some _›))
    |(have hq:=hT.2 _ (Bm ‹(_:List Nd)[_]? =some _›);simp;omega)
    |(have hq:=hT.1.2.2 _ (Bm ‹(_:List Nd)[_]? =some _›);simp;omega)
    |(have hm:=Bm (show(_:List (List UInt8))[_]? =some _ by assumption);exact Nat.lt_of_le_of_lt (JK (n:=20) hm (by decide)) (by decide))
    |(have hm:=Bm (show(_:List (List UInt8))[_]? =some _ by assumption);exact Nat.le_trans (JK (n:=20) hm (by decide)) (by decide)))
  |((repeat(rename(_:List Nd)[_]? =some _=>hq;revert hq;rename(_:List Nd)[_]? =some _=>hr;intro hq;rw[hr] at hq;cases hq));omega)
  |skip)
def vkI(L:List Nd)(o:List Int)(i:Int):Prop:=(0≤i∧i≤L.length)∧(o.length:Int)≤i∧∀e∈o,0≤e∧e<L.length
theorem c2R:vkI L [] 0:=⟨by omega,by simp,by simp⟩
theorem c2S(h:vkI L o i)(hi:i<L.length):vkI L o (i+1):=⟨by have:=h.1;omega,by have:=h.2.1;omega,h.2.2⟩
theorem c2T(h:vkI L o i)(hi:i<L.length):vkI L (o++[i]) (i+1):=⟨by have:=h.1;omega,by have:=h.2.1;simp;omega,fun e he=>by
 rcases List.mem_append.1 he with he|he
 ·exact h.2.2 e he
 ·simp at he;subst he;exact⟨h.1.1,hi⟩⟩
theorem c2U(h:vkI L o i):(0≤i∧i≤L.length)∧(o.length:Int)≤L.length:=⟨h.1,by have:=h.1;have:=h.2.1;omega⟩
theorem a1n{v:Int}(h:vkI L o i)(hv:o[n]? =some v):0≤v∧v≤L.length:=by have:=h.2.2 _ (Bm hv);omega
def Vq:Sig:= {X:=Value×List UInt8×Int×Int×List Nd,args:=fun x=>[.bv x.1 (cur x.2.1 x.2.2.1 x.2.2.2.1),nds x.2.2.2.2],pre:=fun x=>Af x.2.1 x.2.2.1∧BH x.2.2.2.2∧x.2.2.2.2.length≤300,Y:=Int×Int×Int,post:=fun x y=>(0≤y.1∧y.1≤x.2.2.2.2.length)∧Af x.2.1 y.2.1,res:=fun x y=> .q y.1,outs:=fun x y=>[.bv x.1 (cur x.2.1 y.2.1 y.2.2),.top],keep:=true}
def c2V(x:Value×List UInt8×Int×Int×List Nd):LS:= {ι:=Int×List Int,inv:=fun i=>vkI x.2.2.2.2 i.2 i.1,regs:=fun i=>[(0,.bv x.1 (cur x.2.1 x.2.2.1 x.2.2.2.1)),(1,nds x.2.2.2.2),(5,Al i.2),(6,.q i.1)],als:=[],meas:=fun i=>x.2.2.2.2.length-i.1.toNat}
theorem a1o:Ai G Tryz.prog 33 Vq:=
 vcFun_okP [(34,0,DW),(74,0,KM),(75,0,Ec)] [(38,⟨Int,Bx⟩)] false (fun x=>[(3,c2V x)]) Tryz.func33 rfl (by decide) ⟨Qt,Qj,HK,trivial⟩ (fun(x:Value×List UInt8×Int×Int×List Nd)=>True∧(∃(i:Int×List Int),vkI x.2.2.2.2 i.2 i.1∧((x.1=x.1∧x.1=x.1)∧byL x.2.1=byL x.2.1∧x.2.2.1=x.2.2.1∧x.2.2.2.1=x.2.2.2.1∧nds x.2.2.2.2=nds x.2.2.2.2∧Al []=Al i.2∧0=i.1∧True)∧True)∧∀(i:Int×List Int),vkI x.2.2.2.2 i.2 i.1→Aa (decide (i.1<(x.2.2.2.2.length:Int))) ((0≤i.1∧i.1<(x.2.2.2.2.length:Int))∧∀(e:Nd),x.2.2.2.2[Int.toNat i.1]? =some e→cA DW [.q e.kind] fun x_1 y=>Aa (Bf x_1) ((0≤i.1∧i.1<(x.2.2.2.2.length:Int))∧∀(e:Nd),x.2.2.2.2[Int.toNat i.1]? =some e→Aa (decide ((e.kids.length:Int)>(1:Int))) (∃(x_2:Int),i.1=x_2∧∃(zs:List Int),Al [x_2]=Al zs∧BI Bx∧Bb (i.2.length+zs.length) (8:Nat)∧inR .i64 (i.1+(1:Int))∧∃(i':Int×List Int),vkI x.2.2.2.2 i'.2 i'.1∧x.2.2.2.2.length-Int.toNat i'.1<x.2.2.2.2.length-Int.toNat i.1∧((x.1=x.1∧x.1=x.1)∧byL x.2.1=byL x.2.1∧x.2.2.1=x.2.2.1∧x.2.2.2.1=x.2.2.2.1∧nds x.2.2.2.2=nds x.2.2.2.2∧Al (i.2++zs)=Al i'.2∧i.1+1=i'.1∧True)∧True) (inR .i64 (i.1+(1:Int))∧(∃(i':Int×List Int),vkI x.2.2.2.2 i'.2 i'.1∧x.2.2.2.2.length-Int.toNat i'.1<x.2.2.2.2.length-Int.toNat i.1∧(((x.1=x.1∧x.1=x.1)∧byL x.2.1=byL x.2.1∧x.2.2.1=x.2.2.1∧x.2.2.2.1=x.2.2.2.1∧nds x.2.2.2.2=nds x.2.2.2.2∧Al i.2=Al i'.2∧i.1+1=i'.1∧True)∧True)))) (inR .i64 (i.1+(1:Int))∧(∃(i':Int×List Int),vkI x.2.2.2.2 i'.2 i'.1∧x.2.2.2.2.length-Int.toNat i'.1<x.2.2.2.2.length-Int.toNat i.1∧(((x.1=x.1∧x.1=x.1)∧byL x.2.1=byL x.2.1∧x.2.2.1=x.2.2.1∧x.2.2.2.1=x.2.2.2.1∧nds x.2.2.2.2=nds x.2.2.2.2∧Al i.2=Al i'.2∧i.1+1=i'.1∧True)∧True)))) (Aa ((i.2.length:Int)==(0:Int)) (inR .i64 ((x.2.2.2.2.length:Int)+(1:Int))∧∃(x_1:List UInt8×Int×Int×Int),Af x_1.1 x_1.2.1∧x.1=x.1∧byL x.2.1=byL x_1.1∧x.2.2.1=x_1.2.1∧x.2.2.2.1=x_1.2.2.1∧(x.2.2.2.2.length:Int)+1=x_1.2.2.2∧∀(y:Int×Int×Int),((0<x_1.2.2.2→0≤y.1∧y.1<x_1.2.2.2)∧(x_1.2.2.2≤(0:Int)→y.1=(0:Int)))∧Af x_1.1 y.2.1→x.1=x.1∧∃(y_1:Int×Int×Int),((0≤y_1.1∧y_1.1≤(x.2.2.2.2.length:Int))∧Af x.2.1 y_1.2.1)∧y.1=y_1.1∧(x.1=x.1∧x.1=x.1)∧byL x_1.1=byL x.2.1∧y.2.1=y_1.2.1∧y.2.2=y_1.2.2∧True) (∃(x_1:List UInt8×Int×Int×Int),Af x_1.1 x_1.2.1∧x.1=x.1∧byL x.2.1=byL x_1.1∧x.2.2.1=x_1.2.1∧x.2.2.2.1=x_1.2.2.1∧5=x_1.2.2.2∧∀(y:Bool×Int×Int),Af x_1.1 y.2.1→x.1=x.1∧Aa y.1 (inR .i64 ((x.2.2.2.2.length:Int)+(1:Int))∧∃(x_2:List UInt8×Int×Int×Int),Af x_2.1 x_2.2.1∧x.1=x.1∧byL x_1.1=byL x_2.1∧y.2.1=x_2.2.1∧y.2.2=x_2.2.2.1∧(x.2.2.2.2.length:Int)+1=x_2.2.2.2∧∀(y:Int×Int×Int),((0<x_2.2.2.2→0≤y.1∧y.1<x_2.2.2.2)∧(x_2.2.2.2≤(0:Int)→y.1=(0:Int)))∧Af x_2.1 y.2.1→x.1=x.1∧∃(y_1:Int×Int×Int),((0≤y_1.1∧y_1.1≤(x.2.2.2.2.length:Int))∧Af x.2.1 y_1.2.1)∧y.1=y_1.1∧((x.1=x.1∧x.1=x.1)∧byL x_2.1=byL x.2.1∧y.2.1=y_1.2.1∧y.2.2=y_1.2.2∧True)) (∃(x_2:List UInt8×Int×Int×Int),Af x_2.1 x_2.2.1∧x.1=x.1∧byL x_1.1=byL x_2.1∧y.2.1=x_2.2.1∧y.2.2=x_2.2.2.1∧(i.2.length:Int)=x_2.2.2.2∧∀(y:Int×Int×Int),((0<x_2.2.2.2→0≤y.1∧y.1<x_2.2.2.2)∧(x_2.2.2.2≤(0:Int)→y.1=(0:Int)))∧Af x_2.1 y.2.1→x.1=x.1∧(0≤y.1∧y.1<(i.2.length:Int))∧Int.toNat y.1<i.2.length∧∀(x_3:Int),i.2[Int.toNat y.1]? =some x_3→∃(y_1:Int×Int×Int),((0≤y_1.1∧y_1.1≤(x.2.2.2.2.length:Int))∧Af x.2.1 y_1.2.1)∧x_3=y_1.1∧((x.1=x.1∧x.1=x.1)∧byL x_2.1=byL x.2.1∧y.2.1=y_1.2.1∧y.2.2=y_1.2.2∧True))))) (fun x=>by kernel_rfl) fun(x:Value×List UInt8×Int×Int×List Nd) (hx:Af x.2.1 x.2.2.1∧BH x.2.2.2.2∧x.2.2.2.2.length≤300)=>(by
 dsimp only[DM,byL,cA,Br,nds,Al,DW,As,Az,mvL,lnL,mvE,lnE,AV.q]
 obtain⟨cv,b,i,h,L⟩:=x;dsimp only at hx ⊢
 obtain⟨hx,h1,h2⟩:=hx
 (repeat' first|(with_reducible first|rfl|exact True.intro|apply AK|apply And.intro|((first|apply AA|apply AI|apply AB|apply AJ)<;>intro _))|(apply Av<;>intro _)|apply AH|refine Ae () ?_ ?_|((first|apply AO|apply AN|apply AM|apply AL|apply AG|apply AF|apply AE|apply AD|apply AC)<;>try dsimp only)|apply Ae|(refine Prod.forall.2 ?_;intro _;try dsimp only)|(intro _;try dsimp only))
 all_goals(try(have hI:=c2U ‹vkI _ _ _›))
 all_goals first
  |rfl
  |exact hx
  |exact c2R
  |exact c2T ‹_› ‹_›
  |exact c2S ‹_› ‹_›
  |(with_reducible assumption)
  |omega
  |(have hq:=And.left (show(((0:Int)<_→_)∧_)∧Af _ _ by assumption);have hq2:=hq.1 (by omega);omega)
  |exact And.right ‹_∧Af _ _›
  |(have hq:=And.left (show(((0:Int)<_→_)∧_)∧Af _ _ by assumption);have hq2:=hq.1 (by omega);have hm:=a1n ‹vkI _ _ _› ‹(_:List Int)[_]? =some _›;omega)
  |exact(a1n ‹vkI _ _ _› ‹(_:List Int)[_]? =some _›).1
  |exact(a1n ‹vkI _ _ _› ‹(_:List Int)[_]? =some _›).2
  |((try simp only[An,Bb,List.length_append,List.length_cons,List.length_nil]);omega)
  |skip)
end Go.My
end
section
namespace Go.My
open Go.Eng
variable {ind:Int}{k:Nat}{nl t:List UInt8}{v:List Int}
inductive Gp where
 |t (b:List UInt8)
 |g (sp:Bool)
variable {q:List Gp}
def fsp(sp:Bool):List UInt8:=if sp then [32] else []
def gpT:Gp→List UInt8
 | .t b=>b
 | .g sp=>fsp sp
def flQ(q:List Gp):List UInt8:=q.flatMap gpT
inductive Ren (nl:List UInt8):List Gp→List UInt8→Nat→Prop
 |nil:Ren nl [] [] 0
 |put {b:List UInt8} {q:List Gp} {t:List UInt8} {k:Nat}:Ren nl q t k→Ren nl (.t b::q) (b++t) k
 |flat {sp:Bool} {q:List Gp} {t:List UInt8} {k:Nat}:Ren nl q t k→Ren nl (.g sp::q) (fsp sp++t) k
 |brk {sp:Bool} {n:Int} {q:List Gp} {t:List UInt8} {k:Nat}:Ren nl q t k→Ren nl (.g sp::q) (nl++(blk n++t)) (k+1)
theorem Vr{q':List Gp}{t':List UInt8}{k':Nat}(h:Ren nl q t k)(h':Ren nl q' t' k'):Ren nl (q++q') (t++t') (k+k'):=by
 induction h with
 |nil=>simpa using h'
 |put _ ih=>rw[List.cons_append,List.append_assoc];exact .put ih
 |flat _ ih=>rw[List.cons_append,List.append_assoc];exact .flat ih
 | @brk sp n q t k _ ih=>
   rw[List.cons_append,List.append_assoc,List.append_assoc,show k+1+k'=k+k'+1 by omega];exact .brk ih
theorem a9i(h:Ren nl q t k)(hk:k=0):t=flQ q:=by
 induction h with
 |nil=>rfl
 |put _ ih=>rw[ih hk];rfl
 |flat _ ih=>rw[ih hk];rfl
 |brk=>omega
def Cv(t:List UInt8):List UInt8:=t.filter fun b=>b != 32
theorem Ii{a b:List UInt8}:Cv (a++b)=Cv a++Cv b:=by simp [Cv]
theorem a9j{n:Int}:Cv (blk n)=[]:=by simp [Cv,blk]
theorem c2W{sp:Bool}:Cv (fsp sp)=[]:=by cases sp<;>rfl
theorem a1p{x:Gp}:flQ (x::q)=gpT x++flQ q:=rfl
theorem c2X(h:Ren [] q t k):Cv t=Cv (flQ q):=by
 induction h with
 |nil=>rfl
 |put _ ih=>rw[Ii,ih,a1p,Ii];rfl
 |flat _ ih=>rw[Ii,ih,a1p,Ii];rfl
 |brk _ ih=>rw[List.nil_append,Ii,ih,a1p,Ii,a9j,gpT,c2W]
inductive TL:List Gp→List Ch→List UInt8→Prop
 |nil:TL [] [] []
 |put {q:List Gp} {cs:List Ch} {t:List UInt8} (b:List UInt8):TL q cs t→TL (q++[.t b]) cs (t++b)
 |flat {q:List Gp} {cs:List Ch} {t:List UInt8} (sp:Bool):TL q cs t→TL (q++[.g sp]) cs (t++fsp sp)
 |split {q:List Gp} {cs:List Ch} {t:List UInt8} (r f:Int) (sp:Bool) (n:Int):TL q cs t→TL (q++[.g sp]) (cs++[⟨t,r,f,sp,n⟩]) []
def Rr(nl:List UInt8)(ind:Int)(v:List Int)(c:Ch):List UInt8:=if DP v c then nl++blk (ind+c.nest) else fsp c.space
def rT(nl:List UInt8)(ind:Int)(v:List Int)(cs:List Ch):List UInt8:=cs.flatMap fun c=>c.text++Rr nl ind v c
def rK(v:List Int)(cs:List Ch):Nat:=(cs.map fun c=>if DP v c then 1 else 0).sum
theorem a9k{cs:List Ch}(h:TL q cs t):Ren nl q (rT nl ind v cs++t) (rK v cs):=by
 induction h with
 |nil=>exact .nil
 |put b _ ih=>
  have:=Vr ih (.put (b:=b) .nil)
  simpa [List.append_assoc] using this
 |flat sp _ ih=>
  have:=Vr ih (.flat (sp:=sp) .nil)
  simpa [List.append_assoc] using this
 | @split q cs t r f sp n _ ih=>
   have e1:rT nl ind v (cs++[⟨t,r,f,sp,n⟩])++[]=(rT nl ind v cs++t)++Rr nl ind v ⟨t,r,f,sp,n⟩:=by simp [rT]
   have e2:rK v (cs++[⟨t,r,f,sp,n⟩])=rK v cs+(if DP v ⟨t,r,f,sp,n⟩ then 1 else 0):=by simp [rK]
   rw[e1,e2]
   refine Vr ih ?_
   unfold Rr
   split
   ·have:=Ren.brk (nl:=nl) (sp:=sp) (n:=ind+n) .nil
    simpa using this
   ·have:=Ren.flat (nl:=nl) (sp:=sp) .nil
    simpa using this
def jnl(nl:List UInt8):List (List UInt8)→List UInt8
 |[]=>[]
 |[s]=>s
 |s::t::l=>s++nl++jnl nl (t::l)
theorem c2Y{l:List Ch}{s:List UInt8}:rnL ind v l s≠[]:=by
 have:=(@a0A ind v l s).2
 intro h;rw[h] at this;simp at this
theorem c2Z{c:Ch}{l:List Ch}{s:List UInt8}(h:l≠[]):rnL ind v (c::l) s=if DP v c then(s++c.text)::rnL ind v l (blk (ind+c.nest)) else rnL ind v l (s++c.text++fsp c.space):=by
 cases l with
 |nil=>exact absurd rfl h
 |cons d l=>rw[rnL];rfl
theorem c3a{s:List UInt8}{l:List (List UInt8)}(h:l≠[]):jnl nl (s::l)=s++nl++jnl nl l:=by
 cases l with
 |nil=>exact absurd rfl h
 |cons d l=>rfl
theorem Vs{nl:List UInt8}{ind:Int}{v:List Int}{c:Ch}:∀ {cs:List Ch} {s:List UInt8},jnl nl (rnL ind v (cs++[c]) s)=s++(rT nl ind v cs++c.text)∧(rnL ind v (cs++[c]) s).length=rK v cs+1
 |[],s=>by simp [rnL,jnl,rT,rK]
 |d::cs,s=>by
  have hne:cs++[c]≠[]:=by simp
  have e1:rT nl ind v (d::cs)=d.text++Rr nl ind v d++rT nl ind v cs:=by simp [rT]
  have e2:rK v (d::cs)=(if DP v d then 1 else 0)+rK v cs:=by simp [rK]
  rw[List.cons_append,c2Z hne,e1,e2]
  unfold Rr
  by_cases hs:DP v d=true
  ·rw[if_pos hs,if_pos hs,if_pos hs]
   have ih:= @Vs nl ind v c cs (blk (ind+d.nest))
   rw[c3a c2Y,ih.1,List.length_cons,ih.2]
   exact⟨by simp [List.append_assoc],by omega⟩
  ·rw[if_neg hs,if_neg hs,if_neg hs]
   have ih:= @Vs nl ind v c cs (s++d.text++fsp d.space)
   rw[ih.1,ih.2]
   exact⟨by simp [List.append_assoc],by omega⟩
def DR(f:Bs→Bs)(q:List Gp):Prop:=∀q0 s,TL q0 s.chunks s.text→TL (q0++q) (f s).chunks (f s).text
theorem a9l{f g:Bs→Bs}{p:List Gp}(h:DR f p)(h':DR g q):DR (fun s=>g (f s)) (p++q):=fun q0 s hs=>by
 rw[←List.append_assoc];exact h' _ _ (h _ _ hs)
theorem Hs(b:List UInt8):DR (Aq b) [.t b]:=fun q0 s hs=> .put b hs
theorem Pi{rd:Bool}{v c:Int}:DR (Bo rd v c) []:=fun q0 s hs=>by
 rw[List.append_nil];unfold Bo;split<;>exact hs
theorem Lw{r fr nest:Int}{sp:Bool}:DR (Ba r fr sp nest) [.g sp]:=fun q0 s hs=>by
 unfold Ba;split
 ·exact .split _ _ _ _ hs
 ·cases sp with
  |true=>exact .flat true hs
  |false=>have:=TL.flat false hs;simpa [fsp] using this
theorem a9m{k u:Int}:DR (CF k u) []:=fun q0 s hs=>by
 rw[List.append_nil];unfold CF;split<;>exact hs
theorem c3b{k:Int}:DR (EY k) []:=fun q0 s hs=>by
 rw[List.append_nil];unfold EY;split<;>exact hs
def qL(f:Int→List Gp):List Int→Bool→List Gp
 |[],_=>[]
 |c::l,first=>(if first then [] else [.t [44],.g true])++(f c++qL f l false)
def Vt(f:Int→List Gp)(op:List UInt8)(ks:List Int)(en:List UInt8):List Gp:=
 if ks=[] then [.t op,.t en] else [.t op,.g false]++(qL f ks true++[.g false,.t en])
def qCh(f:Int→List Gp)(t:List UInt8):List Int→Bool→List Gp
 |[],_=>[]
 |c::l,first=>(if first then [] else [.t (32::t),.g true])++(f c++qCh f t l false)
def qPk(f:Int→List Gp):List Int→Int→List Gp
 |[],_=>[]
 |c::l,i=>(if i=0 then [] else [.g true,.t (pkT i)])++(f c++qPk f l (i+1))
def qCa(f:Int→List Gp):List Int→List Gp
 |[]=>[]
 |c::l=>[.g false,.t [46,46]]++(f c++qCa f l)
def qV1(ns:List Nd)(f:Int→List Gp)(x:Nd):List Gp:=
 if x.kind=1∨x.kind=2∨x.kind=3 then [.t x.text]
 else if x.kind=11 then [.t [40]]++(f (kd x 0)++[.t [41]])
 else if x.kind=6 then f (kd x 0)++[.t (46::x.text)]
 else if x.kind=4 then Vt f [91] x.kids [93]
 else if x.kind=5 then f (kd x 0)++Vt f [40] (x.kids.drop 1) [41]
 else if x.kind=7 then qCh f x.text x.kids true
 else if x.kind=8 then qPk f x.kids 0
 else if x.kind=9 then [.t (DJ ns x++[32,61,62]),.g true]++f (kd x (x.kids.length-1))
 else f (kd x 0)++qCa f (x.kids.drop 1)
def qV(ns:List Nd):Nat→Int→List Gp
 |0,_=>[]
 |n+1,k=>qV1 ns (qV ns n) (Ab ns k)
section
variable {f:Int→Int→Bs→Bs} {q:Int→List Gp}
theorem a9n(h:∀c a,DR (f c a) (q c)){r g inner:Int}:∀ {l:List Int} {first:Bool},DR (itL f r g inner l first) (qL q l first)
 |[],first=>fun q0 s hs=>by simpa [qL,itL] using hs
 |c::l,first=>fun q0 s hs=>by
  rw[qL,itL,←List.append_assoc,←List.append_assoc]
  refine a9n h _ _ (h _ _ _ _ ?_)
  cases first with
  |true=>simpa using hs
  |false=>have:=Lw (r:=r) (fr:=g) (nest:=inner) (sp:=true) _ _ (Hs [44] _ _ hs);simpa using this
theorem a9o(h:∀c a,DR (f c a) (q c)){rd:Bool}{op:List UInt8}{ks:List Int}{en:List UInt8}{a:Int}:DR (Eg rd f op ks en a) (Vt q op ks en):=fun q0 s hs=>by
 unfold Eg Vt
 split
 ·have:=Hs en _ _ (Hs op _ _ hs);simpa using this
 ·have:=Hs en _ _ (Lw (r:=Au rd (Aq op s)) (fr:=1) (nest:=a) (sp:=false) _ _ (a9n h (r:=Au rd (Aq op s)) (g:=min ks.length 2) (inner:=up4 a) (l:=ks) (first:=true) _ _ (Lw (r:=Au rd (Aq op s)) (fr:=1) (nest:=up4 a) (sp:=false) _ _ (Pi (rd:=rd) (v:=min ks.length 2+1) (c:=1) _ _ (Hs op _ _ hs)))))
  simpa using this
theorem c3c(h:∀c a,DR (f c a) (q c)){ns:List Nd}{r inner c:Int}:DR (Hk ns f r inner c) (q c):=fun q0 s hs=>by
 have h1:=h c inner _ _ hs
 have h2:TL (q0++q c) (if Bc ns c=7 then CF (DI s.rules.length (f c inner s)) r (f c inner s) else f c inner s).chunks (if Bc ns c=7 then CF (DI s.rules.length (f c inner s)) r (f c inner s) else f c inner s).text:=by
  split
  ·have:=a9m (k:=DI s.rules.length (f c inner s)) (u:=r) _ _ h1;simpa using this
  ·exact h1
 unfold Hk
 dsimp only
 split
 ·exact h2
 ·have:=c3b (k:=s.chunks.length) _ _ h2;simpa using this
theorem a9p(h:∀c a,DR (f c a) (q c)){ns:List Nd}{r inner:Int}{t:List UInt8}:∀ {l:List Int} {first:Bool},DR (chL ns f r inner t l first) (qCh q t l first)
 |[],first=>fun q0 s hs=>by simpa [qCh,chL] using hs
 |c::l,first=>fun q0 s hs=>by
  rw[qCh,chL,←List.append_assoc,←List.append_assoc]
  refine a9p h _ _ (c3c h _ _ ?_)
  cases first with
  |true=>simpa using hs
  |false=>have:=Lw (r:=r) (fr:=1) (nest:=inner) (sp:=true) _ _ (Hs (32::t) _ _ hs);simpa using this
theorem c3d(h:∀c a,DR (f c a) (q c)){ns:List Nd}{r inner c:Int}:DR (Hl ns f r inner c) (q c):=fun q0 s hs=>by
 have h1:=h c inner _ _ hs
 unfold Hl
 split
 ·have:=a9m (k:=DI s.rules.length (f c inner s)) (u:=r) _ _ h1;simpa using this
 ·exact h1
theorem a9q(h:∀c a,DR (f c a) (q c)){ns:List Nd}{r inner:Int}:∀ {l:List Int} {i:Int},DR (pkL ns f r inner l i) (qPk q l i)
 |[],i=>fun q0 s hs=>by simpa [qPk,pkL] using hs
 |c::l,i=>fun q0 s hs=>by
  rw[qPk,pkL,←List.append_assoc,←List.append_assoc]
  refine a9q h _ _ (c3d h _ _ ?_)
  by_cases hi:i=0
  ·rw[if_pos hi,if_pos hi];simpa using hs
  ·rw[if_neg hi,if_neg hi]
   have:=Hs (pkT i) _ _ (Lw (r:=r) (fr:=1) (nest:=inner) (sp:=true) _ _ hs);simpa using this
theorem a9r(h:∀c a,DR (f c a) (q c)){r inner:Int}:∀ {l:List Int},DR (caL f r inner l) (qCa q l)
 |[]=>fun q0 s hs=>by simpa [qCa,caL] using hs
 |c::l=>fun q0 s hs=>by
  rw[qCa,caL,←List.append_assoc,←List.append_assoc]
  refine a9r h _ _ (h _ _ _ _ ?_)
  have:=Hs [46,46] _ _ (Lw (r:=r) (fr:=1) (nest:=inner) (sp:=false) _ _ hs);simpa using this
theorem c3e(h:∀c a,DR (f c a) (q c)){ns:List Nd}{rd:Bool}{x:Nd}{a:Int}:DR (bV1 ns rd f x a) (qV1 ns q x):=by
 unfold bV1 qV1
 split
 ·exact Hs _
 split
 ·intro q0 s hs
  have:=Hs [41] _ _ (h (kd x 0) a _ _ (Hs [40] _ _ hs));simpa using this
 split
 ·exact a9l (h _ _) (Hs _)
 split
 ·exact a9o h
 split
 ·exact a9l (h _ _) (a9o h)
 split
 ·intro q0 s hs
  have:=a9p h (ns:=ns) (r:=Au rd s) (inner:=up4 a) (t:=x.text) (l:=x.kids) (first:=true) _ _ (Pi (rd:=rd) (v:=2) (c:=1) _ _ hs)
  simpa [Kf] using this
 split
 ·intro q0 s hs
  have:=a9q h (ns:=ns) (r:=Au rd s) (inner:=up4 a) (l:=x.kids) (i:=0) _ _ (Pi (rd:=rd) (v:=2) (c:=1) _ _ hs)
  simpa [Lj] using this
 split
 ·intro q0 s hs
  have:=h (kd x (x.kids.length-1)) (up4 a) _ _ (Lw (r:=Au rd (Aq (DJ ns x++[32,61,62]) s)) (fr:=1) (nest:=up4 a) (sp:=true) _ _ (Pi (rd:=rd) (v:=2) (c:=2) _ _ (Hs (DJ ns x++[32,61,62]) _ _ hs)))
  simpa [bFn] using this
 ·intro q0 s hs
  have:=a9r h (r:=Au rd s) (inner:=up4 a) (l:=x.kids.drop 1) _ _ (h (kd x 0) a _ _ (Pi (rd:=rd) (v:=2) (c:=1) _ _ hs))
  simpa [a0i] using this
end
theorem a1q{ns:List Nd}{rd:Bool}:∀ {n:Nat} {k a:Int},DR (bV ns rd n k a) (qV ns n k)
 |0,k,a=>fun q0 s hs=>by simpa [qV,bV] using hs
 |n+1,k,a=>by
  have:=c3e (f:=bV ns rd n) (q:=qV ns n) (fun c a=>a1q) (ns:=ns) (rd:=rd) (x:=Ab ns k) (a:=a)
  exact this
def qB(ns:List Nd)(n:Nat)(k:Int)(pre post:List UInt8):List Gp:=([.t pre]++(if CU pre then [.g true] else []))++(qV ns n k++[.t post])
theorem c3f{ns:List Nd}{n:Nat}{k:Int}{pre:List UInt8}:TL (([.t pre]++(if CU pre then [.g true] else []))++qV ns n k) (Cu ns n k pre).chunks (Cu ns n k pre).text:=by
 refine a1q (rd:=true) (a:=0) _ _ ?_
 have h0:TL [.t pre] (b00 pre).chunks (b00 pre).text:=by have:=TL.put pre .nil;simpa [b00] using this
 unfold Fd
 split
 ·have:=Lw (r:=Au true (b00 pre)) (fr:=1) (nest:=4) (sp:=true) _ _ (Pi (rd:=true) (v:=2) (c:=2) _ _ h0);simpa using this
 ·simpa using h0
theorem a9s{nl:List UInt8}{ns:List Nd}{n:Nat}{k ind:Int}{pre post:List UInt8}{v:List Int}:∃T K,Ren nl (qB ns n k pre post) T K∧jnl nl (CG (bdP ns n k pre post ind) v)=blk ind++T∧(CG (bdP ns n k pre post ind) v).length=K+1:=by
 have h1:=a9k (nl:=nl) (ind:=ind) (v:=v) (@c3f ns n k pre)
 have h2:=Vr h1 (.put (b:=post) .nil)
 have h3:= @Vs nl ind v ⟨(Cu ns n k pre).text++post,0,0,false,0⟩ (Cu ns n k pre).chunks (blk ind)
 refine⟨rT nl ind v (Cu ns n k pre).chunks++((Cu ns n k pre).text++post),rK v (Cu ns n k pre).chunks,?_,?_,?_⟩
 rotate_left
 ·show jnl nl (rnL ind v ((Cu ns n k pre).chunks++[⟨(Cu ns n k pre).text++post,0,0,false,0⟩]) (blk ind))=_
  exact h3.1
 ·exact h3.2
 ·have e:rT nl ind v (Cu ns n k pre).chunks++((Cu ns n k pre).text++post)=rT nl ind v (Cu ns n k pre).chunks++(Cu ns n k pre).text++(post++[]):=by simp
  have e2:qB ns n k pre post=([.t pre]++(if CU pre then [.g true] else []))++qV ns n k++[.t post]:=by simp [qB]
  rw[e2]
  show Ren nl _ (rT nl ind v (Cu ns n k pre).chunks++((Cu ns n k pre).text++post)) _
  rw[e];exact h2
end Go.My
end
section
namespace Go.My
open Go.Eng
variable {k:Int}{n:Nat}{ns:List Nd}{post pre:List UInt8}{v:List Int}
def NC(f:Bs→Bs):Prop:=∀s,(f s).chunks=s.chunks
theorem Jy(t:List UInt8):NC (Aq t):=fun _=>rfl
theorem Rs{rd:Bool}{v c:Int}:NC (Bo rd v c):=fun s=>by unfold Bo;split<;>rfl
theorem a1r{u:Int}:NC (CF k u):=fun s=>by unfold CF;split<;>rfl
theorem a9t:NC (EY k):=fun s=>by unfold EY;split<;>rfl
theorem Na{r fr nest:Int}{sp:Bool}(h:r= -1):NC (Ba r fr sp nest):=fun s=>by
 unfold Ba;rw[if_neg (by omega)];split<;>rfl
theorem Nb{s:Bs}:Au false s= -1:=by simp [Au,GN]
section
variable {f:Int→Int→Bs→Bs}
theorem a9u(h:∀c a,NC (f c a)){r g inner:Int}(hr:r= -1):∀ {l:List Int} {first:Bool},NC (itL f r g inner l first)
 |[],_=>fun _=>rfl
 |c::l,first=>fun s=>by
  rw[itL,a9u h hr,h]
  split
  ·rfl
  ·rw[Na hr,Jy]
theorem a9v(h:∀c a,NC (f c a)){op:List UInt8}{ks:List Int}{en:List UInt8}{a:Int}:NC (Eg false f op ks en a):=fun s=>by
 unfold Eg;split
 ·rfl
 ·rw[Jy,Na Nb,a9u h Nb,Na Nb,Rs,Jy]
theorem c3g(h:∀c a,NC (f c a)){ns:List Nd}{r inner c:Int}:NC (Hk ns f r inner c):=fun s=>by
 have h1:=h c inner s
 unfold Hk
 dsimp only
 split<;>split
 ·rw[a1r,h1]
 ·exact h1
 ·rw[a9t,a1r,h1]
 ·rw[a9t,h1]
theorem a9w(h:∀c a,NC (f c a)){ns:List Nd}{r inner:Int}{t:List UInt8}(hr:r= -1):∀ {l:List Int} {first:Bool},NC (chL ns f r inner t l first)
 |[],_=>fun _=>rfl
 |c::l,first=>fun s=>by
  rw[chL,a9w h hr,c3g h]
  split
  ·rfl
  ·rw[Na hr,Jy]
theorem a9x(h:∀c a,NC (f c a)){ns:List Nd}{r inner:Int}(hr:r= -1):∀ {l:List Int} {i:Int},NC (pkL ns f r inner l i)
 |[],_=>fun _=>rfl
 |c::l,i=>fun s=>by
  rw[pkL,a9x h hr]
  have h1:∀s,(Hl ns f r inner c s).chunks=s.chunks:=fun s=>by
   unfold Hl;split
   ·rw[a1r,h]
   ·rw[h]
  rw[h1]
  split
  ·rfl
  ·rw[Jy,Na hr]
theorem a9y(h:∀c a,NC (f c a)){r inner:Int}(hr:r= -1):∀ {l:List Int},NC (caL f r inner l)
 |[]=>fun _=>rfl
 |c::l=>fun s=>by rw[caL,a9y h hr,h,Jy,Na hr]
theorem c3h(h:∀c a,NC (f c a)){ns:List Nd}{x:Nd}{a:Int}:NC (bV1 ns false f x a):=fun s=>by
 unfold bV1
 split
 ·rfl
 split
 ·rw[Jy,h,Jy]
 split
 ·rw[Jy,h]
 split
 ·rw[a9v h]
 split
 ·rw[a9v h,h]
 split
 ·rw[Kf,a9w h Nb,Rs]
 split
 ·rw[Lj,a9x h Nb,Rs]
 split
 ·rw[bFn,h,Na Nb,Rs,Jy]
 ·rw[a0i,a9y h Nb,h,Rs]
end
theorem a9z{ns:List Nd}:∀ {n:Nat} {k a:Int},NC (bV ns false n k a)
 |0,_,_=>fun _=>rfl
 |n+1,k,a=>fun s=>by rw[bV];exact c3h (fun c a=>a9z) s
theorem c3i:Dg ns n k=flQ (qV ns n k):=by
 have h1:=a1q (rd:=false) (n:=n) (ns:=ns) (k:=k) (a:=0) [] (b00 []) .nil
 have h2:(bV ns false n k 0 (b00 [])).chunks=[]:=a9z (b00 [])
 rw[h2] at h1
 have h3:=a9k (nl:=[]) (ind:=0) (v:=[]) h1
 have h4:=a9i h3 rfl
 simpa [rT,Dg] using h4
theorem a9A:flQ (qB ns n k pre post)=pre++(if CU pre then [32] else [])++(Dg ns n k++post):=by
 rw[c3i]
 have e:∀a b:List Gp,flQ (a++b)=flQ a++flQ b:=fun a b=>by simp [flQ]
 rw[qB,e,e,e]
 cases CU pre<;>simp [flQ,gpT,fsp]
theorem a9B:∀ {L:List (List UInt8)},jnl [] L=L.flatten
 |[]=>rfl
 |[s]=>by simp [jnl]
 |s::t::l=>by rw[jnl,a9B];simp
theorem c3j{ind:Int}:Cv (CG (bdP ns n k pre post ind) v).flatten=Cv (pre++(Dg ns n k++post)):=by
 obtain⟨T,K,h1,h2,_⟩:= @a9s [] ns n k ind pre post v
 rw[←a9B,h2,Ii,a9j,c2X h1,a9A,Ii,Ii,Ii (a:=pre)]
 cases CU pre<;>simp [Cv]
theorem c3k{cs:List Ch}(h:∀c∈cs,DP v c=false):rK v cs=0:=by
 unfold rK
 induction cs with
 |nil=>rfl
 |cons c l ih=>
  rw[List.map_cons,List.sum_cons,ih fun d hd=>h d (by simp [hd]),h c (by simp)];rfl
theorem c3l{ind:Int}(hp:pcOk (bdP ns n k pre post ind))(hv:∀i:Nat,v.getD i 0=0):CG (bdP ns n k pre post ind) v=[blk ind++(pre++(if CU pre then [32] else [])++(Dg ns n k++post))]:=by
 obtain⟨T,K,h1,h2,h3⟩:= @a9s [] ns n k ind pre post v
 have h4:=(@Vs [] ind v ⟨(Cu ns n k pre).text++post,0,0,false,0⟩ (Cu ns n k pre).chunks (blk ind)).2
 have h5:rK v (Cu ns n k pre).chunks=0:=c3k fun c hc=>by
  obtain⟨i,hi,e⟩:=List.mem_iff_getElem.1 hc
  have h6:(bdP ns n k pre post ind).chunks[i]? =some c:=by
   show((Cu ns n k pre).chunks++_)[i]? =some c
   rw[List.getElem?_append_left hi,List.getElem?_eq_getElem hi,e]
  have h7:=(hp.sp i c h6 (by show i+1<((Cu ns n k pre).chunks++_).length;simp;omega)).2.1
  have h8:vAt v c.rule=0:=hv c.rule.toNat
  unfold DP
  rw[h8]
  exact decide_eq_false (by omega)
 have h9:(CG (bdP ns n k pre post ind) v).length=1:=by rw[h5] at h4;exact h4
 have hK:K=0:=by omega
 obtain⟨s,hs⟩:=List.length_eq_one_iff.1 h9
 rw[hs] at h2 ⊢
 rw[a9i h1 hK,a9A] at h2
 exact congrArg (fun x=>[x]) h2
end Go.My
end
section
namespace Go.My
open Go.Eng Go.Proofs
variable {G:GInv}
def a9C{α:Type}(f:α→Int)(l:List α)(i:Int):Int:=((l.take i.toNat).map f).sum
def ruF(p:Pc)(q:Int×Nat):Int:=q.1*(Jv p q.2).cost
def snF(p:Pc)(v:List Int)(s:Sn):Int:=if snS p v s then s.cost else 0
structure bndP (p:Pc) (v:List Int):Prop where
 ok:pcOk p
 vo:vOk p v
def bdI(p:Pc)(v:List Int)(i n:Int):Prop:=(0≤i∧i≤v.length)∧n=a9C (ruF p) v.zipIdx i
def bdJ(p:Pc)(v:List Int)(i n:Int):Prop:=(0≤i∧i≤p.spans.length)∧n=(v.zipIdx.map (ruF p)).sum+a9C (snF p v) p.spans i
attribute [local irreducible] bdI bdJ Rc snS
end Go.My
end
section
namespace Go.My
open Go.Eng Go.Proofs
variable {G:GInv}
def a9D(a b:Int):Int:=if a<b then-1 else if b<a then 1 else 0
def cmI(a b:List Int)(i:Int):Prop:=(0≤i∧i≤a.length∧i≤b.length)∧MQ a b=MQ (a.drop i.toNat) (b.drop i.toNat)
attribute [local irreducible] cmI a9D MQ
def upI(l0:List StW)(x:StW)(l:List StW)(i:Int)(n:Nat):Prop:=((0≤i∧i<l.length)∧i<n)∧(l.length=l0.length+1∧∀s∈l,s∈l0∨s=x)∧sUp n l i=Rd l0 x
def dwI(l0 l:List StW)(i:Int)(n:Nat):Prop:=((0≤i∧i≤l0.length)∧(l.length:Int)≤i+n)∧(l.length=l0.length-1∧∀s∈l,s∈l0)∧sDn n l i=OP l0
attribute [local irreducible] upI dwI OO abv Rd OP dnK
end Go.My
end
section
namespace Go.My
open Go.Eng Go.Proofs
variable {G:GInv}
structure coP (p:Pc) (v:List Int):Prop where
 re:renP p v
 vo:vOk p v
def opC(p:Pc)(x:StW):Int:=(Jv p x.vals.length).vals
def opI(p:Pc)(c:Co)(x:StW)(l0 l:List StW)(i:Int):Prop:=
 (0≤i∧i≤opC p x)∧(opN p c x.vals (opC p x-i).toNat i l=opN p c x.vals (opC p x).toNat 0 l0)∧((l.length:Int)≤l0.length+i∧a0v p l)
structure opP (p:Pc) (h:Hu) (x:StW):Prop where
 ok:pcOk p
 vo:vOk p x.vals
 vl:x.vals.length<p.rules.length
 hl:h.heap.length≤2^39
 hk:a0v p h.heap
structure huP (p:Pc) (w:Int) (h:Hu):Prop where
 bv:vOk p h.best
 bl:h.best.length=p.rules.length
 co:h.cost=Uy p h.best w
 hk:a0v p h.heap
def ruI(p:Pc)(w bud:Int)(h:Hu)(n:Nat):Prop:=(huP p w h∧hM p h.heap<n)∧a0u p w bud n h=srF p w bud∧0≤h.pops∧h.pops+hM p h.heap≤9841
end Go.My
end
section
namespace Go.My
open Go.Eng
variable {k:Int}{n:Nat}{ns:List Nd}
structure Ws where
 ls:List (List UInt8)
 st:Int
structure WC where
 ns:List Nd
 w:Int
 bud:Int
structure dpP (ns:List Nd) (K:Nat) (ds:List Int):Prop where
 hd:CW ns K=some ds
theorem c3m{K:Nat}{ds:List Int}(hd:CW ns K=some ds){c:Int}(h:CS ns k)(hK:k<K)(hc:c∈(Ab ns k).kids):(1≤ds.getD c.toNat 0∧ds.getD c.toNat 0+1≤ds.getD k.toNat 0)∧ds.getD k.toNat 0≤14:=by
 have hr:=BB.1 h.1
 have hm:=FC h hc
 have hat:=Rb hd k.toNat (by omega)
 rw[show((k.toNat:Nat):Int)=k by omega] at hat
 exact⟨⟨(Rb hd c.toNat (by omega)).1.1,hat.2 c hc⟩,hat.1.2⟩
def c3n(k:Int):Bool:=Fk k||(Fj k||decide (k=21))
structure trC (c:WC) (n:Nat):Prop where
 ok:BH c.ns
 l30:c.ns.length≤2^30
 ln:c.ns.length≤n
 tx:txS c.ns≤1048576
structure ndV (c:WC) (n m:Nat) (k i:Int):Prop where
 tr:trC c n
 up:CS c.ns k
 lt:k<m
 tk:c3n (Bc c.ns k)=true
 dp:∃K ds,CW c.ns K=some ds∧k<K∧i+ds.getD k.toNat 0+(if Bc c.ns k=21 then 1 else 0)≤59
 i0:0≤i
structure vwP (c:WC) (n:Nat) (pre:List UInt8) (k:Int) (post:List UInt8) (i:Int):Prop where
 tr:trC c n
 bd:bdQ c.ns n k pre post i
 va:Ca c.ns k=true
def byW(ns:List Nd):Nat→Int→Nat
 |0,_=>0
 |m+1,k=>(Ab ns k).text.length+10000+wL (byW ns m) (Ab ns k).kids
theorem a9E{v w:Int→Nat}:∀ {l:List Int},(∀c∈l,v c≤w c)→wL v l≤wL w l
 |[],_=>by simp [wL]
 |c::l,h=>by
  have h1:=h c (by simp)
  have h2:=a9E (v:=v) (w:=w) (l:=l) fun d hd=>h d (by simp [hd])
  rw[FI,FI];omega
theorem a1s{v w:Int→Nat}:∀ {l:List Int},(∀c∈l,v c=w c)→wL v l=wL w l
 |[],_=>by simp [wL]
 |c::l,h=>by
  have h1:=h c (by simp)
  have h2:=a1s (v:=v) (w:=w) (l:=l) fun d hd=>h d (by simp [hd])
  rw[FI,FI,h1,h2]
theorem a9F{ns:List Nd}:∀ {n m:Nat} {k:Int},CS ns k→k<m→tW ns n k≤byW ns m k
 |0,m,k,h,hm=>by rw[tW];omega
 |n+1,0,k,h,hm=>by have:=BB.1 h.1;omega
 |n+1,m+1,k,h,hm=>by
  have:=a9E (v:=tW ns n) (w:=byW ns m) (l:=(Ab ns k).kids) fun c hc=>by
   have h1:=FC h hc
   exact a9F h1.1 (by omega)
  rw[tW,byW];omega
theorem a9G{ns:List Nd}:∀ {m m':Nat} {k:Int},CS ns k→k<m→k<m'→byW ns m k=byW ns m' k
 |0,_,k,h,hm,_=>by have:=BB.1 h.1;omega
 |_+1,0,k,h,_,hm=>by have:=BB.1 h.1;omega
 |m+1,m'+1,k,h,hm,hm'=>by
  rw[byW,byW,a1s fun c hc=>by
   have h1:=FC h hc
   exact a9G (m:=m) (m':=m') h1.1 (by omega) (by omega)]
theorem byW_text{m:Nat}(h:CS ns k)(hm:k<m):(Ab ns k).text.length≤byW ns m k:=by
 have:=BB.1 h.1
 obtain⟨m1,rfl⟩:∃m1,m=m1+1:=⟨m-1,by omega⟩
 rw[byW];omega
theorem c3o{m:Nat}{b:Int}(h:CS ns b)(hm:b<m):wL (byW ns m) (Ab ns b).kids+10000≤byW ns m b:=by
 have:=BB.1 h.1
 obtain⟨m1,rfl⟩:∃m1,m=m1+1:=⟨m-1,by omega⟩
 have e:wL (byW ns (m1+1)) (Ab ns b).kids=wL (byW ns m1) (Ab ns b).kids:=a1s fun c hc=>by
  have h1:=FC h hc
  exact a9G h1.1 (by omega) (by omega)
 rw[e];conv=>rhs;rw[byW]
 omega
theorem Vu{f:Int→Nat}{g:Int→List Int}:∀ {l:List Int},((l.flatMap g).map f).sum=(l.map fun c=>((g c).map f).sum).sum
 |[]=>rfl
 |c::l=>by
  have:=Vu (f:=f) (g:=g) (l:=l)
  simp only[List.flatMap_cons,List.map_append,List.sum_append,List.map_cons,List.sum_cons,this]
def byF(ns:List Nd)(k:Int):Nat:=(Ab ns k).text.length+10000
theorem a9H{ns:List Nd}:∀ {m:Nat} {k:Int},byW ns m k=((vis ns m k).map (byF ns)).sum
 |0,k=>by simp [byW,vis]
 |m+1,k=>by
  rw[byW,vis,List.map_cons,List.sum_cons,Vu]
  have:wL (byW ns m) (Ab ns k).kids=((FD ns k).map fun c=>((vis ns m c).map (byF ns)).sum).sum:=by
   unfold wL FD
   congr 1
   exact List.map_congr_left fun c _=>a9H
  rw[this,byF]
theorem a9I{ns:List Nd}{f:Int→Nat}:∀ {n:Nat} {l:List Int},((l.flatMap (vis ns n)).map f).sum=((WL ns n l).map f).sum
 |0,l=>by
  have:l.flatMap (vis ns 0)=[]:=by simp [vis]
  rw[this];rfl
 |n+1,l=>by
  rw[WL,List.map_append,List.sum_append,←a9I (l:=l.flatMap (FD ns)),List.flatMap_assoc,Vu,Vu]
  induction l with
  |nil=>rfl
  |cons c l ih=>
   simp only[List.map_cons,List.sum_cons] at ih ⊢
   rw[ih,vis,List.map_cons,List.sum_cons];omega
theorem c3p(h:Dl ns=true):byW ns n ((ns.length:Int)-1)≤txS ns+3000000:=by
 obtain⟨h1,h2,h3,_⟩:=Qy h
 have e:= @a9I ns (byF ns) n [(ns.length:Int)-1]
 simp only[List.flatMap_cons,List.flatMap_nil,List.append_nil] at e
 have h4:=a4G h1 h2 n
 have h5:=Tg (byF ns) _ _ h4.1 h4.2
 have h6:((List.range ns.length).map fun i:Nat=>byF ns i).sum=txS ns+10000*ns.length:=by
  unfold txS byF
  generalize ns.length=q
  induction q with
  |zero=>rfl
  |succ q ih=>
   rw[List.range_succ,List.map_append,List.sum_append,List.map_append,List.sum_append,ih]
   simp;omega
 rw[a9H,e];omega
theorem a9J{ns:List Nd}(h:Dl ns=true):∀(d:Nat) {k:Int},CS ns k→((ns.length:Int)-1-k).toNat≤d→byW ns ns.length k≤byW ns ns.length ((ns.length:Int)-1)
 |0,k,hk,hd=>by
  have hr:=BB.1 hk.1
  rw[show k=(ns.length:Int)-1 by omega];exact Nat.le_refl _
 |d+1,k,hk,hd=>by
  have hr:=BB.1 hk.1
  obtain⟨h1,h2,h3,h4⟩:=Qy h
  by_cases e:k=(ns.length:Int)-1
  ·rw[e];exact Nat.le_refl _
  ·have hc:=h1.2 k.toNat (by omega)
   rw[show((k.toNat:Nat):Int)=k by omega] at hc
   have hm:k∈CX ns:=List.count_pos_iff.1 (by omega)
   simp only[CX,List.mem_flatMap] at hm
   obtain⟨x,hx,hkx⟩:=hm
   obtain⟨i,hi,rfl⟩:=List.mem_iff_getElem.1 hx
   have e2:Ab ns (i:Int)=ns[i]:=BA (by simp)
   rw[←e2] at hkx
   have hj:CS ns (i:Int):=⟨BB.2 ⟨by omega,by omega⟩,fun j hj=>h1.1 j (by omega)⟩
   have h5:=FC hj hkx
   have h6:=a9J h d hj (by omega)
   have h7:=c3o (m:=ns.length) hj (by omega)
   have h8:=Uv (w:=byW ns ns.length) hkx
   omega
theorem c3q(h:Dl ns=true)(hk:CS ns k):tW ns n k≤txS ns+3000000:=by
 have hr:=BB.1 hk.1
 have h1:=a9F (n:=n) (m:=ns.length) hk (by omega)
 have h2:=a9J h _ hk (Nat.le_refl _)
 have h3:=c3p (n:=ns.length) h
 omega
theorem c3r{i:Int}{pre post:List UInt8}(h:bdQ ns n k pre post i):Cz (bdP ns n k pre post i).chunks≤pre.length+1+tW ns n k+post.length:=by
 have h2:Cz (Cu ns n k pre).chunks+(Cu ns n k pre).text.length≤tot (Fd pre)+tW ns n k:=(Lk (rd:=true) (a:=0) (s:=Fd pre) h.up h.lt h.vl).1.tt
 have h3:Cz (bdP ns n k pre post i).chunks=Cz (Cu ns n k pre).chunks+((Cu ns n k pre).text.length+post.length):=by
  rw[bdP,Kl,a0j];simp [Cz]
 have h4:tot (Fd pre)≤pre.length+1:=by
  have e:tot (b00 pre)=pre.length:=by simp [tot,Cz,b00]
  unfold Fd;split
  ·have h5:=(Hm (rd:=true) (r:=Au true (b00 pre)) (fr:=1) (nest:=4) (sp:=true) (s:=Bo true 2 2 (b00 pre))).tt
   have h6:=(MP (rd:=true) (v:=2) (c:=2) (s:=b00 pre)).tt
   omega
  ·omega
 omega
theorem c3s(hk:CS ns k)(hn:k<n)(hv:Bf (Bc ns k)=true):(Dg ns n k).length≤tW ns n k:=by
 have h2:=(Lk (rd:=false) (a:=0) (s:=b00 []) hk hn hv).1.tt
 have e:tot (b00 [])=0:=by simp [tot,Cz,b00]
 unfold tot at h2 e
 unfold Dg;omega
end Go.My
end
