/- joined -/
import Derived.Test.YtglbamflbnldhaaGreatDoorQG
import Derived.Lib.ItoaNum
set_option linter.unusedSimpArgs false
set_option linter.unusedVariables false
section
namespace Go.My
open Go.Eng
abbrev Cls:=List (List UInt8×Int)
structure Mc where
 out:List Int
 code:Int
 steps:Int
 deep:Int
structure Fr where
 cells:Cls
 ended:Bool
 ret:Int
def Cz:Cls→List UInt8→Option Int
 |[],_=>none
 |p::l,t=>if p.1=t then some p.2 else Cz l t
def CA:Cls→List UInt8→Int→Cls
 |[],t,n=>[(t,n)]
 |p::l,t,n=>if p.1=t then(p.1,n)::l else p::CA l t n
def Run(α:Type):=Int→Mc→Option (α×Mc)
def Ei{α:Type}(a:α):Run α:=fun _ m=>some (a,m)
def FI{α β:Type}(c:Run α)(k:α→Run β):Run β:=fun L m=>(c L m).bind fun p=>k p.1 L p.2
def GB{α:Type}(a:α)(c:Run α):Run α:=fun L m=>if m.code=0 then c L m else some (a,m)
def PO(m:Mc):Mc:=if m.code=0 then⟨m.out,1,m.steps,m.deep⟩ else m
def JK:Run Int:=fun _ m=>some (0,PO m)
def Su(L:Int)(m:Mc):Mc:=if m.code=0 then(if L≤m.steps then⟨m.out,2,m.steps,m.deep⟩ else⟨m.out,0,m.steps+1,m.deep⟩) else m
def a3d:Run Unit:=fun L m=>some ((),Su L m)
def b3t(n:Int):Run Int:=GB 0 fun _ m=>some (0,⟨m.out++[n],m.code,m.steps,m.deep⟩)
def b3u{α:Type}(a:α)(c:Run α):Run α:=GB a fun L m=>(c L ⟨m.out,m.code,m.steps,m.deep+1⟩).map fun p=>(p.1,⟨p.2.out,p.2.code,p.2.steps,p.2.deep-1⟩)
def Ge(a b:Mc):Prop:=a.out <+: b.out∧a.steps≤b.steps
def St(a b:Mc):Prop:=a.code=2∧Ge a b
structure Gd {α:Type} (c:Run α):Prop where
 stuck:∀ {L m p},m.code≠0→c L m=some p→p.2=m
 mono:∀ {L m p},c L m=some p→Ge m p.2
 rel:∀ {L M m p q},L≤M→c L m=some p→c M m=some q→p=q∨St p.2 q.2
def tr(b:Bool):Int:=if b then 1 else 0
def PP(V:Int→Run Int)(t:List UInt8):List Int→Run Int
 |[]=>Ei (tr (t==[38,38]))
 |k::ks=>FI (V k) fun n=>GB 0 (if(n != 0)=(t==[124,124]) then Ei (tr ((n != 0))) else PP V t ks)
def LY(V:Int→Run Int)(t:List UInt8):List Int→Bool→Int→Run Int
 |[],_,s=>Ei s
 |k::ks,b,s=>FI (V k) fun n=>GB 0 (if b then LY V t ks false n else if inn (Eh t s n) (-1000000000) 1000000000 then LY V t ks false (Eh t s n) else FI JK (LY V t ks false))
def Sv(V:Int→Run Int):List Int→List Int→Run (Option (List Int))
 |[],az=>Ei (some az)
 |k::ks,az=>FI (V k) fun n=>GB none (Sv V ks (az++[n]))
def Bb(ns:List Nd)(t:List UInt8):List Int→Int
 |[]=> -1
 |c::l=>if As ns c=20∧(ndAt ns c).text=t then c else Bb ns t l
def Bc(ns:List Nd):Nd:=ndAt ns ((ns.length:Int)-1)
def Hi(ns:List Nd):List Int→List Int→Cls→Cls
 |k::ks,a::az,cs=>Hi ns ks az (CA cs (ndAt ns k).text a)
 |_,_,cs=>cs
def BB(x:Nd)(i:Nat):Int:=x.kids.getD i 0
def WH(ns:List Nd)(B:Fr→Int→Run Fr)(t:List UInt8)(az:List Int):Run Int:=fun L m=>
 if m.code≠0∨Bb ns t (Bc ns).kids<0∨20<m.deep then JK L m
 else if(ndAt ns (Bb ns t (Bc ns).kids)).kids.length≠az.length+1 then JK L m
 else FI (b3u ⟨[],false,0⟩ (B ⟨Hi ns ((ndAt ns (Bb ns t (Bc ns).kids)).kids.take az.length) az [],false,0⟩ (BB (ndAt ns (Bb ns t (Bc ns).kids)) az.length))) (fun f=>Ei f.ret) L m
def b3v(ns:List Nd)(V:Int→Run Int)(B:Fr→Int→Run Fr)(x:Nd):Run Int:=
 if As ns (BB x 0)≠1 then JK
 else FI (Sv V (x.kids.drop 1) []) fun o=>match o with
  |none=>Ei 0
  |some az=>if(ndAt ns (BB x 0)).text=[112,114,105,110,116]∧az.length=1 then b3t (az.headD 0) else WH ns B (ndAt ns (BB x 0)).text az
def chG(V:Int→Run Int)(x:Nd):Run Int:=
 if x.text=[38,38]∨x.text=[124,124] then PP V x.text x.kids
 else if x.text=[61,61]∨x.text=[60] then(if x.kids.length≠2 then JK else FI (V (BB x 0)) fun a=>GB 0 (FI (V (BB x 1)) fun b=>GB 0 (Ei (if x.text=[61,61] then tr (a==b) else tr (decide (a<b))))))
 else LY V x.text x.kids true 0
def b3w(ns:List Nd)(cs:Cls)(V:Int→Run Int)(B:Fr→Int→Run Fr)(k:Int):Run Int:=
 if As ns k=2 then(if 9<(ndAt ns k).text.length then JK else Ei (Dy (ndAt ns k).text))
 else if As ns k=1 then(match Cz cs (ndAt ns k).text with|none=>JK|some n=>Ei n)
 else if As ns k=11 then V (BB (ndAt ns k) 0)
 else if As ns k=7 then chG V (ndAt ns k)
 else if As ns k=8 then FI (V (BB (ndAt ns k) 0)) fun n=>GB 0 (if n≠0 then V (BB (ndAt ns k) 1) else V (BB (ndAt ns k) 2))
 else if As ns k=5 then b3v ns V B (ndAt ns k)
 else JK
def WI(V:Cls→Int→Run Int)(B:Fr→Int→Run Fr)(x:Nd):Nat→Int→Fr→Run Fr
 |0,_,_=>fun _ _=>none
 |N+1,n,f=>if n=0 then Ei f else FI (B f (BB x 1)) fun f2=>if f2.ended then Ei f2 else FI a3d fun _=>GB f2 (FI (V f2.cells (BB x 0)) fun n2=>GB f2 (WI V B x N n2 f2))
def a3e(V:Cls→Int→Run Int)(B:Fr→Int→Run Fr)(x:Nd)(f:Fr)(n:Int):Run Fr:=
 if x.kind=12 then Ei ⟨CA f.cells x.text n,f.ended,f.ret⟩
 else if x.kind=13 then(match Cz f.cells x.text with|none=>FI JK fun _=>Ei f|some _=>Ei ⟨CA f.cells x.text n,f.ended,f.ret⟩)
 else if x.kind=15 then Ei ⟨f.cells,true,n⟩
 else if x.kind=16 then(if n≠0 then B f (BB x 1) else if x.kids.length=3 then B f (BB x 2) else Ei f)
 else if x.kind=17 then WI V B x 1002 n f
 else Ei f
def stG(V:Cls→Int→Run Int)(B:Fr→Int→Run Fr)(x:Nd)(f:Fr):Run Fr:=
 FI (if 0<x.kids.length then V f.cells (BB x 0) else Ei 0) fun n=>GB f (a3e V B x f n)
def PQ(ns:List Nd)(V:Cls→Int→Run Int)(B:Fr→Int→Run Fr):List Int→Fr→Run Fr
 |[],f=>Ei f
 |k::ks,f=>GB f (if f.ended then Ei f else if As ns k=19 then PQ ns V B ks f else FI a3d fun _=>FI (GB f (stG V B (ndAt ns k) f)) fun f2=>PQ ns V B ks f2)
structure Fns where
 val:Cls→Int→Run Int
 blk:Fr→Int→Run Fr
def ev(ns:List Nd):Nat→Fns
 |0=>⟨fun _ _ _ _=>none,fun _ _ _ _=>none⟩
 |n+1=>⟨fun cs k=>b3w ns cs ((ev ns n).val cs) (ev ns n).blk k,fun f k=>PQ ns (ev ns n).val (ev ns n).blk (ndAt ns k).kids f⟩
end Go.My
end
section
namespace Go.My
open Go.Eng Go.Proofs
variable {G:GInv}
theorem WJ{ns:List Nd}{n:Nat}{ds:List Int}(h:CN ns (n+1)=some ds):∃es,CN ns n=some es∧ds=es++[mx es (ndAt ns n).kids 0+1]:=by
 rw[CN] at h
 split at h
 ·cases h
 ·rename_i es he
  split at h
  ·split at h
   ·cases h
   ·exact⟨es,he,(Option.some.inj h).symm⟩
  ·cases h
theorem Sw{ns:List Nd}:∀ {m n:Nat} {ds:List Int},n≤m→CN ns m=some ds→∃es,CN ns n=some es∧∀i,i<n→ds[i]? =es[i]?
 |0,n,ds,hn,h=>by obtain rfl:n=0:=by omega
                  exact⟨ds,h,fun i hi=>by omega⟩
 |m+1,n,ds,hn,h=>by
  by_cases e:n=m+1
  ·subst e;exact⟨ds,h,fun _ _=>rfl⟩
  ·obtain⟨fs,h1,rfl⟩:=WJ h
   obtain⟨es,h2,h3⟩:=Sw (n:=n) (by omega) h1
   refine⟨es,h2,fun i hi=> ?_⟩
   rw[List.getElem?_append_left (by rw[JD h1];omega)]
   exact h3 i hi
theorem a3f{ds:List Int}:∀ {l:List Int} {d c:Int},c∈l→ds.getD c.toNat 0≤mx ds l d
 |[],_,_,h=>by cases h
 |a::l,d,c,h=>by
  rw[mx]
  rcases List.mem_cons.1 h with rfl|h
  ·have:=RC ds l (max d (ds.getD c.toNat 0));omega
  ·exact a3f h
theorem a3g{ns:List Nd}{k c:Int}(h:BA ns k≠0)(hc:c∈(ndAt ns k).kids):BA ns c<BA ns k:=by
 obtain⟨h1,⟨ds,h2⟩,h3⟩:=Ns h
 have hk:=BV.1 h1
 have hok:BH ns k=true:=by have:=h3 k.toNat (by omega);rwa [show((k.toNat:Nat):Int)=k by omega] at this
 have hcb:=(DM hok).2.2.2.1 c hc
 obtain⟨es,h4,h5⟩:=WJ h2
 obtain⟨fs,h6,h7⟩:=Sw (n:=c.toNat+1) (by omega) h4
 have e1:BA ns k=mx es (ndAt ns k).kids 0+1:=by
  unfold BA
  rw[if_pos h1,h2,h5]
  have hl:=JD h4
  simp only[List.getD]
  rw[List.getElem?_append_right (by omega)]
  simp [hl,show((k.toNat:Nat):Int)=k by omega]
 have e2:BA ns c=es.getD c.toNat 0:=by
  unfold BA
  rw[if_pos (BV.2 ⟨hcb.1,by omega⟩),h6]
  simp only[List.getD]
  rw[h7 c.toNat (by omega)]
 rw[e1,e2]
 have:= @a3f es (ndAt ns k).kids 0 c hc
 omega
end Go.My
end
section
namespace Go.My
open Go.Eng
structure ZS where
 ns:List Nd
 L:Int
def wD(d:Int):Int:=12^(d.toNat-1)
def wK(ns:List Nd)(k:Int):Int:=wD (BA ns k)
def wS(ns:List Nd):List Int→Int
 |[]=>0
 |k::l=>wK ns k+wS ns l
theorem NV{d:Int}:1≤wD d:=by
 unfold wD
 have:(0:Int)<12^(d.toNat-1):=Int.pow_pos (by omega)
 omega
theorem PS{ns:List Nd}:∀ {l:List Int},0≤wS ns l
 |[]=>Int.le_refl _
 |k::l=>by rw[wS];have:= @PS ns l;have:= @NV (BA ns k);unfold wK;omega
theorem WK{ns:List Nd}{q:Int}:∀ {l:List Int},(∀c∈l,wK ns c≤q)→wS ns l≤l.length*q
 |[],_=>by simp [wS]
 |k::l,h=>by
  rw[wS]
  have h1:=h k (by simp);have h2:=WK (l:=l) (fun c hc=>h c (by simp [hc]))
  have:((k::l).length:Int)*q=l.length*q+q:=by rw[List.length_cons,Int.natCast_succ,Int.add_mul,Int.one_mul]
  omega
theorem WM{a b:Int}(h:a≤b):wD a≤wD b:=by
 unfold wD;exact_mod_cast Nat.pow_le_pow_right (n:=12) (by omega) (by omega)
theorem a3h{d:Int}(h:2≤d):wD d=12*wD (d-1):=by
 unfold wD;rw[show d.toNat-1=((d-1).toNat-1)+1 by omega,Int.pow_succ];omega
theorem b3x{d:Int}(h:d≤10):wD d≤5159780352:=by
 have:=WM h;have e:wD 10=5159780352:=by decide
 omega
theorem b3y{ns:List Nd}{l:List Int}{d:Int}(hl:l.length≤12)(h:∀c∈l,1≤BA ns c∧BA ns c<d):wS ns l≤wD d:=by
 cases l with
 |nil=>rw[wS];have:= @NV d;omega
 |cons k l=>
  have h0:=h k (by simp)
  have h1:wS ns (k::l)≤((k::l).length:Int)*wD (d-1):=WK fun c hc=>WM (by have:=h c hc;omega)
  have h2:((k::l).length:Int)*wD (d-1)≤12*wD (d-1):=Int.mul_le_mul_of_nonneg_right (by omega) (by have:= @NV (d-1);omega)
  rw[a3h (by omega)];omega
theorem b3z{ns:List Nd}{l:List Int}{d:Int}(hl:l.length≤12)(h:∀c∈l,1≤BA ns c∧BA ns c<d)(h1:1≤l.length):wS ns (l.drop 1)+1≤wD d:=by
 cases l with
 |nil=>simp at h1
 |cons k l=>
  have h0:=h k (by simp)
  have hp:= @NV (d-1)
  have h1:wS ns l≤(l.length:Int)*wD (d-1):=WK fun c hc=>WM (by have:=h c (by simp [hc]);omega)
  have h2:(l.length:Int)*wD (d-1)≤11*wD (d-1):=Int.mul_le_mul_of_nonneg_right (by simp at hl;omega) (by omega)
  rw[a3h (by omega)];simp only[List.drop_succ_cons,List.drop_zero];omega
theorem PT{ns:List Nd}:∀ {l:List Int} {c:Int},c∈l→wK ns c≤wS ns l
 |[],_,h=>by cases h
 |k::l,c,h=>by
  rw[wS]
  rcases List.mem_cons.1 h with rfl|h
  ·have:= @PS ns l;omega
  ·have:=PT (ns:=ns) h;have:= @NV (BA ns k);unfold wK at*;omega
theorem a3i{ns:List Nd}:∀ {n:Nat} {ds:List Int},CN ns n=some ds→∀d∈ds,d≤14
 |0,ds,h=>by cases h;simp
 |n+1,ds,h=>by
  obtain⟨es,h1,h2⟩:=WJ h
  intro d hd
  rw[CN,h1] at h
  simp only at h
  split at h
  ·split at h
   ·cases h
   ·rename_i h3
    cases h
    rcases List.mem_append.1 hd with hd|hd
    ·exact a3i h1 d hd
    ·simp at hd;omega
  ·cases h
theorem a3j{ns:List Nd}{k:Int}:BA ns k≤14:=by
 unfold BA
 split
 ·split
  ·omega
  ·rename_i ds hd
   rw[List.getD]
   cases h:ds[k.toNat]? with
   |none=>simp
   |some d=>have:=a3i hd d (List.mem_of_getElem? h);simpa using this
 ·omega
def tOk(ns:List Nd):Prop:=(Bf ns=true∧BM ns)∧(1≤ns.length∧ns.length≤300)
theorem PU{ns:List Nd}(h:tOk ns){k:Int}(hk:0≤k∧k<ns.length):BH ns k=true:=by
 have:=(ER h.1.1).2.2.2.2 k.toNat (by omega)
 rwa [show((k.toNat:Nat):Int)=k by omega] at this
theorem a3k{ns:List Nd}(h:tOk ns){k:Int}(hk:0≤k∧k<ns.length):1≤BA ns k:=by
 have h1:BA ns ((ns.length:Int)-1)≠0:=by
  have:=h.1.1
  simp only[Bf,Bool.and_eq_true,decide_eq_true_eq,Bool.not_eq_true',decide_eq_false_iff_not] at this
  exact this.2.2.1
 obtain⟨h2,⟨ds,h3⟩,h4⟩:=Ns h1
 obtain⟨es,h5,h6⟩:=Sw (n:=k.toNat+1) (by have:=h.2;omega) h3
 have:=Wa (ns:=ns) (k:=k) (BV.2 hk) h5
 have:= @a0X ns k
 omega
theorem HS{ns:List Nd}(h:tOk ns){k:Int}(hk:0≤k∧k<ns.length):(ndAt ns k).kids.length≤12∧∀c∈(ndAt ns k).kids,(0≤c∧c<k)∧1≤BA ns c∧BA ns c<BA ns k:=by
 have p:=DM (PU h hk)
 refine⟨p.2.1,fun c hc=> ?_⟩
 have hc2:=p.2.2.2.1 c hc
 exact⟨hc2,a3k h (by omega),a3g (by have:=a3k h hk;omega) hc⟩
theorem a3l{ns:List Nd}(h:tOk ns){c:Int}(hc:c∈(Bc ns).kids):(0≤c∧c<ns.length)∧BA ns c≤13:=by
 have:=(HS h (k:=(ns.length:Int)-1) (by have:=h.2;omega)).2 c hc
 have:= @a3j ns ((ns.length:Int)-1)
 omega
theorem Sx{ns:List Nd}{t:List UInt8}:∀ {l:List Int},Bb ns t l= -1∨Bb ns t l∈l∧As ns (Bb ns t l)=20
 |[]=> .inl rfl
 |c::l=>by
  rw[Bb];split
  ·rename_i h;exact .inr ⟨by simp,h.1⟩
  ·rcases @Sx ns t l with h|h
   ·exact .inl h
   ·exact .inr ⟨by simp [h.1],h.2⟩
def pot(m:Mc):Int:=5159780352*m.steps-m.out.length
def mOk(m:Mc):Prop:=((0≤m.steps∧m.steps≤1000)∧(0≤m.deep∧m.deep≤21))∧0≤pot m
def LZ(c:Cls)(m:Mc):Prop:=(∀p∈c,bdd p.2)∧(c.length:Int)≤20+m.steps
def fOk(f:Fr)(m:Mc):Prop:=LZ f.cells m∧bdd f.ret
def Cw(ns:List Nd)(m:Mc)(n:Nat)(c:Int):Prop:=(21-m.deep)*((ns.length:Int)+1)+c<n
def kOk(ns:List Nd)(m:Mc)(n:Nat)(c:Int):Prop:=((0≤c∧c<ns.length)∧(1≤BA ns c∧BA ns c≤10))∧Cw ns m n c
def Ej(m m2:Mc)(e:Int):Prop:=(mOk m2∧m2.deep=m.deep)∧m.steps≤m2.steps∧pot m-e≤pot m2
theorem WN{m:Mc}(h:mOk m):Ej m m 0:=⟨⟨h,rfl⟩,Int.le_refl _,by omega⟩
theorem b3A{m m2:Mc}{e e2:Int}(h:Ej m m2 e)(he:e≤e2):Ej m m2 e2:=⟨h.1,h.2.1,by have:=h.2.2;omega⟩
theorem b3B{m m2 m3:Mc}{e e2:Int}(h:Ej m m2 e)(g:Ej m2 m3 e2):Ej m m3 (e+e2):=
 ⟨⟨g.1.1,by rw[g.1.2,h.1.2]⟩,Int.le_trans h.2.1 g.2.1,by have:=h.2.2;have:=g.2.2;omega⟩
theorem b3C{m:Mc}(h:mOk m):Ej m (PO m) 0:=by
 unfold PO;split
 ·exact⟨⟨h,rfl⟩,Int.le_refl _,by simp only[pot];omega⟩
 ·exact WN h
theorem b3D{ns:List Nd}{m:Mc}{n:Nat}{k c:Int}(h:Cw ns m (n+1) k)(hc:c<k):Cw ns m n c:=by unfold Cw at*;omega
theorem a3m{ns:List Nd}{m m2:Mc}{n:Nat}{c:Int}(h:Cw ns m n c)(e:m2.deep=m.deep):Cw ns m2 n c:=by unfold Cw at*;rw[e];exact h
theorem NW{ns:List Nd}{m m2:Mc}{n:Nat}{c:Int}(h:kOk ns m n c)(e:m2.deep=m.deep):kOk ns m2 n c:=⟨h.1,a3m h.2 e⟩
theorem a3n{ns:List Nd}{m:Mc}{n:Nat}{k:Int}(ht:tOk ns)(hk:0≤k∧k<ns.length)(hd:BA ns k≤11)(hf:Cw ns m (n+1) k):∀c∈(ndAt ns k).kids,kOk ns m n c:=by
 intro c hc
 have h:=(HS ht hk).2 c hc
 exact⟨⟨by omega,by omega⟩,b3D hf h.1.2⟩
theorem a3o{ns:List Nd}{m:Mc}{n:Nat}{c:Int}(h:kOk ns m n c):wK ns c≤5159780352:=b3x h.1.2.2
theorem Sy{ns:List Nd}{k:Int}(ht:tOk ns)(hk:0≤k∧k<ns.length):wS ns (ndAt ns k).kids≤wK ns k:=b3y (HS ht hk).1 fun c hc=>((HS ht hk).2 c hc).2
theorem a3p{ns:List Nd}{k:Int}(ht:tOk ns)(hk:0≤k∧k<ns.length)(h1:1≤(ndAt ns k).kids.length):wS ns ((ndAt ns k).kids.drop 1)+1≤wK ns k:=b3z (HS ht hk).1 (fun c hc=>((HS ht hk).2 c hc).2) h1
end Go.My
end
section
namespace Go.My
open Go.Eng
structure Ms where
 out:List Int
 code:Int
 steps:Int
 deep:Int
 cells:Cls
 done:Bool
 ret:Int
abbrev Bg (α:Type):=Int→Ms→Option (α×Ms)
def Fj{α:Type}(a:α):Bg α:=fun _ m=>some (a,m)
def Cg{α β:Type}(c:Bg α)(k:α→Bg β):Bg β:=fun L m=>(c L m).bind fun p=>k p.1 L p.2
def Fk{α:Type}(a:α)(c:Bg α):Bg α:=fun L m=>if m.code=0 then c L m else some (a,m)
def AW(m:Ms):Ms:=if m.code=0 then⟨m.out,1,m.steps,m.deep,m.cells,m.done,m.ret⟩ else m
def Jh:Bg Int:=fun _ m=>some (0,AW m)
def Bm(L:Int)(m:Ms):Ms:=if m.code=0 then(if L≤m.steps then⟨m.out,2,m.steps,m.deep,m.cells,m.done,m.ret⟩ else⟨m.out,0,m.steps+1,m.deep,m.cells,m.done,m.ret⟩) else m
def PV(n:Int):Bg Int:=if inn n (-1000000000) 1000000000 then Fj n else Jh
def a3q(t:List UInt8)(n:Int):Bg Unit:=fun _ m=>some ((),⟨m.out,m.code,m.steps,m.deep,CA m.cells t n,m.done,m.ret⟩)
def Ji(V:Int→Bg Int)(t:List UInt8):List Int→Int→Bg Int
 |[],a=>Fj (tr (a != 0))
 |k::ks,a=>Fk (tr (a != 0)) (if(a != 0)=(t==[38,38]) then Cg (V k) (Ji V t ks) else Fj (tr (a != 0)))
def Iy(V:Int→Bg Int)(t:List UInt8):List Int→Int→Bg Int
 |[],a=>Fj a
 |k::ks,a=>Fk a (Cg (V k) fun b=>Fk a (Cg (PV (Eh t a b)) (Iy V t ks)))
def Iz(V:Int→Bg Int):List Int→List Int→Bg (List Int)
 |[],az=>Fj az
 |k::ks,az=>Fk az (Cg (V k) fun n=>Iz V ks (az++[n]))
def chT(V:Int→Bg Int)(x:Nd)(a:Int):Bg Int:=
 if x.text=[38,38]∨x.text=[124,124] then Ji V x.text (x.kids.drop 1) a
 else if x.text=[61,61]∨x.text=[60] then(if x.kids.length≠2 then Jh else Cg (V (BB x 1)) fun b=>Fj (if x.text=[61,61] then tr (a==b) else tr (decide (a<b))))
 else Iy V x.text (x.kids.drop 1) a
def chU(V:Int→Bg Int)(x:Nd):Bg Int:=Cg (V (BB x 0)) (chT V x)
def meU(ns:List Nd)(B:Int→Bg Unit)(k:Int)(az:List Int):Bg Int:=fun L m=>
 if(ndAt ns k).kids.length≠az.length+1 then Jh L m
 else(B (BB (ndAt ns k) az.length) L ⟨m.out,m.code,m.steps,m.deep,Hi ns ((ndAt ns k).kids.take az.length) az [],false,0⟩).map fun p=>(p.2.ret,⟨p.2.out,p.2.code,p.2.steps,p.2.deep,p.2.cells,m.done,m.ret⟩)
def mcU(ns:List Nd)(B:Int→Bg Unit)(t:List UInt8)(az:List Int):Bg Int:=fun L m=>
 if Bb ns t (Bc ns).kids<0∨20≤m.deep then Jh L m
 else(meU ns B (Bb ns t (Bc ns).kids) az L ⟨m.out,m.code,m.steps,m.deep+1,m.cells,m.done,m.ret⟩).map fun p=>(p.1,⟨p.2.out,p.2.code,p.2.steps,p.2.deep-1,m.cells,p.2.done,p.2.ret⟩)
def prU(n:Int):Bg Int:=fun _ m=>some (0,⟨m.out++[n],m.code,m.steps,m.deep,m.cells,m.done,m.ret⟩)
def caU(ns:List Nd)(V:Int→Bg Int)(B:Int→Bg Unit)(x:Nd):Bg Int:=
 if As ns (BB x 0)≠1 then Jh
 else Cg (Iz V (x.kids.drop 1) []) fun az=>Fk 0 (if(ndAt ns (BB x 0)).text=[112,114,105,110,116]∧az.length=1 then prU (az.headD 0) else mcU ns B (ndAt ns (BB x 0)).text az)
def nmU(t:List UInt8):Bg Int:=fun L m=>match Cz m.cells t with
 |none=>Jh L m
 |some n=>some (n,m)
def vaU(ns:List Nd)(V:Int→Bg Int)(B:Int→Bg Unit)(k:Int):Bg Int:=Fk 0 (
 if As ns k=2 then(if 9<(ndAt ns k).text.length then Jh else Fj (Dy (ndAt ns k).text))
 else if As ns k=1 then nmU (ndAt ns k).text
 else if As ns k=11 then V (BB (ndAt ns k) 0)
 else if As ns k=7 then chU V (ndAt ns k)
 else if As ns k=8 then Cg (V (BB (ndAt ns k) 0)) fun n=>if n≠0 then V (BB (ndAt ns k) 1) else V (BB (ndAt ns k) 2)
 else if As ns k=5 then caU ns V B (ndAt ns k)
 else Jh)
def seU(t:List UInt8)(n:Int):Bg Unit:=fun L m=>match Cz m.cells t with
 |none=>some ((),AW m)
 |some _=>a3q t n L m
def reU(n:Int):Bg Unit:=fun _ m=>some ((),⟨m.out,m.code,m.steps,m.deep,m.cells,true,n⟩)
def whU(V:Int→Bg Int)(B:Int→Bg Unit)(x:Nd):Nat→Bg Unit
 |0=>fun _ _=>none
 |N+1=>fun L m=>if m.code=0∧m.done=false then Cg (V (BB x 0)) (fun n L m=>if n=0∨m.code≠0 then some ((),m) else Cg (B (BB x 1)) (fun _ L m=>if m.done=true∨(Bm L m).code≠0 then some ((),if m.done=true then m else Bm L m) else whU V B x N L (Bm L m)) L m) L m else some ((),m)
def JL(V:Int→Bg Int)(x:Nd):Bg Int:=if x.kids.length=0 then Fj 0 else V (BB x 0)
def acU(V:Int→Bg Int)(B:Int→Bg Unit)(x:Nd):Bg Unit:=
 if x.kind=12 then Cg (JL V x) fun n=>Fk () (a3q x.text n)
 else if x.kind=13 then Cg (V (BB x 0)) fun n=>Fk () (seU x.text n)
 else if x.kind=14 then Cg (V (BB x 0)) fun _=>Fj ()
 else if x.kind=15 then Cg (JL V x) fun n=>Fk () (reU n)
 else if x.kind=16 then Cg (V (BB x 0)) fun n=>Fk () (if n≠0 then B (BB x 1) else if 2<x.kids.length then B (BB x 2) else Fj ())
 else if x.kind=17 then whU V B x 1002
 else Fj ()
def stU(V:Int→Bg Int)(B:Int→Bg Unit)(x:Nd):Bg Unit:=fun L m=>
 if x.kind=19 then some ((),m) else if(Bm L m).code≠0 then some ((),Bm L m) else acU V B x L (Bm L m)
def blU(ns:List Nd)(V:Int→Bg Int)(B:Int→Bg Unit):List Int→Bg Unit
 |[]=>Fj ()
 |k::ks=>fun L m=>if m.code=0∧m.done=false then Cg (stU V B (ndAt ns k)) (fun _=>blU ns V B ks) L m else some ((),m)
structure UFn where
 val:Int→Bg Int
 blk:Int→Bg Unit
def eu(ns:List Nd):Nat→UFn
 |0=>⟨fun _ _ _=>none,fun _ _ _=>none⟩
 |n+1=>⟨fun k=>vaU ns (eu ns n).val (eu ns n).blk k,fun k=>blU ns (eu ns n).val (eu ns n).blk (ndAt ns k).kids⟩
theorem CC{α:Type}{a:α}{c:Bg α}{L:Int}{m:Ms}:Fk a c L m=if m.code=0 then c L m else some (a,m):=rfl
inductive F2 (R:Int→Int→Prop):List Int→List Int→Prop where
 |nil:F2 R [] []
 |cons {a b:Int} {l m:List Int} (h:R a b) (g:F2 R l m):F2 R (a::l) (b::m)
def Eq2{α:Type}(c d:Bg α):Prop:=∀L m p q,c L m=some p→d L m=some q→p=q
theorem Ek{α:Type}(c:Bg α):Eq2 c c:=fun L m p q h g=>by rw[h] at g;exact Option.some.inj g
theorem FJ{α β:Type}{c d:Bg α}{k l:α→Bg β}(h:Eq2 c d)(g:∀a,Eq2 (k a) (l a)):Eq2 (Cg c k) (Cg d l):=by
 intro L m p q h1 h2
 obtain⟨r,h3,h4⟩:=Option.bind_eq_some_iff.1 h1
 obtain⟨s,h5,h6⟩:=Option.bind_eq_some_iff.1 h2
 have:=h L m r s h3 h5;subst this
 exact g _ _ _ _ _ h4 h6
theorem Ma{α:Type}{a:α}{c d:Bg α}(h:Eq2 c d):Eq2 (Fk a c) (Fk a d):=by
 intro L m p q h1 h2
 rw[CC] at h1 h2
 split at h1
 ·rename_i e;rw[if_pos e] at h2;exact h _ _ _ _ h1 h2
 ·rename_i e;rw[if_neg e] at h2;rw[h1] at h2;exact Option.some.inj h2
theorem Jj{α:Type}{p:Prop}[Decidable p]{c d c2 d2:Bg α}(h:Eq2 c c2)(g:Eq2 d d2):Eq2 (if p then c else d) (if p then c2 else d2):=by split<;>assumption
theorem WO{α:Type}{c:Bg α}:Eq2 (fun _ _=>none) c:=fun L m p q h=>by cases h
theorem a3r{α:Type}{c:Bg α}:Eq2 c (fun _ _=>none):=fun L m p q h g=>by cases g
section
variable {R:Int→Int→Prop} {V W:Int→Bg Int} (hV:∀i j,R i j→Eq2 (V i) (W j))
include hV
theorem a3s{t:List UInt8}:∀ {l l2:List Int} {a:Int},F2 R l l2→Eq2 (Ji V t l a) (Ji W t l2 a)
 |_,_,a,.nil=>Ek _
 |_,_,a,.cons h g=>Ma (Jj (FJ (hV _ _ h) fun _=>a3s g) (Ek _))
theorem a3t{t:List UInt8}:∀ {l l2:List Int} {a:Int},F2 R l l2→Eq2 (Iy V t l a) (Iy W t l2 a)
 |_,_,a,.nil=>Ek _
 |_,_,a,.cons h g=>Ma (FJ (hV _ _ h) fun _=>Ma (FJ (Ek _) fun _=>a3t g))
theorem a3u:∀ {l l2 az:List Int},F2 R l l2→Eq2 (Iz V l az) (Iz W l2 az)
 |_,_,az,.nil=>Ek _
 |_,_,az,.cons h g=>Ma (FJ (hV _ _ h) fun _=>a3u g)
end
theorem PW{R:Int→Int→Prop}:∀ {l l2:List Int},F2 R l l2→l.length=l2.length
 |_,_,.nil=>rfl
 |_,_,.cons _ g=>by simp [PW g]
theorem Sz{R:Int→Int→Prop}:∀ {l l2:List Int} (n:Nat),F2 R l l2→F2 R (l.drop n) (l2.drop n)
 |_,_,0,h=>by simpa using h
 |_,_,n+1,.nil=>by simpa using F2.nil
 |_,_,n+1,.cons _ g=>by simpa using Sz n g
theorem a3v{R:Int→Int→Prop}:∀ {l l2:List Int} (n:Nat),F2 R l l2→F2 R (l.take n) (l2.take n)
 |_,_,0,h=>by simpa using F2.nil
 |_,_,n+1,.nil=>by simpa using F2.nil
 |_,_,n+1,.cons h g=>by simpa using F2.cons h (a3v n g)
theorem a3w{R:Int→Int→Prop}:∀ {l l2:List Int} {i:Nat},F2 R l l2→i<l.length→R (l.getD i 0) (l2.getD i 0)
 |_,_,i,.nil,h=>by simp at h
 |_,_,0,.cons h _,_=>by simpa using h
 |_,_,i+1,.cons _ g,h=>by simpa using a3w (i:=i) g (by simpa using h)
theorem a3x{α:Type}{P:Int→Ms→Prop}[∀L m,Decidable (P L m)]{c d:Bg α}{f:Int→Ms→α×Ms}(h:Eq2 c d):Eq2 (fun L m=>if P L m then c L m else some (f L m)) (fun L m=>if P L m then d L m else some (f L m)):=by
 intro L m p q h1 h2
 dsimp only at h1 h2
 split at h1
 ·rename_i e;rw[if_pos e] at h2;exact h _ _ _ _ h1 h2
 ·rename_i e;rw[if_neg e] at h2;rw[h1] at h2;exact Option.some.inj h2
theorem a3y{α:Type}{P:Int→Ms→Prop}[∀L m,Decidable (P L m)]{c d:Bg α}{f:Int→Ms→α×Ms}(h:Eq2 c d):Eq2 (fun L m=>if P L m then some (f L m) else c L m) (fun L m=>if P L m then some (f L m) else d L m):=by
 intro L m p q h1 h2
 dsimp only at h1 h2
 split at h1
 ·rename_i e;rw[if_pos e] at h2;rw[h1] at h2;exact Option.some.inj h2
 ·rename_i e;rw[if_neg e] at h2;exact h _ _ _ _ h1 h2
theorem b3E{α:Type}{c d:Bg α}{g:Int→Ms→Ms}(h:Eq2 c d):Eq2 (fun L m=>c L (g L m)) (fun L m=>d L (g L m)):=fun L m p q h1 h2=>h _ _ _ _ h1 h2
def alN(ns ms:List Nd)(R:Int→Int→Prop)(i j:Int):Prop:=((ndAt ns i).kind=(ndAt ms j).kind∧(ndAt ns i).text=(ndAt ms j).text)∧(F2 R (ndAt ns i).kids (ndAt ms j).kids∧Cd (ndAt ns i).kind ((ndAt ns i).kids.map (As ns))=true)
def alF(ns ms:List Nd)(i j:Int):Prop:=As ns i=7∧∃v,(∀n L m p,(eu ns n).val i L m=some p→p=(if m.code=0 then v else 0,m))∧(As ms j=2∧(¬9<(ndAt ms j).text.length∧Dy (ndAt ms j).text=v))
structure Alike (ns ms:List Nd) (R:Int→Int→Prop):Prop where
 node:∀ {i j},R i j→alN ns ms R i j∨alF ns ms i j
 meth:∀t,(Bb ns t (Bc ns).kids<0∧Bb ms t (Bc ms).kids<0)∨((0≤Bb ns t (Bc ns).kids∧0≤Bb ms t (Bc ms).kids)∧R (Bb ns t (Bc ns).kids) (Bb ms t (Bc ms).kids))
section
variable {ns ms:List Nd} {R:Int→Int→Prop} (H:Alike ns ms R)
include H
theorem PX{i j:Int}(h:R i j)(hk:As ns i≠7):alN ns ms R i j:=by
 rcases H.node h with h|h
 ·exact h
 ·exact absurd h.1 hk
theorem a3z{i j:Int}(h:R i j):As ns i=1↔As ms j=1:=by
 rcases H.node h with h|⟨h,v,_,h2,_⟩
 ·have:As ns i=As ms j:=h.1.1
  rw[this]
 ·omega
end
theorem FK{R:Int→Int→Prop}{x y:Nd}{i:Nat}(h:F2 R x.kids y.kids)(hi:i<x.kids.length):R (BB x i) (BB y i):=a3w h hi
theorem a3A{ns:List Nd}{x:Nd}{i:Nat}(hi:i<x.kids.length):(x.kids.map (As ns)).getD i 0=As ns (BB x i):=by
 rw[BB,List.getD_eq_getElem?_getD,List.getD_eq_getElem?_getD,List.getElem?_map,List.getElem?_eq_getElem hi];rfl
theorem Mb{ks:List Int}{k:Int}(h:Cd k ks=true)(hk:k=5∨k=7∨k=11∨k=13∨k=14):1≤ks.length:=by
 rcases hk with rfl|rfl|rfl|rfl|rfl<;>simp [Cd] at h<;>omega
theorem a3B{ks:List Int}(h:Cd 8 ks=true):ks.length=3:=by simp [Cd] at h;omega
theorem a3C{ks:List Int}(h:Cd 16 ks=true):2≤ks.length∧(ks.drop 1).all CU=true:=by
 simp only[Cd,Int.reduceEq,or_self,if_false,if_true,reduceIte,Bool.and_eq_true,decide_eq_true_eq] at h;exact⟨h.1.1,h.2.2⟩
theorem a3D{ks:List Int}(h:Cd 17 ks=true):ks.length=2∧CU (ks.getD 1 0)=true:=by
 simp only[Cd,Int.reduceEq,or_self,if_false,if_true,reduceIte,Bool.and_eq_true,decide_eq_true_eq] at h;exact⟨h.1,h.2.2⟩
theorem b3F{ks:List Int}(h:Cd 18 ks=true):ks.all DT=true:=by
 simp only[Cd,Int.reduceEq,or_self,if_false,if_true,reduceIte] at h;exact h
theorem b3G{ks:List Int}(h:Cd 20 ks=true):EP CU ks=true:=by
 simp only[Cd,Int.reduceEq,or_self,if_false,if_true,reduceIte] at h;exact h
theorem a3E{ns:List Nd}{x:Nd}{i:Nat}(h:((x.kids.map (As ns)).drop 1).all CU=true)(h1:1≤i)(hi:i<x.kids.length):As ns (BB x i)=18:=by
 have e:((x.kids.map (As ns)).drop 1)[i-1]? =some (As ns (BB x i)):=by
  rw[List.getElem?_drop,show 1+(i-1)=i by omega,←a3A hi,List.getD_eq_getElem?_getD,List.getElem?_map,List.getElem?_eq_getElem hi];rfl
 have:=List.all_eq_true.1 h _ (List.mem_of_getElem? e)
 simpa [CU] using this
theorem b3H{ns:List Nd}{x:Nd}{n:Nat}(h:EP CU (x.kids.map (As ns))=true)(hl:x.kids.length=n+1):As ns (BB x n)=18∧∀c∈x.kids.take n,As ns c=1:=by
 have e:(x.kids.map (As ns)).getLast?=some (As ns (BB x n)):=by
  rw[List.getLast?_eq_getElem?,List.length_map,hl,show n+1-1=n by omega,List.getElem?_map,List.getElem?_eq_getElem (by omega),BB,List.getD_eq_getElem?_getD,List.getElem?_eq_getElem (by omega)];rfl
 rw[EP,e] at h
 simp only[Bool.and_eq_true] at h
 refine⟨by simpa [CU] using h.1,fun c hc=> ?_⟩
 have e2:(x.kids.map (As ns)).dropLast=(x.kids.take n).map (As ns):=by
  rw[List.dropLast_eq_take,List.length_map,hl,List.map_take];rfl
 rw[e2] at h
 have:=List.all_eq_true.1 h.2 _ (List.mem_map_of_mem hc)
 simpa [EA] using this
section
variable {ns ms:List Nd} {R:Int→Int→Prop} (H:Alike ns ms R) {V W:Int→Bg Int} {B C:Int→Bg Unit} (hV:∀i j,R i j→Eq2 (V i) (W j)) (hB:∀i j,R i j→As ns i=18→Eq2 (B i) (C j))
include H
theorem a3F:∀ {l l2 az:List Int} {cs:Cls},F2 R l l2→(∀c∈l,As ns c=1)→Hi ns l az cs=Hi ms l2 az cs
 |_,_,[],_,.nil,_=>rfl
 |_,_,_::_,_,.nil,_=>rfl
 |_,_,[],_,.cons _ _,_=>rfl
 |k::l,k2::l2,a::az,cs,.cons h g,hk=>by
  have e:=(PX H h (by rw[hk k (by simp)];decide)).1.2
  rw[Hi,Hi,e,a3F g fun c hc=>hk c (by simp [hc])]
include hV hB
omit hV in
theorem a3G{i j:Int}{az:List Int}(h:R i j)(hk:As ns i=20):Eq2 (meU ns B i az) (meU ms C j az):=by
 obtain⟨⟨h1,h2⟩,h3,h4⟩:=PX H h (by omega)
 have h5:=b3G (by rw[←(show(ndAt ns i).kind=20 from hk)];exact h4)
 have hl:=PW h3
 unfold meU
 intro L m p q g1 g2
 dsimp only at g1 g2
 rw[←hl] at g2
 split at g1
 ·rename_i e;rw[if_pos e] at g2;rw[g1] at g2;exact Option.some.inj g2
 ·rename_i e;rw[if_neg e] at g2
  obtain⟨h6,h7⟩:=b3H (n:=az.length) h5 (by omega)
  rw[←a3F H (a3v _ h3) h7] at g2
  obtain⟨r,e1,rfl⟩:=Option.map_eq_some_iff.1 g1
  obtain⟨s,e2,rfl⟩:=Option.map_eq_some_iff.1 g2
  rw[hB _ _ (FK h3 (by omega)) h6 _ _ _ _ e1 e2]
omit hV in
theorem b3I{t:List UInt8}{az:List Int}(hm:∀t,0≤Bb ns t (Bc ns).kids→As ns (Bb ns t (Bc ns).kids)=20):Eq2 (mcU ns B t az) (mcU ms C t az):=by
 intro L m p q g1 g2
 unfold mcU at g1 g2
 rcases H.meth t with⟨h1,h2⟩|⟨⟨h1,h2⟩,h3⟩
 ·rw[if_pos (.inl h1)] at g1;rw[if_pos (.inl h2)] at g2;rw[g1] at g2;exact Option.some.inj g2
 ·by_cases hd:20≤m.deep
  ·rw[if_pos (.inr hd)] at g1;rw[if_pos (.inr hd)] at g2;rw[g1] at g2;exact Option.some.inj g2
  ·rw[if_neg (by omega)] at g1;rw[if_neg (by omega)] at g2
   obtain⟨r,e1,rfl⟩:=Option.map_eq_some_iff.1 g1
   obtain⟨s,e2,rfl⟩:=Option.map_eq_some_iff.1 g2
   rw[a3G H hB h3 (hm t h1) _ _ _ _ e1 e2]
theorem b3J{x y:Nd}(hk:F2 R x.kids y.kids)(h1:1≤x.kids.length)(hm:∀t,0≤Bb ns t (Bc ns).kids→As ns (Bb ns t (Bc ns).kids)=20):Eq2 (caU ns V B x) (caU ms W C y):=by
 have h0:=FK (i:=0) hk (by omega)
 unfold caU
 by_cases e:As ns (BB x 0)=1
 ·rw[if_neg (fun h=>h e),if_neg (fun h=>h ((a3z H h0).1 e))]
  have et:=(PX H h0 (by omega)).1.2
  rw[et]
  exact FJ (a3u hV (Sz 1 hk)) fun az=>Ma (Jj (Ek _) (b3I H hB hm))
 ·rw[if_pos e,if_pos (fun h=>e ((a3z H h0).2 h))];exact Ek _
omit H hB in
theorem b3K{x y:Nd}(hk:F2 R x.kids y.kids)(ht:x.text=y.text)(h1:1≤x.kids.length):Eq2 (chU V x) (chU W y):=by
 have hl:=PW hk
 unfold chU
 refine FJ (hV _ _ (FK hk (by omega))) fun a=> ?_
 unfold chT
 rw[ht,hl]
 refine Jj (a3s hV (Sz 1 hk)) (Jj ?_ (a3t hV (Sz 1 hk)))
 by_cases e:y.kids.length=2
 ·rw[if_neg (by omega),if_neg (by omega)]
  exact FJ (hV _ _ (FK hk (by omega))) fun b=>Ek _
 ·rw[if_pos e,if_pos e];exact Ek _
theorem b3L{i j:Int}(h:alN ns ms R i j)(hm:∀t,0≤Bb ns t (Bc ns).kids→As ns (Bb ns t (Bc ns).kids)=20):Eq2 (vaU ns V B i) (vaU ms W C j):=by
 obtain⟨⟨h1,h2⟩,h3,h4⟩:=h
 have hk:As ms j=As ns i:=h1.symm
 have hk0:(ndAt ns i).kind=As ns i:=rfl
 unfold vaU
 rw[hk,←h2]
 rw[hk0] at h4
 refine Ma (Jj (Ek _) (Jj (Ek _) ?_))
 by_cases e:As ns i=11
 ·rw[if_pos e,if_pos e]
  rw[e] at h4;have h5:=Mb h4 (by simp)
  exact hV _ _ (FK h3 (by simp only[List.length_map] at h5;omega))
 rw[if_neg e,if_neg e]
 by_cases e:As ns i=7
 ·rw[if_pos e,if_pos e]
  rw[e] at h4;have h5:=Mb h4 (by simp)
  exact b3K hV h3 h2 (by simp only[List.length_map] at h5;omega)
 rw[if_neg e,if_neg e]
 by_cases e:As ns i=8
 ·rw[if_pos e,if_pos e]
  rw[e] at h4;have h5:=a3B h4
  rw[List.length_map] at h5
  exact FJ (hV _ _ (FK h3 (by omega))) fun n=>Jj (hV _ _ (FK h3 (by omega))) (hV _ _ (FK h3 (by omega)))
 rw[if_neg e,if_neg e]
 by_cases e:As ns i=5
 ·rw[if_pos e,if_pos e]
  rw[e] at h4;have h5:=Mb h4 (by simp)
  exact b3J H hV hB h3 (by simp only[List.length_map] at h5;omega) hm
 rw[if_neg e,if_neg e];exact Ek _
omit hB H in
theorem a3H{x y:Nd}(hk:F2 R x.kids y.kids):Eq2 (JL V x) (JL W y):=by
 unfold JL
 rw[←PW hk]
 by_cases e:x.kids.length=0
 ·rw[if_pos e,if_pos e];exact Ek _
 ·rw[if_neg e,if_neg e];exact hV _ _ (FK hk (by omega))
omit H in
theorem a3I{x y:Nd}(hk:F2 R x.kids y.kids)(hl:x.kids.length=2)(hb:As ns (BB x 1)=18):∀N:Nat,Eq2 (whU V B x N) (whU W C y N)
 |0=>WO
 |N+1=>by
  unfold whU
  refine a3x (P:=fun L m=>m.code=0∧m.done=false) (f:=fun L m=>((),m)) (FJ (hV _ _ (FK hk (by omega))) fun n=> ?_)
  refine a3y (P:=fun L m=>n=0∨m.code≠0) (f:=fun L m=>((),m)) (FJ (hB _ _ (FK hk (by omega)) hb) fun _=> ?_)
  exact a3y (P:=fun L m=>m.done=true∨(Bm L m).code≠0) (f:=fun L m=>((),if m.done=true then m else Bm L m)) (b3E (g:=fun L m=>Bm L m) (a3I hk hl hb N))
omit H in
theorem b3M{i j:Int}(h:alN ns ms R i j):Eq2 (acU V B (ndAt ns i)) (acU W C (ndAt ms j)):=by
 obtain⟨⟨h1,h2⟩,h3,h4⟩:=h
 unfold acU
 rw[←h1,←h2]
 refine Jj (FJ (a3H hV h3) fun n=>Ek _) ?_
 by_cases e:(ndAt ns i).kind=13
 ·rw[if_pos e,if_pos e]
  rw[e] at h4;have h5:=Mb h4 (by simp)
  exact FJ (hV _ _ (FK h3 (by simp only[List.length_map] at h5;omega))) fun n=>Ek _
 rw[if_neg e,if_neg e]
 by_cases e:(ndAt ns i).kind=14
 ·rw[if_pos e,if_pos e]
  rw[e] at h4;have h5:=Mb h4 (by simp)
  exact FJ (hV _ _ (FK h3 (by simp only[List.length_map] at h5;omega))) fun n=>Ek _
 rw[if_neg e,if_neg e]
 refine Jj (FJ (a3H hV h3) fun n=>Ek _) ?_
 by_cases e:(ndAt ns i).kind=16
 ·rw[if_pos e,if_pos e]
  rw[e] at h4;obtain⟨h5,h6⟩:=a3C h4
  rw[List.length_map] at h5
  refine FJ (hV _ _ (FK h3 (by omega))) fun n=>Ma ?_
  rw[←PW h3]
  refine Jj (hB _ _ (FK h3 (by omega)) (a3E h6 (by omega) (by omega))) ?_
  by_cases e2:2<(ndAt ns i).kids.length
  ·rw[if_pos e2,if_pos e2];exact hB _ _ (FK h3 (by omega)) (a3E h6 (by omega) (by omega))
  ·rw[if_neg e2,if_neg e2];exact Ek _
 rw[if_neg e,if_neg e]
 by_cases e:(ndAt ns i).kind=17
 ·rw[if_pos e,if_pos e]
  rw[e] at h4;obtain⟨h5,h6⟩:=a3D h4
  rw[List.length_map] at h5
  refine a3I hV hB h3 h5 ?_ _
  rw[a3A (by omega)] at h6
  simpa [CU] using h6
 rw[if_neg e,if_neg e];exact Ek _
theorem b3N{i j:Int}(h:R i j)(hk:DT (As ns i)=true):Eq2 (stU V B (ndAt ns i)) (stU W C (ndAt ms j)):=by
 have hn:=PX H h (fun e=>by rw[e] at hk;simp [DT,JC,inn] at hk)
 have e2:=b3M hV hB hn
 intro L m p q g1 g2
 unfold stU at g1 g2
 rw[←hn.1.1] at g2
 split at g1
 ·rename_i e;rw[if_pos e] at g2;rw[g1] at g2;exact Option.some.inj g2
 ·rename_i e;rw[if_neg e] at g2
  split at g1
  ·rename_i e;rw[if_pos e] at g2;rw[g1] at g2;exact Option.some.inj g2
  ·rename_i e;rw[if_neg e] at g2;exact e2 _ _ _ _ g1 g2
theorem a3J:∀ {l l2:List Int},F2 R l l2→(∀c∈l,DT (As ns c)=true)→Eq2 (blU ns V B l) (blU ms W C l2)
 |_,_,.nil,_=>Ek _
 |k::l,k2::l2,.cons h g,hk=>by
  unfold blU
  exact a3x (P:=fun L m=>m.code=0∧m.done=false) (f:=fun L m=>((),m)) (FJ (b3N H hV hB h (hk k (by simp))) fun _=>a3J g fun c hc=>hk c (by simp [hc]))
end
theorem a3K{ns:List Nd}(t:List UInt8)(h:0≤Bb ns t (Bc ns).kids):As ns (Bb ns t (Bc ns).kids)=20:=by
 rcases @Sx ns t (Bc ns).kids with e|e
 ·omega
 ·exact e.2
theorem a3L{ns ms:List Nd}{R:Int→Int→Prop}(H:Alike ns ms R):∀n n2:Nat,(∀i j,R i j→Eq2 ((eu ns n).val i) ((eu ms n2).val j))∧(∀i j,R i j→As ns i=18→Eq2 ((eu ns n).blk i) ((eu ms n2).blk j))
 |0,_=>⟨fun _ _ _=>WO,fun _ _ _ _=>WO⟩
 |n+1,0=>⟨fun _ _ _=>a3r,fun _ _ _ _=>a3r⟩
 |n+1,n2+1=>by
  obtain⟨h1,h2⟩:=a3L H n n2
  refine⟨fun i j h=> ?_,fun i j h hk=> ?_⟩
  ·rcases H.node h with h|⟨h3,v,h4,h5,h6,h7⟩
   ·exact b3L H h1 h2 h a3K
   ·intro L m p q g1 g2
    rw[h4 _ _ _ _ g1]
    have e:(eu ms (n2+1)).val j=vaU ms (eu ms n2).val (eu ms n2).blk j:=rfl
    rw[e,vaU,if_pos h5,if_neg h6,h7,CC] at g2
    split at g2
    ·rename_i e;cases g2;rw[if_pos e]
    ·rename_i e;cases g2;rw[if_neg e]
  ·have hn:=PX H h (by omega)
   have h4:=hn.2.2
   rw[show(ndAt ns i).kind=18 from hk] at h4
   have h5:=b3F h4
   refine a3J H h1 h2 hn.2.1 fun c hc=>List.all_eq_true.1 h5 _ (List.mem_map_of_mem hc)
end Go.My
end
section
namespace Go.My
open Go.Eng
inductive Fo:List Nd→Int→List Int→Prop where
 |nil (L:List Nd):Fo L L.length []
 |node {L:List Nd} {a:Int} {ks:List Int} {x:Nd} (h:Fo L a (ks++x.kids)):Fo (L++[x]) a (ks++[(L.length:Int)])
theorem b3O{L:List Nd}{a:Int}{ks:List Int}(h:Fo L a ks):0≤a∧a≤L.length:=by
 induction h with
 |nil L=>omega
 |node h ih=>simp;omega
theorem b3P{L:List Nd}{a:Int}{ks:List Int}{x:Nd}(h:Fo L a ks)(hx:x.kids=[]):Fo (L++[x]) a (ks++[(L.length:Int)]):=Fo.node (by rw[hx,List.append_nil];exact h)
theorem b3Q{L:List Nd}{a:Int}{ks js:List Int}{x:Nd}(h:Fo L a (ks++js))(hx:x.kids=js):Fo (L++[x]) a (ks++[(L.length:Int)]):=Fo.node (by rw[hx];exact h)
def Md(L:List Nd)(a:Int):List Int:=(L.drop a.toNat).flatMap (·.kids)
theorem b3R{L:List Nd}{a:Int}{x:Nd}(h:a≤L.length)(h0:0≤a):Md (L++[x]) a=Md L a++x.kids:=by
 unfold Md
 rw[List.drop_append_of_le_length (by omega),List.flatMap_append];simp
theorem b3S{L:List Nd}{a:Int}{ks:List Int}(h:Fo L a ks):∀i:Int,(Md L a++ks).count i=if a≤i∧i<L.length then 1 else 0:=by
 induction h with
 |nil L=>
  intro i
  have:Md L (L.length:Int)=[]:=by unfold Md;rw[show((L.length:Nat):Int).toNat=L.length by omega,List.drop_length];rfl
  rw[this,if_neg (by omega)];rfl
 | @node L a ks x h ih=>
   intro i
   have ha:=b3O h
   have h1:=ih i
   rw[b3R ha.2 ha.1]
   simp only[List.count_append,List.length_append,List.length_cons,List.length_nil] at h1 ⊢
   have h2:List.count i [(L.length:Int)]=if i=L.length then 1 else 0:=by
    rw[List.count_cons];simp only[List.count_nil,beq_iff_eq]
    by_cases e:i=L.length
    ·rw[if_pos e.symm,if_pos e]
    ·rw[if_neg (fun h=>e h.symm),if_neg e]
   rw[h2]
   by_cases e:i=L.length
   ·rw[if_neg (by omega)] at h1;rw[if_pos e,if_pos (by omega)];omega
   ·rw[if_neg e]
    by_cases e2:a≤i∧i<L.length
    ·rw[if_pos e2] at h1;rw[if_pos (by omega)];omega
    ·rw[if_neg e2] at h1;rw[if_neg (by omega)];omega
theorem b3T{L:List Nd}(h:Fo L 0 [(L.length:Int)-1]){i:Nat}(hi:i<L.length-1):(BU L).count (i:Int)=1:=by
 have h1:=b3S h i
 rw[if_pos (by omega),List.count_append] at h1
 have h2:List.count (i:Int) [(L.length:Int)-1]=0:=by rw[List.count_eq_zero];simp;omega
 have e:Md L 0=BU L:=rfl
 rw[h2,e] at h1;omega
theorem a3M{ns:List Nd}{R:Rw}(hs:∀k x,R.stop k=some x→x.kids=[])(ht:∀k i c,R.tgt k i c=c)(hp:∀k i c,R.par k i c=false):∀ {n:Nat} {k:Int} {out:List Nd} {a:Int} {ks:List Int},De ns k→k<n→Fo out a ks→Fo (Bv ns R n k out) a (ks++[((Bv ns R n k out).length:Int)-1])
 |0,k,out,a,ks,hu,hk,h=>by have:=BV.1 hu.1;omega
 |n+1,k,out,a,ks,hu,hk,h=>by
  rw[Bv]
  cases hst:R.stop k with
  |some x=>
   simp only[List.length_append,List.length_cons,List.length_nil]
   have:=b3P h (hs k x hst)
   rw[show((out.length+(0+1):Nat):Int)-1=out.length by omega];exact this
  |none=>
   simp only
   have key:∀(l:List Int) (i:Int) (o:List Nd) (js:List Int),(∀c∈l,c∈(ndAt ns k).kids)→Fo o a (ks++js)→Fo (ET R (Bv ns R n) k l i o js).1 a (ks++(ET R (Bv ns R n) k l i o js).2):=by
    intro l
    induction l with
    |nil=>intro i o js _ h;exact h
    |cons c l ih=>
     intro i o js hl h
     have hm:=HP hu (hl c (by simp))
     have e:FH R (Bv ns R n) k i c o=Bv ns R n c o:=by unfold FH;rw[hp,ht];rfl
     rw[ET,e]
     refine ih _ _ _ (fun d hd=>hl d (by simp [hd])) ?_
     rw[←List.append_assoc]
     exact a3M hs ht hp hm.1 (by omega) h
   have h2:=b3Q (x:=⟨(ndAt ns k).kind,(ndAt ns k).text,(ET R (Bv ns R n) k (ndAt ns k).kids 0 out []).2,(ndAt ns k).blank⟩) (key (ndAt ns k).kids 0 out [] (fun c hc=>hc) (by simpa using h)) rfl
   rw[List.length_append,List.length_cons,List.length_nil,show(((ET R (Bv ns R n) k (ndAt ns k).kids 0 out []).1.length+(0+1):Nat):Int)-1=(ET R (Bv ns R n) k (ndAt ns k).kids 0 out []).1.length by omega]
   exact h2
def PY(R:Rw):Prop:=(∀k i c,R.tgt k i c=c)∧(∀k i c,R.par k i c=false)
theorem b3U{R:Rw}(h:PY R){f:Int→List Nd→List Nd}{k i c:Int}{o:List Nd}:FH R f k i c o=f c o:=by unfold FH;rw[h.1,h.2];rfl
def Hj(f:Int→List Nd→List Nd):List Int→List Nd→List Int→List Nd×List Int
 |[],o,js=>(o,js)
 |c::l,o,js=>Hj f l (f c o) (js++[((f c o).length:Int)-1])
theorem WP{R:Rw}(h:PY R){f:Int→List Nd→List Nd}{k:Int}:∀ {l:List Int} {i:Int} {o:List Nd} {js:List Int},ET R f k l i o js=Hj f l o js
 |[],_,_,_=>rfl
 |c::l,i,o,js=>by rw[ET,b3U h,WP h];rfl
theorem b3V{L:List Nd}{x:Nd}{i:Int}(h:i<L.length)(h0:0≤i):ndAt (L++[x]) i=ndAt L i:=by
 unfold ndAt;rw[List.getD_eq_getElem?_getD,List.getD_eq_getElem?_getD,List.getElem?_append_left (by omega)]
theorem b3W{L:List Nd}{x:Nd}:ndAt (L++[x]) L.length=x:=by
 unfold ndAt;rw[List.getD_eq_getElem?_getD,List.getElem?_append_right (by omega)];simp
end Go.My
end
section
namespace Go.My
open Go.Eng
def oAt(fo:List Int)(c:Int):Int:=fo.getD c.toNat 0
def imN(ns:List Nd)(R:Rw)(A:List Nd)(fo:List Int)(j:Int):Prop:=
 (De ns (oAt fo j)∧(∀c∈(ndAt A j).kids,0≤c∧c<j))∧
   (R.stop (oAt fo j)=some (ndAt A j)∨(R.stop (oAt fo j)=none∧((ndAt A j).kind=(ndAt ns (oAt fo j)).kind∧(ndAt A j).text=(ndAt ns (oAt fo j)).text∧(ndAt A j).blank=(ndAt ns (oAt fo j)).blank)∧(ndAt A j).kids.map (oAt fo)=(ndAt ns (oAt fo j)).kids))
def Im(ns:List Nd)(R:Rw)(A:List Nd)(fo:List Int):Prop:=fo.length=A.length∧∀j:Int,0≤j→j<A.length→imN ns R A fo j
theorem a3N{fo:List Int}{k c:Int}(h0:0≤c)(h:c<fo.length):oAt (fo++[k]) c=oAt fo c:=by
 unfold oAt;rw[List.getD_eq_getElem?_getD,List.getD_eq_getElem?_getD,List.getElem?_append_left (by omega)]
theorem WQ{fo:List Int}{k:Int}:oAt (fo++[k]) fo.length=k:=by
 unfold oAt;rw[List.getD_eq_getElem?_getD,List.getElem?_append_right (by omega)];simp
theorem a3O{ns:List Nd}{R:Rw}{A:List Nd}{fo:List Int}{x:Nd}{k:Int}(h:Im ns R A fo)(hk:De ns k)(hx:∀c∈x.kids,0≤c∧c<A.length)
 (hc:R.stop k=some x∨(R.stop k=none∧(x.kind=(ndAt ns k).kind∧x.text=(ndAt ns k).text∧x.blank=(ndAt ns k).blank)∧x.kids.map (oAt fo)=(ndAt ns k).kids)):Im ns R (A++[x]) (fo++[k]):=by
 refine⟨by simp [h.1],fun j h0 h1=> ?_⟩
 simp only[List.length_append,List.length_cons,List.length_nil] at h1
 have e:∀l:List Int,(∀c∈l,0≤c∧c<A.length)→l.map (oAt (fo++[k]))=l.map (oAt fo):=fun l hl=>List.map_congr_left fun c hc=>a3N (hl c hc).1 (by have:=(hl c hc).2;have:=h.1;omega)
 by_cases e1:j<A.length
 ·have hj:=h.2 j h0 e1
  unfold imN at hj ⊢
  rw[b3V e1 h0,a3N h0 (by have:=h.1;omega),e _ fun c hc=>by have:=hj.1.2 c hc;omega]
  exact hj
 ·have e2:j=A.length:=by omega
  subst e2
  unfold imN
  have e3:oAt (fo++[k]) (A.length:Int)=k:=by rw[←h.1];exact WQ
  rw[b3W,e3,e _ hx]
  exact⟨⟨hk,hx⟩,hc⟩
theorem a3P{ns:List Nd}{R:Rw}(hs:∀k x,R.stop k=some x→x.kids=[])(hp:PY R):∀ {n:Nat} {k:Int} {out:List Nd} {fo:List Int},De ns k→k<n→Im ns R out fo→∃g,Im ns R (Bv ns R n k out) (fo++g)∧(1≤g.length∧oAt (fo++g) (((fo++g).length:Int)-1)=k)
 |0,k,out,fo,hu,hk,h=>by have:=BV.1 hu.1;omega
 |n+1,k,out,fo,hu,hk,h=>by
  rw[Bv]
  cases hst:R.stop k with
  |some x=>
   refine⟨[k],a3O h hu (by rw[hs k x hst];intro c hc;cases hc) (.inl hst),by simp,?_⟩
   rw[show((fo++[k]).length:Int)-1=fo.length by simp];exact WQ
  |none=>
   simp only
   rw[WP hp]
   have key:∀(l:List Int) (o:List Nd) (js:List Int) (f:List Int),(∀c∈l,c∈(ndAt ns k).kids)→Im ns R o f→(∀c∈js,0≤c∧c<o.length)→
    ∃g,Im ns R (Hj (Bv ns R n) l o js).1 (f++g)∧((∀c∈(Hj (Bv ns R n) l o js).2,0≤c∧c<(Hj (Bv ns R n) l o js).1.length)∧(Hj (Bv ns R n) l o js).2.map (oAt (f++g))=js.map (oAt f)++l):=by
    intro l
    induction l with
    |nil=>intro o js f _ h hj;exact⟨[],by simpa [Hj] using h,by simpa [Hj] using hj,by simp [Hj]⟩
    |cons c l ih=>
     intro o js f hl h hj
     have hm:=HP hu (hl c (by simp))
     obtain⟨g,g1,g2,g3⟩:=a3P hs hp (n:=n) hm.1 (by omega) h
     have hlen:∀j∈js++[((Bv ns R n c o).length:Int)-1],0≤j∧j<(Bv ns R n c o).length:=by
      have hb:o.length+1≤(Bv ns R n c o).length:=by
       have h1:=h.1;have h2:=g1.1;rw[List.length_append] at h2;omega
      intro j hj2
      rcases List.mem_append.1 hj2 with hj2|hj2
      ·have:=hj j hj2;omega
      ·simp at hj2;omega
     obtain⟨g',i1,i2,i3⟩:=ih (Bv ns R n c o) _ (f++g) (fun d hd=>hl d (by simp [hd])) g1 hlen
     refine⟨g++g',?_,i2,?_⟩
     ·rw[←List.append_assoc];exact i1
     ·rw[←List.append_assoc,Hj,i3,List.map_append,List.append_assoc]
      congr 1
      ·apply List.map_congr_left
       intro j hj2
       have h1:=h.1
       unfold oAt
       rw[List.getD_eq_getElem?_getD,List.getD_eq_getElem?_getD,List.getElem?_append_left (by have:=hj j hj2;omega)]
      ·have h2:=g1.1
       simp only[List.map_cons,List.map_nil,List.cons_append,List.nil_append]
       rw[←h2,g3]
   obtain⟨g,g1,g2,g3⟩:=key (ndAt ns k).kids out [] fo (fun c hc=>hc) h (by simp)
   refine⟨g++[k],?_,by simp,?_⟩
   ·rw[←List.append_assoc]
    exact a3O g1 hu g2 (.inr ⟨hst,⟨rfl,rfl,rfl⟩,by simpa using g3⟩)
   ·rw[←List.append_assoc,show(((fo++g)++[k]).length:Int)-1=((fo++g).length:Int) by simp;omega];exact WQ
theorem a3Q{ns:List Nd}{R:Rw}(hp:PY R):∀ {n:Nat} {k:Int} {out:List Nd},(Bv ns R n k out).length≤out.length+(vis ns n k).length
 |0,k,out=>by simp [Bv,vis]
 |n+1,k,out=>by
  rw[Bv,LW]
  cases hst:R.stop k with
  |some x=>simp
  |none=>
   simp only[List.length_append,List.length_cons,List.length_nil]
   rw[WP hp]
   have key:∀(l:List Int) (o:List Nd) (js:List Int),(Hj (Bv ns R n) l o js).1.length≤o.length+DU ns n l:=by
    intro l
    induction l with
    |nil=>intro o js;simp [Hj]
    |cons c l ih=>
     intro o js
     have h1:=ih (Bv ns R n c o) (js++[((Bv ns R n c o).length:Int)-1])
     have h2:=a3Q (ns:=ns) hp (n:=n) (k:=c) (out:=o)
     rw[Hj,NN];omega
   have:=key (ndAt ns k).kids out []
   have e:DU ns n (Df ns k)=DU ns n (ndAt ns k).kids:=rfl
   omega
theorem a3R{ds:List Int}{b:Int}:∀ {l:List Int} {d:Int},d≤b→(∀c∈l,ds.getD c.toNat 0≤b)→mx ds l d≤b
 |[],d,h,_=>h
 |c::l,d,h,hl=>by
  rw[mx]
  exact a3R (by have:=hl c (by simp);omega) fun c hc=>hl c (by simp [hc])
theorem a3S{A:List Nd}{H:Int→Int}(hn:∀i:Nat,i<A.length→BH A i=true)(h14:∀i:Int,0≤i→i<A.length→1≤H i∧H i≤14)(hk:∀i:Int,0≤i→i<A.length→∀c∈(ndAt A i).kids,H c<H i):
 ∀n:Nat,n≤A.length→∃ds,CN A n=some ds∧∀i:Nat,i<n→ds.getD i 0≤H i
 |0,_=>⟨[],rfl,fun i hi=>by omega⟩
 |n+1,hle=>by
  obtain⟨ds,h1,h2⟩:=a3S hn h14 hk n (by omega)
  have hl:=JD h1
  have hp:=DM (hn n (by omega))
  have hm:mx ds (ndAt A n).kids 0≤H n-1:=by
   refine a3R (by have:=h14 n (by omega) (by omega);omega) fun c hc=> ?_
   have hc2:=hp.2.2.2.1 c hc
   have h3:=h2 c.toNat (by omega)
   rw[show((c.toNat:Nat):Int)=c by omega] at h3
   have:=hk n (by omega) (by omega) c hc;omega
  have h14n:=h14 n (by omega) (by omega)
  refine⟨ds++[mx ds (ndAt A n).kids 0+1],?_,fun i hi=> ?_⟩
  ·rw[CN,h1];simp only[hn n (by omega),if_true];rw[if_neg (by omega)]
  ·by_cases e:i<n
   ·rw[List.getD_eq_getElem?_getD,List.getElem?_append_left (by omega),←List.getD_eq_getElem?_getD];exact h2 i e
   ·have e2:i=n:=by omega
    subst e2
    rw[List.getD_eq_getElem?_getD,List.getElem?_append_right (by omega),hl];simp;omega
theorem b3X{A:List Nd}{H:Int→Int}(hf:Fo A 0 [(A.length:Int)-1])(h1:1≤A.length)(h300:A.length≤300)(hr:As A ((A.length:Int)-1)=22)(hn:∀i:Nat,i<A.length→BH A i=true)
 (h14:∀i:Int,0≤i→i<A.length→1≤H i∧H i≤14) (hk:∀i:Int,0≤i→i<A.length→∀c∈(ndAt A i).kids,H c<H i):Bf A=true:=by
 obtain⟨ds,h2,_⟩:=a3S hn h14 hk A.length (Nat.le_refl _)
 have hd:BA A ((A.length:Int)-1)≠0:=Wa (ds:=ds) (BV.2 (by omega)) (by rw[show((A.length:Int)-1).toNat+1=A.length by omega];exact h2)
 simp only[Bf,Bool.and_eq_true,decide_eq_true_eq,Bool.not_eq_true',decide_eq_false_iff_not,List.all_eq_true,List.mem_range]
 exact⟨⟨h1,h300⟩,hr,hd,fun i hi=>b3T hf hi⟩
def e72(a:Int):Int:=if a=7 then 2 else a
theorem SA{p:Int→Bool}(h:p 7=p 2)(a:Int):p (e72 a)=p a:=by unfold e72;split;rename_i e;rw[e,h];rfl
theorem Me{p:Int→Bool}(h:p 7=p 2)(l:List Int):(l.map e72).all p=l.all p:=by rw[List.all_map];congr 1;funext a;exact SA h a
theorem b3Y{p:Int→Bool}(h:p 7=p 2)(l:List Int):p ((l.map e72).headD 0)=p (l.headD 0):=by
 cases l with
 |nil=>rfl
 |cons a l=>exact SA h a
theorem b3Z{p:Int→Bool}(h:p 7=p 2)(l:List Int)(i:Nat):p ((l.map e72).getD i 0)=p (l.getD i 0):=by
 rw[List.getD_eq_getElem?_getD,List.getD_eq_getElem?_getD,List.getElem?_map]
 cases l[i]? with
 |none=>rfl
 |some a=>exact SA h a
theorem a3T{p:Int→Bool}(h:p 7=p 2)(l:List Int):EP p (l.map e72)=EP p l:=by
 unfold EP
 rw[List.getLast?_map]
 cases l.getLast? with
 |none=>rfl
 |some a=>simp only[Option.map_some];rw[SA h,←List.map_dropLast,Me (by decide)]
theorem a3U(k:Int)(l:List Int):Cd k (l.map e72)=Cd k l:=by
 unfold Cd
 simp only[List.length_map,←List.map_drop]
 simp only[Me (p:=BG) (by decide),Me (p:=FY) (by decide),Me (p:=CU) (by decide),Me (p:=DT) (by decide),Me (p:=Ez) (by decide),Me (p:=FA) (by decide),b3Y (p:=BG) (by decide),b3Z (p:=CU) (by decide),a3T (p:=BG) (by decide),a3T (p:=CU) (by decide)]
def SB(ns:List Nd)(R:Rw):Prop:=∀k x,R.stop k=some x→As ns k=7∧(x.kind=2∧x.kids=[])∧(Fg 2 x.text=true∧x.blank=false)
theorem a3V{f:Int→Int}:∀ {l:List Int},(l.map f).Nodup→l.Nodup
 |[],_=>List.nodup_nil
 |c::l,h=>by
  rw[List.map_cons,List.nodup_cons] at h
  exact List.nodup_cons.2 ⟨fun hc=>h.1 (List.mem_map_of_mem hc),a3V h.2⟩
section
variable {ns:List Nd} {R:Rw} {A:List Nd} {fo:List Int} (hS:SB ns R) (hI:Im ns R A fo)
include hS hI
theorem SC{j:Int}(h0:0≤j)(h1:j<A.length):As A j=As ns (oAt fo j)∨(As ns (oAt fo j)=7∧As A j=2):=by
 rcases(hI.2 j h0 h1).2 with h|⟨_,h,_⟩
 ·exact .inr ⟨(hS _ _ h).1,(hS _ _ h).2.1.1⟩
 ·exact .inl h.1
theorem b4a{j:Int}(h0:0≤j)(h1:j<A.length):e72 (As A j)=e72 (As ns (oAt fo j)):=by
 rcases SC hS hI h0 h1 with h|⟨h,g⟩
 ·rw[h]
 ·rw[h,g];rfl
theorem b4b(hok:∀k,De ns k→BH ns k=true){j:Int}(h0:0≤j)(h1:j<A.length):BH A j=true:=by
 have hj:=hI.2 j h0 h1
 have hn:Bz A j=true:=BV.2 ⟨h0,h1⟩
 rw[BH,hn,Bool.true_and]
 rcases hj.2 with h|⟨_,⟨g1,g2,g3⟩,g4⟩
 ·obtain⟨_,⟨s1,s2⟩,s3,s4⟩:=hS _ _ h
  simp only[FB,s1,s2,s3,s4,Bool.and_eq_true,decide_eq_true_eq]
  exact⟨by simp,trivial,⟨rfl,by simp⟩,rfl,by simp [DL,s2],by simp⟩
 ·have hp:=DM (hok _ hj.1.1)
  have hb:=hok _ hj.1.1
  simp only[BH,FB,Bool.and_eq_true,decide_eq_true_eq] at hb
  obtain⟨_,b1,b2,⟨b3,b4⟩,b5,b6,b7⟩:=hb
  have hlen:(ndAt A j).kids.length=(ndAt ns (oAt fo j)).kids.length:=by rw[←g4,List.length_map]
  simp only[FB,g1,g2,g3,Bool.and_eq_true,decide_eq_true_eq]
  refine⟨by omega,b2,⟨?_,?_⟩,?_,?_,b7⟩
  ·simp only[DE,List.all_eq_true,Bool.and_eq_true,decide_eq_true_eq];exact hj.1.2
  ·rw[←g4] at b4;exact a3V b4
  ·rw[←a3U,List.map_map]
   have e:(ndAt A j).kids.map (e72∘As A)=((ndAt ns (oAt fo j)).kids.map (As ns)).map e72:=by
    rw[←g4,List.map_map,List.map_map]
    apply List.map_congr_left
    intro c hc
    have:=hj.1.2 c hc
    exact b4a hS hI this.1 (by omega)
   rw[e,a3U];exact b5
  ·simp only[DL,List.all_eq_true] at b6 ⊢
   rintro⟨c,i⟩ hci
   have hc:(ndAt A j).kids[i]? =some c:=by
    have:=List.mem_zipIdx_iff_getElem?.1 hci
    simpa using this
   have hcm:c∈(ndAt A j).kids:=List.mem_of_getElem? hc
   have hcr:=hj.1.2 c hcm
   have hc2:(ndAt ns (oAt fo j)).kids[i]? =some (oAt fo c):=by rw[←g4,List.getElem?_map,hc];rfl
   have h6:=b6 (oAt fo c,i) (List.mem_zipIdx_iff_getElem?.2 (by simpa using hc2))
   simp only[CD] at h6 ⊢
   split
   ·rename_i e5
    have hk:=SC hS hI hcr.1 (by omega)
    have e5n:(ndAt ns (oAt fo c)).kind=5:=by
     rcases hk with hk|hk
     ·rw[show(ndAt ns (oAt fo c)).kind=As ns (oAt fo c) from rfl,←hk];exact e5
     ·have:=hk.2;rw[show As A c=(ndAt A c).kind from rfl,e5] at this;cases this
    rw[if_pos e5n] at h6
    have hcj:=hI.2 c hcr.1 (by omega)
    rcases hcj.2 with h|⟨_,⟨k1,k2,k3⟩,k4⟩
    ·have:=(hS _ _ h).2.1.1;rw[e5] at this;cases this
    ·cases hkd:(ndAt A c).kids with
     |nil=>rw[hkd] at k4;simp only[List.map_nil] at k4;rw[←k4] at h6;cases h6
     |cons hh t=>
      rw[hkd] at k4;simp only[List.map_cons] at k4
      rw[←k4] at h6
      simp only[Bool.and_eq_true] at h6 ⊢
      have hhr:=hcj.1.2 hh (by rw[hkd];simp)
      refine⟨BV.2 ⟨hhr.1,by omega⟩,?_⟩
      have h62:=h6.2
      have hk1:decide (As A hh=1)=decide (As ns (oAt fo hh)=1):=by
       rcases SC hS hI hhr.1 (by omega) with e|e
       ·rw[e]
       ·rw[e.1,e.2];rfl
      rw[g1,hk1];exact h62
   ·rfl
end
theorem b4c{ns:List Nd}{R:Rw}{A:List Nd}{fo:List Int}{H:Int→Int}(hS:SB ns R)(hI:Im ns R A fo)(hf:Fo A 0 [(A.length:Int)-1])(h1:1≤A.length)(h300:A.length≤300)
 (hr:As ns (oAt fo ((A.length:Int)-1))=22) (h14:∀k,De ns k→1≤H k∧H k≤14) (hk:∀k,De ns k→∀c∈(ndAt ns k).kids,H c<H k):Bf A=true:=by
 refine b3X (H:=fun j=>H (oAt fo j)) hf h1 h300 ?_ (fun i hi=>b4b hS hI (fun k hk=>JI hk) (by omega) (by omega)) (fun i h0 h1=>h14 _ (hI.2 i h0 h1).1.1) (fun i h0 h1 c hc=> ?_)
 ·rcases SC hS hI (j:=(A.length:Int)-1) (by omega) (by omega) with e|e
  ·rw[e,hr]
  ·rw[hr] at e;have:=e.1;cases this
 ·rcases(hI.2 i h0 h1).2 with h|⟨_,_,g⟩
  ·rw[(hS _ _ h).2.1.2] at hc;cases hc
  ·exact hk _ (hI.2 i h0 h1).1.1 _ (by rw[←g];exact List.mem_map_of_mem hc)
end Go.My
end
section
namespace Go.My
open Go.Eng Go.Proofs
variable {G:GInv}
theorem b4d{s:List UInt8}{n:Nat}{c:UInt8}(h:s.all Bj=true)(hc:s[n]? =some c):48≤c.toNat∧c.toNat≤57:=by
 have:=List.all_eq_true.1 h c (BO hc)
 simpa [Bj] using this
def KE:Sig:= {X:=List UInt8,args:=fun x=>[.str x],pre:=fun x=>x.all Bj=true∧1≤x.length∧x.length≤12,Y:=Unit,post:=fun x y=>True,res:=fun x y=> .tup [.int .i64 (if 9<x.length then 0 else Dy x),.bool (decide (x.length≤9))],outs:=fun x y=>[.top],keep:=false}
def SD(x:List UInt8):LS:= {ι:=Int,inv:=fun i=>0≤i∧i≤x.length∧(i=0∨x.length≤9),regs:=fun i=>[(0,.str x),(4,.int .i64 (Dy (x.take i.toNat))),(5,.int .i64 i)],als:=[],meas:=fun i=>x.length-i.toNat}
theorem b4e:Aj G Tryz.prog 149 KE:=
 vcFun_okP [(86,0,EQ)] [] false (fun x=>[(3,SD x)]) Tryz.func149 rfl (by decide) ⟨RF,trivial⟩ (fun(x:List UInt8)=>(∀(y:Unit),True→(True∧True∧True)∧True∧True)∧eA (SD x) [.str x,.int .i64 (0:Int),.int .i64 (0:Int)]∧∀(i:Int),(0:Int)≤i∧i≤(↑(List.length x):Int)∧(i=(0:Int)∨List.length x≤(9:Nat))→Aa (decide (i<(↑(List.length x):Int))) (((0:Int)≤i∧i<(↑(List.length x):Int))∧∀(c:UInt8),x[Int.toNat i]? =some c→cA EQ [AV.int IntKind.u8 (↑(UInt8.toNat c):Int)] fun x_1 y=>Aa (!Bj x_1) (rA KE x [.tup [.int .i64 (0:Int),.bool false],.top]) (inR IntKind.i64 ((10:Int)*Dy (List.take (Int.toNat i) x))∧((0:Int)≤i∧i<(↑(List.length x):Int))∧∀(c:UInt8),x[Int.toNat i]? =some c→inR IntKind.i64 (↑(UInt8.toNat c):Int)∧inR IntKind.i64 ((10:Int)*Dy (List.take (Int.toNat i) x)+(↑(UInt8.toNat c):Int))∧inR IntKind.i64 ((10:Int)*Dy (List.take (Int.toNat i) x)+(↑(UInt8.toNat c):Int)-(48:Int))∧Aa (decide ((↑(List.length x):Int)>(9:Int))) (rA KE x [.tup [.int .i64 (0:Int),.bool false],.top]) (inR IntKind.i64 (i+(1:Int))∧eN (SD x) i [.str x,.int .i64 ((10:Int)*Dy (List.take (Int.toNat i) x)+(↑(UInt8.toNat c):Int)-(48:Int)),.int .i64 (i+(1:Int))]))) (rA KE x [.tup [.int .i64 (Dy (List.take (Int.toNat i) x)),.bool (decide ((↑(List.length x):Int)>(0:Int)))],.top])) (fun x=>by kernel_rfl) fun(x:List UInt8) (hx:x.all Bj=true∧1≤x.length∧x.length≤12)=>(by
 dsimp only[cA,eA,eN,SD,rA,EQ,KE,Au,Az,mvL,lnL,mvE,lnE,Br]
 obtain⟨h1,h2,h3⟩:=hx
 have hb:∀i:Int,i=0∨x.length≤9→0≤Dy (x.take i.toNat)∧Dy (x.take i.toNat)<1000000000:=fun i hi=>a2v (List.all_eq_true.2 fun c hc=>List.all_eq_true.1 h1 c (List.mem_of_mem_take hc)) (by simp;omega)
 (repeat' first|(with_reducible first|rfl|exact True.intro|apply AK|apply And.intro|((first|apply AA|apply AI|apply AB|apply AJ)<;>intro _))|(apply Ax<;>intro _)|apply AH|refine Ae () ?_ ?_|((first|apply AO|apply AN|apply AM|apply AL|apply AG|apply AF|apply AE|apply AD|apply AC)<;>try dsimp only)|apply Ae|(refine Prod.forall.2 ?_;intro _;try dsimp only)|(intro _;try dsimp only))
 all_goals try(have hf:=b4d h1 (show x[Int.toNat _]? =some _ by assumption))
 all_goals try(have hbb:=hb _ (show _∧_∧_ by assumption).2.2)
 all_goals first
  |rfl
  |omega
  |((try simp only[AQ]);omega)
  |(simp [Bj] at*;omega)
  |(rw[Da (by omega),b2r ‹_›];omega)
  |(rw[List.take_of_length_le (by omega),if_neg (by omega)];done)
  |(rw[if_pos (by omega)];done)
  |(rw[decide_eq_decide];omega)
  |(symm;exact decide_eq_false (by omega))
  |skip)
def b4f(x:Int):List UInt8:=Lib.itoa x
end Go.My
end
section
namespace Go.My
open Go.Eng
def a3W(ns:List Nd)(k:Int):Bool:=decide (As ns k=7)&&((cV ns k).isSome&&inn (oI (cV ns k)) 0 999999999)
def b4g(ns:List Nd)(k:Int):Nd:=⟨2,b4f (oI (cV ns k)),[],false⟩
def rFd(ns:List Nd):Rw:=⟨fun k=>if a3W ns k then some (b4g ns k) else none,fun _ _ c=>c,fun _ _ _=>false⟩
def b4h(f:Int→Int)(l:List Int):Int:=(l.map f).sum
def a3X(ns:List Nd):Nat→Int→Int
 |0,_=>0
 |n+1,k=>if a3W ns k then 1 else b4h (a3X ns n) (ndAt ns k).kids
def b4i(ns:List Nd):List Nd:=if Bf ns then Bv ns (rFd ns) Ea (ns.length-1) [] else ns
def a3Y(ns:List Nd):Int:=if Bf ns then a3X ns Ea (ns.length-1) else 0
theorem SE:PY rId:=⟨fun _ _ _=>rfl,fun _ _ _=>rfl⟩
structure Fd (ns A:List Nd) (fo:List Int):Prop where
 im:Im ns (rFd ns) A fo
 fr:Fo A 0 [(A.length:Int)-1]
 len:1≤A.length∧A.length≤300
 root:oAt fo ((A.length:Int)-1)=(ns.length:Int)-1
theorem b4j{ns:List Nd}(h:Bf ns=true):As ns ((ns.length:Int)-1)=22:=by
 simp only[Bf,Bool.and_eq_true,decide_eq_true_eq] at h;exact h.2.1
theorem a3Z{ns:List Nd}(h:Bf ns=true){k:Int}(hk:De ns k):1≤BA ns k∧BA ns k≤14:=by
 have hb:=BV.1 hk.1
 have h1:BA ns ((ns.length:Int)-1)≠0:=by
  simp only[Bf,Bool.and_eq_true,decide_eq_true_eq,Bool.not_eq_true',decide_eq_false_iff_not] at h
  exact h.2.2.1
 obtain⟨h2,⟨ds,h3⟩,h4⟩:=Ns h1
 obtain⟨es,h5,h6⟩:=Sw (n:=k.toNat+1) (by omega) h3
 have:=Wa (ns:=ns) (k:=k) hk.1 h5
 have:= @a0X ns k
 exact⟨by omega,a3j⟩
def Rq(A:List Nd)(fo:List Int)(i j:Int):Prop:=(0≤j∧j<(A.length:Int)-1)∧oAt fo j=i
theorem b4k{A:List Nd}{fo:List Int}:∀ {l:List Int},(∀c∈l,0≤c∧c<(A.length:Int)-1)→F2 (Rq A fo) (l.map (oAt fo)) l
 |[],_=>F2.nil
 |c::l,h=>F2.cons ⟨h c (by simp),rfl⟩ (b4k fun d hd=>h d (by simp [hd]))
theorem a4a{ns:List Nd}{R:Rw}{A:List Nd}{fo:List Int}(hS:SB ns R)(hI:Im ns R A fo){t:List UInt8}:∀ {l:List Int},(∀c∈l,0≤c∧c<(A.length:Int)-1)→
 (Bb ns t (l.map (oAt fo))<0∧Bb A t l<0)∨((0≤Bb ns t (l.map (oAt fo))∧0≤Bb A t l)∧Rq A fo (Bb ns t (l.map (oAt fo))) (Bb A t l))
 |[],_=> .inl ⟨by simp [Bb],by simp [Bb]⟩
 |c::l,h=>by
  have hc:=h c (by simp)
  have hj:=hI.2 c hc.1 (by omega)
  have hu:=BV.1 hj.1.1.1
  have ih:=a4a hS hI (t:=t) (l:=l) fun d hd=>h d (by simp [hd])
  rw[List.map_cons,Bb,Bb]
  by_cases e:As A c=20∧(ndAt A c).text=t
  ·have e2:As ns (oAt fo c)=20∧(ndAt ns (oAt fo c)).text=t:=by
    rcases hj.2 with h|⟨hst,⟨g1,g2,g3⟩,g4⟩
    ·have h1:=(hS _ _ h).2.1.1;have h2:(ndAt A c).kind=20:=e.1;omega
    ·exact⟨by have:(ndAt A c).kind=20:=e.1;rw[As,←g1];exact this,by rw[←g2];exact e.2⟩
   rw[if_pos e,if_pos e2]
   exact .inr ⟨⟨hu.1,hc.1⟩,hc,rfl⟩
  ·have e2:¬(As ns (oAt fo c)=20∧(ndAt ns (oAt fo c)).text=t):=by
    rintro⟨k1,k2⟩
    rcases hj.2 with h|⟨hst,⟨g1,g2,g3⟩,g4⟩
    ·have:=(hS _ _ h).1;omega
    ·exact e ⟨by rw[As,g1];exact k1,by rw[g2];exact k2⟩
   rw[if_neg e,if_neg e2];exact ih
theorem b4l{α:Type}{lt:α→α→Bool}{x:α}{l:List α}(h:Hf lt (x::l)):(∀y∈l,lt y x=false)∧Hf lt l:=by
 refine⟨fun y hy=> ?_,fun i j a b hij ha hb=>h (i+1) (j+1) a b (by omega) (by simpa using ha) (by simpa using hb)⟩
 obtain⟨i,hi⟩:=List.mem_iff_getElem?.1 hy
 exact h 0 (i+1) x y (by omega) rfl (by simpa using hi)
theorem a4b{α:Type}{lt:α→α→Bool}{p:α→Bool}(hnt:∀a b c:α,lt a c=true→lt b c=false→lt a b=true)(hp:∀a b,p a=true→p b=true→lt a b=false){e:α}:∀ {l:List α},Hf lt l→(Cs lt e l).filter p=l.filter p++(if p e then [e] else [])
 |[],_=>by unfold Cs;cases h:p e<;>simp [h]
 |x::l,hs=>by
  obtain⟨h1,h2⟩:=b4l hs
  unfold Cs
  split
  ·rename_i hl
   cases he:p e with
   |false=>simp [he]
   |true=>
    have:(x::l).filter p=[]:=by
     rw[List.filter_eq_nil_iff]
     intro y hy hpy
     have h3:=hp e y he hpy
     rcases List.mem_cons.1 hy with h|h
     ·subst h;rw[hl] at h3;cases h3
     ·rw[hnt e y x hl (h1 y h)] at h3;cases h3
    rw[List.filter_cons_of_pos he,this];simp
  ·rw[List.filter_cons,List.filter_cons,a4b hnt hp h2]
   split<;>simp
theorem b4m{α:Type}{lt:α→α→Bool}{p:α→Bool}(hnt:∀a b c:α,lt a c=true→lt b c=false→lt a b=true)(has:∀a b:α,lt a b=true→lt b a=false)(hp:∀a b,p a=true→p b=true→lt a b=false)(l:List α):(Ca lt l).filter p=l.filter p:=by
 have:∀(l out:List α),Hf lt out→(l.foldl (fun out e=>Cs lt e out) out).filter p=out.filter p++l.filter p:=by
  intro l
  induction l with
  |nil=>intro out _;simp
  |cons e l ih=>
   intro out ho
   rw[List.foldl_cons,ih _ (a2D hnt has ho),a4b hnt hp ho,List.filter_cons]
   split<;>simp
 have:=this l [] (fun i j a b _ h=>by simp at h)
 simpa [Ca] using this
def PZ(ns:List Nd)(l:List Int):Prop:=∀c∈l,As ns c=19
def gdM(ns:List Nd)(g:Gr):Prop:=(0≤g.member∧As ns g.member≠19)∧PZ ns g.notes
def gdE(ns:List Nd)(g:Gr):Prop:=(g.member= -1∧g.notes≠[])∧PZ ns g.notes
def noM(g:Gr):Bool:=decide (g.member= -1)
theorem WR{ns:List Nd}:∀ {l notes:List Int},(∀c∈l,0≤c)→PZ ns notes→((∀g∈grp ns l notes,(gdM ns g∧g.member∈l)∨gdE ns g)∧((grp ns l notes).filter noM).length≤1)
 |[],notes,_,hn=>by
  unfold grp
  split
  ·rename_i h
   refine⟨fun g hg=> ?_,by simp [noM]⟩
   simp at hg;subst hg
   exact .inr ⟨⟨rfl,fun e=>by simp only at e;rw[e] at h;simp at h⟩,hn⟩
  ·exact⟨by simp,by simp⟩
 |c::l,notes,h,hn=>by
  have hl:∀d∈l,0≤d:=fun d hd=>h d (by simp [hd])
  unfold grp
  split
  ·rename_i hk
   obtain⟨h1,h2⟩:=WR (ns:=ns) (l:=l) (notes:=notes++[c]) hl (fun d hd=>by
    rcases List.mem_append.1 hd with hd|hd
    ·exact hn d hd
    ·simp at hd;subst hd;exact hk)
   exact⟨fun g hg=>(h1 g hg).imp (fun x=>⟨x.1,by simp [x.2]⟩) id,h2⟩
  ·rename_i hk
   obtain⟨h1,h2⟩:=WR (ns:=ns) (l:=l) (notes:=[]) hl (fun d hd=>by cases hd)
   refine⟨fun g hg=> ?_,?_⟩
   ·rcases List.mem_cons.1 hg with hg|hg
    ·subst hg;exact .inl ⟨⟨⟨h c (by simp),hk⟩,hn⟩,by simp⟩
    ·exact(h1 g hg).imp (fun x=>⟨x.1,by simp [x.2]⟩) id
   ·have hc:=h c (by simp)
    rw[List.filter_cons_of_neg (by simp [noM];omega)];exact h2
def kg:List Int→Bool→Nat
 |[],b=>if b then 1 else 0
 |k::l,b=>if k=19 then kg l true else 1+kg l false
theorem WS{ns:List Nd}:∀ {l notes:List Int},(grp ns l notes).length=kg (l.map (As ns)) (decide (0<notes.length))
 |[],notes=>by
  unfold grp
  by_cases h:0<notes.length
  ·rw[if_pos h,decide_eq_true h];rfl
  ·rw[if_neg h,decide_eq_false h];rfl
 |c::l,notes=>by
  rw[List.map_cons,kg]
  unfold grp
  split
  ·rw[WS];simp
  ·rw[List.length_cons,WS];simp;omega
theorem WT:∀ {l:List Int} {m:List Int} {b:Bool},(∀k∈l,k=19)→kg (l++m) b=kg m (b||decide (l≠[]))
 |[],m,b,_=>by simp
 |k::l,m,b,h=>by
  have hk:=h k (by simp)
  rw[List.cons_append,kg,if_pos hk,WT fun d hd=>h d (by simp [hd])];simp
theorem a4c{ns:List Nd}:∀ {gs:List Gr},(∀g∈gs,gdM ns g∨gdE ns g)→(∀(i j:Nat) (a b:Gr),i<j→gs[i]? =some a→gs[j]? =some b→noM a=false)→kg ((gs.flatMap gk).map (As ns)) false=gs.length
 |[],_,_=>rfl
 |g::gs,h,hl=>by
  have hg:=h g (by simp)
  rw[List.flatMap_cons,List.map_append]
  have hn:∀l:List Int,PZ ns l→∀k∈l.map (As ns),k=19:=fun l hl k hk=>by
   obtain⟨c,hc,rfl⟩:=List.mem_map.1 hk;exact hl c hc
  rcases hg with hg|hg
  ·have e:gk g=g.notes++[g.member]:=by unfold gk;rw[if_pos hg.1.1]
   rw[e,List.map_append,List.append_assoc,WT (hn _ hg.2)]
   simp only[List.map_cons,List.map_nil,List.cons_append,List.nil_append]
   rw[kg,if_neg hg.1.2,a4c (fun d hd=>h d (by simp [hd])) (fun i j a b hij ha hb=>hl (i+1) (j+1) a b (by omega) (by simpa using ha) (by simpa using hb)),List.length_cons]
   omega
  ·have e:gk g=g.notes:=by unfold gk;rw[if_neg (by have:=hg.1.1;omega)];simp
   have:gs=[]:=by
    cases gs with
    |nil=>rfl
    |cons b gs=>
     have:=hl 0 1 g b (by omega) rfl rfl
     simp [noM,hg.1.1] at this
   subst this
   rw[e,WT (hn _ hg.2)]
   have:g.notes≠[]:=hg.1.2
   simp [kg,this]
def NX(ns:List Nd)(t:List UInt8)(g:Gr):Bool:=Bz ns g.member&&(decide (As ns g.member=20)&&((ndAt ns g.member).text==t))
theorem a4d{ns:List Nd}{t:List UInt8}{g:Gr}(h:NX ns t g=true):Ce ns g.member=[99]++t:=by
 simp only[NX,Bool.and_eq_true,decide_eq_true_eq,beq_iff_eq] at h
 obtain⟨h1,h2,h3⟩:=h
 rw[Ce,if_pos h1,if_neg (by omega),if_neg (by omega),if_pos h2,h3]
theorem WU{ns:List Nd}{t:List UInt8}:∀ {l m:List Int},PZ ns l→Bb ns t (l++m)=Bb ns t m
 |[],_,_=>rfl
 |c::l,m,h=>by
  have:=h c (by simp)
  rw[List.cons_append,Bb,if_neg (by omega),WU fun d hd=>h d (by simp [hd])]
theorem WV{ns:List Nd}{t:List UInt8}:∀ {gs:List Gr},(∀g∈gs,(gdM ns g∧Bz ns g.member=true)∨gdE ns g)→Bb ns t (gs.flatMap gk)=(((gs.filter (NX ns t)).head?).map Gr.member).getD (-1)
 |[],_=>rfl
 |g::gs,h=>by
  have ih:=WV (t:=t) (gs:=gs) fun d hd=>h d (by simp [hd])
  rw[List.flatMap_cons]
  rcases h g (by simp) with⟨hg,hi⟩|hg
  ·have e:gk g=g.notes++[g.member]:=by unfold gk;rw[if_pos hg.1.1]
   rw[e,List.append_assoc,WU hg.2,List.cons_append,List.nil_append,Bb]
   by_cases hc:As ns g.member=20∧(ndAt ns g.member).text=t
   ·rw[if_pos hc,List.filter_cons_of_pos (by simp [NX,hi,hc.1,hc.2])];rfl
   ·rw[if_neg hc,List.filter_cons_of_neg (by simp only[NX,hi,Bool.true_and,Bool.and_eq_true,decide_eq_true_eq,beq_iff_eq];exact hc)];exact ih
  ·have e:gk g=g.notes:=by unfold gk;rw[if_neg (by have:=hg.1.1;omega)];simp
   have hn:Bz ns g.member=false:=by rw[hg.1.1];simp [Bz]
   rw[e,WU hg.2,List.filter_cons_of_neg (by simp [NX,hn])];exact ih
theorem WW{ns:List Nd}(h:Bf ns=true):(∀g∈CF ns,(gdM ns g∧g.member∈Cf ns)∨gdE ns g)∧((CF ns).filter noM).length≤1:=by
 rw[CF,if_pos h]
 exact WR (fun c hc=>((FG h).2 c hc).1) (fun c hc=>by cases hc)
theorem a4e{ns:List Nd}:∀a b c:Gr,ltG ns a c=true→ltG ns b c=false→ltG ns a b=true:=fun a b c h1 h2=> @Wz (Ce ns a.member) (Ce ns b.member) (Ce ns c.member) h1 h2
theorem a4f{ns:List Nd}:∀a b:Gr,ltG ns a b=true→ltG ns b a=false:=fun a b h=> @Si (Ce ns a.member) (Ce ns b.member) h
theorem b4n(a:List UInt8):bLt a a=false:=by
 cases h:bLt a a with
 |false=>rfl
 |true=>have:=Si h;rw[h] at this;exact this
theorem WX{ns:List Nd}(h:Bf ns=true):∀g∈BZ ns,(gdM ns g∧g.member∈Cf ns)∨gdE ns g:=fun g hg=>(WW h).1 g ((LT (l:=CF ns) (lt:=ltG ns)).mem_iff.1 hg)
theorem WY{ns:List Nd}(h:Bf ns=true){c:Int}(hc:c∈Cf ns):Bz ns c=true:=by
 have:=(FG h).2 c hc
 exact BV.2 (by omega)
theorem b4o{ns:List Nd}(h:Bf ns=true){t:List UInt8}:Bb ns t (CQ ns)=Bb ns t (Cf ns):=by
 have e:Cf ns=(CF ns).flatMap gk:=by
  rw[CF,if_pos h,Sq (fun c hc=>((FG h).2 c hc).1)];rfl
 rw[CQ,WV fun g hg=>(WX h g hg).imp (fun x=>⟨x.1,WY h x.2⟩) id]
 conv=>rhs;rw[e]
 rw[WV fun g hg=>((WW h).1 g hg).imp (fun x=>⟨x.1,WY h x.2⟩) id]
 rw[BZ,b4m a4e a4f]
 intro a b ha hb
 rw[ltG,a4d ha,a4d hb];exact b4n _
theorem b4p{ns:List Nd}(h:Bf ns=true){c:Int}(hc:c∈Cf ns):FA (As ns c)=true:=by
 have hp:=DM (JI (ER h).2.2.2)
 have hk22:(ndAt ns ((ns.length:Int)-1)).kind=22:=by
  simp only[Bf,Bool.and_eq_true,decide_eq_true_eq] at h;exact h.2.1
 have hkinds:=hp.2.2.2.2.2.1
 rw[hk22] at hkinds
 simp only[Cd,Int.reduceEq,or_self,if_false,if_true,reduceIte,List.all_map,List.all_eq_true,Function.comp] at hkinds
 exact hkinds c hc
theorem b4q{ns:List Nd}(h:Bf ns=true):∀(i j:Nat) (a b:Gr),i<j→(BZ ns)[i]? =some a→(BZ ns)[j]? =some b→noM a=false:=by
 intro i j a b hij ha hb
 cases hn:noM a with
 |false=>rfl
 |true=>
  exfalso
  have hs:=a2E (l:=CF ns) (lt:=ltG ns) a4e a4f i j a b hij ha hb
  simp only[noM,decide_eq_true_eq] at hn
  have hka:Ce ns a.member=[100]:=by rw[hn];simp [Ce,Bz]
  rcases WX h b (List.mem_of_getElem? hb) with⟨hm,hk⟩|he
  ·have ht:=b4p h hk
   have hi:=WY h hk
   have h19:=hm.1.2
   simp only[FA,Ez,Bool.or_eq_true,decide_eq_true_eq] at ht
   have:bLt (Ce ns b.member) [100]=true:=by
    rw[Ce,if_pos hi]
    rcases ht with(ht|ht|ht)|ht
    ·rw[if_pos ht];simp [bLt,Op.bytesLess]
    ·rw[if_neg (by omega),if_neg (by omega),if_pos ht];simp [bLt,Op.bytesLess]
    ·exact absurd ht h19
    ·rw[if_neg (by omega),if_pos ht];simp [bLt,Op.bytesLess]
   rw[ltG,hka,this] at hs;cases hs
  ·have hp:((BZ ns).filter noM).length≤1:=by
    rw[BZ,((LT (l:=CF ns) (lt:=ltG ns)).filter noM).length_eq];exact(WW h).2
   have h2:2≤((BZ ns).filter noM).length:=by
    have e:BZ ns=(BZ ns).take j++(BZ ns).drop j:=(List.take_append_drop j _).symm
    rw[e,List.filter_append,List.length_append]
    have m1:a∈((BZ ns).take j).filter noM:=List.mem_filter.2 ⟨List.mem_of_getElem? (i:=i) (by rw[List.getElem?_take,if_pos hij];exact ha),by simp [noM,hn]⟩
    have m2:b∈((BZ ns).drop j).filter noM:=List.mem_filter.2 ⟨List.mem_of_getElem? (i:=0) (by rw[List.getElem?_drop];exact hb),by simp [noM,he.1.1]⟩
    have:=List.length_pos_of_mem m1
    have:=List.length_pos_of_mem m2
    omega
   omega
theorem b4r{ns:List Nd}(h:Bf ns=true):kg ((CQ ns).map (As ns)) false=(CF ns).length:=by
 rw[CQ,a4c (fun g hg=>(WX h g hg).imp (fun x=>x.1) id) (b4q h),BZ,(LT (l:=CF ns) (lt:=ltG ns)).length_eq]
structure Sg where
 kind:Int
 text:List UInt8
 pos:Int
 blank:Bool
def sgA:Sg→List AV:=fun s=>[.int .i64 s.kind,.str s.text,.int .i64 s.pos,.bool s.blank]
theorem Db(s:Sg):sgA s=[.int .i64 s.kind,.str s.text,.int .i64 s.pos,.bool s.blank]:=rfl
def sgs(l:List Sg):AV:= .sl false 0 4 Sg sgA l
def HT(l:List Sg):AV:= .sl true 0 4 Sg sgA l
def El(t:List UInt8):Nat→Int→Int→Option (List Sg)
 |0,_,_=>none
 |n+1,at_,br=>match t[at_.toNat]? with
  |none=>some []
  |some c=>if c.toNat=32 then El t n (at_+1) br
   else if c.toNat=10 then El t n (at_+1) (br+1)
   else if(Bd (t.drop at_.toNat)).ok then(El t n (at_+(Bd (t.drop at_.toNat)).size) 0).map (⟨(Bd (t.drop at_.toNat)).kind,(Bd (t.drop at_.toNat)).text,at_,decide (br>1)⟩:: ·)
   else none
def Ct(t:List UInt8):Option (List Sg):=if 3000<t.length then none else El t (t.length+1) 0 0
structure Ps where
 pos:Int
 deep:Int
 nodes:List Nd
abbrev PR:=Option (Int×Ps)
abbrev PL:=Option (List Int×Ps)
def ED:Sg:=⟨0,[],0,false⟩
def sgO(sg:List Sg)(i:Int):Sg:=sg.getD i.toNat ED
def isT(sg:List Sg)(s:Ps)(k:Int)(t:List UInt8):Bool:=decide ((sgO sg s.pos).kind=k)&&((sgO sg s.pos).text==t)
def isM(sg:List Sg)(s:Ps)(t:List UInt8):Bool:=isT sg s 4 t
def isW(sg:List Sg)(s:Ps)(t:List UInt8):Bool:=isT sg s 1 t
def DG(sg:List Sg)(i:Int):Bool:=decide ((sgO sg i).kind=1)&& !kw (sgO sg i).text
def adv(s:Ps):Ps:=⟨s.pos+1,s.deep,s.nodes⟩
def dp(s:Ps)(d:Int):Ps:=⟨s.pos,s.deep+d,s.nodes⟩
def BE(sg:List Sg)(t:List UInt8)(s:Ps):Option Ps:=if isM sg s t then some (adv s) else none
def Be(x:Nd)(s:Ps):PR:=if 300≤s.nodes.length then none else some (s.nodes.length,⟨s.pos,s.deep,s.nodes++[x]⟩)
def Gf(r:PR):PR:=r.map fun p=>(p.1,adv p.2)
def FL(sg:List Sg)(k:Int)(b:Bool)(s:Ps):PR:=Gf (Be ⟨k,(sgO sg s.pos).text,[],b⟩ s)
def BS(sg:List Sg)(s:Ps):PR:=if DG sg s.pos then FL sg 1 false s else none
def EU(sg:List Sg)(s:Ps):Option (List UInt8×Ps):=if DG sg s.pos then some ((sgO sg s.pos).text,adv s) else none
def Bs(sg:List Sg)(m:List UInt8)(x:Nd)(s:Ps):PR:=if isM sg s m then Gf (Be x s) else none
def Bx(sg:List Sg)(one:Ps→PR)(m:List UInt8):Nat→List Int→Ps→PL
 |0,_,_=>none
 |n+1,ks,s=>if isM sg s m then some (ks,s) else(one s).bind fun p=>if isM sg p.2 [44] then Bx sg one m n (ks++[p.1]) (adv p.2) else some (ks++[p.1],p.2)
def Em(sg:List Sg):Nat→Int→Int
 |0,i=>i
 |n+1,i=>if DG sg i then(if(sgO sg (i+1)).text=[44] then Em sg n (i+2) else i+1) else i
def KF(sg:List Sg)(s:Ps):Bool:=((sgO sg (Em sg (sg.length+1) (s.pos+1))).text==[41])&&((sgO sg (Em sg (sg.length+1) (s.pos+1)+1)).text==[61,62])
def BJ(l:Nat):List (List UInt8):=match l with
 |0=>[[124,124]]
 |1=>[[38,38]]
 |2=>[[61,61]]
 |3=>[[60]]
 |4=>[[43],[45]]
 |_=>[[42]]
def IA(sg:List Sg)(l:Nat)(s:Ps):List UInt8:=((BJ l).find? fun m=>isM sg s m).getD []
def Gg(sg:List Sg)(l:Nat)(one:Ps→PR):Nat→List UInt8→List Int→Ps→PR
 |0,_,_,_=>none
 |n+1,t,ks,s=>
  if t≠[]∧IA sg l s≠t then(Be ⟨7,t,ks,false⟩ s).bind fun p=>Gg sg l one n [] [p.1] p.2
  else if IA sg l s=[] then some (ks.headD 0,s)
  else(one (adv s)).bind fun p=>Gg sg l one n (IA sg l s) (ks++[p.1]) p.2
def Dg(sg:List Sg)(val:Ps→PR)(k:Int)(s:Ps):PR:=(BE sg [40] s).bind fun s=>(Bx sg val [41] (sg.length+1) [k] s).bind fun p=>Bs sg [41] ⟨5,[],p.1,false⟩ p.2
def FM(sg:List Sg)(val:Ps→PR):Nat→Int→Ps→PR
 |0,_,_=>none
 |n+1,k,s=>
  if isM sg s [40] then(Dg sg val k s).bind fun p=>FM sg val n p.1 p.2
  else if isM sg s [46] then(if DG sg (s.pos+1) then(Gf (Be ⟨6,(sgO sg (s.pos+1)).text,[k],false⟩ (adv s))).bind fun p=>FM sg val n p.1 p.2 else none)
  else some (k,s)
def Fl(sg:List Sg)(val:Ps→PR):Nat→List Int→Ps→PL
 |0,_,_=>none
 |n+1,ks,s=>if isM sg s [46,46] then(BS sg (adv s)).bind fun p=>(Dg sg val p.1 p.2).bind fun q=>Fl sg val n (ks++[q.1]) q.2 else some (ks,s)
inductive NT where
 |value|pick|chain (l:Nat)|fin|base
def pE(sg:List Sg):Nat→NT→Ps→PR
 |0,_,_=>none
 |n+1,.value,s=>(pE sg n .pick s).bind fun p=>if isM sg p.2 [46,46] then(Fl sg (pE sg n .value) (sg.length+1) [p.1] p.2).bind fun q=>Be ⟨10,[],q.1,false⟩ q.2 else some p
 |n+1,.pick,s=>if 20≤s.deep then none else(pE sg n (.chain 0) (dp s 1)).bind fun p=>
   if isM sg p.2 [63] then(pE sg n .pick (adv p.2)).bind fun a=>(BE sg [58] a.2).bind fun s1=>(pE sg n .pick s1).bind fun b=>(Be ⟨8,[],[p.1,a.1,b.1],false⟩ b.2).map fun q=>(q.1,dp q.2 (-1))
   else some (p.1,dp p.2 (-1))
 |n+1,.chain l,s=>if l=6 then pE sg n .fin s else(pE sg n (.chain (l+1)) s).bind fun p=>Gg sg l (pE sg n (.chain (l+1))) (2*sg.length+4) [] [p.1] p.2
 |n+1,.fin,s=>(pE sg n .base s).bind fun p=>FM sg (pE sg n .value) (sg.length+1) p.1 p.2
 |n+1,.base,s=>
  if(sgO sg s.pos).kind=1 then BS sg s
  else if(sgO sg s.pos).kind=2 then FL sg 2 false s
  else if(sgO sg s.pos).kind=3 then FL sg 3 false s
  else if isM sg s [91] then(Bx sg (pE sg n .value) [93] (sg.length+1) [] (adv s)).bind fun p=>Bs sg [93] ⟨4,[],p.1,false⟩ p.2
  else if isM sg s [40]&&KF sg s then(Bx sg (BS sg) [41] (sg.length+1) [] (adv s)).bind fun p=>(BE sg [41] p.2).bind fun s1=>(BE sg [61,62] s1).bind fun s2=>(pE sg n .pick s2).bind fun q=>Be ⟨9,[],p.1++[q.1],false⟩ q.2
  else if isM sg s [40] then(pE sg n .value (adv s)).bind fun p=>Bs sg [41] ⟨11,[],[p.1],false⟩ p.2
  else none
def peN:Nat:=40000
def Cn(sg:List Sg):Ps→PR:=pE sg peN .value
def DA(sg:List Sg)(b:Bool)(s:Ps):PR:=(EU sg s).bind fun p=>
 if isM sg p.2 [61] then(Cn sg (adv p.2)).bind fun q=>Bs sg [59] ⟨12,p.1,[q.1],b⟩ q.2 else Bs sg [59] ⟨12,p.1,[],b⟩ p.2
def DH(sg:List Sg)(s:Ps):PR:=(BE sg [40] s).bind fun s1=>(Cn sg s1).bind fun p=>(BE sg [41] p.2).map fun s2=>(p.1,s2)
def CR(sg:List Sg)(one:Bool→Ps→PR)(m:List UInt8):Nat→List Int→Ps→PL
 |0,_,_=>none
 |n+1,ks,s=>if isM sg s m then some (ks,s) else(one ((sgO sg s.pos).blank&&decide (0<ks.length)) s).bind fun p=>CR sg one m n (ks++[p.1]) p.2
def BN(sg:List Sg)(one:Bool→Ps→PR)(s:Ps):PR:=if 20≤s.deep then none else(BE sg [123] (dp s 1)).bind fun s1=>(CR sg one [125] (sg.length+1) [] s1).bind fun p=>(Bs sg [125] ⟨18,[],p.1,false⟩ p.2).map fun q=>(q.1,dp q.2 (-1))
def stR(sg:List Sg):Nat→Bool→Ps→PR
 |0,_,_=>none
 |n+1,b,s=>
  if(sgO sg s.pos).kind=5 then FL sg 19 b s
  else if isW sg s [118,97,114] then DA sg b (adv s)
  else if isW sg s [114,101,116,117,114,110] then(if isM sg (adv s) [59] then Bs sg [59] ⟨15,[],[],b⟩ (adv s) else(Cn sg (adv s)).bind fun p=>Bs sg [59] ⟨15,[],[p.1],b⟩ p.2)
  else if isW sg s [105,102] then(DH sg (adv s)).bind fun p=>(BN sg (stR sg n) p.2).bind fun q=>
   if isW sg q.2 [101,108,115,101] then(BN sg (stR sg n) (adv q.2)).bind fun r=>Be ⟨16,[],[p.1,q.1,r.1],b⟩ r.2 else Be ⟨16,[],[p.1,q.1],b⟩ q.2
  else if isW sg s [119,104,105,108,101] then(DH sg (adv s)).bind fun p=>(BN sg (stR sg n) p.2).bind fun q=>Be ⟨17,[],[p.1,q.1],b⟩ q.2
  else if DG sg s.pos&&isM sg (adv s) [61] then(Cn sg (adv (adv s))).bind fun p=>Bs sg [59] ⟨13,(sgO sg s.pos).text,[p.1],b⟩ p.2
  else(Cn sg s).bind fun p=>Bs sg [59] ⟨14,[],[p.1],b⟩ p.2
def stN:Nat:=30
def FO(sg:List Sg):Ps→PR:=BN sg (stR sg stN)
def EV(sg:List Sg)(b:Bool)(s:Ps):PR:=(EU sg s).bind fun p=>(BE sg [40] p.2).bind fun s1=>(Bx sg (BS sg) [41] (sg.length+1) [] s1).bind fun q=>(BE sg [41] q.2).bind fun s2=>(FO sg s2).bind fun r=>Be ⟨20,p.1,q.1++[r.1],b⟩ r.2
def Dl(sg:List Sg)(b:Bool)(s:Ps):PR:=
 if(sgO sg s.pos).kind=5 then FL sg 19 b s else if isW sg s [118,97,114] then DA sg b (adv s) else EV sg b s
def Hk(sg:List Sg)(b:Bool)(s:Ps):PR:=(EU sg s).bind fun p=>(BE sg [123] p.2).bind fun s1=>(CR sg (Dl sg) [125] (sg.length+1) [] s1).bind fun q=>Bs sg [125] ⟨21,p.1,q.1,b⟩ q.2
def CW(sg:List Sg)(b:Bool)(s:Ps):PR:=
 if(sgO sg s.pos).kind=5 then FL sg 19 b s else if isW sg s [118,97,114] then DA sg b (adv s) else if isW sg s [99,108,97,115,115] then Hk sg b (adv s) else EV sg b s
def Gh(sg:List Sg):Nat→List Int→List (Int×Int)→Ps→Option ((List Int×List (Int×Int))×Ps)
 |0,_,_,_=>none
 |n+1,ks,ms,s=>if s.pos<sg.length then(CW sg ((sgO sg s.pos).blank&&decide (0<ks.length)) s).bind fun p=>Gh sg n (ks++[p.1]) (ms++[(s.pos,p.2.pos)]) p.2 else some ((ks,ms),s)
def ps0:Ps:=⟨0,0,[]⟩
def IB(sg:List Sg):Option (List (Int×Int)×List Nd):=(Gh sg (sg.length+1) [] [] ps0).bind fun p=>(Be ⟨22,[],p.1.1,false⟩ p.2).bind fun q=>if Bf q.2.nodes then some (p.1.2,q.2.nodes) else none
def Cb(t:List UInt8):Option (List Nd):=(Ct t).bind fun sg=>(IB sg).map (·.2)
structure Gs where
 pos:Int
 deep:Int
 bad:Bool
 nodes:List Nd
def Dm(x:Nd):Prop:=x.text.length≤3000∧x.kids.length≤4000
def sgB(sg:List Sg):Prop:=sg.length≤3000∧∀e∈sg,e.text.length≤3000
def gsOk(sg:List Sg)(g:Gs):Prop:=(0≤g.pos∧g.pos≤sg.length)∧(0≤g.deep∧g.deep≤21)∧g.nodes.length≤300∧∀x∈g.nodes,Dm x
def pur(g:Gs):Option Ps:=if g.bad then none else some ⟨g.pos,g.deep,g.nodes⟩
theorem Eb{g:Gs}(h:g.bad=true):pur g=none:=by simp [pur,h]
theorem Dn{g:Gs}(h:g.bad=false):pur g=some ⟨g.pos,g.deep,g.nodes⟩:=by simp [pur,h]
theorem a4g{g:Gs}:pur g=none↔g.bad=true:=by
 cases h:g.bad<;>simp [pur,h]
theorem EW{g:Gs}{s:Ps}:pur g=some s↔g.bad=false∧s=⟨g.pos,g.deep,g.nodes⟩:=by
 cases h:g.bad<;>simp [pur,h,eq_comm]
def WZ(sg:List Sg)(x:Gs)(f:Ps→Option Ps)(y:Gs):Prop:=gsOk sg y∧y.deep=x.deep∧x.pos≤y.pos∧pur y=(pur x).bind f
def BF{α:Type}(sg:List Sg)(x:Gs)(f:Ps→Option (α×Ps))(y:α×Gs):Prop:=
 gsOk sg y.2∧y.2.deep=x.deep∧x.pos≤y.2.pos∧pur y.2=((pur x).bind f).map (·.2)∧∀p,(pur x).bind f=some p→y.1=p.1
def Ag{α:Type}(sg:List Sg)(x:Gs)(f:Ps→Option (α×Ps))(y:α×Gs):Prop:=BF sg x f y∧(y.2.bad=false→x.pos<y.2.pos)
def pkG(sg:List Sg)(g:Gs)(n:Int):Sg:=if g.bad=true∨(sg.length:Int)≤g.pos+n then ED else sgO sg (g.pos+n)
theorem b4s{sg:List Sg}{i:Int}(h:(sg.length:Int)≤i):sgO sg i=ED:=by
 unfold sgO;rw[List.getD_eq_getElem?_getD,List.getElem?_eq_none (by omega)];rfl
theorem JM{sg:List Sg}{i:Int}{e:Sg}(h:sg[i.toNat]? =some e):sgO sg i=e:=by simp [sgO,List.getD,h]
theorem JN{sg:List Sg}{g:Gs}{n:Int}(h:g.bad=false):pkG sg g n=sgO sg (g.pos+n):=by
 unfold pkG
 split
 ·rename_i hh
  rcases hh with hh|hh
  ·rw[h] at hh;cases hh
  ·exact(b4s hh).symm
 ·rfl
theorem b4t{sg:List Sg}{g:Gs}{n:Int}(h:g.bad=true):pkG sg g n=ED:=by unfold pkG;rw[if_pos (.inl h)]
def isG(sg:List Sg)(g:Gs)(k:Int)(t:List UInt8):Bool:=decide ((pkG sg g 0).kind=k)&&((pkG sg g 0).text==t)
def nmG(sg:List Sg)(g:Gs)(n:Int):Bool:=decide ((pkG sg g n).kind=1)&& !kw (pkG sg g n).text
theorem SF{sg:List Sg}{g:Gs}{s:Ps}{k:Int}{t:List UInt8}(h:pur g=some s):isG sg g k t=isT sg s k t:=by
 obtain⟨h1,rfl⟩:=EW.1 h
 simp [isG,isT,JN h1]
theorem a4h{sg:List Sg}{g:Gs}{k:Int}{t:List UInt8}(h:pur g=none)(hk:k≠0):isG sg g k t=false:=by
 simp [isG,b4t (a4g.1 h),ED,Ne.symm hk]
theorem Mf{sg:List Sg}{g:Gs}{s:Ps}{n:Int}(h:pur g=some s):nmG sg g n=DG sg (s.pos+n):=by
 obtain⟨h1,rfl⟩:=EW.1 h
 simp [nmG,DG,JN h1]
theorem Dp{sg:List Sg}{g:Gs}{k:Int}{t:List UInt8}(h:isG sg g k t=true)(hk:k≠0):g.bad=false∧g.pos<sg.length:=by
 unfold isG pkG at h
 split at h
 ·simp [ED,Ne.symm hk] at h
 ·rename_i hh
  simp only[Int.add_zero] at hh
  exact⟨by cases hb:g.bad<;>simp_all,by omega⟩
theorem SG{sg:List Sg}{g:Gs}{n:Int}(h:nmG sg g n=true):g.bad=false∧g.pos+n<sg.length:=by
 unfold nmG pkG at h
 split at h
 ·simp [ED] at h
 ·rename_i hh;exact⟨by cases hb:g.bad<;>simp_all,by omega⟩
def An(g:Gs):Gs:=⟨g.pos+1,g.deep,g.bad,g.nodes⟩
def Bw(g:Gs):Gs:=⟨g.pos,g.deep,true,g.nodes⟩
def gDp(g:Gs)(d:Int):Gs:=⟨g.pos,g.deep+d,g.bad,g.nodes⟩
def Aw(sg:List Sg)(g:Gs)(m:List UInt8):Gs:=if isG sg g 4 m then An g else g
def Aq(sg:List Sg)(g:Gs)(m:List UInt8):Gs:=if isG sg g 4 m then An g else Bw g
def Dq(g:Gs):Gs:=if g.bad then g else An g
def DP(g:Gs):Bool:=g.bad||decide (g.nodes.length=300)
def Am(g:Gs)(x:Nd):Gs:=if DP g then Bw g else⟨g.pos,g.deep,g.bad,g.nodes++[x]⟩
def AU(g:Gs):Int:=if DP g then 0 else g.nodes.length
def CS(sg:List Sg)(g:Gs)(m:List UInt8)(x:Nd):Gs:=if isG sg g 4 m then Dq (Am g x) else Bw g
def CT(sg:List Sg)(g:Gs)(m:List UInt8):Int:=if isG sg g 4 m then AU g else 0
def EE(sg:List Sg)(g:Gs)(k:Int)(b:Bool):Gs:=Dq (Am g ⟨k,(pkG sg g 0).text,[],b⟩)
def Ec(sg:List Sg)(g:Gs):Gs:=if nmG sg g 0 then EE sg g 1 false else Bw g
def En(sg:List Sg)(g:Gs):Int:=if nmG sg g 0 then AU g else 0
def CV(sg:List Sg)(g:Gs):Gs:=if nmG sg g 0 then An g else Bw g
def Dh(sg:List Sg)(g:Gs):List UInt8:=if nmG sg g 0 then(pkG sg g 0).text else []
theorem GC{sg:List Sg}{g:Gs}(h:gsOk sg g)(hl:g.pos<sg.length):gsOk sg (An g):=by
 obtain⟨h1,h2⟩:=h
 exact⟨by simp only[An];omega,h2⟩
theorem Mg{sg:List Sg}{g:Gs}(h:gsOk sg g):gsOk sg (Bw g):=h
theorem Xa{g:Gs}:pur (An g)=(pur g).map adv:=by
 cases h:g.bad<;>simp [pur,An,h,adv]
theorem JO{g:Gs}:pur (Bw g)=none:=by simp [pur,Bw]
theorem a4i{sg:List Sg}{g:Gs}{k:Int}{m:List UInt8}(h:gsOk sg g)(hk:k≠0)(hm:isG sg g k m=true):WZ sg g (fun s=>if isT sg s k m then some (adv s) else none) (An g)∧(An g).bad=false∧g.pos<(An g).pos:=by
 obtain⟨h1,h2⟩:=Dp hm hk
 refine⟨⟨GC h h2,rfl,by simp only[An];omega,?_⟩,h1,by simp only[An];omega⟩
 rw[Xa,Dn h1]
 have:isT sg ⟨g.pos,g.deep,g.nodes⟩ k m=true:=by rw[←SF (Dn h1)];exact hm
 simp [this]
theorem SH{sg:List Sg}{g:Gs}{s:Ps}{k:Int}{m:List UInt8}(hm:isG sg g k m=false)(hs:pur g=some s):isT sg s k m=false:=by rw[←SF hs];exact hm
theorem Xb{sg:List Sg}{g:Gs}{s:Ps}{k:Int}{m:List UInt8}(hm:isG sg g k m=true)(hs:pur g=some s):isT sg s k m=true:=by rw[←SF hs];exact hm
theorem Qa{sg:List Sg}{g:Gs}{m:List UInt8}(h:gsOk sg g):WZ sg g (BE sg m) (Aq sg g m)∧((Aq sg g m).bad=false→g.pos<(Aq sg g m).pos):=by
 unfold Aq
 cases hm:isG sg g 4 m with
 |true=>
  obtain⟨h1,h2,h3⟩:=a4i h (by omega) hm
  simp only[if_true]
  exact⟨h1,fun _=>h3⟩
 |false=>
  simp only[Bool.false_eq_true,if_false]
  refine⟨⟨Mg h,rfl,Int.le_refl _,?_⟩,fun hb=>by simp [Bw] at hb⟩
  rw[JO]
  cases hs:pur g with
  |none=>rfl
  |some s=>
   simp only[Option.bind_some,BE,isM,SH hm hs];rfl
theorem SI{g:Gs}(h:DP g=false):g.bad=false∧g.nodes.length≠300:=by
 simpa [DP] using h
theorem Qb{sg:List Sg}{g:Gs}{x:Nd}(h:gsOk sg g)(hx:Dm x):gsOk sg (Am g x):=by
 unfold Am
 cases hf:DP g with
 |true=>exact Mg h
 |false=>
  obtain⟨h1,h2⟩:=SI hf
  obtain⟨a,b,c,d⟩:=h
  refine⟨a,b,?_,?_⟩
  ·simp;omega
  ·simp only[Bool.false_eq_true,if_false]
   intro y hy
   rcases List.mem_append.1 hy with hy|hy
   ·exact d y hy
   ·simp at hy;subst hy;exact hx
theorem a4j{sg:List Sg}{g:Gs}{x:Nd}(h:gsOk sg g):pur (Am g x)=((pur g).bind (Be x)).map (·.2)∧∀p,(pur g).bind (Be x)=some p→AU g=p.1:=by
 unfold Am AU
 cases hf:DP g with
 |true=>
  simp only[if_true,JO]
  have:(pur g).bind (Be x)=none:=by
   cases hs:pur g with
   |none=>rfl
   |some s=>
    obtain⟨h1,rfl⟩:=EW.1 hs
    have h3:g.nodes.length=300:=by simpa [DP,h1] using hf
    simp [Be,h3]
  rw[this];exact⟨rfl,fun p hp=>by cases hp⟩
 |false=>
  obtain⟨h1,h2⟩:=SI hf
  have h3:g.nodes.length≤300:=h.2.2.1
  have h4:¬300≤g.nodes.length:=by omega
  simp [pur,h1,Be,h4]
theorem SJ{sg:List Sg}{g:Gs}{x:Nd}(h:gsOk sg g)(hx:Dm x):BF sg g (Be x) (AU g,Am g x):=by
 refine⟨Qb h hx,?_,?_,(a4j h).1,(a4j h).2⟩
 ·simp only[Am];split<;>rfl
 ·simp only[Am];split<;>exact Int.le_refl _
theorem Xc{sg:List Sg}{g:Gs}{x:Nd}(h:gsOk sg g)(hx:Dm x)(hl:g.bad=false→g.pos<sg.length):Ag sg g (fun s=>Gf (Be x s)) (AU g,Dq (Am g x)):=by
 obtain⟨h1,h2,h3,h4,h5⟩:=SJ h hx
 simp only at h1 h2 h3 h4 h5
 have hp:pur (Dq (Am g x))=(pur (Am g x)).map adv:=by
  unfold Dq
  cases hb:(Am g x).bad with
  |true=>rw[Eb hb];simp [Eb hb]
  |false=>simp only[Bool.false_eq_true,if_false];exact Xa
 have hpos:(Am g x).pos=g.pos:=by simp only[Am];split<;>rfl
 have hbad:(Am g x).bad=false→g.bad=false:=by
  intro hb;simp only[Am] at hb;split at hb
  ·simp [Bw] at hb
  ·exact hb
 refine⟨⟨?_,?_,?_,?_,?_⟩,?_⟩
 ·simp only[Dq];split
  ·exact h1
  ·rename_i hb
   exact GC h1 (by rw[hpos];exact hl (hbad (by simpa using hb)))
 ·simp only[Dq];split<;>simpa [An] using h2
 ·simp only[Dq];split
  ·exact h3
  ·simp only[An];omega
 ·simp only;rw[hp,h4]
  cases hs:pur g with
  |none=>rfl
  |some s=>simp only[Option.bind_some,Gf];cases Be x s<;>rfl
 ·intro p hp2
  simp only
  cases hs:pur g with
  |none=>rw[hs] at hp2;cases hp2
  |some s=>
   rw[hs] at hp2 h5
   simp only[Option.bind_some,Gf,Option.map_eq_some_iff] at hp2
   obtain⟨q,hq,rfl⟩:=hp2
   exact h5 q (by simpa using hq)
 ·simp only[Dq]
  split
  ·rename_i hb;intro hh;rw[hb] at hh;cases hh
  ·intro _;simp only[An];omega
theorem NY{sg:List Sg}{g:Gs}{m:List UInt8}{x:Nd}(h:gsOk sg g)(hx:Dm x):Ag sg g (Bs sg m x) (CT sg g m,CS sg g m x):=by
 unfold CS CT
 cases hm:isG sg g 4 m with
 |true=>
  obtain⟨hb,hl⟩:=Dp hm (by omega)
  have:=Xc h hx (fun _=>hl)
  simp only[if_true]
  have e:(pur g).bind (Bs sg m x)=(pur g).bind fun s=>Gf (Be x s):=by
   rw[Dn hb]
   have:isM sg ⟨g.pos,g.deep,g.nodes⟩ m=true:=Xb hm (Dn hb)
   simp [Bs,this]
  obtain⟨⟨a1,a2,a3,a4,a5⟩,a6⟩:=this
  exact⟨⟨a1,a2,a3,by rw[e];exact a4,by rw[e];exact a5⟩,a6⟩
 |false=>
  simp only[Bool.false_eq_true,if_false]
  have e:(pur g).bind (Bs sg m x)=none:=by
   cases hs:pur g with
   |none=>rfl
   |some s=>
    have:isM sg s m=false:=SH hm hs
    simp [Bs,this]
  refine⟨⟨Mg h,rfl,Int.le_refl _,by rw[e];exact JO,fun p hp=>by rw[e] at hp;cases hp⟩,fun hb=>by simp [Bw] at hb⟩
theorem b4u{sg:List Sg}(h:sgB sg){i:Int}:(sgO sg i).text.length≤3000:=by
 unfold sgO;rw[List.getD]
 cases hx:sg[i.toNat]? with
 |none=>simp [ED]
 |some e=>exact h.2 e (BO hx)
theorem Qc{sg:List Sg}(h:sgB sg){g:Gs}{n:Int}:(pkG sg g n).text.length≤3000:=by
 unfold pkG;split
 ·simp [ED]
 ·exact b4u h
theorem Qd{sg:List Sg}{g:Gs}{k:Int}{b:Bool}(hs:sgB sg)(h:gsOk sg g)(hl:g.bad=false→g.pos<sg.length):Ag sg g (FL sg k b) (AU g,EE sg g k b):=by
 have hx:Dm ⟨k,(pkG sg g 0).text,[],b⟩:=⟨Qc hs,by simp⟩
 have:=Xc (x:=⟨k,(pkG sg g 0).text,[],b⟩) h hx hl
 have e:(pur g).bind (FL sg k b)=(pur g).bind fun s=>Gf (Be ⟨k,(pkG sg g 0).text,[],b⟩ s):=by
  cases hs:pur g with
  |none=>rfl
  |some s=>
   obtain⟨h1,rfl⟩:=EW.1 hs
   simp [FL,JN h1]
 obtain⟨⟨a1,a2,a3,a4,a5⟩,a6⟩:=this
 exact⟨⟨a1,a2,a3,by rw[e];exact a4,by rw[e];exact a5⟩,a6⟩
theorem SK{sg:List Sg}{g:Gs}(hs:sgB sg)(h:gsOk sg g):Ag sg g (BS sg) (En sg g,Ec sg g):=by
 unfold Ec En
 cases hm:nmG sg g 0 with
 |true=>
  obtain⟨hb,hl⟩:=SG hm
  simp only[if_true]
  obtain⟨⟨a1,a2,a3,a4,a5⟩,a6⟩:=Qd (k:=1) (b:=false) hs h (fun _=>by omega)
  have e:(pur g).bind (BS sg)=(pur g).bind (FL sg 1 false):=by
   rw[Dn hb]
   have:DG sg g.pos=true:=by have:=Mf (sg:=sg) (n:=0) (Dn hb);rw[hm] at this;simpa using this.symm
   simp [BS,this]
  exact⟨⟨a1,a2,a3,by rw[e];exact a4,by rw[e];exact a5⟩,a6⟩
 |false=>
  simp only[Bool.false_eq_true,if_false]
  have e:(pur g).bind (BS sg)=none:=by
   cases hs:pur g with
   |none=>rfl
   |some s=>
    have:DG sg s.pos=false:=by have:=Mf (sg:=sg) (n:=0) hs;rw[hm] at this;simpa using this.symm
    simp [BS,this]
  refine⟨⟨Mg h,rfl,Int.le_refl _,by rw[e];exact JO,fun p hp=>by rw[e] at hp;cases hp⟩,fun hb=>by simp [Bw] at hb⟩
theorem NZ{sg:List Sg}{g:Gs}(h:gsOk sg g):Ag sg g (EU sg) (Dh sg g,CV sg g):=by
 unfold CV Dh
 cases hm:nmG sg g 0 with
 |true=>
  obtain⟨hb,hl⟩:=SG hm
  simp only[if_true]
  have hn:DG sg g.pos=true:=by have:=Mf (sg:=sg) (n:=0) (Dn hb);rw[hm] at this;simpa using this.symm
  refine⟨⟨GC h (by omega),rfl,by simp only[An];omega,?_,?_⟩,fun _=>by simp only[An];omega⟩
  ·simp only;rw[Xa,Dn hb];simp [EU,hn]
  ·intro p hp;rw[Dn hb] at hp
   simp [EU,hn] at hp
   rw[←hp,JN hb];simp
 |false=>
  simp only[Bool.false_eq_true,if_false]
  have e:(pur g).bind (EU sg)=none:=by
   cases hs:pur g with
   |none=>rfl
   |some s=>
    have:DG sg s.pos=false:=by have:=Mf (sg:=sg) (n:=0) hs;rw[hm] at this;simpa using this.symm
    simp [EU,this]
  refine⟨⟨Mg h,rfl,Int.le_refl _,by rw[e];exact JO,fun p hp=>by rw[e] at hp;cases hp⟩,fun hb=>by simp [Bw] at hb⟩
end Go.My
end
section
namespace Go.My
open Go.Eng Go.Proofs
variable {G:GInv}
theorem b4v{a:Int}{b:List UInt8}{c:List Int}{d:Bool}{o:Bool}{i:Nat}{q:Nd→Prop}(h:q ⟨a,b,c,d⟩):∃x:Nd,a=x.kind∧b=x.text∧AV.sl o i 1 Int AZ c=AV.sl o i 1 Int AZ x.kids∧d=x.blank∧q x:=⟨⟨a,b,c,d⟩,rfl,rfl,rfl,rfl,h⟩
theorem AL{α β γ δ ε ζ η:Type}{p q:α×β×γ×δ×ε×ζ×η→Prop}(a:α)(b:β)(c:γ)(d:δ)(e:ε)(f:ζ)(g:η)(h2:q (a,b,c,d,e,f,g))(h1:p (a,b,c,d,e,f,g)):∃x,p x∧q x:=⟨_,h1,h2⟩
theorem AM{α β γ δ ε ζ η θ:Type}{p q:α×β×γ×δ×ε×ζ×η×θ→Prop}(a:α)(b:β)(c:γ)(d:δ)(e:ε)(f:ζ)(g:η)(h:θ)(h2:q (a,b,c,d,e,f,g,h))(h1:p (a,b,c,d,e,f,g,h)):∃x,p x∧q x:=⟨_,h1,h2⟩
theorem AN{α β γ δ ε ζ η θ ι:Type}{p q:α×β×γ×δ×ε×ζ×η×θ×ι→Prop}(a:α)(b:β)(c:γ)(d:δ)(e:ε)(f:ζ)(g:η)(h:θ)(i:ι)(h2:q (a,b,c,d,e,f,g,h,i))(h1:p (a,b,c,d,e,f,g,h,i)):∃x,p x∧q x:=⟨_,h1,h2⟩
theorem AO{α β γ δ ε ζ η θ ι κ:Type}{p q:α×β×γ×δ×ε×ζ×η×θ×ι×κ→Prop}(a:α)(b:β)(c:γ)(d:δ)(e:ε)(f:ζ)(g:η)(h:θ)(i:ι)(j:κ)(h2:q (a,b,c,d,e,f,g,h,i,j))(h1:p (a,b,c,d,e,f,g,h,i,j)):∃x,p x∧q x:=⟨_,h1,h2⟩
structure ST where
 sg:List Sg
 z:Int
 ms:List (Int×Int)
def mbs(ms:List (Int×Int)):AV:= .sl true 0 2 (Int×Int) (fun p=>[.int .i64 p.1,.int .i64 p.2]) ms
def rdG(s:ST)(g:Gs):AV:= .box 0 [sgs s.sg,.int .i64 s.z,.int .i64 g.pos,.int .i64 g.deep,.bool g.bad,Ba g.nodes,mbs s.ms]
abbrev xg (x:ST×Int×Int×Bool×List Nd):Gs:=⟨x.2.1,x.2.2.1,x.2.2.2.1,x.2.2.2.2⟩
abbrev xh {α:Type} (x:ST×Int×Int×Bool×List Nd×α):Gs:=⟨x.2.1,x.2.2.1,x.2.2.2.1,x.2.2.2.2.1⟩
abbrev yG (y:Int×Int×Bool×List Nd):Gs:=⟨y.1,y.2.1,y.2.2.1,y.2.2.2⟩
abbrev yS {α:Type} (y:α×Int×Int×Bool×List Nd):α×Gs:=(y.1,⟨y.2.1,y.2.2.1,y.2.2.2.1,y.2.2.2.2⟩)
def rOk(s:ST)(g:Gs):Prop:=sgB s.sg∧gsOk s.sg g
theorem Hl{s:ST}{g:Gs}(h:rOk s g):((0≤g.pos∧g.pos≤s.sg.length)∧(0≤g.deep∧g.deep≤21))∧g.nodes.length≤300∧s.sg.length≤3000:=⟨⟨h.2.1,h.2.2.1⟩,h.2.2.2.1,h.1.1⟩
theorem b4w{sg:List Sg}{g:Gs}{n:Int}(h:g.bad=true∨(sg.length:Int)≤g.pos+n):pkG sg g n=ED:=if_pos h
theorem b4x{sg:List Sg}{g:Gs}{n:Int}{e:Sg}(he:sg[(g.pos+n).toNat]? =some e)(hb:g.bad=false)(hl:¬(sg.length:Int)≤g.pos+n):pkG sg g n=e:=by
 rw[pkG,if_neg (by simp [hb];omega),JM he]
end Go.My
end
section
namespace Go.My
open Go.Eng
def restP{α:Type}(sg:List Sg)(x:Gs)(f:Ps→Option (α×Ps))(y:Gs)(g:Ps→Option (α×Ps))(d:Int):Prop:=
 gsOk sg y∧y.deep=x.deep+d∧x.pos≤y.pos∧(pur y).bind g=(pur x).bind f
theorem Dr{α:Type}{sg:List Sg}{x:Gs}{f:Ps→Option (α×Ps)}(h:gsOk sg x):restP sg x f x f 0:=⟨h,by omega,Int.le_refl _,rfl⟩
theorem Ed{α:Type}{sg:List Sg}{x y:Gs}{f g g':Ps→Option (α×Ps)}{d:Int}(h:restP sg x f y g d)(e:∀s,pur y=some s→g s=g' s):restP sg x f y g' d:=by
 refine⟨h.1,h.2.1,h.2.2.1,?_⟩
 rw[←h.2.2.2]
 cases hs:pur y with
 |none=>rfl
 |some s=>exact(e s hs).symm
theorem a4k{α:Type}{sg:List Sg}{x y z:Gs}{f g g':Ps→Option (α×Ps)}{h:Ps→Option Ps}{d:Int}(h1:restP sg x f y g d)(h2:WZ sg y h z)(e:∀s,pur y=some s→g s=(h s).bind g'):restP sg x f z g' d:=by
 obtain⟨a1,a2,a3,a4⟩:=h1;obtain⟨b1,b2,b3,b4⟩:=h2
 refine⟨b1,by omega,by omega,?_⟩
 rw[b4,←a4]
 cases hs:pur y with
 |none=>rfl
 |some s=>simp only[Option.bind_some];rw[e s hs]
theorem BT{α β:Type}{sg:List Sg}{x y:Gs}{z:β×Gs}{f g:Ps→Option (α×Ps)}{k:β→Ps→Option (α×Ps)}{h:Ps→Option (β×Ps)}{d:Int}(h1:restP sg x f y g d)(h2:BF sg y h z)
 (e:∀s,pur y=some s→g s=(h s).bind fun p=>k p.1 p.2):restP sg x f z.2 (k z.1) d:=by
 obtain⟨a1,a2,a3,a4⟩:=h1;obtain⟨b1,b2,b3,b4,b5⟩:=h2
 refine⟨b1,by omega,by omega,?_⟩
 rw[b4,←a4]
 cases hs:pur y with
 |none=>rfl
 |some s=>
  simp only[Option.bind_some];rw[e s hs]
  rw[hs] at b5
  simp only[Option.bind_some] at b5
  cases hp:h s with
  |none=>rfl
  |some p=>simp only[Option.map_some,Option.bind_some];rw[b5 p hp]
theorem Hm{α:Type}{sg:List Sg}{x y:Gs}{f:Ps→Option (α×Ps)}{a:α}(h:restP sg x f y (fun s=>some (a,s)) 0):BF sg x f (a,y):=by
 obtain⟨a1,a2,a3,a4⟩:=h
 refine⟨a1,by simp only;omega,a3,?_,?_⟩
 ·rw[←a4];cases pur y<;>rfl
 ·intro p hp;rw[←a4] at hp
  cases hs:pur y with
  |none=>rw[hs] at hp;cases hp
  |some s=>rw[hs] at hp;simp only[Option.bind_some,Option.some.injEq] at hp;rw[←hp]
theorem Qe{α:Type}{sg:List Sg}{x y:Gs}{f g:Ps→Option (α×Ps)}{a:α}(h:restP sg x f y g 0)(hb:y.bad=true):BF sg x f (a,y):=by
 obtain⟨a1,a2,a3,a4⟩:=h
 rw[Eb hb] at a4
 have hn:(pur x).bind f=none:=a4.symm
 refine⟨a1,by simp only;omega,a3,?_,fun p hp=>by rw[hn] at hp;cases hp⟩
 rw[hn,Eb hb];rfl
theorem a4l{α:Type}{sg:List Sg}{x y:Gs}{f g:Ps→Option (α×Ps)}{d:Int}(h:restP sg x f y g d)(e:∀s,pur y=some s→g s=none):(pur x).bind f=none:=by
 rw[←h.2.2.2]
 cases hs:pur y with
 |none=>rfl
 |some s=>exact e s hs
theorem a4m{α:Type}{sg:List Sg}{x y:Gs}{f g:Ps→Option (α×Ps)}{a:α}(h:restP sg x f y g 0)(e:∀s,pur y=some s→g s=none):BF sg x f (a,Bw y):=by
 have hn:=a4l h e
 refine⟨Mg h.1,by simp only[Bw];have:=h.2.1;omega,h.2.2.1,?_,fun p hp=>by rw[hn] at hp;cases hp⟩
 rw[hn,JO];rfl
theorem Mh{α:Type}{sg:List Sg}{x y:Gs}{f g g':Ps→Option (α×Ps)}{d e:Int}(h:restP sg x f y g d)(hd:0≤y.deep+e∧y.deep+e≤21)(hg:∀s,pur y=some s→g s=g' (dp s e)):restP sg x f (gDp y e) g' (d+e):=by
 obtain⟨a1,a2,a3,a4⟩:=h
 refine⟨⟨a1.1,hd,a1.2.2⟩,by simp only[gDp];omega,a3,?_⟩
 rw[←a4]
 cases hb:y.bad with
 |true=>rw[Eb hb,Eb (by simpa [gDp] using hb)];rfl
 |false=>
  rw[Dn hb,Dn (g:=gDp y e) (by simpa [gDp] using hb)]
  simp only[Option.bind_some]
  rw[hg _ (Dn hb)];rfl
theorem a4n{α:Type}{sg:List Sg}{x y:Gs}{f g g':Ps→Option (α×Ps)}{d:Int}(h:restP sg x f y g d)(hg:∀s,pur y=some s→g s=none):restP sg x f (Bw y) g' d:=by
 have hn:=a4l h hg
 refine⟨Mg h.1,h.2.1,h.2.2.1,?_⟩
 rw[JO,hn];rfl
theorem JP{sg:List Sg}{g:Gs}{s:Ps}{m:List UInt8}(hs:pur g=some s)(hm:isG sg g 4 m=true):isM sg s m=true:=Xb hm hs
theorem EX{sg:List Sg}{g:Gs}{s:Ps}{m:List UInt8}(hs:pur g=some s)(hm:isG sg g 4 m=false):isM sg s m=false:=SH hm hs
theorem EF{sg:List Sg}{g:Gs}{s:Ps}{m:List UInt8}(hs:pur g=some s)(hm:isG sg g 1 m=false):isW sg s m=false:=SH hm hs
theorem Hn{α:Type}{sg:List Sg}{x y:Gs}{f g g':Ps→Option (α×Ps)}{d:Int}{m:List UInt8}{k:Int}(h:restP sg x f y g d)(hk:k≠0)(hm:isG sg y k m=true)(hg:∀s,pur y=some s→isT sg s k m=true→g s=g' (adv s)):
 restP sg x f (An y) g' d:=by
 obtain⟨h1,h2,h3⟩:=a4i h.1 hk hm
 refine a4k h h1 fun s hs=> ?_
 have ht:=Xb hm hs
 rw[hg s hs ht,ht];rfl
theorem HU{α:Type}{sg:List Sg}{x y:Gs}{f g g':Ps→Option (α×Ps)}{d:Int}{m:List UInt8}(h:restP sg x f y g d)(hg:∀s,pur y=some s→g s=(BE sg m s).bind g'):restP sg x f (Aq sg y m) g' d:=
 a4k h (Qa h.1).1 hg
theorem b4y{α:Type}{sg:List Sg}{x:Gs}{y:α×Gs}{f:Ps→Option (α×Ps)}(h:BF sg x f y):restP sg x f y.2 (fun s=>some (y.1,s)) 0:=by
 obtain⟨a1,a2,a3,a4,a5⟩:=h
 refine⟨a1,by omega,a3,?_⟩
 cases hp:(pur x).bind f with
 |none=>rw[a4,hp];rfl
 |some p=>rw[a4,hp,a5 p hp];rfl
theorem b4z{sg:List Sg}{one:Ps→PR}{m:List UInt8}{n:Nat}{ks:List Int}{s:Ps}(h:isM sg s m=true):Bx sg one m (n+1) ks s=some (ks,s):=by rw[Bx,if_pos h]
theorem b4A{sg:List Sg}{one:Ps→PR}{m:List UInt8}{n:Nat}{ks:List Int}{s:Ps}(h:isM sg s m=false):Bx sg one m (n+1) ks s=(one s).bind fun p=>if isM sg p.2 [44] then Bx sg one m n (ks++[p.1]) (adv p.2) else some (ks++[p.1],p.2):=by
 rw[Bx,if_neg (by simp [h])]
def EG(sg:List Sg):Nat→Int→Int
 |0,i=>i
 |n+1,i=>if i+1<sg.length∧(sgO sg i).kind=1 then(if(sgO sg (i+1)).text=[44] then EG sg n (i+2) else i+1) else i
def JQ(sg:List Sg)(i k:Int)(t:List UInt8):Bool:=decide ((sgO sg i).kind=k)&&((sgO sg i).text==t)
def FQ(sg:List Sg)(i:Int):Bool:=decide (i+1<sg.length)&&(JQ sg i 4 [41]&&JQ sg (i+1) 4 [61,62])
def KG(sg:List Sg)(s:Ps):Bool:=FQ sg (EG sg (sg.length+1) (s.pos+1))
def sgM(sg:List Sg):Prop:=∀e∈sg,(e.text=[41]∨e.text=[61,62]∨e.text=[44])→e.kind=4
theorem Xd{sg:List Sg}{i:Int}(h:(sgO sg i).text≠[]∨(sgO sg i).kind≠0):i.toNat<sg.length∧sgO sg i∈sg:=by
 unfold sgO at h ⊢
 rw[List.getD_eq_getElem?_getD] at h ⊢
 cases hx:sg[i.toNat]? with
 |none=>rw[hx] at h;simp [ED] at h
 |some e=>exact⟨(List.getElem?_eq_some_iff.1 hx).1,by simpa using List.mem_of_getElem? hx⟩
theorem SL{sg:List Sg}(hm:sgM sg){i:Int}(h:(sgO sg i).text=[41]∨(sgO sg i).text=[61,62]∨(sgO sg i).text=[44]):(sgO sg i).kind=4:=by
 refine hm _ (Xd (.inl ?_)).2 h
 rcases h with h|h|h<;>rw[h]<;>simp
def a4o(sg:List Sg)(i:Int):Bool:=((sgO sg i).text==[41])&&((sgO sg (i+1)).text==[61,62])
theorem Xe{sg:List Sg}(hm:sgM sg){i:Int}(h0:0≤i):a4o sg i=FQ sg i:=by
 unfold a4o FQ JQ
 cases h1:((sgO sg i).text==[41]) with
 |false=>simp
 |true=>
  have k1:=SL hm (.inl (by simpa using h1))
  cases h2:((sgO sg (i+1)).text==[61,62]) with
  |false=>simp
  |true=>
   have k2:=SL hm (.inr (.inl (by simpa using h2)))
   have:=(Xd (sg:=sg) (i:=i+1) (.inl (by simp at h2;rw[h2];simp))).1
   simp [k1,k2];omega
theorem SM{sg:List Sg}{i:Int}(h:DG sg i=true):(sgO sg i).kind=1:=by
 simp [DG] at h;exact h.1
theorem a4p{sg:List Sg}(hm:sgM sg):∀(n:Nat) (i:Int),0≤i→FQ sg (Em sg n i)=true→FQ sg (EG sg n i)=true
 |0,i,h0,h=>by simpa [Em,EG] using h
 |n+1,i,h0,h=>by
  rw[Em] at h;rw[EG]
  cases hn:DG sg i with
  |false=>
   rw[hn] at h;simp only[Bool.false_eq_true,if_false] at h
   have h4:(sgO sg i).kind=4:=by
    simp only[FQ,JQ,Bool.and_eq_true,decide_eq_true_eq] at h;exact h.2.1.1
   rw[if_neg (by rw[h4];omega)];exact h
  |true=>
   rw[hn,if_pos rfl] at h
   have hk:=SM hn
   have hlt:i+1<sg.length:=by
    split at h
    ·rename_i ht
     have:=(Xd (sg:=sg) (i:=i+1) (.inl (by rw[ht];simp))).1;omega
    ·simp only[FQ,Bool.and_eq_true,decide_eq_true_eq] at h;omega
   rw[if_pos ⟨hlt,hk⟩]
   split at h
   ·rename_i ht;rw[if_pos ht];exact a4p hm n (i+2) (by omega) h
   ·rename_i ht;rw[if_neg ht];exact h
theorem a4q{sg:List Sg}(hm:sgM sg):∀(n:Nat) (i:Int),0≤i→FQ sg (EG sg n i)=true→FQ sg (Em sg n i)=false→∀(N:Nat) (ks:List Int) (s:Ps),s.pos=i→Bx sg (BS sg) [41] N ks s=none
 |0,i,h0,h1,h2=>by simp [Em,EG] at h1 h2;rw[h1] at h2;cases h2
 |n+1,i,h0,h1,h2=>by
  intro N ks s hs
  match N with
  |0=>rfl
  |N+1=>
  rw[EG] at h1;rw[Em] at h2
  cases hn:DG sg i with
  |false=>
   rw[hn] at h2;simp only[Bool.false_eq_true,if_false] at h2
   split at h1
   ·rename_i hh
    have hm4:isM sg s [41]=false:=by simp [isM,isT,hs,hh.2]
    rw[Bx,if_neg (by simp [hm4]),BS,hs,if_neg (by simp [hn])];rfl
   ·rw[h1] at h2;cases h2
  |true=>
   rw[hn,if_pos rfl] at h2
   have hk:=SM hn
   have hm4:isM sg s [41]=false:=by simp [isM,isT,hs,hk]
   split at h1
   ·split at h1
    ·rename_i ht;rw[if_pos ht] at h2
     have hk2:=SL hm (.inr (.inr ht))
     rw[Bx,if_neg (by simp [hm4]),BS,hs,if_pos hn,FL,Gf,Be]
     split
     ·rfl
     ·simp only[Option.map_some,Option.bind_some,adv]
      have hc:isM sg ⟨s.pos+1,s.deep,s.nodes++[⟨1,(sgO sg s.pos).text,[],false⟩]⟩ [44]=true:=by simp [isM,isT,hs,ht,hk2]
      rw[if_pos hc]
      exact a4q hm n (i+2) (by omega) h1 h2 N _ _ (by simp only;omega)
    ·rename_i ht;rw[if_neg ht] at h2;rw[h1] at h2;cases h2
   ·exfalso
    have:(sgO sg i).kind=4:=by simp only[FQ,JQ,Bool.and_eq_true,decide_eq_true_eq] at h1;exact h1.2.1.1
    omega
theorem Oa{sg:List Sg}(hm:sgM sg):∀(n:Nat) (t:NT) (s:Ps),DG sg s.pos=true→(sgO sg (s.pos+1)).text=[44]→0≤s.pos→(pE sg n t s=none∨∃p,pE sg n t s=some p∧p.2.pos=s.pos+1)
 |0,t,s,h1,h2,h0=> .inl (by cases t<;>rfl)
 |n+1,t,s,h1,h2,h0=>by
  have hk:=SL hm (.inr (.inr h2))
  have tst:∀(q:Ps) (m:List UInt8),q.pos=s.pos+1→m≠[44]→isM sg q m=false:=by
   intro q m hq hne;simp only[isM,isT,hq,h2]
   simp;intro _;exact fun e=>hne e.symm
  cases t with
  |value=>
   rw[pE]
   rcases Oa hm n .pick s h1 h2 h0 with h|⟨p,h,hp⟩
   ·left;rw[h];rfl
   ·right;refine⟨p,?_,hp⟩
    rw[h,Option.bind_some,if_neg (by simp [tst p.2 [46,46] hp (by simp)])]
  |pick=>
   rw[pE]
   split
   ·exact .inl rfl
   ·rcases Oa hm n (.chain 0) (dp s 1) h1 h2 h0 with h|⟨p,h,hp⟩
    ·left;rw[h];rfl
    ·right;refine⟨(p.1,dp p.2 (-1)),?_,hp⟩
     rw[h,Option.bind_some,if_neg (by simp [tst p.2 [63] hp (by simp)])]
  |chain l=>
   rw[pE]
   split
   ·exact Oa hm n .fin s h1 h2 h0
   ·rcases Oa hm n (.chain (l+1)) s h1 h2 h0 with h|⟨p,h,hp⟩
    ·left;rw[h];rfl
    ·right
     have hc:IA sg l p.2=[]:=by
      have:∀m∈BJ l,isM sg p.2 m=false:=by
       intro m hmm
       refine tst p.2 m hp ?_
       intro e;subst e
       unfold BJ at hmm
       split at hmm<;>simp at hmm
      rw[IA,List.find?_eq_none.2 (by intro m hmm;simp [this m hmm])];rfl
     refine⟨(p.1,p.2),?_,hp⟩
     rw[h,Option.bind_some,Gg,if_neg (by simp),if_pos hc];rfl
  |fin=>
   rw[pE]
   rcases Oa hm n .base s h1 h2 h0 with h|⟨p,h,hp⟩
   ·left;rw[h];rfl
   ·right;refine⟨p,?_,hp⟩
    rw[h,Option.bind_some,FM,if_neg (by simp [tst p.2 [40] hp (by simp)]),if_neg (by simp [tst p.2 [46] hp (by simp)])]
  |base=>
   rw[pE,if_pos (SM h1),BS,if_pos h1,FL,Gf,Be]
   split
   ·exact .inl rfl
   ·exact .inr ⟨_,rfl,rfl⟩
theorem Ob{sg:List Sg}:∀(n:Nat) (t:NT) (s:Ps),DG sg s.pos=false→(sgO sg s.pos).kind=1→pE sg n t s=none
 |0,t,s,h1,h2=>by cases t<;>rfl
 |n+1,t,s,h1,h2=>by
  cases t with
  |value=>rw[pE,Ob n .pick s h1 h2];rfl
  |pick=>rw[pE];split
         ·rfl
         ·rw[Ob n (.chain 0) (dp s 1) h1 h2];rfl
  |chain l=>rw[pE];split
            ·exact Ob n .fin s h1 h2
            ·rw[Ob n (.chain (l+1)) s h1 h2];rfl
  |fin=>rw[pE,Ob n .base s h1 h2];rfl
  |base=>rw[pE,if_pos h2,BS,if_neg (by simp [h1])]
theorem b4B{sg:List Sg}(hm:sgM sg){s:Ps}{n:Nat}{x:Nd}(h0:0≤s.pos)(h1:KG sg s=true)(h2:KF sg s=false)(k:Int→Nd):
 ((pE sg n .value (adv s)).bind fun p=>Bs sg [41] (k p.1) p.2)=none:=by
 have h2':FQ sg (Em sg (sg.length+1) (s.pos+1))=false:=by
  have hp:∀(n:Nat) (i:Int),0≤i→0≤Em sg n i:=by
   intro n
   induction n with
   |zero=>intro i hi;simpa [Em] using hi
   |succ n ih=>intro i hi;rw[Em];split
               ·split
                ·exact ih _ (by omega)
                ·omega
               ·exact hi
  rw[←Xe hm (hp _ _ (by omega))];exact h2
 unfold KG at h1
 rw[EG] at h1;rw[Em] at h2'
 cases hn:DG sg (s.pos+1) with
 |false=>
  rw[hn] at h2';simp only[Bool.false_eq_true,if_false] at h2'
  split at h1
  ·rename_i hh
   rw[Ob n .value (adv s) hn hh.2];rfl
  ·rw[h1] at h2';cases h2'
 |true=>
  rw[hn,if_pos rfl] at h2'
  split at h1
  ·split at h1
   ·rename_i ht
    rcases Oa hm n .value (adv s) hn (by simpa [adv] using ht) (by simp only[adv];omega) with h|⟨p,h,hp⟩
    ·rw[h];rfl
    ·rw[h,Option.bind_some,Bs]
     have:isM sg p.2 [41]=false:=by
      simp only[isM,isT,hp,adv]
      rw[show s.pos+1+1=s.pos+1+1 from rfl,ht];simp
     rw[if_neg (by simp [this])]
   ·rename_i ht;rw[if_neg ht] at h2';rw[h1] at h2';cases h2'
  ·exfalso
   have:(sgO sg (s.pos+1)).kind=4:=by simp only[FQ,JQ,Bool.and_eq_true,decide_eq_true_eq] at h1;exact h1.2.1.1
   have:=SM hn
   omega
end Go.My
end
