/- A part of the proof: the engine and the contracts, joined. -/
import Derived.Test.YtjmoahjpdapjkaaGreatDoorQF
import Derived.ProofKit
section
set_option linter.unusedVariables false
set_option linter.unusedSimpArgs false
namespace Go.My
open Go.Eng Go.Proofs
variable {G:GInv}
def sdp(ns:List Nd)(i:Nat)(ds:List Int):Int:=
 if Ch ns i=true∧(i=0∨ds.getD (i-1) 0≠0) then(if 14≤mx ds (Ag ns i).kids 0 then 0 else mx ds (Ag ns i).kids 0+1) else 0
def sds(ns:List Nd):Nat→List Int
 |0=>[]
 |n+1=>sds ns n++[sdp ns n (sds ns n)]
theorem Hn{ns:List Nd}:∀ {n:Nat},(sds ns n).length=n
 |0=>rfl
 |n+1=>by rw[sds,List.length_append,Hn];rfl
theorem YE{ns:List Nd}:∀ {n:Nat},(match Du ns n with|some ds=>sds ns n=ds|none=>0<n∧(sds ns n).getD (n-1) 0=0)
 |0=>by simp [Du,sds]
 |n+1=>by
  have ih:= @YE ns n
  unfold Du
  cases hd:Du ns n with
  |none=>
   rw[hd] at ih
   simp only
   refine⟨by omega,?_⟩
   have hz:sdp ns n (sds ns n)=0:=by
    unfold sdp;rw[if_neg];rintro⟨_,h|h⟩
    ·omega
    ·exact h ih.2
   rw[sds,hz,List.getD,List.getElem?_append_right (by rw[Hn];omega),Hn];simp
  |some ds=>
   rw[hd] at ih
   simp only at ih ⊢
   by_cases hn:Ch ns n=true
   ·rw[if_pos hn]
    have hprev:n=0∨(sds ns n).getD (n-1) 0≠0:=by
     by_cases e:n=0
     ·exact .inl e
     ·right
      rw[ih,List.getD]
      have hl:=No hd
      have:ds[n-1]? =some ds[n-1]:=by simp
      rw[this];have:=SQ hd ds[n-1] (by simp);simp;omega
    have hs:sdp ns n (sds ns n)=if 14≤mx ds (Ag ns n).kids 0 then 0 else mx ds (Ag ns n).kids 0+1:=by
     unfold sdp;rw[if_pos ⟨hn,hprev⟩,ih]
    by_cases hm:14≤mx ds (Ag ns n).kids 0
    ·rw[if_pos hm];simp only
     refine⟨by omega,?_⟩
     rw[sds,hs,if_pos hm,List.getD,List.getElem?_append_right (by rw[Hn];omega),Hn];simp
    ·rw[if_neg hm];simp only
     rw[sds,hs,if_neg hm,ih]
   ·rw[if_neg hn];simp only
    refine⟨by omega,?_⟩
    have hz:sdp ns n (sds ns n)=0:=by unfold sdp;rw[if_neg (fun h=>hn h.1)]
    rw[sds,hz,List.getD,List.getElem?_append_right (by rw[Hn];omega),Hn];simp
theorem a6W{ns:List Nd}{k:Int}{v:Int}(h:BO ns k=true)(hv:(sds ns (k.toNat+1))[k.toNat]? =some v):v=Bi ns k:=by
 have ih:= @YE ns (k.toNat+1)
 unfold Bi;rw[if_pos h]
 cases hd:Du ns (k.toNat+1) with
 |none=>rw[hd] at ih;simp only at ih ⊢;have:=ih.2;rw[List.getD] at this;simp [hv] at this;exact this
 |some ds=>rw[hd] at ih;simp only at ih ⊢;rw[←ih,List.getD,hv];rfl
theorem Tp{ns:List Nd}:∀ {n:Nat},∀d∈sds ns n,0≤d∧d≤14
 |0,d,h=>by simp [sds] at h
 |n+1,d,h=>by
  rw[sds] at h
  rcases List.mem_append.1 h with h|h
  ·exact Tp d h
  ·simp at h;subst h
   have:=SP (sds ns n) (Ag ns n).kids 0
   unfold sdp;split
   ·split<;>omega
   ·omega
def okB(ns:List Nd)(i:Int):Bool:=Ch ns i&&(decide (i=0)|| !decide ((sds ns i.toNat).getD (i.toNat-1) 0=0))
theorem YF{ns:List Nd}{i:Int}(h:0≤i):sdp ns i.toNat (sds ns i.toNat)=if okB ns i then(if 14≤mx (sds ns i.toNat) (Ag ns i).kids 0 then 0 else mx (sds ns i.toNat) (Ag ns i).kids 0+1) else 0:=by
 have e:((i.toNat:Nat):Int)=i:=by omega
 unfold sdp;rw[e]
 have hb:okB ns i=true↔Ch ns i=true∧(i.toNat=0∨(sds ns i.toNat).getD (i.toNat-1) 0≠0):=by
  unfold okB
  simp only[Bool.and_eq_true,Bool.or_eq_true,decide_eq_true_eq,Bool.not_eq_true',decide_eq_false_iff_not]
  constructor
  ·rintro⟨h1,h2⟩;exact⟨h1,h2.imp (fun h=>by omega) id⟩
  ·rintro⟨h1,h2⟩;exact⟨h1,h2.imp (fun h=>by omega) id⟩
 by_cases h1:okB ns i=true
 ·rw[if_pos h1,if_pos (hb.1 h1)]
 ·rw[if_neg h1,if_neg (fun h2=>h1 (hb.2 h2))]
def eI(ns:List Nd)(i j d:Int):Prop:=(okB ns i=true→j≤(Ag ns i).kids.length∧1≤d∧d≤15∧mx (sds ns i.toNat) ((Ag ns i).kids.drop j.toNat) (d-1)=mx (sds ns i.toNat) (Ag ns i).kids 0)∧0≤j∧(okB ns i=false→d=0)
theorem a6X{ns:List Nd}{i:Int}:eI ns i 0 (if okB ns i then 1 else 0):=by
 refine⟨fun h=> ?_,by omega,fun h=> ?_⟩
 ·rw[if_pos h];refine⟨by omega,by omega,by omega,by simp⟩
 ·rw[h];rfl
theorem PA{ns:List Nd}{i j d:Int}(h:eI ns i j d)(hd:d>0):okB ns i=true:=by
 cases hb:okB ns i
 ·have:=h.2.2 hb;omega
 ·rfl
theorem YG{ns:List Nd}{i:Int}(h:okB ns i=true):Ch ns i=true:=by
 simp only[okB,Bool.and_eq_true] at h;exact h.1
theorem a6Y{ns:List Nd}{i j d c:Int}{y:Nd}(h:eI ns i j d)(hd:d>0)(hy:ns[i.toNat]? =some y)(hc:y.kids[j.toNat]? =some c):0≤c∧c<i:=by
 have:=(HU (YG (PA h hd))).2.2.2.1
 rw[BH hy] at this;exact this c (Dl hc)
theorem a6Z{ns:List Nd}{i j d:Int}{y:Nd}(h:eI ns i j d)(hd:d>0)(hy:ns[i.toNat]? =some y):y.kids.length≤12:=by
 have:=(HU (YG (PA h hd))).2.1
 rwa [BH hy] at this
theorem a7a{ns:List Nd}{i j d c v d':Int}{y:Nd}(h:eI ns i j d)(hd:d>0)(hy:ns[i.toNat]? =some y)(hc:y.kids[j.toNat]? =some c)(hv:(sds ns i.toNat)[c.toNat]? =some v)(hd':d'-1=max (d-1) v):eI ns i (j+1) d':=by
 have hb:=PA h hd
 obtain⟨h1,h2,h3,h4⟩:=h.1 hb
 have h0:=h.2.1
 have hr:=Tp v (Dl hv)
 rw[BH hy] at h4 h1
 have:=(DS hc).1
 refine⟨fun _=> ?_,by omega,fun hh=>by rw[hb] at hh;cases hh⟩
 rw[BH hy]
 refine⟨by omega,by omega,by omega,?_⟩
 rw[←h4,Js hc,Db h0,mx,List.getD,hv,Option.getD_some,hd']
theorem a7b{ns:List Nd}{i:Int}{c:Nat}{v:Int}(hv:(sds ns i.toNat)[c]? =some v):0≤v∧v≤14:=Tp v (Dl hv)
theorem a7c{ns:List Nd}{i j d:Int}{y:Nd}(hi:0≤i)(h:eI ns i j d)(hd:d>0)(hy:ns[i.toNat]? =some y)(hl:¬j<y.kids.length):sds ns i.toNat++[if d>14 then 0 else d]=sds ns (i+1).toNat:=by
 have hb:=PA h hd
 obtain⟨h1,h2,h3,h4⟩:=h.1 hb
 rw[BH hy,List.drop_eq_nil_of_le (by omega),mx] at h4
 rw[Db hi,sds,YF hi,if_pos hb,BH hy,←h4]
 congr 2
 by_cases h5:d>14
 ·rw[if_pos h5,if_pos (by omega)]
 ·rw[if_neg h5,if_neg (by omega)];omega
theorem a7d{ns:List Nd}{i j d:Int}(hi:0≤i)(h:eI ns i j d)(hd:¬d>0):sds ns i.toNat++[d]=sds ns (i+1).toNat:=by
 have hb:okB ns i=false:=by
  cases hb:okB ns i
  ·rfl
  ·have:=(h.1 hb).2.1;omega
 rw[Db hi,sds,YF hi,hb,h.2.2 hb];rfl
theorem a7e{ns:List Nd}{i:Int}(h:Ch ns i=false):0=if okB ns i=true then(1:Int) else 0:=by simp [okB,h]
theorem a7f{ns:List Nd}{i v:Int}(h:i>0)(hv:(sds ns i.toNat)[(i-1).toNat]? =some v)(h0:v=0):0=if okB ns i=true then(1:Int) else 0:=by
 have e:(i-1).toNat=i.toNat-1:=by omega
 rw[e] at hv;subst h0
 have:(sds ns i.toNat).getD (i.toNat-1) 0=0:=by rw[List.getD,hv];rfl
 simp only[okB,this,decide_true,Bool.not_true,Bool.or_false]
 rw[decide_eq_false (by omega)];simp
theorem a7g{ns:List Nd}{i:Int}(h:Ch ns i=true)(h0:0≤i)(h1:¬i>0):1=if okB ns i=true then(1:Int) else 0:=by
 obtain rfl:i=0:=by omega
 simp [okB,h]
theorem a7h{ns:List Nd}{i v:Int}(h:Ch ns i=true)(h0:i>0)(hv:(sds ns i.toNat)[(i-1).toNat]? =some v)(h1:v≠0):1=if okB ns i=true then(1:Int) else 0:=by
 have e:(i-1).toNat=i.toNat-1:=by omega
 rw[e] at hv
 have:(sds ns i.toNat).getD (i.toNat-1) 0≠0:=by rw[List.getD,hv];exact h1
 simp only[okB,h,this,decide_false,Bool.not_false,Bool.or_true,Bool.and_true,if_true]
def Nw(x:List Nd×Int)(o:Int):LS:= {
 ι:=Int×Int,inv:=fun i=>eI x.1 o i.1 i.2,
 regs:=fun i=>[(0,nds x.1),(1,.int .i64 x.2),(5,Ad (sds x.1 o.toNat)),(6,.int .i64 o),(7,.int .i64 i.2),(8,.int .i64 i.1)],als:=[],meas:=fun i=>(Ag x.1 o).kids.length-i.1.toNat}
def Md(x:List Nd×Int)(o:Int):LS:= {
 ι:=Unit,inv:=fun _=>True,
 regs:=fun i=>[(0,nds x.1),(1,.int .i64 x.2),(5,Ad (sds x.1 o.toNat)),(6,.int .i64 o),(7,.int .i64 (if okB x.1 o then 1 else 0))],als:=[],meas:=fun i=>0}
def lDs(x:List Nd×Int):LS:= {
 ι:=Int,inv:=fun i=>0≤i∧i≤x.2+1,
 regs:=fun i=>[(0,nds x.1),(1,.int .i64 x.2),(5,Ad (sds x.1 i.toNat)),(6,.int .i64 i)],als:=[],meas:=fun i=>(x.2+1-i).toNat,sub:=fun i=>[(9,Nw x i),(200008,Md x i)]}
def KL:Sig:= {X:=List Nd×Int,args:=fun x=>[nds x.1,.int .i64 x.2],pre:=fun x=>Cy x.1∧x.1.length≤2^30∧BO x.1 x.2=true,Y:=Unit,post:=fun x y=>True,res:=fun x y=>Ad (sds x.1 (x.2.toNat+1)),outs:=fun x y=>[.top,.top],keep:=false}
theorem a7i:Aq G Tryz.prog 54 KL:=
 vcFun_okP [(95,0,EI)] [(45,⟨Int,Ba⟩)] false (fun x=>[(3,lDs x)]) Tryz.func54 rfl (by decide) ⟨a6V,trivial⟩ (fun(x:List Nd×Int)=>(∀(y:Unit),True→(∀(x:Int),True∧True)∧True∧True∧True)∧eA (lDs x) [nds x.1,.int .i64 x.2,Ad [],.int .i64 (0:Int)]∧∀(i:Int),(0:Int)≤i∧i≤x.2+(1:Int)→Aa (decide (i≤x.2)) (Aa (decide (i<(↑(List.length x.1):Int))) ((cA EI [nds x.1,.int .i64 i] fun x_1 y=>Aa (!Ch x_1.1 x_1.2) (eA (Md x i) [nds x.1,.int .i64 x.2,Ad (sds x.1 (Int.toNat i)),.int .i64 i,.int .i64 (0:Int)]) (Aa (decide (i>(0:Int))) (inR IntKind.i64 (i-(1:Int))∧((0:Int)≤i-(1:Int)∧i-(1:Int)<(↑(List.length (sds x.1 (Int.toNat i))):Int))∧Int.toNat (i-(1:Int))<List.length (sds x.1 (Int.toNat i))∧∀(x_2:Int),(sds x.1 (Int.toNat i))[Int.toNat (i-(1:Int))]? =some x_2→Aa (x_2==(0:Int)) (eA (Md x i) [nds x.1,.int .i64 x.2,Ad (sds x.1 (Int.toNat i)),.int .i64 i,.int .i64 (0:Int)]) (eA (Md x i) [nds x.1,.int .i64 x.2,Ad (sds x.1 (Int.toNat i)),.int .i64 i,.int .i64 (1:Int)])) (eA (Md x i) [nds x.1,.int .i64 x.2,Ad (sds x.1 (Int.toNat i)),.int .i64 i,.int .i64 (1:Int)])))∧∀(i_1:Unit),True→eA (Nw x i) [nds x.1,.int .i64 x.2,Ad (sds x.1 (Int.toNat i)),.int .i64 i,.int .i64 (if okB x.1 i=true then(1:Int) else(0:Int)),.int .i64 (0:Int)]∧∀(i_2:Int×Int),eI x.1 i i_2.1 i_2.2→Aa (decide (i_2.2>(0:Int))) (((0:Int)≤i∧i<(↑(List.length x.1):Int))∧∀(e:Nd),x.1[Int.toNat i]? =some e→Aa (decide (i_2.1<(↑(List.length e.kids):Int))) (((0:Int)≤i∧i<(↑(List.length x.1):Int))∧∀(e:Nd),x.1[Int.toNat i]? =some e→((0:Int)≤i_2.1∧i_2.1<(↑(List.length e.kids):Int))∧∀(e_1:Int),e.kids[Int.toNat i_2.1]? =some e_1→((0:Int)≤e_1∧e_1<(↑(List.length (sds x.1 (Int.toNat i))):Int))∧Int.toNat e_1<List.length (sds x.1 (Int.toNat i))∧∀(x_1:Int),(sds x.1 (Int.toNat i))[Int.toNat e_1]? =some x_1→inR IntKind.i64 (x_1+(1:Int))∧Aa (decide (x_1+(1:Int)>i_2.2)) (((0:Int)≤i∧i<(↑(List.length x.1):Int))∧∀(e:Nd),x.1[Int.toNat i]? =some e→((0:Int)≤i_2.1∧i_2.1<(↑(List.length e.kids):Int))∧∀(e_2:Int),e.kids[Int.toNat i_2.1]? =some e_2→((0:Int)≤e_2∧e_2<(↑(List.length (sds x.1 (Int.toNat i))):Int))∧Int.toNat e_2<List.length (sds x.1 (Int.toNat i))∧∀(x_2:Int),(sds x.1 (Int.toNat i))[Int.toNat e_2]? =some x_2→inR IntKind.i64 (x_2+(1:Int))∧inR IntKind.i64 (i_2.1+(1:Int))∧eN (Nw x i) i_2 [nds x.1,.int .i64 x.2,Ad (sds x.1 (Int.toNat i)),.int .i64 i,.int .i64 (x_2+(1:Int)),.int .i64 (i_2.1+(1:Int))]) (inR IntKind.i64 (i_2.1+(1:Int))∧eN (Nw x i) i_2 [nds x.1,.int .i64 x.2,Ad (sds x.1 (Int.toNat i)),.int .i64 i,.int .i64 i_2.2,.int .i64 (i_2.1+(1:Int))])) (Aa (decide (i_2.2>(14:Int))) (∃(x_1:Int),(0:Int)=x_1∧∃(zs:List Int),Ad [x_1]=Ad zs∧Bt Ba∧AW (List.length (sds x.1 (Int.toNat i))+List.length zs) (8:Nat)∧inR IntKind.i64 (i+(1:Int))∧eN (lDs x) i [nds x.1,.int .i64 x.2,Ad (sds x.1 (Int.toNat i)++zs),.int .i64 (i+(1:Int))]) (∃(x_1:Int),i_2.2=x_1∧∃(zs:List Int),Ad [x_1]=Ad zs∧Bt Ba∧AW (List.length (sds x.1 (Int.toNat i))+List.length zs) (8:Nat)∧inR IntKind.i64 (i+(1:Int))∧eN (lDs x) i [nds x.1,.int .i64 x.2,Ad (sds x.1 (Int.toNat i)++zs),.int .i64 (i+(1:Int))]))) (Aa (decide (i_2.2>(14:Int))) (∃(x_1:Int),(0:Int)=x_1∧∃(zs:List Int),Ad [x_1]=Ad zs∧Bt Ba∧AW (List.length (sds x.1 (Int.toNat i))+List.length zs) (8:Nat)∧inR IntKind.i64 (i+(1:Int))∧eN (lDs x) i [nds x.1,.int .i64 x.2,Ad (sds x.1 (Int.toNat i)++zs),.int .i64 (i+(1:Int))]) (∃(x_1:Int),i_2.2=x_1∧∃(zs:List Int),Ad [x_1]=Ad zs∧Bt Ba∧AW (List.length (sds x.1 (Int.toNat i))+List.length zs) (8:Nat)∧inR IntKind.i64 (i+(1:Int))∧eN (lDs x) i [nds x.1,.int .i64 x.2,Ad (sds x.1 (Int.toNat i)++zs),.int .i64 (i+(1:Int))]))) (rA KL x [Ad (sds x.1 (Int.toNat i)),.top,.top])) (rA KL x [Ad (sds x.1 (Int.toNat i)),.top,.top])) (fun x=>by kernel_rfl) fun(x:List Nd×Int) (hx:Cy x.1∧x.1.length≤2^30∧BO x.1 x.2=true)=>(by
 dsimp only[cA,eA,eN,lDs,Nw,Md,Bf,nds,Ad,rA,KL,EI,Av,Az,mvL,lnL,mvE,lnE,BA]
 obtain⟨h1,h2,h3⟩:=hx;have hl:=h1.1;have hn:=Dv.1 h3
 (repeat' first|(with_reducible first|rfl|exact True.intro|apply AK|apply And.intro|((first|apply AA|apply AI|apply AB|apply AJ)<;>intro _))|(apply Ax<;>intro _)|apply AH|refine Af () ?_ ?_|((first|apply AO|apply AN|apply AM|apply AL|apply AG|apply AF|apply AE|apply AD|apply AC)<;>try dsimp only)|apply Af|(refine Prod.forall.2 ?_;intro _;try dsimp only)|(intro _;try dsimp only))
 all_goals first
  |rfl
  |omega
  |exact a7e ‹_›
  |exact a7f ‹_› ‹_› ‹_›
  |exact a7g ‹_› (by omega) ‹_›
  |exact a7h ‹_› ‹_› ‹_› ‹_›
  |exact a6X
  |(rw[Hn];omega)
  |skip
 all_goals try(repeat(rename x.1[Int.toNat _]? =some _=>hq;revert hq;rename x.1[Int.toNat _]? =some _=>hr;intro hq;rw[hr] at hq;cases hq))
 all_goals try(repeat(rename(Nd.kids _)[Int.toNat _]? =some _=>hq;revert hq;rename(Nd.kids _)[Int.toNat _]? =some _=>hr;intro hq;rw[hr] at hq;cases hq))
 all_goals try(rename(sds x.1 _)[Int.toNat _]? =some _=>hq;revert hq;rename(sds x.1 _)[Int.toNat _]? =some _=>hr2;intro hq;have hqq:=hr2.symm.trans hq;simp only[Option.some.injEq] at hqq;subst hqq)
 all_goals try(have hke:=a6Y ‹_› ‹_› ‹_› ‹_›)
 all_goals try(have hle:=a6Z ‹_› ‹_› ‹_›)
 all_goals try(have hve:=a7b ‹_›)
 all_goals try(have hse:=(show eI _ _ _ _ by assumption).2.1)
 all_goals first
  |omega
  |(rw[Hn];omega)
  |((try simp only[AR]);omega)
  |exact a7a ‹_› ‹_› ‹_› ‹_› ‹_› (by omega)
  |(rw[←a7c (by omega) ‹_› ‹_› ‹_› ‹_›];simp [*];done)
  |exact a7d (by omega) ‹_› ‹_›
  |(rw[BH ‹_›];omega)
  |(congr 1;omega)
  |(simp only[AW,Hn,List.length_cons,List.length_nil];omega)
  |skip)
def Gi:Sig:= {X:=List Nd×Int,args:=fun x=>[nds x.1,.int .i64 x.2],pre:=fun x=>Cy x.1∧x.1.length≤2^30,Y:=Unit,post:=fun x y=>True,res:=fun x y=> .int .i64 (Bi x.1 x.2),outs:=fun x y=>[.top,.top],keep:=false}
theorem YH:Aq G Tryz.prog 30 Gi:=
 vcFun_okP [(53,0,CQ),(54,0,KL)] [] false (fun x=>[]) Tryz.func30 rfl (by decide) ⟨Kl,a7i,trivial⟩ (fun(x:List Nd×Int)=>(∀(y:Unit),True→True∧True∧True∧True)∧inR IntKind.i64 ((↑(List.length x.1):Int)-(1:Int))∧cA CQ [.int .i64 x.2,.int .i64 (0:Int),.int .i64 ((↑(List.length x.1):Int)-(1:Int))] fun x_1 y=>Aa (!inn x_1.1 x_1.2.1 x_1.2.2) (rA Gi x [.int .i64 (0:Int),.top,.top]) (cA KL [nds x.1,.int .i64 x.2] fun x_2 y=>((0:Int)≤x.2∧x.2<(↑(List.length (sds x_2.1 (Int.toNat x_2.2+(1:Nat)))):Int))∧Int.toNat x.2<List.length (sds x_2.1 (Int.toNat x_2.2+(1:Nat)))∧∀(x_3:Int),(sds x_2.1 (Int.toNat x_2.2+(1:Nat)))[Int.toNat x.2]? =some x_3→rA Gi x [.int .i64 x_3,.top,.top])) (fun x=>by kernel_rfl) fun(x:List Nd×Int) (hx:Cy x.1∧x.1.length≤2^30)=>(by
 dsimp only[cA,Bf,nds,Ad,rA,CQ,KL,Gi,Av,Az,mvL,lnL,mvE,lnE]
 obtain⟨h1,h2⟩:=hx;have hl:=h1.1
 (repeat' first|(with_reducible first|rfl|exact True.intro|apply AK|apply And.intro|((first|apply AA|apply AI|apply AB|apply AJ)<;>intro _))|(apply Ax<;>intro _)|apply AH|refine Af () ?_ ?_|((first|apply AO|apply AN|apply AM|apply AL|apply AG|apply AF|apply AE|apply AD|apply AC)<;>try dsimp only)|apply Af|(refine Prod.forall.2 ?_;intro _;try dsimp only)|(intro _;try dsimp only))
 all_goals first
  |exact h1
  |exact h2
  |((try simp only[AR]);omega)
  |(rw[Iy] at*;exact Yf ‹_›)
  |(have hh:=(show inn x.2 0 (x.1.length-1)=true by assumption);rw[Iy] at hh;have:=Dv.1 hh;first|exact hh|omega|exact a6W hh ‹_› |(rw[Hn];omega))
  |skip)
theorem YI{ns:List Nd}{i v:Int}(hv:(cnt ns.length (Cl ns))[i.toNat]? =some v)(h0:0≤i):((Cl ns).count i:Int)=v:=by
 have h:i.toNat<ns.length:=by have:=(DS hv).1;rwa [Gh] at this
 rw[KJ h] at hv
 have e2:((i.toNat:Nat):Int)=i:=by omega
 rw[e2] at hv;exact Option.some.inj hv
theorem a7j{ns:List Nd}{i v:Int}(h:tE ns i)(hl:i+1<(ns.length:Int))(hv:(cnt ns.length (Cl ns))[i.toNat]? =some v)(h1:v=1):tE ns (i+1):=by
 have:=YI hv h.1
 refine⟨by have:=h.1;omega,by omega,fun c hc=> ?_⟩
 by_cases e:(c:Int)<i
 ·exact h.2.2 c e
 ·have:=h.1
  obtain rfl:i=(c:Int):=by omega
  omega
theorem Tq{ns:List Nd}{i j c:Int}{y:Nd}(h:tI ns)(hy:ns[i.toNat]? =some y)(hc:y.kids[j.toNat]? =some c):0≤c∧c<ns.length:=(Ns h hy).2 c (Dl hc)
theorem a7k{ns:List Nd}{i:Int}{y:Nd}(h:tI ns)(hy:ns[i.toNat]? =some y):y.kids.length≤12:=(Ns h hy).1
theorem a7l{ns:List Nd}{i j c:Int}{y:Nd}(h0:0≤j)(hy:ns[i.toNat]? =some y)(hc:y.kids[j.toNat]? =some c):tk ns i (j+1)=tk ns i j++[c]:=Yk h0 (by rw[BH hy];exact hc)
theorem a7m{ns:List Nd}{i j:Int}{y:Nd}(h0:0≤i)(hy:ns[i.toNat]? =some y)(hl:¬j<y.kids.length):tk ns i j=Cl (ns.take (i+1).toNat):=Yl h0 hy (by rw[BH hy];exact hl)
def PB(x:List Nd)(o:Int):LS:= {
 ι:=Int,inv:=fun j=>0≤j∧j≤(Ag x o).kids.length,
 regs:=fun j=>[(0,nds x),(3,.int .i64 x.length),(4,Ad (cnt x.length (tk x o j))),(5,.int .i64 o),(6,.int .i64 j)],als:=[],meas:=fun j=>(Ag x o).kids.length-j.toNat}
def PC(x:List Nd):LS:= {
 ι:=Int,inv:=fun i=>0≤i∧i≤x.length,
 regs:=fun i=>[(0,nds x),(3,.int .i64 x.length),(4,Ad (cnt x.length (Cl (x.take i.toNat)))),(5,.int .i64 i)],als:=[],meas:=fun i=>x.length-i.toNat,
 sub:=fun i=>[(9,PB x i)]}
def PD(x:List Nd):LS:= {
 ι:=Int,inv:=tE x,
 regs:=fun i=>[(3,.int .i64 x.length),(4,Ad (cnt x.length (Cl x))),(7,.int .i64 i)],als:=[],meas:=fun i=>x.length-i.toNat}
def Ho:Sig:= {X:=List Nd,args:=fun x=>[nds x],pre:=fun x=>Cy x∧x.length≤2^30,Y:=Unit,post:=fun x y=>True,res:=fun x y=> .bool (Dn x),outs:=fun x y=>[.top],keep:=false}
theorem a7n:Aq G Tryz.prog 44 Ho:=
 vcFun_okP [(53,0,CQ),(30,0,Gi)] [(45,⟨Int,Ba⟩)] false (fun x=>[(6,PC x),(13,PD x)]) Tryz.func44 rfl (by decide) ⟨Kl,YH,trivial⟩ (fun(x:List Nd)=>(∀(y:Unit),True→True∧True∧True)∧cA CQ [.int .i64 (↑(List.length x):Int),.int .i64 (1:Int),.int .i64 (300:Int)] fun x_1 y=>Aa (!inn x_1.1 x_1.2.1 x_1.2.2) (rA Ho x [.bool false,.top]) (inR IntKind.i64 ((↑(List.length x):Int)-(1:Int))∧((0:Int)≤(↑(List.length x):Int)-(1:Int)∧(↑(List.length x):Int)-(1:Int)<(↑(List.length x):Int))∧∀(e:Nd),x[Int.toNat ((↑(List.length x):Int)-(1:Int))]? =some e→Aa (e.kind != (22:Int)) (rA Ho x [.bool false,.top]) (inR IntKind.i64 ((↑(List.length x):Int)-(1:Int))∧cA Gi [nds x,.int .i64 ((↑(List.length x):Int)-(1:Int))] fun x_2 y=>Aa (Bi x_2.1 x_2.2==(0:Int)) (rA Ho x [.bool false,.top]) (((0:Int)≤(↑(List.length x):Int)∧(↑(List.length x):Int)≤(↑(List.length x):Int)∧(↑(8:Nat):Int)*(↑(List.length x):Int)≤(2:Int)^(46:Nat)∧(↑(List.length x):Int)≤(2:Int)^(46:Nat))∧∃(x_3:Int),(0:Int)=x_3∧eA (PC x) [nds x,.int .i64 (↑(List.length x):Int),Ad (List.replicate (Int.toNat (↑(List.length x):Int)) x_3),.int .i64 (0:Int)]∧∀(i:Int),(0:Int)≤i∧i≤(↑(List.length x):Int)→Aa (decide (i<(↑(List.length x):Int))) (eA (PB x i) [nds x,.int .i64 (↑(List.length x):Int),Ad (cnt (List.length x) (Cl (List.take (Int.toNat i) x))),.int .i64 i,.int .i64 (0:Int)]∧∀(i_1:Int),(0:Int)≤i_1∧i_1≤(↑(List.length (Ag x i).kids):Int)→((0:Int)≤i∧i<(↑(List.length x):Int))∧∀(e:Nd),x[Int.toNat i]? =some e→Aa (decide (i_1<(↑(List.length e.kids):Int))) (((0:Int)≤i∧i<(↑(List.length x):Int))∧∀(e:Nd),x[Int.toNat i]? =some e→((0:Int)≤i_1∧i_1<(↑(List.length e.kids):Int))∧∀(e_1:Int),e.kids[Int.toNat i_1]? =some e_1→((0:Int)≤e_1∧e_1<(↑(List.length (cnt (List.length x) (tk x i i_1))):Int))∧Int.toNat e_1<List.length (cnt (List.length x) (tk x i i_1))∧∀(x_4:Int),(cnt (List.length x) (tk x i i_1))[Int.toNat e_1]? =some x_4→inR IntKind.i64 (x_4+(1:Int))∧((0:Int)≤e_1∧e_1<(↑(List.length (cnt (List.length x) (tk x i i_1))):Int))∧Int.toNat e_1<List.length (cnt (List.length x) (tk x i i_1))∧∀(x_5:Int),(cnt (List.length x) (tk x i i_1))[Int.toNat e_1]? =some x_5→∃(x':Int),((@List.nil AV)=[]∧(@List.nil AV)=[])∧x_4+(1:Int)=x'∧inR IntKind.i64 (i_1+(1:Int))∧eN (PB x i) i_1 [nds x,.int .i64 (↑(List.length x):Int),Ad (List.set (cnt (List.length x) (tk x i i_1)) (Int.toNat e_1) x'),.int .i64 i,.int .i64 (i_1+(1:Int))]) (inR IntKind.i64 (i+(1:Int))∧eN (PC x) i [nds x,.int .i64 (↑(List.length x):Int),Ad (cnt (List.length x) (tk x i i_1)),.int .i64 (i+(1:Int))])) (eA (PD x) [.int .i64 (↑(List.length x):Int),Ad (cnt (List.length x) (Cl (List.take (Int.toNat i) x))),.int .i64 (0:Int)]∧∀(i:Int),tE x i→inR IntKind.i64 (i+(1:Int))∧Aa (decide (i+(1:Int)<(↑(List.length x):Int))) (((0:Int)≤i∧i<(↑(List.length (cnt (List.length x) (Cl x))):Int))∧Int.toNat i<List.length (cnt (List.length x) (Cl x))∧∀(x_4:Int),(cnt (List.length x) (Cl x))[Int.toNat i]? =some x_4→Aa (x_4 != (1:Int)) (rA Ho x [.bool false,.top]) (inR IntKind.i64 (i+(1:Int))∧eN (PD x) i [.int .i64 (↑(List.length x):Int),Ad (cnt (List.length x) (Cl x)),.int .i64 (i+(1:Int))])) (rA Ho x [.bool true,.top])))))) (fun x=>by kernel_rfl) fun(x:List Nd) (hx:Cy x∧x.length≤2^30)=>(by
 dsimp only[cA,eA,eN,PC,PB,PD,Bf,nds,Ad,rA,CQ,Gi,Ho,Av,Az,mvL,lnL,mvE,lnE,BA]
 obtain⟨h1,h2⟩:=hx;have hl:=h1.1
 (repeat' first|(with_reducible first|rfl|exact True.intro|apply AK|apply And.intro|((first|apply AA|apply AI|apply AB|apply AJ)<;>intro _))|(apply Ax<;>intro _)|apply AH|refine Af () ?_ ?_|((first|apply AO|apply AN|apply AM|apply AL|apply AG|apply AF|apply AE|apply AD|apply AC)<;>try dsimp only)|apply Af|(refine Prod.forall.2 ?_;intro _;try dsimp only)|(intro _;try dsimp only))
 all_goals try(have t1:=Jx.1 (show inn x.length 1 300=true by assumption))
 all_goals try(have t0:=Yr ‹_› ‹_› ‹_› ‹_›)
 all_goals try(repeat(rename x[Int.toNat _]? =some _=>hq;revert hq;rename x[Int.toNat _]? =some _=>hr;intro hq;rw[hr] at hq;cases hq))
 all_goals try(repeat(rename(Nd.kids _)[Int.toNat _]? =some _=>hq;revert hq;rename(Nd.kids _)[Int.toNat _]? =some _=>hr;intro hq;rw[hr] at hq;cases hq))
 all_goals try(simp only[BH (show x[Int.toNat _]? =some _ by assumption)] at*)
 all_goals first
  |rfl
  |exact Mb (Ys ‹_›)
  |exact Mb (Yt ‹_› ‹_›)
  |exact Mb (fun h=>h.2.2.2 ‹_›)
  |exact Yh
  |(rw[Yj];done)
  |(have:=Tq ‹_› ‹_› (show(Nd.kids _)[Int.toNat _]? =some _ by assumption);(try rw[Gh]);omega)
  |(rw[a7l (by omega) ‹_› ‹_›];exact Yi (Tq ‹_› ‹_› ‹_›).1 (Tq ‹_› ‹_› ‹_›).2 ‹_›)
  |(rw[a7m (by omega) ‹_› ‹_›];done)
  |(rw[Yu ‹_›];done)
  |(have:=Yq ‹_› ‹_› ‹_›;omega)
  |exact Yn ‹_› ‹_› (by omega)
  |exact Yo (YI ‹_› (‹tE _ _›.1)) (‹tE _ _›.1) (by omega) ‹_›
  |exact a7j ‹_› ‹_› ‹_› ‹_›
  |exact⟨by omega,by omega,fun c hc=>by omega⟩
  |((try simp only[AR,AW,List.length_replicate,Gh] at*);omega)
  |(have:=a7k ‹_› ‹_›;(try simp only[AR] at*);omega)
  |(have hte:=(show tE x _ by assumption);have:=hte.1;have:=hte.2.1;(try rw[Gh]);(try simp only[AR] at*);omega)
  |skip)
end Go.My
end
section
set_option linter.unusedVariables false
set_option linter.unusedSimpArgs false
namespace Go.My
open Go.Eng
def Iz(ns:List Nd)(k:Int):Prop:=BO ns k=true∧∀i:Nat,(i:Int)≤k→Ch ns i=true
theorem a7o{ns:List Nd}{k:Int}(h:Bi ns k≠0):Iz ns k:=⟨(SR h).1,(SR h).2.2⟩
theorem Nx{ns:List Nd}{k:Int}(h:Iz ns k):Ch ns k=true:=by
 have:=Dv.1 h.1
 have h2:=h.2 k.toNat (by omega)
 rwa [show((k.toNat:Nat):Int)=k by omega] at h2
theorem YJ{ns:List Nd}{k c:Int}(h:Iz ns k)(hc:c∈(Ag ns k).kids):Iz ns c∧0≤c∧c<k:=by
 have h1:=(HU (Nx h)).2.2.2.1 c hc
 have h2:=Dv.1 h.1
 exact⟨⟨Dv.2 (by omega),fun i hi=>h.2 i (by omega)⟩,h1⟩
end Go.My
end
section
set_option linter.unusedVariables false
set_option linter.unusedSimpArgs false
namespace Go.My
open Go.Eng
def a7p(ns:List Nd):Prop:=(∀i:Nat,i<ns.length→Ch ns i=true)∧∀i:Nat,i<ns.length-1→(Cl ns).count (i:Int)=1
theorem Tr{ns:List Nd}(h:Dn ns=true):a7p ns∧1≤ns.length∧ns.length≤300∧Iz ns ((ns.length:Int)-1):=by
 simp only[Dn,Bool.and_eq_true,decide_eq_true_eq,Bool.not_eq_true',decide_eq_false_iff_not,List.all_eq_true,List.mem_range] at h
 have hu:=a7o h.2.2.1
 refine⟨⟨fun i hi=>hu.2 i (by omega),fun i hi=> ?_⟩,h.1.1,h.1.2,hu⟩
 exact h.2.2.2 i hi
end Go.My
end
section
set_option linter.unusedVariables false
set_option linter.unusedSimpArgs false
namespace Go.My
open Go.Eng
structure Sg where
 kind:Int
 text:List UInt8
 pos:Int
 blank:Bool
def sgA:Sg→List AV:=fun s=>[.int .i64 s.kind,.str s.text,.int .i64 s.pos,.bool s.blank]
theorem Br(s:Sg):sgA s=[.int .i64 s.kind,.str s.text,.int .i64 s.pos,.bool s.blank]:=rfl
def sgs(l:List Sg):AV:= .sl false 0 4 Sg sgA l
def DL(l:List Sg):AV:= .sl true 0 4 Sg sgA l
def sg0(k:Int)(t:List UInt8):Sg:=⟨k,t,0,false⟩
def mkS(t:List UInt8):Sg:=sg0 4 t
def wdS(t:List UInt8):Sg:=sg0 1 t
def CH(f:Int→List Sg)(m:List UInt8):List Int→List Sg
 |[]=>[]
 |c::l=>f c++l.flatMap fun d=>mkS m::f d
def kd(x:Nd)(i:Nat):Int:=x.kids.getD i 0
def Di(f:Int→List Sg)(x:Nd):List Sg:=
 if x.kind=1 then [wdS x.text]
 else if x.kind=2 then [sg0 2 x.text]
 else if x.kind=3 then [sg0 3 x.text]
 else if x.kind=4 then [mkS [91]]++CH f [44] x.kids++[mkS [93]]
 else if x.kind=5 then f (kd x 0)++[mkS [40]]++CH f [44] (x.kids.drop 1)++[mkS [41]]
 else if x.kind=6 then f (kd x 0)++[mkS [46]]++[wdS x.text]
 else if x.kind=7 then CH f x.text x.kids
 else if x.kind=8 then f (kd x 0)++[mkS [63]]++f (kd x 1)++[mkS [58]]++f (kd x 2)
 else if x.kind=9 then [mkS [40]]++CH f [44] (x.kids.take (x.kids.length-1))++[mkS [41],mkS [61,62]]++f (kd x (x.kids.length-1))
 else if x.kind=10 then CH f [46,46] x.kids
 else if x.kind=11 then [mkS [40]]++f (kd x 0)++[mkS [41]]
 else if x.kind=12 then [wdS [118,97,114]]++[wdS x.text]++(if 0<x.kids.length then [mkS [61]] else [])++x.kids.flatMap f++[mkS [59]]
 else if x.kind=13 then [wdS x.text]++(if 0<x.kids.length then [mkS [61]] else [])++x.kids.flatMap f++[mkS [59]]
 else if x.kind=14 then x.kids.flatMap f++[mkS [59]]
 else if x.kind=15 then [wdS [114,101,116,117,114,110]]++x.kids.flatMap f++[mkS [59]]
 else if x.kind=16 then [wdS [105,102]]++[mkS [40]]++f (kd x 0)++[mkS [41]]++f (kd x 1)++(if x.kids.length=3 then [wdS [101,108,115,101]]++f (kd x 2) else [])
 else if x.kind=17 then [wdS [119,104,105,108,101]]++[mkS [40]]++f (kd x 0)++[mkS [41]]++f (kd x 1)
 else if x.kind=18 then [mkS [123]]++x.kids.flatMap f++[mkS [125]]
 else if x.kind=19 then [sg0 5 x.text]
 else if x.kind=20 then [wdS x.text]++[mkS [40]]++CH f [44] (x.kids.take (x.kids.length-1))++[mkS [41]]++f (kd x (x.kids.length-1))
 else if x.kind=21 then [wdS [99,108,97,115,115]]++[wdS x.text]++[mkS [123]]++x.kids.flatMap f++[mkS [125]]
 else x.kids.flatMap f
def IA(ns:List Nd):Nat→Int→List Sg
 |0,_=>[]
 |n+1,k=>Di (IA ns n) (Ag ns k)
theorem a7q{x:Nd}{i:Nat}{c:Int}(h:x.kids[i]? =some c):kd x i=c:=by simp [kd,List.getD,h]
theorem YK{ns:List Nd}{k:Int}(h:Iz ns k):(1≤(Ag ns k).kind∧(Ag ns k).kind≤22)∧(DB (Ag ns k).kind).1≤(Ag ns k).kids.length∧(Ag ns k).kids.length≤(DB (Ag ns k).kind).2:=by
 have h1:=HU (Nx h)
 have hk:=h1.2.2.2.2.2.1
 have hin:inn (Ag ns k).kind 1 22=true:=by
  cases hh:inn (Ag ns k).kind 1 22
  ·rw[XQ hh] at hk;cases hk
  ·rfl
 have h2:=Jx.1 hin
 have hb:=XP (l:=(Ag ns k).kids.map (BG ns)) h2.1 h2.2
 rw[hk] at hb
 have hl:decide (((Ag ns k).kids.map (BG ns)).length≤12)=true:=decide_eq_true (by rw[List.length_map];exact h1.2.1)
 rw[hl] at hb
 simp only[Bool.and_true,Bool.and_eq_true,List.length_map] at hb
 exact⟨h2,Jx.1 hb.1⟩
end Go.My
end
section
set_option linter.unusedVariables false
set_option linter.unusedSimpArgs false
namespace Go.Eng
def Old(w:World):FP:=fun b=>w.heap.size≤b
def YL(P:Program)(t:TypeId){α:Type}(f:α→List AV)(good:α→Prop):Prop:=
 ∀ {H:Type} (enc:TypeId×Value→H) (w:World) (spare:Nat→Bool) (held:Bool) (fuel:Nat) (cs:List Value) (y:DataW H×List MemPlace),
   DataW.trod enc P w 0 spare held fuel t cs=some y→∃x:α,good x∧AX (Old w) w (f x) cs (fun _=>False)
theorem YM{Z:FP}{w:World}{a:AV}{v:Value}:AX Z w [a] [v] (fun _=>False)↔Am Z w a v (fun _=>False):=by
 simp only[AX]
 constructor
 ·rintro⟨u,cs',A,B,e,hj,h1,h2,h3⟩
  simp only[List.cons.injEq] at e
  obtain⟨rfl,rfl⟩:=e
  have:=(HL hj AP).1
  rwa [Ep this] at h1
 ·intro h
  exact⟨v,[],fun _=>False,fun _=>False,rfl,BV _,h,rfl,AP⟩
theorem a7r{Z:FP}{w:World}{a:AV}{azs:List AV}{v:Value}{vs:List Value}(h1:Am Z w a v (fun _=>False))(h2:AX Z w azs vs (fun _=>False)):
 AX Z w (a::azs) (v::vs) (fun _=>False):=by
 simp only[AX]
 exact⟨v,vs,_,_,rfl,BV _,h1,h2⟩
theorem a7s{P:Program}{t:TypeId}(ht:P.underlying t=some .string):YL P t (fun s:List UInt8=>[.str s]) (fun s=>s.length<2^63):=by
 intro H enc w spare held fuel cs y h
 obtain⟨n,rfl,_,hl⟩:=DataW.trod_string ht h
 refine⟨n.data.toList,?_,YM.2 ?_⟩
 ·have:n.data.toList.length≤maxLen:=hl
  unfold maxLen at this;omega
 ·simp only[Am];exact⟨trivial,AP⟩
end Go.Eng
end
section
set_option linter.unusedVariables false
set_option linter.unusedSimpArgs false
namespace Go.My
open Go.Eng Go.Proofs
variable {G:GInv}
theorem a7t{w w':World}{g:Nat}{v:Value}(h:w.cell? ⟨g,0,none⟩=some v)(e:w'.heap[g]? =w.heap[g]?):w'.cell? ⟨g,0,none⟩=some v:=by
 unfold World.cell? at h ⊢
 simp only at h ⊢
 rw[e];exact h
def a7u(g:Nat):GInv:=⟨fun Z w=>(∃m,w.cell? ⟨g,0,none⟩=some (.int .i64 m))∧¬Z g,by
 rintro Z Z' w w' hz ⟨⟨m,h1⟩,h2⟩
 have hlt:g<w.heap.size:=World.block_lt_of_cell? _ _ h1
 obtain⟨q1,q2⟩:=hz g h2 hlt
 exact⟨⟨m,a7t h1 q2⟩,q1⟩⟩
def Ts:GInv:=a7u (Go.Proofs.Tryz.laysM146_ren.g 1)
def Mf(G:GInv):Prop:=∀Z w,G.p Z w→∃m,w.cell? ⟨Go.Proofs.Tryz.laysM146_ren.g 1,0,none⟩=some (.int .i64 m)
theorem a7v:Mf Ts:=fun Z w h=>h.1
theorem a7w{W:World}(h:W.ShapedOpen Go.Proofs.Tryz.prog):Ts.p (Old W) W:=by
 obtain⟨m,hm⟩:=Go.Proofs.Tryz.laysM146.s1_3 W h
 have hlt:Go.Proofs.Tryz.laysM146_ren.g 1<W.heap.size:=World.block_lt_of_cell? _ _ hm
 refine⟨⟨m,hm⟩,fun hz=> ?_⟩
 have hz:W.heap.size≤Go.Proofs.Tryz.laysM146_ren.g 1:=hz
 omega
def BB:List UInt8→List (List UInt8)
 |[]=>[[]]
 |c::l=>if c=10 then []::BB l else match BB l with
  |[]=>[[c]]
  |p::ps=>(c::p)::ps
theorem Ny:∀l,BB l≠[]
 |[],h=>by simp [BB] at h
 |c::l,h=>by
  unfold BB at h
  split at h
  ·cases h
  ·split at h<;>cases h
theorem a7x{b c:UInt8}{l:List UInt8}(h:b≠c):Lib.index (b::l) [c]=if Lib.index l [c]== -1 then-1 else Lib.index l [c]+1:=by
 have hp:([c]:List UInt8).isPrefixOf (b::l)=false:=by simp [List.isPrefixOf,Ne.symm h]
 rw[Lib.index,hp];simp
theorem a7y{c:UInt8}{l:List UInt8}:Lib.index (c::l) [c]=((0:Nat):Int):=by rw[Lib.index];simp [List.isPrefixOf]
theorem Tt:∀(l:List UInt8) (n:Nat),n=Lib.count l [10]→Lib.splitK [10] 0 n l=BB l
 |[],n,h=>by
  rw[Lib.count_one] at h
  simp at h;subst h
  simp [Lib.splitK,BB]
 |b::l,n,h=>by
  by_cases e:b=10
  ·subst e
   rw[Lib.count_cons_eq] at h
   have ih:=Tt l (Lib.count l [10]) rfl
   rw[h,show 1+Lib.count l [10]=Lib.count l [10]+1 by omega,Lib.splitK,a7y]
   simp [BB,ih]
  ·rw[Lib.count_cons_ne b 10 l e] at h
   have ih:=Tt l n h
   cases n with
   |zero=>
    rw[Lib.splitK] at ih ⊢
    rw[BB,if_neg e,←ih]
   |succ k=>
    have hm:Lib.index l [10]≠ -1:=fun hm=>by rw[Lib.count_miss hm] at h;cases h
    have hge:=Lib.index_ge l [10]
    rw[Lib.splitK,if_neg (by simpa using hm)] at ih
    have e2:Lib.index (b::l) [10]=Lib.index l [10]+1:=by rw[a7x e,if_neg (by simpa using hm)]
    rw[Lib.splitK,e2,if_neg (by simp;omega),BB,if_neg e,←ih]
    have e3:(Lib.index l [10]+1).toNat=(Lib.index l [10]).toNat+1:=by omega
    simp [e3]
theorem YN:∀(l:List UInt8),(BB l).length≤l.length+1
 |[]=>by simp [BB]
 |c::l=>by
  have ih:=YN l
  unfold BB
  split
  ·simp;omega
  ·split
   ·simp
   ·rename_i p ps e
    rw[e] at ih
    simp at ih ⊢;omega
def Gj(l:List (List UInt8)):AV:= .sl true 0 1 (List UInt8) Bo l
theorem YO{Z:FP}{w:World}:∀(xs:List (List UInt8)) (rest:List Value),Go.Eng.Rows 1 (fun x cs A=>AX Z w (Bo x) cs A) xs (xs.map (fun x=>Value.string ⟨x.toArray⟩)++rest) (fun _=>False)
 |[],_=>AP
 |x::xs,rest=>⟨_,_,BV _,rfl,⟨_,_,_,_,rfl,BV _,⟨rfl,AP⟩,rfl,AP⟩,YO xs rest⟩
theorem bsz(x:List UInt8):(⟨x.toArray⟩:ByteArray).size=x.length:=by simp [ByteArray.size]
def Mg:Sig:= {X:=List UInt8,args:=fun x=>[.str x,.str [10]],pre:=fun x=>x.length<2^31,Y:=Unit,post:=fun _ _=>True,res:=fun x _=>Gj (BB x),outs:=fun _ _=>[.top,.top],keep:=false}
theorem a7z(hT:Mf G):Aq G Go.Proofs.Tryz.prog 55 Mg:=by
 refine⟨⟨⟨_,Go.Proofs.Tryz.func55,by kernel_rfl,by kernel_rfl⟩,fun x y _ _=> ?_⟩,?_⟩
 ·exact⟨fun z=>⟨trivial,trivial⟩,trivial,trivial,trivial⟩
 rintro x h0 Z w vals A hG h hA _
 have h0:x.length<2^31:=h0
 simp only[Mg,AX,Am] at h
 obtain⟨v,cs,A1,A2,rfl,_,⟨rfl,_⟩,v2,cs2,A3,A4,rfl,_,⟨rfl,_⟩,rfl,_⟩:=h
 obtain⟨m,hm⟩:=hT Z w hG
 have hs:=bsz x
 refine(Any.strings_Split {Go.Proofs.Tryz.laysM146 with} Go.Proofs.Tryz.laysM146.i9 ⟨x.toArray⟩ ⟨[10].toArray⟩ m w (by rw[hs];omega) hm (by simp [ByteArray.size])).mono ?_
 rintro e w' ⟨rfl,rfl⟩
 have hd:=Lib.splitB_data ⟨[10].toArray⟩ 0 (Lib.countB ⟨x.toArray⟩ ⟨[10].toArray⟩) ⟨x.toArray⟩
 have hc:Lib.countB ⟨x.toArray⟩ ⟨[10].toArray⟩=Lib.count x [10]:=rfl
 have hd2:(Lib.splitB ⟨[10].toArray⟩ 0 (Lib.countB ⟨x.toArray⟩ ⟨[10].toArray⟩) ⟨x.toArray⟩).map (·.data.toList)=BB x:=by
  rw[hd];exact Tt x _ hc
 have hl:=Lib.splitB_all ⟨[10].toArray⟩ (by simp [ByteArray.size]) 0 _ ⟨x.toArray⟩ rfl
 have hm2:(Lib.splitB ⟨[10].toArray⟩ 0 (Lib.countB ⟨x.toArray⟩ ⟨[10].toArray⟩) ⟨x.toArray⟩).map Value.string=(BB x).map fun l=>Value.string ⟨l.toArray⟩:=by
  rw[←hd2,List.map_map]
  refine List.map_congr_left fun b _=> ?_
  simp
 have hl2:(BB x).length=Lib.countB ⟨x.toArray⟩ ⟨[10].toArray⟩+1:=by rw[←hd2,List.length_map,hl]
 rw[hm2]
 refine⟨(),_,(fun b=>Z b∨b=w.heap.size),(fun b=>b=w.heap.size),trivial,rfl,?_,⟨rfl,rfl,rfl,?_,fun b hb _=>⟨?_,?_⟩,fun b hb=>⟨.inr hb,?_,?_⟩⟩⟩
 ·simp only[Mg,AX,Am,Gj]
  refine⟨_,_,(fun b=>b=w.heap.size),(fun _=>False),rfl,HK _,⟨_,_,_,rfl,hl2.symm,Nat.le_refl _,.inl ⟨trivial,.inr ⟨w.heap.size,0,((BB x).map fun l=>Value.string ⟨l.toArray⟩).toArray,Go.Proofs.Tryz.laysM146_ren.t 9,(fun _=>False),rfl,?_,?_,?_,?_⟩⟩⟩,?_⟩
  ·show(w.heap.push _)[w.heap.size]? =some _
   simp
  ·simp [hl2]
  ·have:= @YO (fun b=>Z b∨b=w.heap.size) (w.alloc (.cells ((BB x).map fun l=>Value.string ⟨l.toArray⟩).toArray (Go.Proofs.Tryz.laysM146_ren.t 9))) (BB x) []
   rw[List.append_nil] at this
   simpa using this
  ·exact⟨fun b=>by simp [one],fun b _ h=>h⟩
  ·exact⟨_,_,_,_,rfl,BV _,AP,_,_,_,_,rfl,BV _,AP,rfl,AP⟩
 ·simp
 ·show(w.heap.push _)[b]? =w.heap[b]?
  rw[Array.getElem?_push,if_neg (Nat.ne_of_lt hb)]
 ·exact⟨fun h=>h.elim id fun h=>by omega,.inl⟩
 ·rw[hb];simp
 ·intro h;omega
end Go.My
end
section
set_option linter.unusedVariables false
set_option linter.unusedSimpArgs false
namespace Go.My
open Go.Eng
def EV(t:List UInt8):Nat→Int→Int→Option (List Sg)
 |0,_,_=>none
 |n+1,at_,br=>match t[at_.toNat]? with
  |none=>some []
  |some c=>if c.toNat=32 then EV t n (at_+1) br
   else if c.toNat=10 then EV t n (at_+1) (br+1)
   else if(Bb (t.drop at_.toNat)).ok then(EV t n (at_+(Bb (t.drop at_.toNat)).size) 0).map (⟨(Bb (t.drop at_.toNat)).kind,(Bb (t.drop at_.toNat)).text,at_,decide (br>1)⟩:: ·)
   else none
def BX(t:List UInt8):Option (List Sg):=if 3000<t.length then none else EV t (t.length+1) 0 0
structure Ps where
 pos:Int
 deep:Int
 nodes:List Nd
abbrev PR:=Option (Int×Ps)
abbrev PL:=Option (List Int×Ps)
def Ew:Sg:=⟨0,[],0,false⟩
def sgO(sg:List Sg)(i:Int):Sg:=sg.getD i.toNat Ew
def isT(sg:List Sg)(s:Ps)(k:Int)(t:List UInt8):Bool:=decide ((sgO sg s.pos).kind=k)&&((sgO sg s.pos).text==t)
def isM(sg:List Sg)(s:Ps)(t:List UInt8):Bool:=isT sg s 4 t
def isW(sg:List Sg)(s:Ps)(t:List UInt8):Bool:=isT sg s 1 t
def CY(sg:List Sg)(i:Int):Bool:=decide ((sgO sg i).kind=1)&& !kw (sgO sg i).text
def adv(s:Ps):Ps:=⟨s.pos+1,s.deep,s.nodes⟩
def dp(s:Ps)(d:Int):Ps:=⟨s.pos,s.deep+d,s.nodes⟩
def BC(sg:List Sg)(t:List UInt8)(s:Ps):Option Ps:=if isM sg s t then some (adv s) else none
def AZ(x:Nd)(s:Ps):PR:=if 300≤s.nodes.length then none else some (s.nodes.length,⟨s.pos,s.deep,s.nodes++[x]⟩)
def Ef(r:PR):PR:=r.map fun p=>(p.1,adv p.2)
def DM(sg:List Sg)(k:Int)(b:Bool)(s:Ps):PR:=Ef (AZ ⟨k,(sgO sg s.pos).text,[],b⟩ s)
def Bu(sg:List Sg)(s:Ps):PR:=if CY sg s.pos then DM sg 1 false s else none
def EW(sg:List Sg)(s:Ps):Option (List UInt8×Ps):=if CY sg s.pos then some ((sgO sg s.pos).text,adv s) else none
def Bl(sg:List Sg)(m:List UInt8)(x:Nd)(s:Ps):PR:=if isM sg s m then Ef (AZ x s) else none
def Bg(sg:List Sg)(one:Ps→PR)(m:List UInt8):Nat→List Int→Ps→PL
 |0,_,_=>none
 |n+1,ks,s=>if isM sg s m then some (ks,s) else(one s).bind fun p=>if isM sg p.2 [44] then Bg sg one m n (ks++[p.1]) (adv p.2) else some (ks++[p.1],p.2)
def Dc(sg:List Sg):Nat→Int→Int
 |0,i=>i
 |n+1,i=>if CY sg i then(if(sgO sg (i+1)).text=[44] then Dc sg n (i+2) else i+1) else i
def Eg(sg:List Sg)(s:Ps):Bool:=((sgO sg (Dc sg (sg.length+1) (s.pos+1))).text==[41])&&((sgO sg (Dc sg (sg.length+1) (s.pos+1)+1)).text==[61,62])
def Bs(l:Nat):List (List UInt8):=match l with
 |0=>[[124,124]]
 |1=>[[38,38]]
 |2=>[[61,61]]
 |3=>[[60]]
 |4=>[[43],[45]]
 |_=>[[42]]
def Fp(sg:List Sg)(l:Nat)(s:Ps):List UInt8:=((Bs l).find? fun m=>isM sg s m).getD []
def DV(sg:List Sg)(l:Nat)(one:Ps→PR):Nat→List UInt8→List Int→Ps→PR
 |0,_,_,_=>none
 |n+1,t,ks,s=>
  if t≠[]∧Fp sg l s≠t then(AZ ⟨7,t,ks,false⟩ s).bind fun p=>DV sg l one n [] [p.1] p.2
  else if Fp sg l s=[] then some (ks.headD 0,s)
  else(one (adv s)).bind fun p=>DV sg l one n (Fp sg l s) (ks++[p.1]) p.2
def CL(sg:List Sg)(val:Ps→PR)(k:Int)(s:Ps):PR:=(BC sg [40] s).bind fun s=>(Bg sg val [41] (sg.length+1) [k] s).bind fun p=>Bl sg [41] ⟨5,[],p.1,false⟩ p.2
def EX(sg:List Sg)(val:Ps→PR):Nat→Int→Ps→PR
 |0,_,_=>none
 |n+1,k,s=>
  if isM sg s [40] then(CL sg val k s).bind fun p=>EX sg val n p.1 p.2
  else if isM sg s [46] then(if CY sg (s.pos+1) then(Ef (AZ ⟨6,(sgO sg (s.pos+1)).text,[k],false⟩ (adv s))).bind fun p=>EX sg val n p.1 p.2 else none)
  else some (k,s)
def EJ(sg:List Sg)(val:Ps→PR):Nat→List Int→Ps→PL
 |0,_,_=>none
 |n+1,ks,s=>if isM sg s [46,46] then(Bu sg (adv s)).bind fun p=>(CL sg val p.1 p.2).bind fun q=>EJ sg val n (ks++[q.1]) q.2 else some (ks,s)
inductive NT where
 |value|pick|chain (l:Nat)|fin|base
def pE(sg:List Sg):Nat→NT→Ps→PR
 |0,_,_=>none
 |n+1,.value,s=>(pE sg n .pick s).bind fun p=>if isM sg p.2 [46,46] then(EJ sg (pE sg n .value) (sg.length+1) [p.1] p.2).bind fun q=>AZ ⟨10,[],q.1,false⟩ q.2 else some p
 |n+1,.pick,s=>if 20≤s.deep then none else(pE sg n (.chain 0) (dp s 1)).bind fun p=>
   if isM sg p.2 [63] then(pE sg n .pick (adv p.2)).bind fun a=>(BC sg [58] a.2).bind fun s1=>(pE sg n .pick s1).bind fun b=>(AZ ⟨8,[],[p.1,a.1,b.1],false⟩ b.2).map fun q=>(q.1,dp q.2 (-1))
   else some (p.1,dp p.2 (-1))
 |n+1,.chain l,s=>if l=6 then pE sg n .fin s else(pE sg n (.chain (l+1)) s).bind fun p=>DV sg l (pE sg n (.chain (l+1))) (2*sg.length+4) [] [p.1] p.2
 |n+1,.fin,s=>(pE sg n .base s).bind fun p=>EX sg (pE sg n .value) (sg.length+1) p.1 p.2
 |n+1,.base,s=>
  if(sgO sg s.pos).kind=1 then Bu sg s
  else if(sgO sg s.pos).kind=2 then DM sg 2 false s
  else if(sgO sg s.pos).kind=3 then DM sg 3 false s
  else if isM sg s [91] then(Bg sg (pE sg n .value) [93] (sg.length+1) [] (adv s)).bind fun p=>Bl sg [93] ⟨4,[],p.1,false⟩ p.2
  else if isM sg s [40]&&Eg sg s then(Bg sg (Bu sg) [41] (sg.length+1) [] (adv s)).bind fun p=>(BC sg [41] p.2).bind fun s1=>(BC sg [61,62] s1).bind fun s2=>(pE sg n .pick s2).bind fun q=>AZ ⟨9,[],p.1++[q.1],false⟩ q.2
  else if isM sg s [40] then(pE sg n .value (adv s)).bind fun p=>Bl sg [41] ⟨11,[],[p.1],false⟩ p.2
  else none
def peN:Nat:=40000
def BZ(sg:List Sg):Ps→PR:=pE sg peN .value
def Dd(sg:List Sg)(b:Bool)(s:Ps):PR:=(EW sg s).bind fun p=>
 if isM sg p.2 [61] then(BZ sg (adv p.2)).bind fun q=>Bl sg [59] ⟨12,p.1,[q.1],b⟩ q.2 else Bl sg [59] ⟨12,p.1,[],b⟩ p.2
def CZ(sg:List Sg)(s:Ps):PR:=(BC sg [40] s).bind fun s1=>(BZ sg s1).bind fun p=>(BC sg [41] p.2).map fun s2=>(p.1,s2)
def CE(sg:List Sg)(one:Bool→Ps→PR)(m:List UInt8):Nat→List Int→Ps→PL
 |0,_,_=>none
 |n+1,ks,s=>if isM sg s m then some (ks,s) else(one ((sgO sg s.pos).blank&&decide (0<ks.length)) s).bind fun p=>CE sg one m n (ks++[p.1]) p.2
def BE(sg:List Sg)(one:Bool→Ps→PR)(s:Ps):PR:=if 20≤s.deep then none else(BC sg [123] (dp s 1)).bind fun s1=>(CE sg one [125] (sg.length+1) [] s1).bind fun p=>(Bl sg [125] ⟨18,[],p.1,false⟩ p.2).map fun q=>(q.1,dp q.2 (-1))
def stR(sg:List Sg):Nat→Bool→Ps→PR
 |0,_,_=>none
 |n+1,b,s=>
  if(sgO sg s.pos).kind=5 then DM sg 19 b s
  else if isW sg s [118,97,114] then Dd sg b (adv s)
  else if isW sg s [114,101,116,117,114,110] then(if isM sg (adv s) [59] then Bl sg [59] ⟨15,[],[],b⟩ (adv s) else(BZ sg (adv s)).bind fun p=>Bl sg [59] ⟨15,[],[p.1],b⟩ p.2)
  else if isW sg s [105,102] then(CZ sg (adv s)).bind fun p=>(BE sg (stR sg n) p.2).bind fun q=>
   if isW sg q.2 [101,108,115,101] then(BE sg (stR sg n) (adv q.2)).bind fun r=>AZ ⟨16,[],[p.1,q.1,r.1],b⟩ r.2 else AZ ⟨16,[],[p.1,q.1],b⟩ q.2
  else if isW sg s [119,104,105,108,101] then(CZ sg (adv s)).bind fun p=>(BE sg (stR sg n) p.2).bind fun q=>AZ ⟨17,[],[p.1,q.1],b⟩ q.2
  else if CY sg s.pos&&isM sg (adv s) [61] then(BZ sg (adv (adv s))).bind fun p=>Bl sg [59] ⟨13,(sgO sg s.pos).text,[p.1],b⟩ p.2
  else(BZ sg s).bind fun p=>Bl sg [59] ⟨14,[],[p.1],b⟩ p.2
def stN:Nat:=30
def Ey(sg:List Sg):Ps→PR:=BE sg (stR sg stN)
def EK(sg:List Sg)(b:Bool)(s:Ps):PR:=(EW sg s).bind fun p=>(BC sg [40] p.2).bind fun s1=>(Bg sg (Bu sg) [41] (sg.length+1) [] s1).bind fun q=>(BC sg [41] q.2).bind fun s2=>(Ey sg s2).bind fun r=>AZ ⟨20,p.1,q.1++[r.1],b⟩ r.2
def CN(sg:List Sg)(b:Bool)(s:Ps):PR:=
 if(sgO sg s.pos).kind=5 then DM sg 19 b s else if isW sg s [118,97,114] then Dd sg b (adv s) else EK sg b s
def EY(sg:List Sg)(b:Bool)(s:Ps):PR:=(EW sg s).bind fun p=>(BC sg [123] p.2).bind fun s1=>(CE sg (CN sg) [125] (sg.length+1) [] s1).bind fun q=>Bl sg [125] ⟨21,p.1,q.1,b⟩ q.2
def De(sg:List Sg)(b:Bool)(s:Ps):PR:=
 if(sgO sg s.pos).kind=5 then DM sg 19 b s else if isW sg s [118,97,114] then Dd sg b (adv s) else if isW sg s [99,108,97,115,115] then EY sg b (adv s) else EK sg b s
def IB(sg:List Sg):Nat→List Int→List (Int×Int)→Ps→Option ((List Int×List (Int×Int))×Ps)
 |0,_,_,_=>none
 |n+1,ks,ms,s=>if s.pos<sg.length then(De sg ((sgO sg s.pos).blank&&decide (0<ks.length)) s).bind fun p=>IB sg n (ks++[p.1]) (ms++[(s.pos,p.2.pos)]) p.2 else some ((ks,ms),s)
def ps0:Ps:=⟨0,0,[]⟩
def IC(sg:List Sg):Option (List (Int×Int)×List Nd):=(IB sg (sg.length+1) [] [] ps0).bind fun p=>(AZ ⟨22,[],p.1.1,false⟩ p.2).bind fun q=>if Dn q.2.nodes then some (p.1.2,q.2.nodes) else none
def CI(t:List UInt8):Option (List Nd):=(BX t).bind fun sg=>(IC sg).map (·.2)
end Go.My
end
section
set_option linter.unusedVariables false
set_option linter.unusedSimpArgs false
namespace Go.My
open Go.Eng
structure Gs where
 pos:Int
 deep:Int
 bad:Bool
 nodes:List Nd
def Cq(x:Nd):Prop:=x.text.length≤3000∧x.kids.length≤4000
def sgB(sg:List Sg):Prop:=sg.length≤3000∧∀e∈sg,e.text.length≤3000
def gsOk(sg:List Sg)(g:Gs):Prop:=(0≤g.pos∧g.pos≤sg.length)∧(0≤g.deep∧g.deep≤21)∧g.nodes.length≤300∧∀x∈g.nodes,Cq x
def pur(g:Gs):Option Ps:=if g.bad then none else some ⟨g.pos,g.deep,g.nodes⟩
theorem DC{g:Gs}(h:g.bad=true):pur g=none:=by simp [pur,h]
theorem CR{g:Gs}(h:g.bad=false):pur g=some ⟨g.pos,g.deep,g.nodes⟩:=by simp [pur,h]
theorem YP{g:Gs}:pur g=none↔g.bad=true:=by
 cases h:g.bad<;>simp [pur,h]
theorem Eh{g:Gs}{s:Ps}:pur g=some s↔g.bad=false∧s=⟨g.pos,g.deep,g.nodes⟩:=by
 cases h:g.bad<;>simp [pur,h,eq_comm]
def Tu(sg:List Sg)(x:Gs)(f:Ps→Option Ps)(y:Gs):Prop:=gsOk sg y∧y.deep=x.deep∧x.pos≤y.pos∧pur y=(pur x).bind f
def Bh{α:Type}(sg:List Sg)(x:Gs)(f:Ps→Option (α×Ps))(y:α×Gs):Prop:=
 gsOk sg y.2∧y.2.deep=x.deep∧x.pos≤y.2.pos∧pur y.2=((pur x).bind f).map (·.2)∧∀p,(pur x).bind f=some p→y.1=p.1
def Ae{α:Type}(sg:List Sg)(x:Gs)(f:Ps→Option (α×Ps))(y:α×Gs):Prop:=Bh sg x f y∧(y.2.bad=false→x.pos<y.2.pos)
def pkG(sg:List Sg)(g:Gs)(n:Int):Sg:=if g.bad=true∨(sg.length:Int)≤g.pos+n then Ew else sgO sg (g.pos+n)
theorem YQ{sg:List Sg}{i:Int}(h:(sg.length:Int)≤i):sgO sg i=Ew:=by
 unfold sgO;rw[List.getD_eq_getElem?_getD,List.getElem?_eq_none (by omega)];rfl
theorem IE{sg:List Sg}{i:Int}{e:Sg}(h:sg[i.toNat]? =some e):sgO sg i=e:=by simp [sgO,List.getD,h]
theorem Gk{sg:List Sg}{g:Gs}{n:Int}(h:g.bad=false):pkG sg g n=sgO sg (g.pos+n):=by
 unfold pkG
 split
 ·rename_i hh
  rcases hh with hh|hh
  ·rw[h] at hh;cases hh
  ·exact(YQ hh).symm
 ·rfl
theorem a7A{sg:List Sg}{g:Gs}{n:Int}(h:g.bad=true):pkG sg g n=Ew:=by unfold pkG;rw[if_pos (.inl h)]
def isG(sg:List Sg)(g:Gs)(k:Int)(t:List UInt8):Bool:=decide ((pkG sg g 0).kind=k)&&((pkG sg g 0).text==t)
def nmG(sg:List Sg)(g:Gs)(n:Int):Bool:=decide ((pkG sg g n).kind=1)&& !kw (pkG sg g n).text
theorem PE{sg:List Sg}{g:Gs}{s:Ps}{k:Int}{t:List UInt8}(h:pur g=some s):isG sg g k t=isT sg s k t:=by
 obtain⟨h1,rfl⟩:=Eh.1 h
 simp [isG,isT,Gk h1]
theorem YR{sg:List Sg}{g:Gs}{k:Int}{t:List UInt8}(h:pur g=none)(hk:k≠0):isG sg g k t=false:=by
 simp [isG,a7A (YP.1 h),Ew,Ne.symm hk]
theorem Jy{sg:List Sg}{g:Gs}{s:Ps}{n:Int}(h:pur g=some s):nmG sg g n=CY sg (s.pos+n):=by
 obtain⟨h1,rfl⟩:=Eh.1 h
 simp [nmG,CY,Gk h1]
theorem Ct{sg:List Sg}{g:Gs}{k:Int}{t:List UInt8}(h:isG sg g k t=true)(hk:k≠0):g.bad=false∧g.pos<sg.length:=by
 unfold isG pkG at h
 split at h
 ·simp [Ew,Ne.symm hk] at h
 ·rename_i hh
  simp only[Int.add_zero] at hh
  exact⟨by cases hb:g.bad<;>simp_all,by omega⟩
theorem Ia{sg:List Sg}{g:Gs}{n:Int}(h:nmG sg g n=true):g.bad=false∧g.pos+n<sg.length:=by
 unfold nmG pkG at h
 split at h
 ·simp [Ew] at h
 ·rename_i hh;exact⟨by cases hb:g.bad<;>simp_all,by omega⟩
end Go.My
end
section
set_option linter.unusedVariables false
set_option linter.unusedSimpArgs false
namespace Go.My
open Go.Eng
def Aj(g:Gs):Gs:=⟨g.pos+1,g.deep,g.bad,g.nodes⟩
def Bc(g:Gs):Gs:=⟨g.pos,g.deep,true,g.nodes⟩
def gDp(g:Gs)(d:Int):Gs:=⟨g.pos,g.deep+d,g.bad,g.nodes⟩
def Ai(sg:List Sg)(g:Gs)(m:List UInt8):Gs:=if isG sg g 4 m then Aj g else g
def Al(sg:List Sg)(g:Gs)(m:List UInt8):Gs:=if isG sg g 4 m then Aj g else Bc g
def BW(g:Gs):Gs:=if g.bad then g else Aj g
def CM(g:Gs):Bool:=g.bad||decide (g.nodes.length=300)
def Ah(g:Gs)(x:Nd):Gs:=if CM g then Bc g else⟨g.pos,g.deep,g.bad,g.nodes++[x]⟩
def Au(g:Gs):Int:=if CM g then 0 else g.nodes.length
def Bn(sg:List Sg)(g:Gs)(m:List UInt8)(x:Nd):Gs:=if isG sg g 4 m then BW (Ah g x) else Bc g
def Bw(sg:List Sg)(g:Gs)(m:List UInt8):Int:=if isG sg g 4 m then Au g else 0
def CS(sg:List Sg)(g:Gs)(k:Int)(b:Bool):Gs:=BW (Ah g ⟨k,(pkG sg g 0).text,[],b⟩)
def Cu(sg:List Sg)(g:Gs):Gs:=if nmG sg g 0 then CS sg g 1 false else Bc g
def Da(sg:List Sg)(g:Gs):Int:=if nmG sg g 0 then Au g else 0
def BP(sg:List Sg)(g:Gs):Gs:=if nmG sg g 0 then Aj g else Bc g
def BQ(sg:List Sg)(g:Gs):List UInt8:=if nmG sg g 0 then(pkG sg g 0).text else []
theorem EL{sg:List Sg}{g:Gs}(h:gsOk sg g)(hl:g.pos<sg.length):gsOk sg (Aj g):=by
 obtain⟨h1,h2⟩:=h
 exact⟨by simp only[Aj];omega,h2⟩
theorem KM{sg:List Sg}{g:Gs}(h:gsOk sg g):gsOk sg (Bc g):=h
theorem Tv{g:Gs}:pur (Aj g)=(pur g).map adv:=by
 cases h:g.bad<;>simp [pur,Aj,h,adv]
theorem IG{g:Gs}:pur (Bc g)=none:=by simp [pur,Bc]
theorem YS{sg:List Sg}{g:Gs}{k:Int}{m:List UInt8}(h:gsOk sg g)(hk:k≠0)(hm:isG sg g k m=true):Tu sg g (fun s=>if isT sg s k m then some (adv s) else none) (Aj g)∧(Aj g).bad=false∧g.pos<(Aj g).pos:=by
 obtain⟨h1,h2⟩:=Ct hm hk
 refine⟨⟨EL h h2,rfl,by simp only[Aj];omega,?_⟩,h1,by simp only[Aj];omega⟩
 rw[Tv,CR h1]
 have:isT sg ⟨g.pos,g.deep,g.nodes⟩ k m=true:=by rw[←PE (CR h1)];exact hm
 simp [this]
theorem PF{sg:List Sg}{g:Gs}{s:Ps}{k:Int}{m:List UInt8}(hm:isG sg g k m=false)(hs:pur g=some s):isT sg s k m=false:=by rw[←PE hs];exact hm
theorem Tw{sg:List Sg}{g:Gs}{s:Ps}{k:Int}{m:List UInt8}(hm:isG sg g k m=true)(hs:pur g=some s):isT sg s k m=true:=by rw[←PE hs];exact hm
theorem Mh{sg:List Sg}{g:Gs}{m:List UInt8}(h:gsOk sg g):Tu sg g (BC sg m) (Al sg g m)∧((Al sg g m).bad=false→g.pos<(Al sg g m).pos):=by
 unfold Al
 cases hm:isG sg g 4 m with
 |true=>
  obtain⟨h1,h2,h3⟩:=YS h (by omega) hm
  simp only[if_true]
  exact⟨h1,fun _=>h3⟩
 |false=>
  simp only[Bool.false_eq_true,if_false]
  refine⟨⟨KM h,rfl,Int.le_refl _,?_⟩,fun hb=>by simp [Bc] at hb⟩
  rw[IG]
  cases hs:pur g with
  |none=>rfl
  |some s=>
   simp only[Option.bind_some,BC,isM,PF hm hs];rfl
theorem PG{g:Gs}(h:CM g=false):g.bad=false∧g.nodes.length≠300:=by
 simpa [CM] using h
theorem Ib{sg:List Sg}{g:Gs}{x:Nd}(h:gsOk sg g)(hx:Cq x):gsOk sg (Ah g x):=by
 unfold Ah
 cases hf:CM g with
 |true=>exact KM h
 |false=>
  obtain⟨h1,h2⟩:=PG hf
  obtain⟨a,b,c,d⟩:=h
  refine⟨a,b,?_,?_⟩
  ·simp;omega
  ·simp only[Bool.false_eq_true,if_false]
   intro y hy
   rcases List.mem_append.1 hy with hy|hy
   ·exact d y hy
   ·simp at hy;subst hy;exact hx
theorem YT{sg:List Sg}{g:Gs}{x:Nd}(h:gsOk sg g):pur (Ah g x)=((pur g).bind (AZ x)).map (·.2)∧∀p,(pur g).bind (AZ x)=some p→Au g=p.1:=by
 unfold Ah Au
 cases hf:CM g with
 |true=>
  simp only[if_true,IG]
  have:(pur g).bind (AZ x)=none:=by
   cases hs:pur g with
   |none=>rfl
   |some s=>
    obtain⟨h1,rfl⟩:=Eh.1 hs
    have h3:g.nodes.length=300:=by simpa [CM,h1] using hf
    simp [AZ,h3]
  rw[this];exact⟨rfl,fun p hp=>by cases hp⟩
 |false=>
  obtain⟨h1,h2⟩:=PG hf
  have h3:g.nodes.length≤300:=h.2.2.1
  have h4:¬300≤g.nodes.length:=by omega
  simp [pur,h1,AZ,h4]
theorem Nz{sg:List Sg}{g:Gs}{x:Nd}(h:gsOk sg g)(hx:Cq x):Bh sg g (AZ x) (Au g,Ah g x):=by
 refine⟨Ib h hx,?_,?_,(YT h).1,(YT h).2⟩
 ·simp only[Ah];split<;>rfl
 ·simp only[Ah];split<;>exact Int.le_refl _
theorem Tx{sg:List Sg}{g:Gs}{x:Nd}(h:gsOk sg g)(hx:Cq x)(hl:g.bad=false→g.pos<sg.length):Ae sg g (fun s=>Ef (AZ x s)) (Au g,BW (Ah g x)):=by
 obtain⟨h1,h2,h3,h4,h5⟩:=Nz h hx
 simp only at h1 h2 h3 h4 h5
 have hp:pur (BW (Ah g x))=(pur (Ah g x)).map adv:=by
  unfold BW
  cases hb:(Ah g x).bad with
  |true=>rw[DC hb];simp [DC hb]
  |false=>simp only[Bool.false_eq_true,if_false];exact Tv
 have hpos:(Ah g x).pos=g.pos:=by simp only[Ah];split<;>rfl
 have hbad:(Ah g x).bad=false→g.bad=false:=by
  intro hb;simp only[Ah] at hb;split at hb
  ·simp [Bc] at hb
  ·exact hb
 refine⟨⟨?_,?_,?_,?_,?_⟩,?_⟩
 ·simp only[BW];split
  ·exact h1
  ·rename_i hb
   exact EL h1 (by rw[hpos];exact hl (hbad (by simpa using hb)))
 ·simp only[BW];split<;>simpa [Aj] using h2
 ·simp only[BW];split
  ·exact h3
  ·simp only[Aj];omega
 ·simp only;rw[hp,h4]
  cases hs:pur g with
  |none=>rfl
  |some s=>simp only[Option.bind_some,Ef];cases AZ x s<;>rfl
 ·intro p hp2
  simp only
  cases hs:pur g with
  |none=>rw[hs] at hp2;cases hp2
  |some s=>
   rw[hs] at hp2 h5
   simp only[Option.bind_some,Ef,Option.map_eq_some_iff] at hp2
   obtain⟨q,hq,rfl⟩:=hp2
   exact h5 q (by simpa using hq)
 ·simp only[BW]
  split
  ·rename_i hb;intro hh;rw[hb] at hh;cases hh
  ·intro _;simp only[Aj];omega
theorem Jz{sg:List Sg}{g:Gs}{m:List UInt8}{x:Nd}(h:gsOk sg g)(hx:Cq x):Ae sg g (Bl sg m x) (Bw sg g m,Bn sg g m x):=by
 unfold Bn Bw
 cases hm:isG sg g 4 m with
 |true=>
  obtain⟨hb,hl⟩:=Ct hm (by omega)
  have:=Tx h hx (fun _=>hl)
  simp only[if_true]
  have e:(pur g).bind (Bl sg m x)=(pur g).bind fun s=>Ef (AZ x s):=by
   rw[CR hb]
   have:isM sg ⟨g.pos,g.deep,g.nodes⟩ m=true:=Tw hm (CR hb)
   simp [Bl,this]
  obtain⟨⟨a1,a2,a3,a4,a5⟩,a6⟩:=this
  exact⟨⟨a1,a2,a3,by rw[e];exact a4,by rw[e];exact a5⟩,a6⟩
 |false=>
  simp only[Bool.false_eq_true,if_false]
  have e:(pur g).bind (Bl sg m x)=none:=by
   cases hs:pur g with
   |none=>rfl
   |some s=>
    have:isM sg s m=false:=PF hm hs
    simp [Bl,this]
  refine⟨⟨KM h,rfl,Int.le_refl _,by rw[e];exact IG,fun p hp=>by rw[e] at hp;cases hp⟩,fun hb=>by simp [Bc] at hb⟩
theorem a7B{sg:List Sg}(h:sgB sg){i:Int}:(sgO sg i).text.length≤3000:=by
 unfold sgO;rw[List.getD]
 cases hx:sg[i.toNat]? with
 |none=>simp [Ew]
 |some e=>exact h.2 e (Dl hx)
theorem JA{sg:List Sg}(h:sgB sg){g:Gs}{n:Int}:(pkG sg g n).text.length≤3000:=by
 unfold pkG;split
 ·simp [Ew]
 ·exact a7B h
theorem NA{sg:List Sg}{g:Gs}{k:Int}{b:Bool}(hs:sgB sg)(h:gsOk sg g)(hl:g.bad=false→g.pos<sg.length):Ae sg g (DM sg k b) (Au g,CS sg g k b):=by
 have hx:Cq ⟨k,(pkG sg g 0).text,[],b⟩:=⟨JA hs,by simp⟩
 have:=Tx (x:=⟨k,(pkG sg g 0).text,[],b⟩) h hx hl
 have e:(pur g).bind (DM sg k b)=(pur g).bind fun s=>Ef (AZ ⟨k,(pkG sg g 0).text,[],b⟩ s):=by
  cases hs:pur g with
  |none=>rfl
  |some s=>
   obtain⟨h1,rfl⟩:=Eh.1 hs
   simp [DM,Gk h1]
 obtain⟨⟨a1,a2,a3,a4,a5⟩,a6⟩:=this
 exact⟨⟨a1,a2,a3,by rw[e];exact a4,by rw[e];exact a5⟩,a6⟩
theorem IH{sg:List Sg}{g:Gs}(hs:sgB sg)(h:gsOk sg g):Ae sg g (Bu sg) (Da sg g,Cu sg g):=by
 unfold Cu Da
 cases hm:nmG sg g 0 with
 |true=>
  obtain⟨hb,hl⟩:=Ia hm
  simp only[if_true]
  obtain⟨⟨a1,a2,a3,a4,a5⟩,a6⟩:=NA (k:=1) (b:=false) hs h (fun _=>by omega)
  have e:(pur g).bind (Bu sg)=(pur g).bind (DM sg 1 false):=by
   rw[CR hb]
   have:CY sg g.pos=true:=by have:=Jy (sg:=sg) (n:=0) (CR hb);rw[hm] at this;simpa using this.symm
   simp [Bu,this]
  exact⟨⟨a1,a2,a3,by rw[e];exact a4,by rw[e];exact a5⟩,a6⟩
 |false=>
  simp only[Bool.false_eq_true,if_false]
  have e:(pur g).bind (Bu sg)=none:=by
   cases hs:pur g with
   |none=>rfl
   |some s=>
    have:CY sg s.pos=false:=by have:=Jy (sg:=sg) (n:=0) hs;rw[hm] at this;simpa using this.symm
    simp [Bu,this]
  refine⟨⟨KM h,rfl,Int.le_refl _,by rw[e];exact IG,fun p hp=>by rw[e] at hp;cases hp⟩,fun hb=>by simp [Bc] at hb⟩
theorem Mi{sg:List Sg}{g:Gs}(h:gsOk sg g):Ae sg g (EW sg) (BQ sg g,BP sg g):=by
 unfold BP BQ
 cases hm:nmG sg g 0 with
 |true=>
  obtain⟨hb,hl⟩:=Ia hm
  simp only[if_true]
  have hn:CY sg g.pos=true:=by have:=Jy (sg:=sg) (n:=0) (CR hb);rw[hm] at this;simpa using this.symm
  refine⟨⟨EL h (by omega),rfl,by simp only[Aj];omega,?_,?_⟩,fun _=>by simp only[Aj];omega⟩
  ·simp only;rw[Tv,CR hb];simp [EW,hn]
  ·intro p hp;rw[CR hb] at hp
   simp [EW,hn] at hp
   rw[←hp,Gk hb];simp
 |false=>
  simp only[Bool.false_eq_true,if_false]
  have e:(pur g).bind (EW sg)=none:=by
   cases hs:pur g with
   |none=>rfl
   |some s=>
    have:CY sg s.pos=false:=by have:=Jy (sg:=sg) (n:=0) hs;rw[hm] at this;simpa using this.symm
    simp [EW,this]
  refine⟨⟨KM h,rfl,Int.le_refl _,by rw[e];exact IG,fun p hp=>by rw[e] at hp;cases hp⟩,fun hb=>by simp [Bc] at hb⟩
end Go.My
end
section
set_option linter.unusedVariables false
set_option linter.unusedSimpArgs false
namespace Go.My
open Go.Eng Go.Proofs
variable {G:GInv}
theorem YU{a:Int}{b:List UInt8}{c:List Int}{d:Bool}{o:Bool}{i:Nat}{q:Nd→Prop}(h:q ⟨a,b,c,d⟩):∃x:Nd,a=x.kind∧b=x.text∧AV.sl o i 1 Int Ba c=AV.sl o i 1 Int Ba x.kids∧d=x.blank∧q x:=⟨⟨a,b,c,d⟩,rfl,rfl,rfl,rfl,h⟩
theorem AL{α β γ δ ε ζ η:Type}{p q:α×β×γ×δ×ε×ζ×η→Prop}(a:α)(b:β)(c:γ)(d:δ)(e:ε)(f:ζ)(g:η)(h2:q (a,b,c,d,e,f,g))(h1:p (a,b,c,d,e,f,g)):∃x,p x∧q x:=⟨_,h1,h2⟩
theorem AM{α β γ δ ε ζ η θ:Type}{p q:α×β×γ×δ×ε×ζ×η×θ→Prop}(a:α)(b:β)(c:γ)(d:δ)(e:ε)(f:ζ)(g:η)(h:θ)(h2:q (a,b,c,d,e,f,g,h))(h1:p (a,b,c,d,e,f,g,h)):∃x,p x∧q x:=⟨_,h1,h2⟩
theorem AN{α β γ δ ε ζ η θ ι:Type}{p q:α×β×γ×δ×ε×ζ×η×θ×ι→Prop}(a:α)(b:β)(c:γ)(d:δ)(e:ε)(f:ζ)(g:η)(h:θ)(i:ι)(h2:q (a,b,c,d,e,f,g,h,i))(h1:p (a,b,c,d,e,f,g,h,i)):∃x,p x∧q x:=⟨_,h1,h2⟩
theorem AO{α β γ δ ε ζ η θ ι κ:Type}{p q:α×β×γ×δ×ε×ζ×η×θ×ι×κ→Prop}(a:α)(b:β)(c:γ)(d:δ)(e:ε)(f:ζ)(g:η)(h:θ)(i:ι)(j:κ)(h2:q (a,b,c,d,e,f,g,h,i,j))(h1:p (a,b,c,d,e,f,g,h,i,j)):∃x,p x∧q x:=⟨_,h1,h2⟩
structure ST where
 sg:List Sg
 z:Int
 ms:List (Int×Int)
def mbs(ms:List (Int×Int)):AV:= .sl true 0 2 (Int×Int) (fun p=>[.int .i64 p.1,.int .i64 p.2]) ms
def rdG(s:ST)(g:Gs):AV:= .box 0 [sgs s.sg,.int .i64 s.z,.int .i64 g.pos,.int .i64 g.deep,.bool g.bad,As g.nodes,mbs s.ms]
abbrev xg (x:ST×Int×Int×Bool×List Nd):Gs:=⟨x.2.1,x.2.2.1,x.2.2.2.1,x.2.2.2.2⟩
abbrev xh {α:Type} (x:ST×Int×Int×Bool×List Nd×α):Gs:=⟨x.2.1,x.2.2.1,x.2.2.2.1,x.2.2.2.2.1⟩
abbrev yG (y:Int×Int×Bool×List Nd):Gs:=⟨y.1,y.2.1,y.2.2.1,y.2.2.2⟩
abbrev yS {α:Type} (y:α×Int×Int×Bool×List Nd):α×Gs:=(y.1,⟨y.2.1,y.2.2.1,y.2.2.2.1,y.2.2.2.2⟩)
def rOk(s:ST)(g:Gs):Prop:=sgB s.sg∧gsOk s.sg g
theorem DD{s:ST}{g:Gs}(h:rOk s g):((0≤g.pos∧g.pos≤s.sg.length)∧(0≤g.deep∧g.deep≤21))∧g.nodes.length≤300∧s.sg.length≤3000:=⟨⟨h.2.1,h.2.2.1⟩,h.2.2.2.1,h.1.1⟩
theorem Ty{sg:List Sg}{g:Gs}{n:Int}(h:g.bad=true∨(sg.length:Int)≤g.pos+n):pkG sg g n=Ew:=if_pos h
theorem Tz{sg:List Sg}{g:Gs}{n:Int}{e:Sg}(he:sg[(g.pos+n).toNat]? =some e)(hb:g.bad=false)(hl:¬(sg.length:Int)≤g.pos+n):pkG sg g n=e:=by
 rw[pkG,if_neg (by simp [hb];omega),IE he]
def Ez:Sig:= {X:=ST×Int×Int×Bool×List Nd×Int,args:=fun x=>[rdG x.1 (xh x),.int .i64 x.2.2.2.2.2],pre:=fun x=>rOk x.1 (xh x)∧0≤x.2.2.2.2.2∧x.2.2.2.2.2≤2^20,Y:=Unit,post:=fun x y=>True,res:=fun x y=> .agg (sgA (pkG x.1.sg (xh x) x.2.2.2.2.2)),outs:=fun x y=>[rdG x.1 (xh x),.top],keep:=true}
def PH(x:ST×Int×Int×Bool×List Nd×Int):LS:= {ι:=Unit,inv:=fun _=>True,regs:=fun _=>[(0,rdG x.1 (xh x)),(4,.box 0 (sgA (pkG x.1.sg (xh x) x.2.2.2.2.2)))],als:=[],meas:=fun _=>0}
theorem PI:Aq G Tryz.prog 141 Ez:=
 vcFun_okP [] [] false (fun x=>[(100003,PH x)]) Tryz.func141 rfl (by decide) trivial (fun(x:ST×Int×Int×Bool×List Nd×Int)=>True∧true=true∧true=true∧Aa (xh x).bad (∃(y:Unit),True∧(0:Int)=(pkG x.1.sg (xh x) x.2.2.2.2.2).kind∧ #[].toList=(pkG x.1.sg (xh x) x.2.2.2.2.2).text∧(0:Int)=(pkG x.1.sg (xh x) x.2.2.2.2.2).pos∧false=(pkG x.1.sg (xh x) x.2.2.2.2.2).blank∧sgs x.1.sg=sgs x.1.sg∧x.1.z=x.1.z∧(xh x).pos=(xh x).pos∧(xh x).deep=(xh x).deep∧(xh x).bad=(xh x).bad∧As (xh x).nodes=As (xh x).nodes∧mbs x.1.ms=mbs x.1.ms∧True) (inR IntKind.i64 ((xh x).pos+x.2.2.2.2.2)∧Aa (decide ((xh x).pos+x.2.2.2.2.2≥(↑(List.length x.1.sg):Int))) (∃(y:Unit),True∧(0:Int)=(pkG x.1.sg (xh x) x.2.2.2.2.2).kind∧ #[].toList=(pkG x.1.sg (xh x) x.2.2.2.2.2).text∧(0:Int)=(pkG x.1.sg (xh x) x.2.2.2.2.2).pos∧false=(pkG x.1.sg (xh x) x.2.2.2.2.2).blank∧sgs x.1.sg=sgs x.1.sg∧x.1.z=x.1.z∧(xh x).pos=(xh x).pos∧(xh x).deep=(xh x).deep∧(xh x).bad=(xh x).bad∧As (xh x).nodes=As (xh x).nodes∧mbs x.1.ms=mbs x.1.ms∧True) (true=true∧((inR IntKind.i64 ((xh x).pos+x.2.2.2.2.2)∧((0:Int)≤(xh x).pos+x.2.2.2.2.2∧(xh x).pos+x.2.2.2.2.2<(↑(List.length x.1.sg):Int))∧∀(e:Sg),x.1.sg[Int.toNat ((xh x).pos+x.2.2.2.2.2)]? =some e→true=true∧eA (PH x) [rdG x.1 (xh x),.box 0 [.int .i64 e.kind,.str e.text,.int .i64 e.pos,.bool e.blank]])∧inR IntKind.i64 ((xh x).pos+x.2.2.2.2.2)∧((0:Int)≤(xh x).pos+x.2.2.2.2.2∧(xh x).pos+x.2.2.2.2.2<(↑(List.length x.1.sg):Int))∧∀(e:Sg),x.1.sg[Int.toNat ((xh x).pos+x.2.2.2.2.2)]? =some e→true=true∧eA (PH x) [rdG x.1 (xh x),.box 0 [.int .i64 e.kind,.str e.text,.int .i64 e.pos,.bool e.blank]])∧∀(i:Unit),True→∃(y:Unit),True∧(pkG x.1.sg (xh x) x.2.2.2.2.2).kind=(pkG x.1.sg (xh x) x.2.2.2.2.2).kind∧(pkG x.1.sg (xh x) x.2.2.2.2.2).text=(pkG x.1.sg (xh x) x.2.2.2.2.2).text∧(pkG x.1.sg (xh x) x.2.2.2.2.2).pos=(pkG x.1.sg (xh x) x.2.2.2.2.2).pos∧(pkG x.1.sg (xh x) x.2.2.2.2.2).blank=(pkG x.1.sg (xh x) x.2.2.2.2.2).blank∧sgs x.1.sg=sgs x.1.sg∧x.1.z=x.1.z∧(xh x).pos=(xh x).pos∧(xh x).deep=(xh x).deep∧(xh x).bad=(xh x).bad∧As (xh x).nodes=As (xh x).nodes∧mbs x.1.ms=mbs x.1.ms∧True))) (fun x=>by kernel_rfl) fun(x:ST×Int×Int×Bool×List Nd×Int) (hx:rOk x.1 (xh x)∧0≤x.2.2.2.2.2∧x.2.2.2.2.2≤2^20)=>(by
 dsimp only[eA,PH,mbs,Bf,As,rdG,Br,sgs,Av,Az,BA]
 obtain⟨s,p,d,b,ns,e⟩:=x;dsimp only[xg,xh] at hx ⊢
 obtain⟨h1,h2,h3⟩:=hx;have hs:=DD h1;dsimp only at hs
 (repeat' first|(with_reducible first|rfl|exact True.intro|apply AK|apply And.intro|((first|apply AA|apply AI|apply AB|apply AJ)<;>intro _))|(apply Ax<;>intro _)|apply AH|refine Af () ?_ ?_|((first|apply AO|apply AN|apply AM|apply AL|apply AG|apply AF|apply AE|apply AD|apply AC)<;>try dsimp only)|apply Af|(refine Prod.forall.2 ?_;intro _;try dsimp only)|(intro _;try dsimp only))
 all_goals first
  |rfl
  |(rw[Ty (.inl ‹_›)];rfl)
  |(rw[Ty (.inr (by omega))];rfl)
  |(rw[Tz ‹_› ‹_› (by omega)];done)
  |((try simp only[AR]);omega)
  |skip)
def Cm:Sig:= {X:=ST×Int×Int×Bool×List Nd,args:=fun x=>[rdG x.1 (xg x)],pre:=fun x=>rOk x.1 (xg x),Y:=Unit,post:=fun x y=>True,res:=fun x y=> .agg (sgA (pkG x.1.sg (xg x) 0)),outs:=fun x y=>[rdG x.1 (xg x)],keep:=true}
theorem GK:Aq G Tryz.prog 103 Cm:=
 vcFun_okP [(141,0,Ez)] [] false (fun x=>[]) Tryz.func103 rfl (by decide) ⟨PI,trivial⟩ (fun(x:ST×Int×Int×Bool×List Nd)=>True∧cA Ez [rdG x.1 (xg x),.int .i64 (0:Int)] fun x_1 y=>∃(y:Unit),True∧(pkG x_1.1.sg (xh x_1) x_1.2.2.2.2.2).kind=(pkG x.1.sg (xg x) (0:Int)).kind∧(pkG x_1.1.sg (xh x_1) x_1.2.2.2.2.2).text=(pkG x.1.sg (xg x) (0:Int)).text∧(pkG x_1.1.sg (xh x_1) x_1.2.2.2.2.2).pos=(pkG x.1.sg (xg x) (0:Int)).pos∧(pkG x_1.1.sg (xh x_1) x_1.2.2.2.2.2).blank=(pkG x.1.sg (xg x) (0:Int)).blank∧sgs x_1.1.sg=sgs x.1.sg∧x_1.1.z=x.1.z∧(xh x_1).pos=(xg x).pos∧(xh x_1).deep=(xg x).deep∧(xh x_1).bad=(xg x).bad∧As (xh x_1).nodes=As (xg x).nodes∧mbs x_1.1.ms=mbs x.1.ms∧True) (fun x=>by kernel_rfl) fun(x:ST×Int×Int×Bool×List Nd) (hx:rOk x.1 (xg x))=>(by
 dsimp only[cA,mbs,Bf,As,rdG,Ez,Br,sgs,Av,Az,mvL,lnL,mvE,lnE]
 obtain⟨s,p,d,b,ns⟩:=x;dsimp only[xg,xh] at hx ⊢
 have hx:rOk s ⟨p,d,b,ns⟩:=hx
 (repeat' first|(with_reducible first|rfl|exact True.intro|apply AK|apply And.intro|((first|apply AA|apply AI|apply AB|apply AJ)<;>intro _))|(apply Ax<;>intro _)|apply AH|refine Af () ?_ ?_|((first|apply AO|apply AN|apply AM|apply AL|apply AG|apply AF|apply AE|apply AD|apply AC)<;>try dsimp only)|apply Af|(refine Prod.forall.2 ?_;intro _;try dsimp only)|(intro _;try dsimp only))
 all_goals first
  |rfl
  |exact hx
  |omega
  |skip)
def Cr:Sig:= {X:=ST×Int×Int×Bool×List Nd×List UInt8,args:=fun x=>[rdG x.1 (xh x),.str x.2.2.2.2.2],pre:=fun x=>rOk x.1 (xh x),Y:=Unit,post:=fun x y=>True,res:=fun x y=> .bool (isG x.1.sg (xh x) 4 x.2.2.2.2.2),outs:=fun x y=>[rdG x.1 (xh x),.top],keep:=true}
theorem Hp:Aq G Tryz.prog 166 Cr:=
 vcFun_okP [(103,0,Cm)] [] false (fun x=>[]) Tryz.func166 rfl (by decide) ⟨GK,trivial⟩ (fun(x:ST×Int×Int×Bool×List Nd×List UInt8)=>True∧cA Cm [rdG x.1 (xh x)] fun x_1 y=>Aa ((pkG x_1.1.sg (xg x_1) (0:Int)).kind==(4:Int)) (cA Cm [rdG x_1.1 (xg x_1)] fun x_2 y=>rA Cr x [.bool ((pkG x_2.1.sg (xg x_2) (0:Int)).text==x.2.2.2.2.2),rdG x_2.1 (xg x_2),.top]) (rA Cr x [.bool false,rdG x_1.1 (xg x_1),.top])) (fun x=>by kernel_rfl) fun(x:ST×Int×Int×Bool×List Nd×List UInt8) (hx:rOk x.1 (xh x))=>(by
 dsimp only[cA,mbs,Bf,As,rA,rdG,Cr,Cm,Br,sgs,Av,Az,mvL,lnL,mvE,lnE]
 obtain⟨s,p,d,b,ns,e⟩:=x;dsimp only[xg,xh] at hx ⊢
 have hx:rOk s ⟨p,d,b,ns⟩:=hx
 (repeat' first|(with_reducible first|rfl|exact True.intro|apply AK|apply And.intro|((first|apply AA|apply AI|apply AB|apply AJ)<;>intro _))|(apply Ax<;>intro _)|apply AH|refine Af () ?_ ?_|((first|apply AO|apply AN|apply AM|apply AL|apply AG|apply AF|apply AE|apply AD|apply AC)<;>try dsimp only)|apply Af|(refine Prod.forall.2 ?_;intro _;try dsimp only)|(intro _;try dsimp only))
 all_goals first
  |rfl
  |exact hx
  |(simp [isG, *];done)
  |skip)
def DW:Sig:= {X:=ST×Int×Int×Bool×List Nd×List UInt8,args:=fun x=>[rdG x.1 (xh x),.str x.2.2.2.2.2],pre:=fun x=>rOk x.1 (xh x),Y:=Unit,post:=fun x y=>True,res:=fun x y=> .bool (isG x.1.sg (xh x) 1 x.2.2.2.2.2),outs:=fun x y=>[rdG x.1 (xh x),.top],keep:=true}
theorem PJ:Aq G Tryz.prog 133 DW:=
 vcFun_okP [(103,0,Cm)] [] false (fun x=>[]) Tryz.func133 rfl (by decide) ⟨GK,trivial⟩ (fun(x:ST×Int×Int×Bool×List Nd×List UInt8)=>True∧cA Cm [rdG x.1 (xh x)] fun x_1 y=>Aa ((pkG x_1.1.sg (xg x_1) (0:Int)).kind==(1:Int)) (cA Cm [rdG x_1.1 (xg x_1)] fun x_2 y=>rA DW x [.bool ((pkG x_2.1.sg (xg x_2) (0:Int)).text==x.2.2.2.2.2),rdG x_2.1 (xg x_2),.top]) (rA DW x [.bool false,rdG x_1.1 (xg x_1),.top])) (fun x=>by kernel_rfl) fun(x:ST×Int×Int×Bool×List Nd×List UInt8) (hx:rOk x.1 (xh x))=>(by
 dsimp only[cA,mbs,Bf,As,rA,rdG,DW,Cm,Br,sgs,Av,Az,mvL,lnL,mvE,lnE]
 obtain⟨s,p,d,b,ns,e⟩:=x;dsimp only[xg,xh] at hx ⊢
 have hx:rOk s ⟨p,d,b,ns⟩:=hx
 (repeat' first|(with_reducible first|rfl|exact True.intro|apply AK|apply And.intro|((first|apply AA|apply AI|apply AB|apply AJ)<;>intro _))|(apply Ax<;>intro _)|apply AH|refine Af () ?_ ?_|((first|apply AO|apply AN|apply AM|apply AL|apply AG|apply AF|apply AE|apply AD|apply AC)<;>try dsimp only)|apply Af|(refine Prod.forall.2 ?_;intro _;try dsimp only)|(intro _;try dsimp only))
 all_goals first
  |rfl
  |exact hx
  |(simp [isG, *];done)
  |skip)
def Ei:Sig:= {X:=ST×Int×Int×Bool×List Nd×Int,args:=fun x=>[rdG x.1 (xh x),.int .i64 x.2.2.2.2.2],pre:=fun x=>rOk x.1 (xh x)∧0≤x.2.2.2.2.2∧x.2.2.2.2.2≤2^20,Y:=Unit,post:=fun x y=>True,res:=fun x y=> .bool (nmG x.1.sg (xh x) x.2.2.2.2.2),outs:=fun x y=>[rdG x.1 (xh x),.top],keep:=true}
theorem NB:Aq G Tryz.prog 167 Ei:=
 vcFun_okP [(141,0,Ez),(160,0,Fk)] [] false (fun x=>[]) Tryz.func167 rfl (by decide) ⟨PI,XD,trivial⟩ (fun(x:ST×Int×Int×Bool×List Nd×Int)=>True∧cA Ez [rdG x.1 (xh x),.int .i64 x.2.2.2.2.2] fun x_1 y=>Aa ((pkG x_1.1.sg (xh x_1) x_1.2.2.2.2.2).kind==(1:Int)) (cA Fk [.str (pkG x_1.1.sg (xh x_1) x_1.2.2.2.2.2).text] fun x_2 y=>rA Ei x [.bool !kw x_2,rdG x_1.1 (xh x_1),.top]) (rA Ei x [.bool false,rdG x_1.1 (xh x_1),.top])) (fun x=>by kernel_rfl) fun(x:ST×Int×Int×Bool×List Nd×Int) (hx:rOk x.1 (xh x)∧0≤x.2.2.2.2.2∧x.2.2.2.2.2≤2^20)=>(by
 dsimp only[cA,mbs,Bf,As,rA,rdG,Fk,Ei,Ez,Br,sgs,Av,Az,mvL,lnL,mvE,lnE]
 obtain⟨s,p,d,b,ns,e⟩:=x;dsimp only[xg,xh] at hx ⊢
 obtain⟨h1,h2,h3⟩:=hx
 (repeat' first|(with_reducible first|rfl|exact True.intro|apply AK|apply And.intro|((first|apply AA|apply AI|apply AB|apply AJ)<;>intro _))|(apply Ax<;>intro _)|apply AH|refine Af () ?_ ?_|((first|apply AO|apply AN|apply AM|apply AL|apply AG|apply AF|apply AE|apply AD|apply AC)<;>try dsimp only)|apply Af|(refine Prod.forall.2 ?_;intro _;try dsimp only)|(intro _;try dsimp only))
 all_goals first
  |rfl
  |exact h1
  |omega
  |(simp [nmG, *];done)
  |skip)
def CF:Sig:= {X:=ST×Int×Int×Bool×List Nd×List UInt8,args:=fun x=>[rdG x.1 (xh x),.str x.2.2.2.2.2],pre:=fun x=>rOk x.1 (xh x),Y:=Unit,post:=fun x y=>True,res:=fun x y=> .bool (isG x.1.sg (xh x) 4 x.2.2.2.2.2),outs:=fun x y=>[rdG x.1 (Ai x.1.sg (xh x) x.2.2.2.2.2),.top],keep:=true}
theorem II:Aq G Tryz.prog 163 CF:=
 vcFun_okP [(166,0,Cr)] [] false (fun x=>[]) Tryz.func163 rfl (by decide) ⟨Hp,trivial⟩ (fun(x:ST×Int×Int×Bool×List Nd×List UInt8)=>True∧cA Cr [rdG x.1 (xh x),.str x.2.2.2.2.2] fun x_1 y=>Aa (!isG x_1.1.sg (xh x_1) (4:Int) x_1.2.2.2.2.2) (rA CF x [.bool false,rdG x_1.1 (xh x_1),.top]) (inR IntKind.i64 ((xh x_1).pos+(1:Int))∧rA CF x [.bool true,.box 0 [sgs x_1.1.sg,.int .i64 x_1.1.z,.int .i64 ((xh x_1).pos+(1:Int)),.int .i64 (xh x_1).deep,.bool (xh x_1).bad,As (xh x_1).nodes,mbs x_1.1.ms],.top])) (fun x=>by kernel_rfl) fun(x:ST×Int×Int×Bool×List Nd×List UInt8) (hx:rOk x.1 (xh x))=>(by
 dsimp only[cA,mbs,Bf,As,rA,rdG,Cr,CF,Br,sgs,Av,Az,mvL,lnL,mvE,lnE]
 obtain⟨s,p,d,b,ns,e⟩:=x;dsimp only[xg,xh] at hx ⊢
 have hx:rOk s ⟨p,d,b,ns⟩:=hx;have hs:=DD hx;dsimp only at hs
 (repeat' first|(with_reducible first|rfl|exact True.intro|apply AK|apply And.intro|((first|apply AA|apply AI|apply AB|apply AJ)<;>intro _))|(apply Ax<;>intro _)|apply AH|refine Af () ?_ ?_|((first|apply AO|apply AN|apply AM|apply AL|apply AG|apply AF|apply AE|apply AD|apply AC)<;>try dsimp only)|apply Af|(refine Prod.forall.2 ?_;intro _;try dsimp only)|(intro _;try dsimp only))
 all_goals first
  |rfl
  |exact hx
  |(simp [Ai,Aj, *];done)
  |((try simp only[AR]);omega)
  |skip)
def Cv:Sig:= {X:=ST×Int×Int×Bool×List Nd×List UInt8,args:=fun x=>[rdG x.1 (xh x),.str x.2.2.2.2.2],pre:=fun x=>rOk x.1 (xh x),Y:=Unit,post:=fun x y=>True,res:=fun x y=> .tup [],outs:=fun x y=>[rdG x.1 (Al x.1.sg (xh x) x.2.2.2.2.2),.top],keep:=true}
theorem IJ:Aq G Tryz.prog 137 Cv:=
 vcFun_okP [(163,0,CF)] [] false (fun x=>[]) Tryz.func137 rfl (by decide) ⟨II,trivial⟩ (fun(x:ST×Int×Int×Bool×List Nd×List UInt8)=>True∧cA CF [rdG x.1 (xh x),.str x.2.2.2.2.2] fun x_1 y=>Aa (!isG x_1.1.sg (xh x_1) (4:Int) x_1.2.2.2.2.2) (rA Cv x [.tup [],.box 0 [sgs x_1.1.sg,.int .i64 x_1.1.z,.int .i64 (Ai x_1.1.sg (xh x_1) x_1.2.2.2.2.2).pos,.int .i64 (Ai x_1.1.sg (xh x_1) x_1.2.2.2.2.2).deep,.bool true,As (Ai x_1.1.sg (xh x_1) x_1.2.2.2.2.2).nodes,mbs x_1.1.ms],.top]) (rA Cv x [.tup [],rdG x_1.1 (Ai x_1.1.sg (xh x_1) x_1.2.2.2.2.2),.top])) (fun x=>by kernel_rfl) fun(x:ST×Int×Int×Bool×List Nd×List UInt8) (hx:rOk x.1 (xh x))=>(by
 dsimp only[cA,mbs,Bf,As,rA,rdG,CF,Cv,Br,sgs,Av,Az,mvL,lnL,mvE,lnE]
 obtain⟨s,p,d,b,ns,e⟩:=x;dsimp only[xg,xh] at hx ⊢
 have hx:rOk s ⟨p,d,b,ns⟩:=hx;have hs:=DD hx;dsimp only at hs
 (repeat' first|(with_reducible first|rfl|exact True.intro|apply AK|apply And.intro|((first|apply AA|apply AI|apply AB|apply AJ)<;>intro _))|(apply Ax<;>intro _)|apply AH|refine Af () ?_ ?_|((first|apply AO|apply AN|apply AM|apply AL|apply AG|apply AF|apply AE|apply AD|apply AC)<;>try dsimp only)|apply Af|(refine Prod.forall.2 ?_;intro _;try dsimp only)|(intro _;try dsimp only))
 all_goals first
  |rfl
  |exact hx
  |(simp [Al,Ai,Aj,Bc, *];done)
  |((try simp only[AR]);omega)
  |skip)
theorem YV{sg:List Sg}{g:Gs}{e:Sg}(he:sg[(g.pos+1-1).toNat]? =some e)(h:nmG sg g 0=true):e.text=BQ sg g:=by
 obtain⟨hb,hl⟩:=Ia h
 rw[BQ,if_pos h,Tz (by rw[show g.pos+0=g.pos+1-1 by omega];exact he) hb (by omega)]
def Ej:Sig:= {X:=ST×Int×Int×Bool×List Nd,args:=fun x=>[rdG x.1 (xg x)],pre:=fun x=>rOk x.1 (xg x),Y:=Unit,post:=fun x y=>True,res:=fun x y=> .str (BQ x.1.sg (xg x)),outs:=fun x y=>[rdG x.1 (BP x.1.sg (xg x))],keep:=true}
theorem NC:Aq G Tryz.prog 136 Ej:=
 vcFun_okP [(167,0,Ei)] [] false (fun x=>[]) Tryz.func136 rfl (by decide) ⟨NB,trivial⟩ (fun(x:ST×Int×Int×Bool×List Nd)=>True∧cA Ei [rdG x.1 (xg x),.int .i64 (0:Int)] fun x_1 y=>Aa (!nmG x_1.1.sg (xh x_1) x_1.2.2.2.2.2) (rA Ej x [.str #[].toList,.box 0 [sgs x_1.1.sg,.int .i64 x_1.1.z,.int .i64 (xh x_1).pos,.int .i64 (xh x_1).deep,.bool true,As (xh x_1).nodes,mbs x_1.1.ms]]) (inR IntKind.i64 ((xh x_1).pos+(1:Int))∧true=true∧true=true∧inR IntKind.i64 ((xh x_1).pos+(1:Int)-(1:Int))∧((0:Int)≤(xh x_1).pos+(1:Int)-(1:Int)∧(xh x_1).pos+(1:Int)-(1:Int)<(↑(List.length x_1.1.sg):Int))∧∀(e:Sg),x_1.1.sg[Int.toNat ((xh x_1).pos+(1:Int)-(1:Int))]? =some e→rA Ej x [.str e.text,.box 0 [sgs x_1.1.sg,.int .i64 x_1.1.z,.int .i64 ((xh x_1).pos+(1:Int)),.int .i64 (xh x_1).deep,.bool (xh x_1).bad,As (xh x_1).nodes,mbs x_1.1.ms]])) (fun x=>by kernel_rfl) fun(x:ST×Int×Int×Bool×List Nd) (hx:rOk x.1 (xg x))=>(by
 dsimp only[cA,mbs,Bf,As,rA,rdG,Ej,Ei,Br,sgs,Av,Az,mvL,lnL,mvE,lnE]
 obtain⟨s,p,d,b,ns⟩:=x;dsimp only[xg,xh] at hx ⊢
 have hx:rOk s ⟨p,d,b,ns⟩:=hx;have hs:=DD hx;dsimp only at hs
 (repeat' first|(with_reducible first|rfl|exact True.intro|apply AK|apply And.intro|((first|apply AA|apply AI|apply AB|apply AJ)<;>intro _))|(apply Ax<;>intro _)|apply AH|refine Af () ?_ ?_|((first|apply AO|apply AN|apply AM|apply AL|apply AG|apply AF|apply AE|apply AD|apply AC)<;>try dsimp only)|apply Af|(refine Prod.forall.2 ?_;intro _;try dsimp only)|(intro _;try dsimp only))
 all_goals first
  |rfl
  |exact hx
  |(simp [BP,BQ,Aj,Bc, *];done)
  |exact YV ‹_› ‹_›
  |(have hl:=Ia (show nmG _ _ 0=true by assumption);dsimp only at hl;(try simp only[AR]);omega)
  |((try simp only[AR]);omega)
  |(rename _=some _=>he;exact YV he ‹_›))
theorem a7C{g:Gs}(h:g.bad=true):CM g=true:=by simp [CM,h]
theorem a7D{g:Gs}(h:(g.nodes.length:Int)=300):CM g=true:=by simp [CM,show g.nodes.length=300 by omega]
theorem a7E{g:Gs}(h:g.bad=false)(h2:(g.nodes.length:Int)≠300):CM g=false:=by simp [CM,h,show g.nodes.length≠300 by omega]
theorem a7F{g:Gs}(h:g.bad=false)(h2:g.nodes.length≠300):CM g=false:=by simp [CM,h,h2]
def BR:Sig:= {X:=ST×Int×Int×Bool×List Nd×Int×List UInt8×List Int×Bool,args:=fun x=>[rdG x.1 (xh x),.agg (ndA true ⟨x.2.2.2.2.2.1,x.2.2.2.2.2.2.1,x.2.2.2.2.2.2.2.1,x.2.2.2.2.2.2.2.2⟩)],pre:=fun x=>rOk x.1 (xh x),Y:=Unit,post:=fun x y=>True,res:=fun x y=> .int .i64 (Au (xh x)),outs:=fun x y=>[rdG x.1 (Ah (xh x) ⟨x.2.2.2.2.2.1,x.2.2.2.2.2.2.1,x.2.2.2.2.2.2.2.1,x.2.2.2.2.2.2.2.2⟩),.top],keep:=true}
def a7G(x:ST×Int×Int×Bool×List Nd×Int×List UInt8×List Int×Bool):LS:= {ι:=Unit,inv:=fun _=>(xh x).bad=false∧(xh x).nodes.length≠300,regs:=fun _=>[(0,rdG x.1 (Ah (xh x) ⟨x.2.2.2.2.2.1,x.2.2.2.2.2.2.1,x.2.2.2.2.2.2.2.1,x.2.2.2.2.2.2.2.2⟩))],als:=[],meas:=fun _=>0}
theorem Gl:Aq G Tryz.prog 104 BR:=
 vcFun_okP [] [(32,⟨Nd,ndA true⟩)] false (fun x=>[(100004,a7G x)]) Tryz.func104 rfl (by decide) trivial (fun(x:ST×Int×Int×Bool×List Nd×Int×List UInt8×List Int×Bool)=>True∧Aa (xh x).bad (rA BR x [.int .i64 (0:Int),.box 0 [sgs x.1.sg,.int .i64 x.1.z,.int .i64 (xh x).pos,.int .i64 (xh x).deep,.bool true,As (xh x).nodes,mbs x.1.ms],.top]) (Aa ((↑(List.length (xh x).nodes):Int)==(300:Int)) (rA BR x [.int .i64 (0:Int),.box 0 [sgs x.1.sg,.int .i64 x.1.z,.int .i64 (xh x).pos,.int .i64 (xh x).deep,.bool true,As (xh x).nodes,mbs x.1.ms],.top]) (true=true∧((∃(x_1:Nd),x.2.2.2.2.2.1=x_1.kind∧x.2.2.2.2.2.2.1=x_1.text∧Ad x.2.2.2.2.2.2.2.1=Ad x_1.kids∧x.2.2.2.2.2.2.2.2=x_1.blank∧∃(zs:List Nd),As [x_1]=As zs∧Bt (ndA true)∧AW (List.length (xh x).nodes+List.length zs) (56:Nat)∧true=true∧∃(i:Unit),((xh x).bad=false∧List.length (xh x).nodes≠(300:Nat))∧(sgs x.1.sg=sgs x.1.sg∧x.1.z=x.1.z∧(xh x).pos=(Ah (xh x) {kind:=x.2.2.2.2.2.1,text:=x.2.2.2.2.2.2.1,kids:=x.2.2.2.2.2.2.2.1,blank:=x.2.2.2.2.2.2.2.2}).pos∧(xh x).deep=(Ah (xh x) {kind:=x.2.2.2.2.2.1,text:=x.2.2.2.2.2.2.1,kids:=x.2.2.2.2.2.2.2.1,blank:=x.2.2.2.2.2.2.2.2}).deep∧(xh x).bad=(Ah (xh x) {kind:=x.2.2.2.2.2.1,text:=x.2.2.2.2.2.2.1,kids:=x.2.2.2.2.2.2.2.1,blank:=x.2.2.2.2.2.2.2.2}).bad∧As ((xh x).nodes++zs)=As (Ah (xh x) {kind:=x.2.2.2.2.2.1,text:=x.2.2.2.2.2.2.1,kids:=x.2.2.2.2.2.2.2.1,blank:=x.2.2.2.2.2.2.2.2}).nodes∧mbs x.1.ms=mbs x.1.ms∧True)∧True)∧(∃(x_1:Nd),x.2.2.2.2.2.1=x_1.kind∧x.2.2.2.2.2.2.1=x_1.text∧Ad x.2.2.2.2.2.2.2.1=Ad x_1.kids∧x.2.2.2.2.2.2.2.2=x_1.blank∧∃(zs:List Nd),As [x_1]=As zs∧Bt (ndA true)∧AW (List.length (xh x).nodes+List.length zs) (56:Nat)∧true=true∧∃(i:Unit),((xh x).bad=false∧List.length (xh x).nodes≠(300:Nat))∧(sgs x.1.sg=sgs x.1.sg∧x.1.z=x.1.z∧(xh x).pos=(Ah (xh x) {kind:=x.2.2.2.2.2.1,text:=x.2.2.2.2.2.2.1,kids:=x.2.2.2.2.2.2.2.1,blank:=x.2.2.2.2.2.2.2.2}).pos∧(xh x).deep=(Ah (xh x) {kind:=x.2.2.2.2.2.1,text:=x.2.2.2.2.2.2.1,kids:=x.2.2.2.2.2.2.2.1,blank:=x.2.2.2.2.2.2.2.2}).deep∧(xh x).bad=(Ah (xh x) {kind:=x.2.2.2.2.2.1,text:=x.2.2.2.2.2.2.1,kids:=x.2.2.2.2.2.2.2.1,blank:=x.2.2.2.2.2.2.2.2}).bad∧As ((xh x).nodes++zs)=As (Ah (xh x) {kind:=x.2.2.2.2.2.1,text:=x.2.2.2.2.2.2.1,kids:=x.2.2.2.2.2.2.2.1,blank:=x.2.2.2.2.2.2.2.2}).nodes∧mbs x.1.ms=mbs x.1.ms∧True)∧True)∧∃(x_1:Nd),x.2.2.2.2.2.1=x_1.kind∧x.2.2.2.2.2.2.1=x_1.text∧Ad x.2.2.2.2.2.2.2.1=Ad x_1.kids∧x.2.2.2.2.2.2.2.2=x_1.blank∧∃(zs:List Nd),As [x_1]=As zs∧Bt (ndA true)∧AW (List.length (xh x).nodes+List.length zs) (56:Nat)∧true=true∧∃(i:Unit),((xh x).bad=false∧List.length (xh x).nodes≠(300:Nat))∧(sgs x.1.sg=sgs x.1.sg∧x.1.z=x.1.z∧(xh x).pos=(Ah (xh x) {kind:=x.2.2.2.2.2.1,text:=x.2.2.2.2.2.2.1,kids:=x.2.2.2.2.2.2.2.1,blank:=x.2.2.2.2.2.2.2.2}).pos∧(xh x).deep=(Ah (xh x) {kind:=x.2.2.2.2.2.1,text:=x.2.2.2.2.2.2.1,kids:=x.2.2.2.2.2.2.2.1,blank:=x.2.2.2.2.2.2.2.2}).deep∧(xh x).bad=(Ah (xh x) {kind:=x.2.2.2.2.2.1,text:=x.2.2.2.2.2.2.1,kids:=x.2.2.2.2.2.2.2.1,blank:=x.2.2.2.2.2.2.2.2}).bad∧As ((xh x).nodes++zs)=As (Ah (xh x) {kind:=x.2.2.2.2.2.1,text:=x.2.2.2.2.2.2.1,kids:=x.2.2.2.2.2.2.2.1,blank:=x.2.2.2.2.2.2.2.2}).nodes∧mbs x.1.ms=mbs x.1.ms∧True)∧True)∧∀(i:Unit),(xh x).bad=false∧List.length (xh x).nodes≠(300:Nat)→inR IntKind.i64 ((↑(List.length (Ah (xh x) {kind:=x.2.2.2.2.2.1,text:=x.2.2.2.2.2.2.1,kids:=x.2.2.2.2.2.2.2.1,blank:=x.2.2.2.2.2.2.2.2}).nodes):Int)-(1:Int))∧rA BR x [.int .i64 ((↑(List.length (Ah (xh x) {kind:=x.2.2.2.2.2.1,text:=x.2.2.2.2.2.2.1,kids:=x.2.2.2.2.2.2.2.1,blank:=x.2.2.2.2.2.2.2.2}).nodes):Int)-(1:Int)),rdG x.1 (Ah (xh x) {kind:=x.2.2.2.2.2.1,text:=x.2.2.2.2.2.2.1,kids:=x.2.2.2.2.2.2.2.1,blank:=x.2.2.2.2.2.2.2.2}),.top]))) (fun x=>by kernel_rfl) fun(x:ST×Int×Int×Bool×List Nd×Int×List UInt8×List Int×Bool) (hx:rOk x.1 (xh x))=>(by
 dsimp only[mbs,Bf,Ad,As,rA,rdG,BR,Br,sgs,Av,Az]
 obtain⟨s,p,d,b,ns,k,t,ks,bl⟩:=x;dsimp only[xg,xh] at hx ⊢
 have hx:rOk s ⟨p,d,b,ns⟩:=hx;have hs:=DD hx;dsimp only at hs
 (repeat' first|refine YU ?_|(with_reducible first|rfl|exact True.intro|apply AK|apply And.intro|((first|apply AA|apply AI|apply AB|apply AJ)<;>intro _))|(apply Ax<;>intro _)|apply AH|refine Af () ?_ ?_|((first|apply AO|apply AN|apply AM|apply AL|apply AG|apply AF|apply AE|apply AD|apply AC)<;>try dsimp only)|apply Af|(refine Prod.forall.2 ?_;intro _;try dsimp only)|(intro _;try dsimp only))
 all_goals try(first|(have hF:=a7C (g:=⟨p,d,b,ns⟩) (show b=true by assumption))|(have hF:=a7D (g:=⟨p,d,b,ns⟩) (show(ns.length:Int)=300 by assumption))|(have hF:=a7E (g:=⟨p,d,b,ns⟩) (show b=false by assumption) ‹_›)|(have hF:=a7F (g:=⟨p,d,b,ns⟩) (show b=false by assumption) ‹_›))
 all_goals first
  |rfl
  |(simp [Ah,Au,Bc,hF];done)
  |((try simp only[AR,AW,List.length_append,List.length_cons,List.length_nil]);omega)
  |(simp only[Ah,hF,Bool.false_eq_true,if_false,AR,List.length_append,List.length_cons,List.length_nil];omega)
  |skip)
def CJ:Sig:= {X:=ST×Int×Int×Bool×List Nd,args:=fun x=>[rdG x.1 (xg x)],pre:=fun x=>rOk x.1 (xg x),Y:=Unit,post:=fun x y=>True,res:=fun x y=> .tup [],outs:=fun x y=>[rdG x.1 (BW (xg x))],keep:=true}
theorem IK:Aq G Tryz.prog 162 CJ:=
 vcFun_okP [] [] false (fun x=>[]) Tryz.func162 rfl (by decide) trivial (fun(x:ST×Int×Int×Bool×List Nd)=>True∧Aa (!(xg x).bad) (inR IntKind.i64 ((xg x).pos+(1:Int))∧rA CJ x [.tup [],.box 0 [sgs x.1.sg,.int .i64 x.1.z,.int .i64 ((xg x).pos+(1:Int)),.int .i64 (xg x).deep,.bool (xg x).bad,As (xg x).nodes,mbs x.1.ms]]) (rA CJ x [.tup [],rdG x.1 (xg x)])) (fun x=>by kernel_rfl) fun(x:ST×Int×Int×Bool×List Nd) (hx:rOk x.1 (xg x))=>(by
 dsimp only[mbs,Bf,As,rA,rdG,CJ,Br,sgs,Av,Az]
 obtain⟨s,p,d,b,ns⟩:=x;dsimp only[xg,xh] at hx ⊢
 have hx:rOk s ⟨p,d,b,ns⟩:=hx;have hs:=DD hx;dsimp only at hs
 (repeat' first|(with_reducible first|rfl|exact True.intro|apply AK|apply And.intro|((first|apply AA|apply AI|apply AB|apply AJ)<;>intro _))|(apply Ax<;>intro _)|apply AH|refine Af () ?_ ?_|((first|apply AO|apply AN|apply AM|apply AL|apply AG|apply AF|apply AE|apply AD|apply AC)<;>try dsimp only)|apply Af|(refine Prod.forall.2 ?_;intro _;try dsimp only)|(intro _;try dsimp only))
 all_goals first
  |rfl
  |(simp [BW,Aj, *];done)
  |((try simp only[AR]);omega)
  |skip)
def Ic:Sig:= {X:=ST×Int×Int×Bool×List Nd×Int,args:=fun x=>[rdG x.1 (xh x),.int .i64 x.2.2.2.2.2],pre:=fun x=>rOk x.1 (xh x)∧((xh x).bad=false→(xh x).pos<x.1.sg.length),Y:=Unit,post:=fun x y=>True,res:=fun x y=> .int .i64 (Au (xh x)),outs:=fun x y=>[rdG x.1 (CS x.1.sg (xh x) x.2.2.2.2.2 false),.top],keep:=true}
theorem YW:Aq G Tryz.prog 168 Ic:=
 vcFun_okP [(103,0,Cm),(104,0,BR),(162,0,CJ)] [(45,⟨Int,Ba⟩)] false (fun x=>[]) Tryz.func168 rfl (by decide) ⟨GK,Gl,IK,trivial⟩ (fun(x:ST×Int×Int×Bool×List Nd×Int)=>True∧cA Cm [rdG x.1 (xh x)] fun x_1 y=>cA BR [rdG x_1.1 (xg x_1),.agg [.int .i64 x.2.2.2.2.2,.str (pkG x_1.1.sg (xg x_1) (0:Int)).text,.nil,.bool false]] fun x_2 y=>cA CJ [rdG x_2.1 (Ah (xh x_2) {kind:=x_2.2.2.2.2.2.1,text:=x_2.2.2.2.2.2.2.1,kids:=x_2.2.2.2.2.2.2.2.1,blank:=x_2.2.2.2.2.2.2.2.2})] fun x_3 y=>rA Ic x [.int .i64 (Au (xh x_2)),rdG x_3.1 (BW (xg x_3)),.top]) (fun x=>by kernel_rfl) fun(x:ST×Int×Int×Bool×List Nd×Int) (hx:rOk x.1 (xh x)∧((xh x).bad=false→(xh x).pos<x.1.sg.length))=>(by
 dsimp only[cA,mbs,Bf,As,rA,rdG,BR,Ic,Cm,CJ,Br,sgs,Av,Az,mvL,lnL,mvE,lnE]
 obtain⟨s,p,d,b,ns,e⟩:=x;dsimp only[xg,xh] at hx ⊢
 obtain⟨h1,h2⟩:=hx
 (repeat' first|(with_reducible first|rfl|exact True.intro|apply AK|apply And.intro|((first|apply AA|apply AI|apply AB|apply AJ)<;>intro _))|(apply Ax<;>intro _)|apply AH|refine Af () ?_ ?_|((first|apply AO|apply AN|apply AM|apply AL|apply AG|apply AF|apply AE|apply AD|apply AC)<;>try dsimp only)|apply Af|(refine Prod.forall.2 ?_;intro _;try dsimp only)|(intro _;try dsimp only))
 all_goals first
  |rfl
  |exact h1
  |exact⟨h1.1,Ib h1.2 ⟨JA h1.1,by simp⟩⟩
  |(simp [CS, *];done)
  |skip)
def Cz:Sig:= {X:=ST×Int×Int×Bool×List Nd×List UInt8×Int×List UInt8×List Int×Bool,args:=fun x=>[rdG x.1 (xh x),.str x.2.2.2.2.2.1,.agg (ndA true ⟨x.2.2.2.2.2.2.1,x.2.2.2.2.2.2.2.1,x.2.2.2.2.2.2.2.2.1,x.2.2.2.2.2.2.2.2.2⟩)],pre:=fun x=>rOk x.1 (xh x)∧Cq ⟨x.2.2.2.2.2.2.1,x.2.2.2.2.2.2.2.1,x.2.2.2.2.2.2.2.2.1,x.2.2.2.2.2.2.2.2.2⟩,Y:=Unit,post:=fun x y=>True,res:=fun x y=> .int .i64 (Bw x.1.sg (xh x) x.2.2.2.2.2.1),outs:=fun x y=>[rdG x.1 (Bn x.1.sg (xh x) x.2.2.2.2.2.1 ⟨x.2.2.2.2.2.2.1,x.2.2.2.2.2.2.2.1,x.2.2.2.2.2.2.2.2.1,x.2.2.2.2.2.2.2.2.2⟩),.top,.top],keep:=true}
theorem KN:Aq G Tryz.prog 165 Cz:=
 vcFun_okP [(166,0,Cr),(104,0,BR),(162,0,CJ)] [] false (fun x=>[]) Tryz.func165 rfl (by decide) ⟨Hp,Gl,IK,trivial⟩ (fun(x:ST×Int×Int×Bool×List Nd×List UInt8×Int×List UInt8×List Int×Bool)=>True∧cA Cr [rdG x.1 (xh x),.str x.2.2.2.2.2.1] fun x_1 y=>Aa (!isG x_1.1.sg (xh x_1) (4:Int) x_1.2.2.2.2.2) (rA Cz x [.int .i64 (0:Int),.box 0 [sgs x_1.1.sg,.int .i64 x_1.1.z,.int .i64 (xh x_1).pos,.int .i64 (xh x_1).deep,.bool true,As (xh x_1).nodes,mbs x_1.1.ms],.top,.top]) (cA BR [rdG x_1.1 (xh x_1),.agg [.int .i64 x.2.2.2.2.2.2.1,.str x.2.2.2.2.2.2.2.1,Ad x.2.2.2.2.2.2.2.2.1,.bool x.2.2.2.2.2.2.2.2.2]] fun x_2 y=>cA CJ [rdG x_2.1 (Ah (xh x_2) {kind:=x_2.2.2.2.2.2.1,text:=x_2.2.2.2.2.2.2.1,kids:=x_2.2.2.2.2.2.2.2.1,blank:=x_2.2.2.2.2.2.2.2.2})] fun x_3 y=>rA Cz x [.int .i64 (Au (xh x_2)),rdG x_3.1 (BW (xg x_3)),.top,.top])) (fun x=>by kernel_rfl) fun(x:ST×Int×Int×Bool×List Nd×List UInt8×Int×List UInt8×List Int×Bool) (hx:rOk x.1 (xh x)∧Cq ⟨x.2.2.2.2.2.2.1,x.2.2.2.2.2.2.2.1,x.2.2.2.2.2.2.2.2.1,x.2.2.2.2.2.2.2.2.2⟩)=>(by
 dsimp only[cA,mbs,Bf,Ad,As,rA,rdG,BR,Cz,Cr,CJ,Br,sgs,Av,Az,mvL,lnL,mvE,lnE]
 obtain⟨s,p,d,b,ns,m,k,t,ks,bl⟩:=x;dsimp only[xg,xh] at hx ⊢
 obtain⟨h1,h2⟩:=hx
 (repeat' first|(with_reducible first|rfl|exact True.intro|apply AK|apply And.intro|((first|apply AA|apply AI|apply AB|apply AJ)<;>intro _))|(apply Ax<;>intro _)|apply AH|refine Af () ?_ ?_|((first|apply AO|apply AN|apply AM|apply AL|apply AG|apply AF|apply AE|apply AD|apply AC)<;>try dsimp only)|apply Af|(refine Prod.forall.2 ?_;intro _;try dsimp only)|(intro _;try dsimp only))
 all_goals first
  |rfl
  |exact h1
  |exact⟨h1.1,Ib h1.2 h2⟩
  |(simp [Bn,Bw,Bc, *];done)
  |skip)
def Ie:Sig:= {X:=ST×Int×Int×Bool×List Nd,args:=fun x=>[rdG x.1 (xg x)],pre:=fun x=>rOk x.1 (xg x)∧(xg x).deep≤20,Y:=Unit,post:=fun x y=>True,res:=fun x y=> .tup [],outs:=fun x y=>[rdG x.1 (gDp (if(xg x).deep=20 then Bc (xg x) else(xg x)) 1)],keep:=true}
theorem YX:Aq G Tryz.prog 169 Ie:=
 vcFun_okP [] [] false (fun x=>[]) Tryz.func169 rfl (by decide) trivial (fun(x:ST×Int×Int×Bool×List Nd)=>True∧Aa ((xg x).deep==(20:Int)) (inR IntKind.i64 ((xg x).deep+(1:Int))∧rA Ie x [.tup [],.box 0 [sgs x.1.sg,.int .i64 x.1.z,.int .i64 (xg x).pos,.int .i64 ((xg x).deep+(1:Int)),.bool true,As (xg x).nodes,mbs x.1.ms]]) (inR IntKind.i64 ((xg x).deep+(1:Int))∧rA Ie x [.tup [],.box 0 [sgs x.1.sg,.int .i64 x.1.z,.int .i64 (xg x).pos,.int .i64 ((xg x).deep+(1:Int)),.bool (xg x).bad,As (xg x).nodes,mbs x.1.ms]])) (fun x=>by kernel_rfl) fun(x:ST×Int×Int×Bool×List Nd) (hx:rOk x.1 (xg x)∧(xg x).deep≤20)=>(by
 dsimp only[mbs,Bf,As,rA,rdG,Ie,Br,sgs,Av,Az]
 obtain⟨s,p,d,b,ns⟩:=x;dsimp only[xg,xh] at hx ⊢
 obtain⟨h1,h2⟩:=hx;have hs:=DD h1;dsimp only at hs
 (repeat' first|(with_reducible first|rfl|exact True.intro|apply AK|apply And.intro|((first|apply AA|apply AI|apply AB|apply AJ)<;>intro _))|(apply Ax<;>intro _)|apply AH|refine Af () ?_ ?_|((first|apply AO|apply AN|apply AM|apply AL|apply AG|apply AF|apply AE|apply AD|apply AC)<;>try dsimp only)|apply Af|(refine Prod.forall.2 ?_;intro _;try dsimp only)|(intro _;try dsimp only))
 all_goals first
  |rfl
  |(simp [gDp,Bc, *];done)
  |((try simp only[AR]);omega)
  |skip)
def Gm:Sig:= {X:=ST×Int×Int×Bool×List Nd,args:=fun x=>[rdG x.1 (xg x)],pre:=fun x=>rOk x.1 (xg x),Y:=Unit,post:=fun x y=>True,res:=fun x y=> .int .i64 (Da x.1.sg (xg x)),outs:=fun x y=>[rdG x.1 (Cu x.1.sg (xg x))],keep:=true}
theorem TA:Aq G Tryz.prog 139 Gm:=
 vcFun_okP [(167,0,Ei),(168,0,Ic)] [] false (fun x=>[]) Tryz.func139 rfl (by decide) ⟨NB,YW,trivial⟩ (fun(x:ST×Int×Int×Bool×List Nd)=>True∧cA Ei [rdG x.1 (xg x),.int .i64 (0:Int)] fun x_1 y=>Aa (!nmG x_1.1.sg (xh x_1) x_1.2.2.2.2.2) (rA Gm x [.int .i64 (0:Int),.box 0 [sgs x_1.1.sg,.int .i64 x_1.1.z,.int .i64 (xh x_1).pos,.int .i64 (xh x_1).deep,.bool true,As (xh x_1).nodes,mbs x_1.1.ms]]) (cA Ic [rdG x_1.1 (xh x_1),.int .i64 (1:Int)] fun x_2 y=>rA Gm x [.int .i64 (Au (xh x_2)),rdG x_2.1 (CS x_2.1.sg (xh x_2) x_2.2.2.2.2.2 false)])) (fun x=>by kernel_rfl) fun(x:ST×Int×Int×Bool×List Nd) (hx:rOk x.1 (xg x))=>(by
 dsimp only[cA,mbs,Bf,As,rA,rdG,Ic,Gm,Ei,Br,sgs,Av,Az,mvL,lnL,mvE,lnE]
 obtain⟨s,p,d,b,ns⟩:=x;dsimp only[xg,xh] at hx ⊢
 have hx:rOk s ⟨p,d,b,ns⟩:=hx;have hs:=DD hx;dsimp only at hs
 (repeat' first|(with_reducible first|rfl|exact True.intro|apply AK|apply And.intro|((first|apply AA|apply AI|apply AB|apply AJ)<;>intro _))|(apply Ax<;>intro _)|apply AH|refine Af () ?_ ?_|((first|apply AO|apply AN|apply AM|apply AL|apply AG|apply AF|apply AE|apply AD|apply AC)<;>try dsimp only)|apply Af|(refine Prod.forall.2 ?_;intro _;try dsimp only)|(intro _;try dsimp only))
 all_goals first
  |rfl
  |exact hx
  |omega
  |(have hl:=Ia (show nmG _ _ 0=true by assumption);dsimp only at hl;omega)
  |(simp [Cu,Da,Bc, *];done)
  |skip)
end Go.My
end
section
set_option linter.unusedVariables false
set_option linter.unusedSimpArgs false
namespace Go.My
open Go.Eng
def restP{α:Type}(sg:List Sg)(x:Gs)(f:Ps→Option (α×Ps))(y:Gs)(g:Ps→Option (α×Ps))(d:Int):Prop:=
 gsOk sg y∧y.deep=x.deep+d∧x.pos≤y.pos∧(pur y).bind g=(pur x).bind f
theorem Df{α:Type}{sg:List Sg}{x:Gs}{f:Ps→Option (α×Ps)}(h:gsOk sg x):restP sg x f x f 0:=⟨h,by omega,Int.le_refl _,rfl⟩
theorem Dq{α:Type}{sg:List Sg}{x y:Gs}{f g g':Ps→Option (α×Ps)}{d:Int}(h:restP sg x f y g d)(e:∀s,pur y=some s→g s=g' s):restP sg x f y g' d:=by
 refine⟨h.1,h.2.1,h.2.2.1,?_⟩
 rw[←h.2.2.2]
 cases hs:pur y with
 |none=>rfl
 |some s=>exact(e s hs).symm
theorem YY{α:Type}{sg:List Sg}{x y z:Gs}{f g g':Ps→Option (α×Ps)}{h:Ps→Option Ps}{d:Int}(h1:restP sg x f y g d)(h2:Tu sg y h z)(e:∀s,pur y=some s→g s=(h s).bind g'):restP sg x f z g' d:=by
 obtain⟨a1,a2,a3,a4⟩:=h1;obtain⟨b1,b2,b3,b4⟩:=h2
 refine⟨b1,by omega,by omega,?_⟩
 rw[b4,←a4]
 cases hs:pur y with
 |none=>rfl
 |some s=>simp only[Option.bind_some];rw[e s hs]
theorem BI{α β:Type}{sg:List Sg}{x y:Gs}{z:β×Gs}{f g:Ps→Option (α×Ps)}{k:β→Ps→Option (α×Ps)}{h:Ps→Option (β×Ps)}{d:Int}(h1:restP sg x f y g d)(h2:Bh sg y h z)
 (e:∀s,pur y=some s→g s=(h s).bind fun p=>k p.1 p.2):restP sg x f z.2 (k z.1) d:=by
 obtain⟨a1,a2,a3,a4⟩:=h1;obtain⟨b1,b2,b3,b4,b5⟩:=h2
 refine⟨b1,by omega,by omega,?_⟩
 rw[b4,←a4]
 cases hs:pur y with
 |none=>rfl
 |some s=>
  simp only[Option.bind_some];rw[e s hs]
  rw[hs] at b5
  simp only[Option.bind_some] at b5
  cases hp:h s with
  |none=>rfl
  |some p=>simp only[Option.map_some,Option.bind_some];rw[b5 p hp]
theorem Fq{α:Type}{sg:List Sg}{x y:Gs}{f:Ps→Option (α×Ps)}{a:α}(h:restP sg x f y (fun s=>some (a,s)) 0):Bh sg x f (a,y):=by
 obtain⟨a1,a2,a3,a4⟩:=h
 refine⟨a1,by simp only;omega,a3,?_,?_⟩
 ·rw[←a4];cases pur y<;>rfl
 ·intro p hp;rw[←a4] at hp
  cases hs:pur y with
  |none=>rw[hs] at hp;cases hp
  |some s=>rw[hs] at hp;simp only[Option.bind_some,Option.some.injEq] at hp;rw[←hp]
theorem ND{α:Type}{sg:List Sg}{x y:Gs}{f g:Ps→Option (α×Ps)}{a:α}(h:restP sg x f y g 0)(hb:y.bad=true):Bh sg x f (a,y):=by
 obtain⟨a1,a2,a3,a4⟩:=h
 rw[DC hb] at a4
 have hn:(pur x).bind f=none:=a4.symm
 refine⟨a1,by simp only;omega,a3,?_,fun p hp=>by rw[hn] at hp;cases hp⟩
 rw[hn,DC hb];rfl
theorem YZ{α:Type}{sg:List Sg}{x y:Gs}{f g:Ps→Option (α×Ps)}{d:Int}(h:restP sg x f y g d)(e:∀s,pur y=some s→g s=none):(pur x).bind f=none:=by
 rw[←h.2.2.2]
 cases hs:pur y with
 |none=>rfl
 |some s=>exact e s hs
theorem Za{α:Type}{sg:List Sg}{x y:Gs}{f g:Ps→Option (α×Ps)}{a:α}(h:restP sg x f y g 0)(e:∀s,pur y=some s→g s=none):Bh sg x f (a,Bc y):=by
 have hn:=YZ h e
 refine⟨KM h.1,by simp only[Bc];have:=h.2.1;omega,h.2.2.1,?_,fun p hp=>by rw[hn] at hp;cases hp⟩
 rw[hn,IG];rfl
theorem JB{α:Type}{sg:List Sg}{x y:Gs}{f g g':Ps→Option (α×Ps)}{d e:Int}(h:restP sg x f y g d)(hd:0≤y.deep+e∧y.deep+e≤21)(hg:∀s,pur y=some s→g s=g' (dp s e)):restP sg x f (gDp y e) g' (d+e):=by
 obtain⟨a1,a2,a3,a4⟩:=h
 refine⟨⟨a1.1,hd,a1.2.2⟩,by simp only[gDp];omega,a3,?_⟩
 rw[←a4]
 cases hb:y.bad with
 |true=>rw[DC hb,DC (by simpa [gDp] using hb)];rfl
 |false=>
  rw[CR hb,CR (g:=gDp y e) (by simpa [gDp] using hb)]
  simp only[Option.bind_some]
  rw[hg _ (CR hb)];rfl
theorem Zb{α:Type}{sg:List Sg}{x y:Gs}{f g g':Ps→Option (α×Ps)}{d:Int}(h:restP sg x f y g d)(hg:∀s,pur y=some s→g s=none):restP sg x f (Bc y) g' d:=by
 have hn:=YZ h hg
 refine⟨KM h.1,h.2.1,h.2.2.1,?_⟩
 rw[IG,hn];rfl
theorem Hq{sg:List Sg}{g:Gs}{s:Ps}{m:List UInt8}(hs:pur g=some s)(hm:isG sg g 4 m=true):isM sg s m=true:=Tw hm hs
theorem Ek{sg:List Sg}{g:Gs}{s:Ps}{m:List UInt8}(hs:pur g=some s)(hm:isG sg g 4 m=false):isM sg s m=false:=PF hm hs
theorem El{sg:List Sg}{g:Gs}{s:Ps}{m:List UInt8}(hs:pur g=some s)(hm:isG sg g 1 m=false):isW sg s m=false:=PF hm hs
theorem FK{α:Type}{sg:List Sg}{x y:Gs}{f g g':Ps→Option (α×Ps)}{d:Int}{m:List UInt8}{k:Int}(h:restP sg x f y g d)(hk:k≠0)(hm:isG sg y k m=true)(hg:∀s,pur y=some s→isT sg s k m=true→g s=g' (adv s)):
 restP sg x f (Aj y) g' d:=by
 obtain⟨h1,h2,h3⟩:=YS h.1 hk hm
 refine YY h h1 fun s hs=> ?_
 have ht:=Tw hm hs
 rw[hg s hs ht,ht];rfl
theorem GL{α:Type}{sg:List Sg}{x y:Gs}{f g g':Ps→Option (α×Ps)}{d:Int}{m:List UInt8}(h:restP sg x f y g d)(hg:∀s,pur y=some s→g s=(BC sg m s).bind g'):restP sg x f (Al sg y m) g' d:=
 YY h (Mh h.1).1 hg
theorem a7H{α:Type}{sg:List Sg}{x:Gs}{y:α×Gs}{f:Ps→Option (α×Ps)}(h:Bh sg x f y):restP sg x f y.2 (fun s=>some (y.1,s)) 0:=by
 obtain⟨a1,a2,a3,a4,a5⟩:=h
 refine⟨a1,by omega,a3,?_⟩
 cases hp:(pur x).bind f with
 |none=>rw[a4,hp];rfl
 |some p=>rw[a4,hp,a5 p hp];rfl
theorem a7I{sg:List Sg}{one:Ps→PR}{m:List UInt8}{n:Nat}{ks:List Int}{s:Ps}(h:isM sg s m=true):Bg sg one m (n+1) ks s=some (ks,s):=by rw[Bg,if_pos h]
theorem a7J{sg:List Sg}{one:Ps→PR}{m:List UInt8}{n:Nat}{ks:List Int}{s:Ps}(h:isM sg s m=false):Bg sg one m (n+1) ks s=(one s).bind fun p=>if isM sg p.2 [44] then Bg sg one m n (ks++[p.1]) (adv p.2) else some (ks++[p.1],p.2):=by
 rw[Bg,if_neg (by simp [h])]
end Go.My
end
section
set_option linter.unusedVariables false
set_option linter.unusedSimpArgs false
namespace Go.My
open Go.Eng
def Em(sg:List Sg):Nat→Int→Int
 |0,i=>i
 |n+1,i=>if i+1<sg.length∧(sgO sg i).kind=1 then(if(sgO sg (i+1)).text=[44] then Em sg n (i+2) else i+1) else i
def Fr(sg:List Sg)(i k:Int)(t:List UInt8):Bool:=decide ((sgO sg i).kind=k)&&((sgO sg i).text==t)
def EZ(sg:List Sg)(i:Int):Bool:=decide (i+1<sg.length)&&(Fr sg i 4 [41]&&Fr sg (i+1) 4 [61,62])
def JC(sg:List Sg)(s:Ps):Bool:=EZ sg (Em sg (sg.length+1) (s.pos+1))
def sgM(sg:List Sg):Prop:=∀e∈sg,(e.text=[41]∨e.text=[61,62]∨e.text=[44])→e.kind=4
theorem TB{sg:List Sg}{i:Int}(h:(sgO sg i).text≠[]∨(sgO sg i).kind≠0):i.toNat<sg.length∧sgO sg i∈sg:=by
 unfold sgO at h ⊢
 rw[List.getD_eq_getElem?_getD] at h ⊢
 cases hx:sg[i.toNat]? with
 |none=>rw[hx] at h;simp [Ew] at h
 |some e=>exact⟨(List.getElem?_eq_some_iff.1 hx).1,by simpa using List.mem_of_getElem? hx⟩
theorem PK{sg:List Sg}(hm:sgM sg){i:Int}(h:(sgO sg i).text=[41]∨(sgO sg i).text=[61,62]∨(sgO sg i).text=[44]):(sgO sg i).kind=4:=by
 refine hm _ (TB (.inl ?_)).2 h
 rcases h with h|h|h<;>rw[h]<;>simp
def Zd(sg:List Sg)(i:Int):Bool:=((sgO sg i).text==[41])&&((sgO sg (i+1)).text==[61,62])
theorem TC{sg:List Sg}(hm:sgM sg){i:Int}(h0:0≤i):Zd sg i=EZ sg i:=by
 unfold Zd EZ Fr
 cases h1:((sgO sg i).text==[41]) with
 |false=>simp
 |true=>
  have k1:=PK hm (.inl (by simpa using h1))
  cases h2:((sgO sg (i+1)).text==[61,62]) with
  |false=>simp
  |true=>
   have k2:=PK hm (.inr (.inl (by simpa using h2)))
   have:=(TB (sg:=sg) (i:=i+1) (.inl (by simp at h2;rw[h2];simp))).1
   simp [k1,k2];omega
theorem PM{sg:List Sg}{i:Int}(h:CY sg i=true):(sgO sg i).kind=1:=by
 simp [CY] at h;exact h.1
theorem Ze{sg:List Sg}(hm:sgM sg):∀(n:Nat) (i:Int),0≤i→EZ sg (Dc sg n i)=true→EZ sg (Em sg n i)=true
 |0,i,h0,h=>by simpa [Dc,Em] using h
 |n+1,i,h0,h=>by
  rw[Dc] at h;rw[Em]
  cases hn:CY sg i with
  |false=>
   rw[hn] at h;simp only[Bool.false_eq_true,if_false] at h
   have h4:(sgO sg i).kind=4:=by
    simp only[EZ,Fr,Bool.and_eq_true,decide_eq_true_eq] at h;exact h.2.1.1
   rw[if_neg (by rw[h4];omega)];exact h
  |true=>
   rw[hn,if_pos rfl] at h
   have hk:=PM hn
   have hlt:i+1<sg.length:=by
    split at h
    ·rename_i ht
     have:=(TB (sg:=sg) (i:=i+1) (.inl (by rw[ht];simp))).1;omega
    ·simp only[EZ,Bool.and_eq_true,decide_eq_true_eq] at h;omega
   rw[if_pos ⟨hlt,hk⟩]
   split at h
   ·rename_i ht;rw[if_pos ht];exact Ze hm n (i+2) (by omega) h
   ·rename_i ht;rw[if_neg ht];exact h
theorem Zf{sg:List Sg}(hm:sgM sg):∀(n:Nat) (i:Int),0≤i→EZ sg (Em sg n i)=true→EZ sg (Dc sg n i)=false→∀(N:Nat) (ks:List Int) (s:Ps),s.pos=i→Bg sg (Bu sg) [41] N ks s=none
 |0,i,h0,h1,h2=>by simp [Dc,Em] at h1 h2;rw[h1] at h2;cases h2
 |n+1,i,h0,h1,h2=>by
  intro N ks s hs
  match N with
  |0=>rfl
  |N+1=>
  rw[Em] at h1;rw[Dc] at h2
  cases hn:CY sg i with
  |false=>
   rw[hn] at h2;simp only[Bool.false_eq_true,if_false] at h2
   split at h1
   ·rename_i hh
    have hm4:isM sg s [41]=false:=by simp [isM,isT,hs,hh.2]
    rw[Bg,if_neg (by simp [hm4]),Bu,hs,if_neg (by simp [hn])];rfl
   ·rw[h1] at h2;cases h2
  |true=>
   rw[hn,if_pos rfl] at h2
   have hk:=PM hn
   have hm4:isM sg s [41]=false:=by simp [isM,isT,hs,hk]
   split at h1
   ·split at h1
    ·rename_i ht;rw[if_pos ht] at h2
     have hk2:=PK hm (.inr (.inr ht))
     rw[Bg,if_neg (by simp [hm4]),Bu,hs,if_pos hn,DM,Ef,AZ]
     split
     ·rfl
     ·simp only[Option.map_some,Option.bind_some,adv]
      have hc:isM sg ⟨s.pos+1,s.deep,s.nodes++[⟨1,(sgO sg s.pos).text,[],false⟩]⟩ [44]=true:=by simp [isM,isT,hs,ht,hk2]
      rw[if_pos hc]
      exact Zf hm n (i+2) (by omega) h1 h2 N _ _ (by simp only;omega)
    ·rename_i ht;rw[if_neg ht] at h2;rw[h1] at h2;cases h2
   ·exfalso
    have:(sgO sg i).kind=4:=by simp only[EZ,Fr,Bool.and_eq_true,decide_eq_true_eq] at h1;exact h1.2.1.1
    omega
theorem Mj{sg:List Sg}(hm:sgM sg):∀(n:Nat) (t:NT) (s:Ps),CY sg s.pos=true→(sgO sg (s.pos+1)).text=[44]→0≤s.pos→(pE sg n t s=none∨∃p,pE sg n t s=some p∧p.2.pos=s.pos+1)
 |0,t,s,h1,h2,h0=> .inl (by cases t<;>rfl)
 |n+1,t,s,h1,h2,h0=>by
  have hk:=PK hm (.inr (.inr h2))
  have tst:∀(q:Ps) (m:List UInt8),q.pos=s.pos+1→m≠[44]→isM sg q m=false:=by
   intro q m hq hne;simp only[isM,isT,hq,h2]
   simp;intro _;exact fun e=>hne e.symm
  cases t with
  |value=>
   rw[pE]
   rcases Mj hm n .pick s h1 h2 h0 with h|⟨p,h,hp⟩
   ·left;rw[h];rfl
   ·right;refine⟨p,?_,hp⟩
    rw[h,Option.bind_some,if_neg (by simp [tst p.2 [46,46] hp (by simp)])]
  |pick=>
   rw[pE]
   split
   ·exact .inl rfl
   ·rcases Mj hm n (.chain 0) (dp s 1) h1 h2 h0 with h|⟨p,h,hp⟩
    ·left;rw[h];rfl
    ·right;refine⟨(p.1,dp p.2 (-1)),?_,hp⟩
     rw[h,Option.bind_some,if_neg (by simp [tst p.2 [63] hp (by simp)])]
  |chain l=>
   rw[pE]
   split
   ·exact Mj hm n .fin s h1 h2 h0
   ·rcases Mj hm n (.chain (l+1)) s h1 h2 h0 with h|⟨p,h,hp⟩
    ·left;rw[h];rfl
    ·right
     have hc:Fp sg l p.2=[]:=by
      have:∀m∈Bs l,isM sg p.2 m=false:=by
       intro m hmm
       refine tst p.2 m hp ?_
       intro e;subst e
       unfold Bs at hmm
       split at hmm<;>simp at hmm
      rw[Fp,List.find?_eq_none.2 (by intro m hmm;simp [this m hmm])];rfl
     refine⟨(p.1,p.2),?_,hp⟩
     rw[h,Option.bind_some,DV,if_neg (by simp),if_pos hc];rfl
  |fin=>
   rw[pE]
   rcases Mj hm n .base s h1 h2 h0 with h|⟨p,h,hp⟩
   ·left;rw[h];rfl
   ·right;refine⟨p,?_,hp⟩
    rw[h,Option.bind_some,EX,if_neg (by simp [tst p.2 [40] hp (by simp)]),if_neg (by simp [tst p.2 [46] hp (by simp)])]
  |base=>
   rw[pE,if_pos (PM h1),Bu,if_pos h1,DM,Ef,AZ]
   split
   ·exact .inl rfl
   ·exact .inr ⟨_,rfl,rfl⟩
theorem Mk{sg:List Sg}:∀(n:Nat) (t:NT) (s:Ps),CY sg s.pos=false→(sgO sg s.pos).kind=1→pE sg n t s=none
 |0,t,s,h1,h2=>by cases t<;>rfl
 |n+1,t,s,h1,h2=>by
  cases t with
  |value=>rw[pE,Mk n .pick s h1 h2];rfl
  |pick=>rw[pE];split
         ·rfl
         ·rw[Mk n (.chain 0) (dp s 1) h1 h2];rfl
  |chain l=>rw[pE];split
            ·exact Mk n .fin s h1 h2
            ·rw[Mk n (.chain (l+1)) s h1 h2];rfl
  |fin=>rw[pE,Mk n .base s h1 h2];rfl
  |base=>rw[pE,if_pos h2,Bu,if_neg (by simp [h1])]
theorem a7K{sg:List Sg}(hm:sgM sg){s:Ps}{n:Nat}{x:Nd}(h0:0≤s.pos)(h1:JC sg s=true)(h2:Eg sg s=false)(k:Int→Nd):
 ((pE sg n .value (adv s)).bind fun p=>Bl sg [41] (k p.1) p.2)=none:=by
 have h2':EZ sg (Dc sg (sg.length+1) (s.pos+1))=false:=by
  have hp:∀(n:Nat) (i:Int),0≤i→0≤Dc sg n i:=by
   intro n
   induction n with
   |zero=>intro i hi;simpa [Dc] using hi
   |succ n ih=>intro i hi;rw[Dc];split
               ·split
                ·exact ih _ (by omega)
                ·omega
               ·exact hi
  rw[←TC hm (hp _ _ (by omega))];exact h2
 unfold JC at h1
 rw[Em] at h1;rw[Dc] at h2'
 cases hn:CY sg (s.pos+1) with
 |false=>
  rw[hn] at h2';simp only[Bool.false_eq_true,if_false] at h2'
  split at h1
  ·rename_i hh
   rw[Mk n .value (adv s) hn hh.2];rfl
  ·rw[h1] at h2';cases h2'
 |true=>
  rw[hn,if_pos rfl] at h2'
  split at h1
  ·split at h1
   ·rename_i ht
    rcases Mj hm n .value (adv s) hn (by simpa [adv] using ht) (by simp only[adv];omega) with h|⟨p,h,hp⟩
    ·rw[h];rfl
    ·rw[h,Option.bind_some,Bl]
     have:isM sg p.2 [41]=false:=by
      simp only[isM,isT,hp,adv]
      rw[show s.pos+1+1=s.pos+1+1 from rfl,ht];simp
     rw[if_neg (by simp [this])]
   ·rename_i ht;rw[if_neg ht] at h2';rw[h1] at h2';cases h2'
  ·exfalso
   have:(sgO sg (s.pos+1)).kind=4:=by simp only[EZ,Fr,Bool.and_eq_true,decide_eq_true_eq] at h1;exact h1.2.1.1
   have:=PM hn
   omega
end Go.My
end
