/- A part of the proof: the engine and the contracts, joined. -/
import Derived.Test.YtplklcfglbkfhaaGreatDoorQF
section
set_option linter.unusedVariables false
set_option linter.unusedSimpArgs false
namespace Go.My
open Go.Eng Go.Proofs
variable {G:GInv}
def sdp(ns:List Nd)(i:Nat)(ds:List Int):Int:=
 if nodeOk ns i=true∧(i=0∨ds.getD (i-1) 0≠0) then(if 14≤mx ds (Ab ns i).kids 0 then 0 else mx ds (Ab ns i).kids 0+1) else 0
def sds(ns:List Nd):Nat→List Int
 |0=>[]
 |n+1=>sds ns n++[sdp ns n (sds ns n)]
theorem Hr{ns:List Nd}:∀ {n:Nat},(sds ns n).length=n
 |0=>rfl
 |n+1=>by rw[sds,List.length_append,Hr];rfl
theorem YO{ns:List Nd}:∀ {n:Nat},(match deeps ns n with|some ds=>sds ns n=ds|none=>0<n∧(sds ns n).getD (n-1) 0=0)
 |0=>by simp [deeps,sds]
 |n+1=>by
  have ih:= @YO ns n
  unfold deeps
  cases hd:deeps ns n with
  |none=>
   rw[hd] at ih
   simp only
   refine⟨by omega,?_⟩
   have hz:sdp ns n (sds ns n)=0:=by
    unfold sdp;rw[if_neg];rintro⟨_,h|h⟩
    ·omega
    ·exact h ih.2
   rw[sds,hz,List.getD,List.getElem?_append_right (by rw[Hr];omega),Hr];simp
  |some ds=>
   rw[hd] at ih
   simp only at ih ⊢
   by_cases hn:nodeOk ns n=true
   ·rw[if_pos hn]
    have hprev:n=0∨(sds ns n).getD (n-1) 0≠0:=by
     by_cases e:n=0
     ·exact .inl e
     ·right
      rw[ih,List.getD]
      have hl:=LP hd
      have:ds[n-1]? =some ds[n-1]:=by simp
      rw[this];have:=PU hd ds[n-1] (by simp);simp;omega
    have hs:sdp ns n (sds ns n)=if 14≤mx ds (Ab ns n).kids 0 then 0 else mx ds (Ab ns n).kids 0+1:=by
     unfold sdp;rw[if_pos ⟨hn,hprev⟩,ih]
    by_cases hm:14≤mx ds (Ab ns n).kids 0
    ·rw[if_pos hm];simp only
     refine⟨by omega,?_⟩
     rw[sds,hs,if_pos hm,List.getD,List.getElem?_append_right (by rw[Hr];omega),Hr];simp
    ·rw[if_neg hm];simp only
     rw[sds,hs,if_neg hm,ih]
   ·rw[if_neg hn];simp only
    refine⟨by omega,?_⟩
    have hz:sdp ns n (sds ns n)=0:=by unfold sdp;rw[if_neg (fun h=>hn h.1)]
    rw[sds,hz,List.getD,List.getElem?_append_right (by rw[Hr];omega),Hr];simp
theorem a7I{ns:List Nd}{k:Int}{v:Int}(h:isNd ns k=true)(hv:(sds ns (k.toNat+1))[k.toNat]? =some v):v=deepOf ns k:=by
 have ih:= @YO ns (k.toNat+1)
 unfold deepOf;rw[if_pos h]
 cases hd:deeps ns (k.toNat+1) with
 |none=>rw[hd] at ih;simp only at ih ⊢;have:=ih.2;rw[List.getD] at this;simp [hv] at this;exact this
 |some ds=>rw[hd] at ih;simp only at ih ⊢;rw[←ih,List.getD,hv];rfl
theorem Ug{ns:List Nd}:∀ {n:Nat},∀d∈sds ns n,0≤d∧d≤14
 |0,d,h=>by simp [sds] at h
 |n+1,d,h=>by
  rw[sds] at h
  rcases List.mem_append.1 h with h|h
  ·exact Ug d h
  ·simp at h;subst h
   have:=TJ (sds ns n) (Ab ns n).kids 0
   unfold sdp;split
   ·split<;>omega
   ·omega
def okB(ns:List Nd)(i:Int):Bool:=nodeOk ns i&&(decide (i=0)|| !decide ((sds ns i.toNat).getD (i.toNat-1) 0=0))
theorem YP{ns:List Nd}{i:Int}(h:0≤i):sdp ns i.toNat (sds ns i.toNat)=if okB ns i then(if 14≤mx (sds ns i.toNat) (Ab ns i).kids 0 then 0 else mx (sds ns i.toNat) (Ab ns i).kids 0+1) else 0:=by
 have e:((i.toNat:Nat):Int)=i:=by omega
 unfold sdp;rw[e]
 have hb:okB ns i=true↔nodeOk ns i=true∧(i.toNat=0∨(sds ns i.toNat).getD (i.toNat-1) 0≠0):=by
  unfold okB
  simp only[Bool.and_eq_true,Bool.or_eq_true,decide_eq_true_eq,Bool.not_eq_true',decide_eq_false_iff_not]
  constructor
  ·rintro⟨h1,h2⟩;exact⟨h1,h2.imp (fun h=>by omega) id⟩
  ·rintro⟨h1,h2⟩;exact⟨h1,h2.imp (fun h=>by omega) id⟩
 by_cases h1:okB ns i=true
 ·rw[if_pos h1,if_pos (hb.1 h1)]
 ·rw[if_neg h1,if_neg (fun h2=>h1 (hb.2 h2))]
def eI(ns:List Nd)(i j d:Int):Prop:=(okB ns i=true→j≤(Ab ns i).kids.length∧1≤d∧d≤15∧mx (sds ns i.toNat) ((Ab ns i).kids.drop j.toNat) (d-1)=mx (sds ns i.toNat) (Ab ns i).kids 0)∧0≤j∧(okB ns i=false→d=0)
theorem a7J{ns:List Nd}{i:Int}:eI ns i 0 (if okB ns i then 1 else 0):=by
 refine⟨fun h=> ?_,by omega,fun h=> ?_⟩
 ·rw[if_pos h];refine⟨by omega,by omega,by omega,by simp⟩
 ·rw[h];rfl
theorem Qt{ns:List Nd}{i j d:Int}(h:eI ns i j d)(hd:d>0):okB ns i=true:=by
 cases hb:okB ns i
 ·have:=h.2.2 hb;omega
 ·rfl
theorem YQ{ns:List Nd}{i:Int}(h:okB ns i=true):nodeOk ns i=true:=by
 simp only[okB,Bool.and_eq_true] at h;exact h.1
theorem a7K{ns:List Nd}{i j d c:Int}{y:Nd}(h:eI ns i j d)(hd:d>0)(hy:ns[i.toNat]? =some y)(hc:y.kids[j.toNat]? =some c):0≤c∧c<i:=by
 have:=(CS (YQ (Qt h hd))).2.2.2.1
 rw[AZ hy] at this;exact this c (CZ hc)
theorem a7L{ns:List Nd}{i j d:Int}{y:Nd}(h:eI ns i j d)(hd:d>0)(hy:ns[i.toNat]? =some y):y.kids.length≤12:=by
 have:=(CS (YQ (Qt h hd))).2.1
 rwa [AZ hy] at this
theorem a7M{ns:List Nd}{i j d c v d':Int}{y:Nd}(h:eI ns i j d)(hd:d>0)(hy:ns[i.toNat]? =some y)(hc:y.kids[j.toNat]? =some c)(hv:(sds ns i.toNat)[c.toNat]? =some v)(hd':d'-1=max (d-1) v):eI ns i (j+1) d':=by
 have hb:=Qt h hd
 obtain⟨h1,h2,h3,h4⟩:=h.1 hb
 have h0:=h.2.1
 have hr:=Ug v (CZ hv)
 rw[AZ hy] at h4 h1
 have:=(Fd hc).1
 refine⟨fun _=> ?_,by omega,fun hh=>by rw[hb] at hh;cases hh⟩
 rw[AZ hy]
 refine⟨by omega,by omega,by omega,?_⟩
 rw[←h4,HM hc,Dv h0,mx,List.getD,hv,Option.getD_some,hd']
theorem a7N{ns:List Nd}{i:Int}{c:Nat}{v:Int}(hv:(sds ns i.toNat)[c]? =some v):0≤v∧v≤14:=Ug v (CZ hv)
theorem a7O{ns:List Nd}{i j d:Int}{y:Nd}(hi:0≤i)(h:eI ns i j d)(hd:d>0)(hy:ns[i.toNat]? =some y)(hl:¬j<y.kids.length):sds ns i.toNat++[if d>14 then 0 else d]=sds ns (i+1).toNat:=by
 have hb:=Qt h hd
 obtain⟨h1,h2,h3,h4⟩:=h.1 hb
 rw[AZ hy,List.drop_eq_nil_of_le (by omega),mx] at h4
 rw[Dv hi,sds,YP hi,if_pos hb,AZ hy,←h4]
 congr 2
 by_cases h5:d>14
 ·rw[if_pos h5,if_pos (by omega)]
 ·rw[if_neg h5,if_neg (by omega)];omega
theorem a7P{ns:List Nd}{i j d:Int}(hi:0≤i)(h:eI ns i j d)(hd:¬d>0):sds ns i.toNat++[d]=sds ns (i+1).toNat:=by
 have hb:okB ns i=false:=by
  cases hb:okB ns i
  ·rfl
  ·have:=(h.1 hb).2.1;omega
 rw[Dv hi,sds,YP hi,hb,h.2.2 hb];rfl
theorem a7Q{ns:List Nd}{i:Int}(h:nodeOk ns i=false):0=if okB ns i=true then(1:Int) else 0:=by simp [okB,h]
theorem a7R{ns:List Nd}{i v:Int}(h:i>0)(hv:(sds ns i.toNat)[(i-1).toNat]? =some v)(h0:v=0):0=if okB ns i=true then(1:Int) else 0:=by
 have e:(i-1).toNat=i.toNat-1:=by omega
 rw[e] at hv;subst h0
 have:(sds ns i.toNat).getD (i.toNat-1) 0=0:=by rw[List.getD,hv];rfl
 simp only[okB,this,decide_true,Bool.not_true,Bool.or_false]
 rw[decide_eq_false (by omega)];simp
theorem a7S{ns:List Nd}{i:Int}(h:nodeOk ns i=true)(h0:0≤i)(h1:¬i>0):1=if okB ns i=true then(1:Int) else 0:=by
 obtain rfl:i=0:=by omega
 simp [okB,h]
theorem a7T{ns:List Nd}{i v:Int}(h:nodeOk ns i=true)(h0:i>0)(hv:(sds ns i.toNat)[(i-1).toNat]? =some v)(h1:v≠0):1=if okB ns i=true then(1:Int) else 0:=by
 have e:(i-1).toNat=i.toNat-1:=by omega
 rw[e] at hv
 have:(sds ns i.toNat).getD (i.toNat-1) 0≠0:=by rw[List.getD,hv];exact h1
 simp only[okB,h,this,decide_false,Bool.not_false,Bool.or_true,Bool.and_true,if_true]
def Ob(x:List Nd×Int)(o:Int):LS:= {
 ι:=Int×Int,inv:=fun i=>eI x.1 o i.1 i.2,
 regs:=fun i=>[(0,nds x.1),(1,.int .i64 x.2),(5,Ae (sds x.1 o.toNat)),(6,.int .i64 o),(7,.int .i64 i.2),(8,.int .i64 i.1)],als:=[],meas:=fun i=>(Ab x.1 o).kids.length-i.1.toNat}
def Mg(x:List Nd×Int)(o:Int):LS:= {
 ι:=Unit,inv:=fun _=>True,
 regs:=fun i=>[(0,nds x.1),(1,.int .i64 x.2),(5,Ae (sds x.1 o.toNat)),(6,.int .i64 o),(7,.int .i64 (if okB x.1 o then 1 else 0))],als:=[],meas:=fun i=>0}
def lDs(x:List Nd×Int):LS:= {
 ι:=Int,inv:=fun i=>0≤i∧i≤x.2+1,
 regs:=fun i=>[(0,nds x.1),(1,.int .i64 x.2),(5,Ae (sds x.1 i.toNat)),(6,.int .i64 i)],als:=[],meas:=fun i=>(x.2+1-i).toNat,sub:=fun i=>[(9,Ob x i),(200008,Mg x i)]}
def KF:Sig:= {X:=List Nd×Int,args:=fun x=>[nds x.1,.int .i64 x.2],pre:=fun x=>Bc x.1∧x.1.length≤2^30∧isNd x.1 x.2=true,Y:=Unit,post:=fun x y=>True,res:=fun x y=>Ae (sds x.1 (x.2.toNat+1)),outs:=fun x y=>[.top,.top],keep:=false}
theorem a7U:Al G Tryz.prog 69 KF:=
 vcFun_okP [(15,0,EE)] [(26,⟨Int,Bh⟩)] false (fun x=>[(3,lDs x)]) Tryz.func69 rfl (by decide) ⟨a7H,trivial⟩ (fun(x:List Nd×Int)=>(∀(y:Unit),True→(∀(x:Int),True∧True)∧True∧True∧True)∧eA (lDs x) [nds x.1,.int .i64 x.2,Ae [],.int .i64 (0:Int)]∧∀(i:Int),(0:Int)≤i∧i≤x.2+(1:Int)→Aa (decide (i≤x.2)) (Aa (decide (i<(↑(List.length x.1):Int))) ((cA EE [nds x.1,.int .i64 i] fun x_1 y=>Aa (!nodeOk x_1.1 x_1.2) (eA (Mg x i) [nds x.1,.int .i64 x.2,Ae (sds x.1 (Int.toNat i)),.int .i64 i,.int .i64 (0:Int)]) (Aa (decide (i>(0:Int))) (inR IntKind.i64 (i-(1:Int))∧((0:Int)≤i-(1:Int)∧i-(1:Int)<(↑(List.length (sds x.1 (Int.toNat i))):Int))∧Int.toNat (i-(1:Int))<List.length (sds x.1 (Int.toNat i))∧∀(x_2:Int),(sds x.1 (Int.toNat i))[Int.toNat (i-(1:Int))]? =some x_2→Aa (x_2==(0:Int)) (eA (Mg x i) [nds x.1,.int .i64 x.2,Ae (sds x.1 (Int.toNat i)),.int .i64 i,.int .i64 (0:Int)]) (eA (Mg x i) [nds x.1,.int .i64 x.2,Ae (sds x.1 (Int.toNat i)),.int .i64 i,.int .i64 (1:Int)])) (eA (Mg x i) [nds x.1,.int .i64 x.2,Ae (sds x.1 (Int.toNat i)),.int .i64 i,.int .i64 (1:Int)])))∧∀(i_1:Unit),True→eA (Ob x i) [nds x.1,.int .i64 x.2,Ae (sds x.1 (Int.toNat i)),.int .i64 i,.int .i64 (if okB x.1 i=true then(1:Int) else(0:Int)),.int .i64 (0:Int)]∧∀(i_2:Int×Int),eI x.1 i i_2.1 i_2.2→Aa (decide (i_2.2>(0:Int))) (((0:Int)≤i∧i<(↑(List.length x.1):Int))∧∀(e:Nd),x.1[Int.toNat i]? =some e→Aa (decide (i_2.1<(↑(List.length e.kids):Int))) (((0:Int)≤i∧i<(↑(List.length x.1):Int))∧∀(e:Nd),x.1[Int.toNat i]? =some e→((0:Int)≤i_2.1∧i_2.1<(↑(List.length e.kids):Int))∧∀(e_1:Int),e.kids[Int.toNat i_2.1]? =some e_1→((0:Int)≤e_1∧e_1<(↑(List.length (sds x.1 (Int.toNat i))):Int))∧Int.toNat e_1<List.length (sds x.1 (Int.toNat i))∧∀(x_1:Int),(sds x.1 (Int.toNat i))[Int.toNat e_1]? =some x_1→inR IntKind.i64 (x_1+(1:Int))∧Aa (decide (x_1+(1:Int)>i_2.2)) (((0:Int)≤i∧i<(↑(List.length x.1):Int))∧∀(e:Nd),x.1[Int.toNat i]? =some e→((0:Int)≤i_2.1∧i_2.1<(↑(List.length e.kids):Int))∧∀(e_2:Int),e.kids[Int.toNat i_2.1]? =some e_2→((0:Int)≤e_2∧e_2<(↑(List.length (sds x.1 (Int.toNat i))):Int))∧Int.toNat e_2<List.length (sds x.1 (Int.toNat i))∧∀(x_2:Int),(sds x.1 (Int.toNat i))[Int.toNat e_2]? =some x_2→inR IntKind.i64 (x_2+(1:Int))∧inR IntKind.i64 (i_2.1+(1:Int))∧eN (Ob x i) i_2 [nds x.1,.int .i64 x.2,Ae (sds x.1 (Int.toNat i)),.int .i64 i,.int .i64 (x_2+(1:Int)),.int .i64 (i_2.1+(1:Int))]) (inR IntKind.i64 (i_2.1+(1:Int))∧eN (Ob x i) i_2 [nds x.1,.int .i64 x.2,Ae (sds x.1 (Int.toNat i)),.int .i64 i,.int .i64 i_2.2,.int .i64 (i_2.1+(1:Int))])) (Aa (decide (i_2.2>(14:Int))) (∃(x_1:Int),(0:Int)=x_1∧∃(zs:List Int),Ae [x_1]=Ae zs∧BG Bh∧Bb (List.length (sds x.1 (Int.toNat i))+List.length zs) (8:Nat)∧inR IntKind.i64 (i+(1:Int))∧eN (lDs x) i [nds x.1,.int .i64 x.2,Ae (sds x.1 (Int.toNat i)++zs),.int .i64 (i+(1:Int))]) (∃(x_1:Int),i_2.2=x_1∧∃(zs:List Int),Ae [x_1]=Ae zs∧BG Bh∧Bb (List.length (sds x.1 (Int.toNat i))+List.length zs) (8:Nat)∧inR IntKind.i64 (i+(1:Int))∧eN (lDs x) i [nds x.1,.int .i64 x.2,Ae (sds x.1 (Int.toNat i)++zs),.int .i64 (i+(1:Int))]))) (Aa (decide (i_2.2>(14:Int))) (∃(x_1:Int),(0:Int)=x_1∧∃(zs:List Int),Ae [x_1]=Ae zs∧BG Bh∧Bb (List.length (sds x.1 (Int.toNat i))+List.length zs) (8:Nat)∧inR IntKind.i64 (i+(1:Int))∧eN (lDs x) i [nds x.1,.int .i64 x.2,Ae (sds x.1 (Int.toNat i)++zs),.int .i64 (i+(1:Int))]) (∃(x_1:Int),i_2.2=x_1∧∃(zs:List Int),Ae [x_1]=Ae zs∧BG Bh∧Bb (List.length (sds x.1 (Int.toNat i))+List.length zs) (8:Nat)∧inR IntKind.i64 (i+(1:Int))∧eN (lDs x) i [nds x.1,.int .i64 x.2,Ae (sds x.1 (Int.toNat i)++zs),.int .i64 (i+(1:Int))]))) (rA KF x [Ae (sds x.1 (Int.toNat i)),.top,.top])) (rA KF x [Ae (sds x.1 (Int.toNat i)),.top,.top])) (fun x=>by kernel_rfl) fun(x:List Nd×Int) (hx:Bc x.1∧x.1.length≤2^30∧isNd x.1 x.2=true)=>(by
 dsimp only[cA,eA,eN,lDs,Ob,Mg,Bt,nds,Ae,rA,KF,EE,Av,AA,mvL,lnL,mvE,lnE,Bi]
 obtain⟨h1,h2,h3⟩:=hx;have hl:=h1.1;have hn:=Ci.1 h3
 (repeat' first|(with_reducible first|rfl|exact True.intro|apply AL|apply And.intro|((first|apply AB|apply AJ|apply AC|apply AK)<;>intro _))|(apply Az<;>intro _)|apply AI|refine Ag () ?_ ?_|((first|apply AP|apply AO|apply AN|apply AM|apply AH|apply AG|apply AF|apply AE|apply AD)<;>try dsimp only)|apply Ag|(refine Prod.forall.2 ?_;intro _;try dsimp only)|(intro _;try dsimp only))
 all_goals first
  |rfl
  |omega
  |exact a7Q ‹_›
  |exact a7R ‹_› ‹_› ‹_›
  |exact a7S ‹_› (by omega) ‹_›
  |exact a7T ‹_› ‹_› ‹_› ‹_›
  |exact a7J
  |(rw[Hr];omega)
  |skip
 all_goals try(repeat(rename x.1[Int.toNat _]? =some _=>hq;revert hq;rename x.1[Int.toNat _]? =some _=>hr;intro hq;rw[hr] at hq;cases hq))
 all_goals try(repeat(rename(Nd.kids _)[Int.toNat _]? =some _=>hq;revert hq;rename(Nd.kids _)[Int.toNat _]? =some _=>hr;intro hq;rw[hr] at hq;cases hq))
 all_goals try(rename(sds x.1 _)[Int.toNat _]? =some _=>hq;revert hq;rename(sds x.1 _)[Int.toNat _]? =some _=>hr2;intro hq;have hqq:=hr2.symm.trans hq;simp only[Option.some.injEq] at hqq;subst hqq)
 all_goals try(have hke:=a7K ‹_› ‹_› ‹_› ‹_›)
 all_goals try(have hle:=a7L ‹_› ‹_› ‹_›)
 all_goals try(have hve:=a7N ‹_›)
 all_goals try(have hse:=(show eI _ _ _ _ by assumption).2.1)
 all_goals first
  |omega
  |(rw[Hr];omega)
  |((try simp only[AR]);omega)
  |exact a7M ‹_› ‹_› ‹_› ‹_› ‹_› (by omega)
  |(rw[←a7O (by omega) ‹_› ‹_› ‹_› ‹_›];simp [*];done)
  |exact a7P (by omega) ‹_› ‹_›
  |(rw[AZ ‹_›];omega)
  |(congr 1;omega)
  |(simp only[Bb,Hr,List.length_cons,List.length_nil];omega)
  |skip)
def HT:Sig:= {X:=List Nd×Int,args:=fun x=>[nds x.1,.int .i64 x.2],pre:=fun x=>Bc x.1∧x.1.length≤2^30,Y:=Unit,post:=fun x y=>True,res:=fun x y=> .int .i64 (deepOf x.1 x.2),outs:=fun x y=>[.top,.top],keep:=false}
theorem YR:Al G Tryz.prog 16 HT:=
 vcFun_okP [(64,0,CB),(69,0,KF)] [] false (fun x=>[]) Tryz.func16 rfl (by decide) ⟨Kg,a7U,trivial⟩ (fun(x:List Nd×Int)=>(∀(y:Unit),True→True∧True∧True∧True)∧inR IntKind.i64 ((↑(List.length x.1):Int)-(1:Int))∧cA CB [.int .i64 x.2,.int .i64 (0:Int),.int .i64 ((↑(List.length x.1):Int)-(1:Int))] fun x_1 y=>Aa (!inn x_1.1 x_1.2.1 x_1.2.2) (rA HT x [.int .i64 (0:Int),.top,.top]) (cA KF [nds x.1,.int .i64 x.2] fun x_2 y=>((0:Int)≤x.2∧x.2<(↑(List.length (sds x_2.1 (Int.toNat x_2.2+(1:Nat)))):Int))∧Int.toNat x.2<List.length (sds x_2.1 (Int.toNat x_2.2+(1:Nat)))∧∀(x_3:Int),(sds x_2.1 (Int.toNat x_2.2+(1:Nat)))[Int.toNat x.2]? =some x_3→rA HT x [.int .i64 x_3,.top,.top])) (fun x=>by kernel_rfl) fun(x:List Nd×Int) (hx:Bc x.1∧x.1.length≤2^30)=>(by
 dsimp only[cA,Bt,nds,Ae,rA,CB,KF,HT,Av,AA,mvL,lnL,mvE,lnE]
 obtain⟨h1,h2⟩:=hx;have hl:=h1.1
 (repeat' first|(with_reducible first|rfl|exact True.intro|apply AL|apply And.intro|((first|apply AB|apply AJ|apply AC|apply AK)<;>intro _))|(apply Az<;>intro _)|apply AI|refine Ag () ?_ ?_|((first|apply AP|apply AO|apply AN|apply AM|apply AH|apply AG|apply AF|apply AE|apply AD)<;>try dsimp only)|apply Ag|(refine Prod.forall.2 ?_;intro _;try dsimp only)|(intro _;try dsimp only))
 all_goals first
  |exact h1
  |exact h2
  |((try simp only[AR]);omega)
  |(rw[Iv] at*;exact Yp ‹_›)
  |(have hh:=(show inn x.2 0 (x.1.length-1)=true by assumption);rw[Iv] at hh;have:=Ci.1 hh;first|exact hh|omega|exact a7I hh ‹_› |(rw[Hr];omega))
  |skip)
theorem YS{ns:List Nd}{i v:Int}(hv:(cnt ns.length (BC ns))[i.toNat]? =some v)(h0:0≤i):((BC ns).count i:Int)=v:=by
 have h:i.toNat<ns.length:=by have:=(Fd hv).1;rwa [Gb] at this
 rw[KD h] at hv
 have e2:((i.toNat:Nat):Int)=i:=by omega
 rw[e2] at hv;exact Option.some.inj hv
theorem a7V{ns:List Nd}{i v:Int}(h:tE ns i)(hl:i+1<(ns.length:Int))(hv:(cnt ns.length (BC ns))[i.toNat]? =some v)(h1:v=1):tE ns (i+1):=by
 have:=YS hv h.1
 refine⟨by have:=h.1;omega,by omega,fun c hc=> ?_⟩
 by_cases e:(c:Int)<i
 ·exact h.2.2 c e
 ·have:=h.1
  obtain rfl:i=(c:Int):=by omega
  omega
theorem Uh{ns:List Nd}{i j c:Int}{y:Nd}(h:tI ns)(hy:ns[i.toNat]? =some y)(hc:y.kids[j.toNat]? =some c):0≤c∧c<ns.length:=(NX h hy).2 c (CZ hc)
theorem a7W{ns:List Nd}{i:Int}{y:Nd}(h:tI ns)(hy:ns[i.toNat]? =some y):y.kids.length≤12:=(NX h hy).1
theorem a7X{ns:List Nd}{i j c:Int}{y:Nd}(h0:0≤j)(hy:ns[i.toNat]? =some y)(hc:y.kids[j.toNat]? =some c):tk ns i (j+1)=tk ns i j++[c]:=Yu h0 (by rw[AZ hy];exact hc)
theorem a7Y{ns:List Nd}{i j:Int}{y:Nd}(h0:0≤i)(hy:ns[i.toNat]? =some y)(hl:¬j<y.kids.length):tk ns i j=BC (ns.take (i+1).toNat):=Yv h0 hy (by rw[AZ hy];exact hl)
def Qu(x:List Nd)(o:Int):LS:= {
 ι:=Int,inv:=fun j=>0≤j∧j≤(Ab x o).kids.length,
 regs:=fun j=>[(0,nds x),(3,.int .i64 x.length),(4,Ae (cnt x.length (tk x o j))),(5,.int .i64 o),(6,.int .i64 j)],als:=[],meas:=fun j=>(Ab x o).kids.length-j.toNat}
def Qv(x:List Nd):LS:= {
 ι:=Int,inv:=fun i=>0≤i∧i≤x.length,
 regs:=fun i=>[(0,nds x),(3,.int .i64 x.length),(4,Ae (cnt x.length (BC (x.take i.toNat)))),(5,.int .i64 i)],als:=[],meas:=fun i=>x.length-i.toNat,
 sub:=fun i=>[(9,Qu x i)]}
def Qw(x:List Nd):LS:= {
 ι:=Int,inv:=tE x,
 regs:=fun i=>[(3,.int .i64 x.length),(4,Ae (cnt x.length (BC x))),(7,.int .i64 i)],als:=[],meas:=fun i=>x.length-i.toNat}
def DN:Sig:= {X:=List Nd,args:=fun x=>[nds x],pre:=fun x=>Bc x∧x.length≤2^30,Y:=Unit,post:=fun x y=>True,res:=fun x y=> .bool (treeOk x),outs:=fun x y=>[.top],keep:=false}
theorem Qx:Al G Tryz.prog 17 DN:=
 vcFun_okP [(64,0,CB),(16,0,HT)] [(26,⟨Int,Bh⟩)] false (fun x=>[(6,Qv x),(13,Qw x)]) Tryz.func17 rfl (by decide) ⟨Kg,YR,trivial⟩ (fun(x:List Nd)=>(∀(y:Unit),True→True∧True∧True)∧cA CB [.int .i64 (↑(List.length x):Int),.int .i64 (1:Int),.int .i64 (300:Int)] fun x_1 y=>Aa (!inn x_1.1 x_1.2.1 x_1.2.2) (rA DN x [.bool false,.top]) (inR IntKind.i64 ((↑(List.length x):Int)-(1:Int))∧((0:Int)≤(↑(List.length x):Int)-(1:Int)∧(↑(List.length x):Int)-(1:Int)<(↑(List.length x):Int))∧∀(e:Nd),x[Int.toNat ((↑(List.length x):Int)-(1:Int))]? =some e→Aa (e.kind != (22:Int)) (rA DN x [.bool false,.top]) (inR IntKind.i64 ((↑(List.length x):Int)-(1:Int))∧cA HT [nds x,.int .i64 ((↑(List.length x):Int)-(1:Int))] fun x_2 y=>Aa (deepOf x_2.1 x_2.2==(0:Int)) (rA DN x [.bool false,.top]) (((0:Int)≤(↑(List.length x):Int)∧(↑(List.length x):Int)≤(↑(List.length x):Int)∧(↑(8:Nat):Int)*(↑(List.length x):Int)≤(2:Int)^(46:Nat)∧(↑(List.length x):Int)≤(2:Int)^(46:Nat))∧∃(x_3:Int),(0:Int)=x_3∧eA (Qv x) [nds x,.int .i64 (↑(List.length x):Int),Ae (List.replicate (Int.toNat (↑(List.length x):Int)) x_3),.int .i64 (0:Int)]∧∀(i:Int),(0:Int)≤i∧i≤(↑(List.length x):Int)→Aa (decide (i<(↑(List.length x):Int))) (eA (Qu x i) [nds x,.int .i64 (↑(List.length x):Int),Ae (cnt (List.length x) (BC (List.take (Int.toNat i) x))),.int .i64 i,.int .i64 (0:Int)]∧∀(i_1:Int),(0:Int)≤i_1∧i_1≤(↑(List.length (Ab x i).kids):Int)→((0:Int)≤i∧i<(↑(List.length x):Int))∧∀(e:Nd),x[Int.toNat i]? =some e→Aa (decide (i_1<(↑(List.length e.kids):Int))) (((0:Int)≤i∧i<(↑(List.length x):Int))∧∀(e:Nd),x[Int.toNat i]? =some e→((0:Int)≤i_1∧i_1<(↑(List.length e.kids):Int))∧∀(e_1:Int),e.kids[Int.toNat i_1]? =some e_1→((0:Int)≤e_1∧e_1<(↑(List.length (cnt (List.length x) (tk x i i_1))):Int))∧Int.toNat e_1<List.length (cnt (List.length x) (tk x i i_1))∧∀(x_4:Int),(cnt (List.length x) (tk x i i_1))[Int.toNat e_1]? =some x_4→inR IntKind.i64 (x_4+(1:Int))∧((0:Int)≤e_1∧e_1<(↑(List.length (cnt (List.length x) (tk x i i_1))):Int))∧Int.toNat e_1<List.length (cnt (List.length x) (tk x i i_1))∧∀(x_5:Int),(cnt (List.length x) (tk x i i_1))[Int.toNat e_1]? =some x_5→∃(x':Int),((@List.nil AV)=[]∧(@List.nil AV)=[])∧x_4+(1:Int)=x'∧inR IntKind.i64 (i_1+(1:Int))∧eN (Qu x i) i_1 [nds x,.int .i64 (↑(List.length x):Int),Ae (List.set (cnt (List.length x) (tk x i i_1)) (Int.toNat e_1) x'),.int .i64 i,.int .i64 (i_1+(1:Int))]) (inR IntKind.i64 (i+(1:Int))∧eN (Qv x) i [nds x,.int .i64 (↑(List.length x):Int),Ae (cnt (List.length x) (tk x i i_1)),.int .i64 (i+(1:Int))])) (eA (Qw x) [.int .i64 (↑(List.length x):Int),Ae (cnt (List.length x) (BC (List.take (Int.toNat i) x))),.int .i64 (0:Int)]∧∀(i:Int),tE x i→inR IntKind.i64 (i+(1:Int))∧Aa (decide (i+(1:Int)<(↑(List.length x):Int))) (((0:Int)≤i∧i<(↑(List.length (cnt (List.length x) (BC x))):Int))∧Int.toNat i<List.length (cnt (List.length x) (BC x))∧∀(x_4:Int),(cnt (List.length x) (BC x))[Int.toNat i]? =some x_4→Aa (x_4 != (1:Int)) (rA DN x [.bool false,.top]) (inR IntKind.i64 (i+(1:Int))∧eN (Qw x) i [.int .i64 (↑(List.length x):Int),Ae (cnt (List.length x) (BC x)),.int .i64 (i+(1:Int))])) (rA DN x [.bool true,.top])))))) (fun x=>by kernel_rfl) fun(x:List Nd) (hx:Bc x∧x.length≤2^30)=>(by
 dsimp only[cA,eA,eN,Qv,Qu,Qw,Bt,nds,Ae,rA,CB,HT,DN,Av,AA,mvL,lnL,mvE,lnE,Bi]
 obtain⟨h1,h2⟩:=hx;have hl:=h1.1
 (repeat' first|(with_reducible first|rfl|exact True.intro|apply AL|apply And.intro|((first|apply AB|apply AJ|apply AC|apply AK)<;>intro _))|(apply Az<;>intro _)|apply AI|refine Ag () ?_ ?_|((first|apply AP|apply AO|apply AN|apply AM|apply AH|apply AG|apply AF|apply AE|apply AD)<;>try dsimp only)|apply Ag|(refine Prod.forall.2 ?_;intro _;try dsimp only)|(intro _;try dsimp only))
 all_goals try(have t1:=Me.1 (show inn x.length 1 300=true by assumption))
 all_goals try(have t0:=YB ‹_› ‹_› ‹_› ‹_›)
 all_goals try(repeat(rename x[Int.toNat _]? =some _=>hq;revert hq;rename x[Int.toNat _]? =some _=>hr;intro hq;rw[hr] at hq;cases hq))
 all_goals try(repeat(rename(Nd.kids _)[Int.toNat _]? =some _=>hq;revert hq;rename(Nd.kids _)[Int.toNat _]? =some _=>hr;intro hq;rw[hr] at hq;cases hq))
 all_goals try(simp only[AZ (show x[Int.toNat _]? =some _ by assumption)] at*)
 all_goals first
  |rfl
  |exact Mc (YC ‹_›)
  |exact Mc (YD ‹_› ‹_›)
  |exact Mc (fun h=>h.2.2.2 ‹_›)
  |exact Yr
  |(rw[Yt];done)
  |(have:=Uh ‹_› ‹_› (show(Nd.kids _)[Int.toNat _]? =some _ by assumption);(try rw[Gb]);omega)
  |(rw[a7X (by omega) ‹_› ‹_›];exact Ys (Uh ‹_› ‹_› ‹_›).1 (Uh ‹_› ‹_› ‹_›).2 ‹_›)
  |(rw[a7Y (by omega) ‹_› ‹_›];done)
  |(rw[YE ‹_›];done)
  |(have:=YA ‹_› ‹_› ‹_›;omega)
  |exact Yx ‹_› ‹_› (by omega)
  |exact Yy (YS ‹_› (‹tE _ _›.1)) (‹tE _ _›.1) (by omega) ‹_›
  |exact a7V ‹_› ‹_› ‹_› ‹_›
  |exact⟨by omega,by omega,fun c hc=>by omega⟩
  |((try simp only[AR,Bb,List.length_replicate,Gb] at*);omega)
  |(have:=a7W ‹_› ‹_›;(try simp only[AR] at*);omega)
  |(have hte:=(show tE x _ by assumption);have:=hte.1;have:=hte.2.1;(try rw[Gb]);(try simp only[AR] at*);omega)
  |skip)
end Go.My
end
section
set_option linter.unusedVariables false
set_option linter.unusedSimpArgs false
namespace Go.My
open Go.Eng
def Dc(ns:List Nd)(k:Int):Prop:=isNd ns k=true∧∀i:Nat,(i:Int)≤k→nodeOk ns i=true
theorem Oc{ns:List Nd}{k:Int}(h:deepOf ns k≠0):Dc ns k:=⟨(PV h).1,(PV h).2.2⟩
theorem Ui{ns:List Nd}{k:Int}(h:Dc ns k):nodeOk ns k=true:=by
 have:=Ci.1 h.1
 have h2:=h.2 k.toNat (by omega)
 rwa [show((k.toNat:Nat):Int)=k by omega] at h2
end Go.My
end
section
set_option linter.unusedVariables false
set_option linter.unusedSimpArgs false
namespace Go.My
open Go.Eng
def Od(ns:List Nd):Prop:=(∀i:Nat,i<ns.length→nodeOk ns i=true)∧∀i:Nat,i<ns.length-1→(BC ns).count (i:Int)=1
theorem Dd{ns:List Nd}(h:treeOk ns=true):Od ns∧1≤ns.length∧ns.length≤300∧Dc ns ((ns.length:Int)-1):=by
 simp only[treeOk,Bool.and_eq_true,decide_eq_true_eq,Bool.not_eq_true',decide_eq_false_iff_not,List.all_eq_true,List.mem_range] at h
 have hu:=Oc h.2.2.1
 refine⟨⟨fun i hi=>hu.2 i (by omega),fun i hi=> ?_⟩,h.1.1,h.1.2,hu⟩
 exact h.2.2.2 i hi
end Go.My
end
section
set_option linter.unusedVariables false
set_option linter.unusedSimpArgs false
namespace Go.My
open Go.Eng
def mOn(m:List Bool)(j:Int):Prop:=0≤j∧m[j.toNat]? =some true
def MK(n:Nat)(P:Int→Prop)(m:List Bool):Prop:=m.length=n∧∀j,mOn m j↔P j
theorem GJ{n:Nat}{P Q:Int→Prop}{m:List Bool}(h:MK n P m)(hq:∀j,P j↔Q j):MK n Q m:=⟨h.1,fun j=>(h.2 j).trans (hq j)⟩
theorem Oe{n:Nat}{P:Int→Prop}(h:∀j,¬P j):MK n P (List.replicate n false):=by
 refine⟨by simp,fun j=>⟨fun hj=> ?_,fun hp=>(h j hp).elim⟩⟩
 have:=hj.2
 rw[List.getElem?_replicate] at this
 split at this<;>cases this
theorem KG{m:List Bool}{c j:Int}{b:Bool}(hc:0≤c∧c<m.length):mOn (m.set c.toNat b) j↔(j=c∧b=true)∨(j≠c∧mOn m j):=by
 unfold mOn
 by_cases e:j=c
 ·subst e
  rw[List.getElem?_set_self (by omega)]
  simp [hc.1]
 ·constructor
  ·rintro⟨h0,h1⟩
   rw[List.getElem?_set_ne (by omega)] at h1
   exact .inr ⟨e,h0,h1⟩
  ·rintro(⟨h,_⟩|⟨_,h0,h1⟩)
   ·exact(e h).elim
   ·exact⟨h0,by rw[List.getElem?_set_ne (by omega)];exact h1⟩
theorem Uj{n:Nat}{P:Int→Prop}{m:List Bool}{c:Int}(h:MK n P m)(hc:0≤c∧c<n):MK n (fun j=>P j∨j=c) (m.set c.toNat true):=by
 refine⟨by rw[List.length_set];exact h.1,fun j=> ?_⟩
 rw[KG (by have:=h.1;omega),h.2]
 by_cases e:j=c<;>simp [e]
theorem Uk{n:Nat}{P:Int→Prop}{m:List Bool}{j:Int}{b:Bool}(h:MK n P m)(h0:0≤j)(hb:m[j.toNat]? =some b):b=true↔P j:=by
 rw[←h.2];unfold mOn;rw[hb];simp [h0]
def EF:List Bool→Int→List Int
 |[],_=>[]
 |b::m,i=>(if b then [i] else [])++EF m (i+1)
def DB(m:List Bool):List Int:=EF m 0
theorem YT:∀(m m':List Bool) (i:Int),EF (m++m') i=EF m i++EF m' (i+m.length)
 |[],m',i=>by simp [EF]
 |b::m,m',i=>by
  simp only[List.cons_append,EF,YT m m',List.append_assoc,List.length_cons]
  congr 3;omega
theorem Qy{m:List Bool}{i:Int}{b:Bool}(h0:0≤i)(hb:m[i.toNat]? =some b):DB (m.take (i+1).toNat)=DB (m.take i.toNat)++(if b then [i] else []):=by
 have hl:=(List.getElem?_eq_some_iff.1 hb).1
 rw[show(i+1).toNat=i.toNat+1 by omega,List.take_add_one,hb,DB,YT,DB]
 simp only[Option.toList,EF,List.append_nil,List.length_take]
 rw[show(0:Int)+((min i.toNat m.length:Nat):Int)=i by omega]
theorem Ul:∀(m:List Bool) (i j:Int),j∈EF m i↔i≤j∧m[(j-i).toNat]? =some true
 |[],i,j=>by simp [EF]
 |b::m,i,j=>by
  rw[EF,List.mem_append,Ul m]
  by_cases e:j=i
  ·subst e
   simp only[Int.sub_self,Int.toNat_zero,List.getElem?_cons_zero,Option.some.injEq]
   cases b<;>simp<;>omega
  ·have e1:j∉(if b then [i] else []):=by cases b<;>simp [e]
   simp only[e1,false_or]
   constructor
   ·rintro⟨h1,h2⟩
    refine⟨by omega,?_⟩
    rw[show(j-i).toNat=(j-(i+1)).toNat+1 by omega];exact h2
   ·rintro⟨h1,h2⟩
    refine⟨by omega,?_⟩
    rw[show(j-i).toNat=(j-(i+1)).toNat+1 by omega] at h2;exact h2
theorem Mh{m:List Bool}{j:Int}:j∈DB m↔mOn m j:=by
 rw[DB,Ul];simp [mOn]
theorem Of:∀(m:List Bool) (i:Int),(EF m i).Pairwise (· < ·)
 |[],_=>List.Pairwise.nil
 |b::m,i=>by
  rw[EF]
  have h:=Of m (i+1)
  cases b
  ·simpa using h
  ·simp only[if_true,List.singleton_append,List.pairwise_cons]
   exact⟨fun j hj=>by have:=((Ul m (i+1) j).1 hj).1;omega,h⟩
theorem Og(m:List Bool):(DB m).length≤m.length:=by
 have:∀(m:List Bool) (i:Int),(EF m i).length≤m.length:=by
  intro m
  induction m with
  |nil=>intro i;simp [EF]
  |cons b m ih=>intro i;rw[EF,List.length_append];have:=ih (i+1);cases b<;>simp<;>omega
 exact this m 0
theorem YU:∀ {a b:List Int},a.Pairwise (· < ·)→b.Pairwise (· < ·)→(∀j,j∈a↔j∈b)→a=b:=by
 intro a
 induction a with
 |nil=>intro b _ _ h;cases b with
  |nil=>rfl
  |cons x b=>exact absurd ((h x).2 (by simp)) (by simp)
 |cons x a ih=>
  intro b ha hb h
  cases b with
  |nil=>exact absurd ((h x).1 (by simp)) (by simp)
  |cons y b=>
   rw[List.pairwise_cons] at ha hb
   have hxy:x=y:=by
    have h1:=(h x).1 (by simp);have h2:=(h y).2 (by simp)
    rcases List.mem_cons.1 h1 with h1|h1
    ·exact h1
    ·rcases List.mem_cons.1 h2 with h2|h2
     ·exact h2.symm
     ·have:=ha.1 y h2;have:=hb.1 x h1;omega
   subst hxy
   rw[ih ha.2 hb.2 fun j=> ?_]
   have hj:=h j
   simp only[List.mem_cons] at hj
   constructor
   ·intro hja;have:=ha.1 j hja
    rcases hj.1 (.inr hja) with rfl|h
    ·omega
    ·exact h
   ·intro hjb;have:=hb.1 j hjb
    rcases hj.2 (.inr hjb) with rfl|h
    ·omega
    ·exact h
theorem YV{n n':Nat}{P:Int→Prop}{m m':List Bool}(h:MK n P m)(h':MK n' P m'):DB m=DB m':=
 YU (Of m 0) (Of m' 0) fun j=>by
  show j∈DB m↔j∈DB m'
  rw[Mh,Mh,h.2,h'.2]
inductive Und (ns:List Nd) (k:Int):Int→Prop
 |base:Und ns k k
 |step {p c:Int}:Und ns k p→c∈(Ab ns p).kids→Und ns k c
theorem FB{ns:List Nd}{k i:Int}(h:Dc ns k)(hu:Und ns k i):0≤i∧i≤k:=by
 induction hu with
 |base=>have:=Ci.1 h.1;omega
 |step hp hc ih=>
  rename_i p c
  have hn:=h.2 p.toNat (by omega)
  rw[show((p.toNat:Nat):Int)=p by omega] at hn
  have:=(CS hn).2.2.2.1 c hc
  omega
theorem Oh{ns:List Nd}{k i:Int}(h:Dc ns k)(hu:Und ns k i):nodeOk ns i=true:=by
 have hb:=FB h hu
 have hn:=h.2 i.toNat (by omega)
 rwa [show((i.toNat:Nat):Int)=i by omega] at hn
theorem YW{ns:List Nd}{k i:Int}(h:Dc ns k)(hu:Und ns k i):Dc ns i:=by
 have hb:=FB h hu;have hk:=Ci.1 h.1
 exact⟨Ci.2 (by omega),fun j hj=>h.2 j (by omega)⟩
theorem Qz{ns:List Nd}{k i:Int}(hu:Und ns k i):i=k∨∃p,Und ns k p∧i∈(Ab ns p).kids:=by
 cases hu with
 |base=>exact .inl rfl
 |step hp hc=>exact .inr ⟨_,hp,hc⟩
theorem YX{ns:List Nd}{k c i:Int}(h:Und ns k c)(hu:Und ns c i):Und ns k i:=by
 induction hu with
 |base=>exact h
 |step _ hc ih=>exact .step ih hc
theorem a7Z{ns:List Nd}{k i:Int}(hu:Und ns k i):i=k∨∃c∈(Ab ns k).kids,Und ns c i:=by
 induction hu with
 |base=>exact .inl rfl
 |step hp hc ih=>
  right
  rcases ih with rfl|⟨d,hd,hu⟩
  ·exact⟨_,hc,.base⟩
  ·exact⟨d,hd,.step hu hc⟩
open Classical in
noncomputable def Iw (n:Nat) (P:Int→Prop):List Bool:=(List.range n).map fun(j:Nat)=>decide (P (j:Int))
open Classical in
theorem Mi{n:Nat}{P:Int→Prop}(h:∀j,P j→0≤j∧j<n):MK n P (Iw n P):=by
 refine⟨by simp [Iw],fun j=> ?_⟩
 unfold mOn Iw
 rw[List.getElem?_map]
 constructor
 ·rintro⟨h0,h1⟩
  rw[Option.map_eq_some_iff] at h1
  obtain⟨a,h2,h3⟩:=h1
  have h4:=(List.getElem?_eq_some_iff.1 h2)
  obtain⟨h5,h6⟩:=h4
  rw[List.getElem_range] at h6
  subst h6
  rw[decide_eq_true_eq,show((j.toNat:Nat):Int)=j by omega] at h3
  exact h3
 ·intro hp
  have hb:=h j hp
  refine⟨hb.1,?_⟩
  rw[List.getElem?_range (by omega),Option.map_some,show((j.toNat:Nat):Int)=j by omega]
  simp [hp]
noncomputable def undL (ns:List Nd) (k:Int):List Int:=if deepOf ns k=0 then [] else DB (Iw ns.length (Und ns k))
theorem a8a{ns:List Nd}{k:Int}{n:Nat}{m:List Bool}(hd:deepOf ns k≠0)(h:MK n (Und ns k) m):DB m=undL ns k:=by
 rw[undL,if_neg hd]
 have hu:=Oc hd
 exact YV h (Mi fun j hj=>by have:=FB hu hj;have:=Ci.1 hu.1;omega)
theorem a8b{ns:List Nd}{k j:Int}:j∈undL ns k↔deepOf ns k≠0∧Und ns k j:=by
 by_cases hd:deepOf ns k=0
 ·rw[undL,if_pos hd];simp [hd]
 ·have hu:=Oc hd
  rw[undL,if_neg hd,Mh,(Mi (P:=Und ns k) (n:=ns.length) fun j hj=>by have:=FB hu hj;have:=Ci.1 hu.1;omega).2]
  simp [hd]
theorem Ix{ns:List Nd}{k:Int}:(undL ns k).length≤ns.length:=by
 unfold undL;split
 ·simp
 ·exact Nat.le_trans (Og _) (by simp [Iw])
theorem Hs{ns:List Nd}{k j:Int}(h:j∈undL ns k):(0≤j∧j<ns.length)∧nodeOk ns j=true:=by
 obtain⟨h1,h2⟩:=a8b.1 h
 have hu:=Oc h1
 have:=FB hu h2;have:=Ci.1 hu.1
 exact⟨by omega,Oh hu h2⟩
def umO(ns:List Nd)(k i:Int)(m:List Bool):Prop:=(Dc ns k∧ -1≤i∧i≤k)∧MK (k+1).toNat (fun j=>j=k∨∃p,i<p∧Und ns k p∧j∈(Ab ns p).kids) m
def umI(ns:List Nd)(k i t:Int)(m:List Bool):Prop:=((Dc ns k∧0≤i∧i≤k)∧0≤t∧t≤(Ab ns i).kids.length)∧Und ns k i∧MK (k+1).toNat (fun j=>(j=k∨∃p,i<p∧Und ns k p∧j∈(Ab ns p).kids)∨j∈(Ab ns i).kids.take t.toNat) m
theorem a8c{ns:List Nd}{k:Int}(h:Dc ns k):umO ns k k ((List.replicate (k+1).toNat false).set k.toNat true):=by
 have hk:=Ci.1 h.1
 refine⟨⟨h,by omega,by omega⟩,GJ (Uj (Oe (P:=fun _=>False) fun _ h=>h) (by omega)) fun j=> ?_⟩
 simp only[false_or]
 constructor
 ·exact .inl
 ·rintro(h1|⟨p,h1,h2,_⟩)
  ·exact h1
  ·have:=FB h h2;omega
theorem YY{ns:List Nd}{k i:Int}{m:List Bool}{b:Bool}(h:umO ns k i m)(h0:0≤i)(hb:m[i.toNat]? =some b):b=true↔Und ns k i:=by
 rw[Uk h.2 h0 hb]
 constructor
 ·rintro(rfl|⟨p,h1,h2,h3⟩)
  ·exact .base
  ·exact .step h2 h3
 ·intro hu
  rcases Qz hu with h1|⟨p,h1,h2⟩
  ·exact .inl h1
  ·refine .inr ⟨p,?_,h1,h2⟩
   have:=(CS (Oh h.1.1 h1)).2.2.2.1 i h2;omega
theorem a8d{ns:List Nd}{k i:Int}{m:List Bool}(h:umO ns k i m)(h0:0≤i)(hb:m[i.toNat]? =some false):umO ns k (i-1) m:=by
 have hn:¬Und ns k i:=fun hu=>by have:=(YY h h0 hb).2 hu;cases this
 refine⟨⟨h.1.1,by omega,by have:=h.1.2;omega⟩,GJ h.2 fun j=> ?_⟩
 constructor
 ·rintro(h1|⟨p,h1,h2⟩)
  ·exact .inl h1
  ·exact .inr ⟨p,by omega,h2⟩
 ·rintro(h1|⟨p,h1,h2,h3⟩)
  ·exact .inl h1
  ·refine .inr ⟨p,?_,h2,h3⟩
   have:p≠i:=fun e=>hn (e▸h2)
   omega
theorem a8e{ns:List Nd}{k i:Int}{m:List Bool}(h:umO ns k i m)(h0:0≤i)(hb:m[i.toNat]? =some true):umI ns k i 0 m:=
 ⟨⟨⟨h.1.1,h0,h.1.2.2⟩,by omega,by omega⟩,(YY h h0 hb).1 rfl,GJ h.2 fun j=>by simp⟩
theorem YZ{ns:List Nd}{k i t c:Int}{m:List Bool}(h:umI ns k i t m)(hc:(Ab ns i).kids[t.toNat]? =some c):0≤c∧c<i:=by
 exact(CS (Oh h.1.1.1 h.2.1)).2.2.2.1 c (List.mem_of_getElem? hc)
theorem a8f{ns:List Nd}{k i t c:Int}{m:List Bool}(h:umI ns k i t m)(hc:(Ab ns i).kids[t.toNat]? =some c):umI ns k i (t+1) (m.set c.toNat true):=by
 have hb:=YZ h hc
 have hl:=(List.getElem?_eq_some_iff.1 hc).1
 have ht:=h.1.2
 refine⟨⟨h.1.1,by omega,by omega⟩,h.2.1,GJ (Uj h.2.2 (by have:=h.1.1;omega)) fun j=> ?_⟩
 rw[show(t+1).toNat=t.toNat+1 by omega,List.take_add_one,hc]
 simp only[Option.toList,List.mem_append,List.mem_singleton]
 constructor
 ·rintro(h1|h1)
  ·rcases h1 with h1|h1
   ·exact .inl h1
   ·exact .inr (.inl h1)
  ·exact .inr (.inr h1)
 ·rintro(h1|h1|h1)
  ·exact .inl (.inl h1)
  ·exact .inl (.inr h1)
  ·exact .inr h1
theorem a8g{ns:List Nd}{k i t:Int}{m:List Bool}(h:umI ns k i t m)(hl:¬t<((Ab ns i).kids.length:Int)):umO ns k (i-1) m:=by
 refine⟨⟨h.1.1.1,by have:=h.1.1;omega,by have:=h.1.1;omega⟩,GJ h.2.2 fun j=> ?_⟩
 rw[List.take_of_length_le (by omega)]
 constructor
 ·rintro((h1|⟨p,h1,h2⟩)|h1)
  ·exact .inl h1
  ·exact .inr ⟨p,by omega,h2⟩
  ·exact .inr ⟨i,by omega,h.2.1,h1⟩
 ·rintro(h1|⟨p,h1,h2,h3⟩)
  ·exact .inl (.inl h1)
  ·by_cases e:p=i
   ·exact .inr (e▸h3)
   ·exact .inl (.inr ⟨p,by omega,h2,h3⟩)
theorem a8h{ns:List Nd}{k i:Int}{m:List Bool}(h:umO ns k i m)(hi:¬i≥0):MK (k+1).toNat (Und ns k) m:=by
 refine GJ h.2 fun j=> ?_
 constructor
 ·rintro(rfl|⟨p,h1,h2,h3⟩)
  ·exact .base
  ·exact .step h2 h3
 ·intro hu
  rcases Qz hu with h1|⟨p,h1,h2⟩
  ·exact .inl h1
  ·exact .inr ⟨p,by have:=FB h.1.1 h1;omega,h1,h2⟩
def clB(ns:List Nd)(k:Int)(s:List Bool):Prop:=∀p,p≤k→mOn s p→∀c∈(Ab ns p).kids,mOn s c
def mrP(ns:List Nd)(k:Int)(s:List Bool):Prop:=(Dc ns k∧s.length=ns.length)∧clB ns k s
def mrQ(ns:List Nd)(k:Int)(s s':List Bool):Prop:=s'.length=ns.length∧(∀j,mOn s j→mOn s' j)∧(∀j,mOn s' j→mOn s j∨Und ns k j)∧mOn s' k∧clB ns k s'
def mrI(ns:List Nd)(k i:Int)(s s1:List Bool):Prop:=((Dc ns k∧s1.length=ns.length)∧0≤i∧i≤(Ab ns k).kids.length)∧(∀j,mOn s j→mOn s1 j)∧(∀j,mOn s1 j→mOn s j∨Und ns k j)∧mOn s1 k∧clB ns (k-1) s1∧∀c∈(Ab ns k).kids.take i.toNat,mOn s1 c
theorem a8i{ns:List Nd}{k:Int}{s:List Bool}(h:mrP ns k s)(hk:s[k.toNat]? =some true):mrQ ns k s s:=
 ⟨h.1.2,fun _ h=>h,fun _ h=> .inl h,⟨(Ci.1 h.1.1.1).1,hk⟩,h.2⟩
theorem a8j{ns:List Nd}{k:Int}{s:List Bool}(h:mrP ns k s)(hk:s[k.toNat]? =some false):mrI ns k 0 s (s.set k.toNat true):=by
 have hn:=Ci.1 h.1.1.1
 have hc:0≤k∧k<s.length:=by have:=h.1.2;omega
 refine⟨⟨⟨h.1.1,by rw[List.length_set];exact h.1.2⟩,by omega,by omega⟩,fun j hj=> ?_,fun j hj=> ?_,?_,fun p hp hm c hcc=> ?_,by simp⟩
 ·rw[KG hc]
  by_cases e:j=k
  ·exact .inl ⟨e,rfl⟩
  ·exact .inr ⟨e,hj⟩
 ·rw[KG hc] at hj
  rcases hj with⟨rfl,_⟩|⟨_,h⟩
  ·exact .inr .base
  ·exact .inl h
 ·rw[KG hc];exact .inl ⟨rfl,rfl⟩
 ·rw[KG hc] at hm
  rcases hm with⟨rfl,_⟩|⟨_,hm⟩
  ·omega
  ·have:=h.2 p (by omega) hm c hcc
   rw[KG hc]
   by_cases e:c=k
   ·exact .inl ⟨e,rfl⟩
   ·exact .inr ⟨e,this⟩
theorem a8k{ns:List Nd}{k i c:Int}{s s1:List Bool}(h:mrI ns k i s s1)(hc:(Ab ns k).kids[i.toNat]? =some c):mrP ns c s1∧c<k:=by
 have hm:=List.mem_of_getElem? hc
 have hu:Und ns k c:= .step .base hm
 have hlt:=(CS (Oh h.1.1.1 .base)).2.2.2.1 c hm
 exact⟨⟨⟨YW h.1.1.1 hu,h.1.1.2⟩,fun p hp=>h.2.2.2.2.1 p (by omega)⟩,hlt.2⟩
theorem a8l{ns:List Nd}{k i c:Int}{s s1 s2:List Bool}(h:mrI ns k i s s1)(hc:(Ab ns k).kids[i.toNat]? =some c)(hq:mrQ ns c s1 s2):mrI ns k (i+1) s s2:=by
 have hm:=List.mem_of_getElem? hc
 have hu:Und ns k c:= .step .base hm
 have hup:=YW h.1.1.1 hu
 have hl:=(List.getElem?_eq_some_iff.1 hc).1
 obtain⟨⟨⟨h1,h2⟩,h3,h4⟩,h5,h6,h7,h8,h9⟩:=h
 obtain⟨q1,q2,q3,q4,q5⟩:=hq
 refine⟨⟨⟨h1,q1⟩,by omega,by omega⟩,fun j hj=>q2 j (h5 j hj),fun j hj=> ?_,q2 _ h7,fun p hp hm2 d hd=> ?_,fun d hd=> ?_⟩
 ·rcases q3 j hj with hj|hj
  ·exact h6 j hj
  ·exact .inr (YX hu hj)
 ·by_cases e:p≤c
  ·exact q5 p e hm2 d hd
  ·rcases q3 p hm2 with hj|hj
   ·exact q2 d (h8 p hp hj d hd)
   ·have:=FB hup hj;omega
 ·rw[show(i+1).toNat=i.toNat+1 by omega,List.take_add_one,hc] at hd
  simp only[Option.toList,List.mem_append,List.mem_singleton] at hd
  rcases hd with hd|rfl
  ·exact q2 d (h9 d hd)
  ·exact q4
theorem a8m{ns:List Nd}{k i:Int}{s s1:List Bool}(h:mrI ns k i s s1)(hl:¬i<((Ab ns k).kids.length:Int)):mrQ ns k s s1:=by
 obtain⟨⟨⟨h1,h2⟩,h3,h4⟩,h5,h6,h7,h8,h9⟩:=h
 refine⟨h2,h5,h6,h7,fun p hp hm c hc=> ?_⟩
 by_cases e:p=k
 ·subst e
  rw[List.take_of_length_le (by omega)] at h9
  exact h9 c hc
 ·exact h8 p (by omega) hm c hc
theorem a8n{ns:List Nd}{k:Int}(h:Dc ns k):mrP ns k (List.replicate ns.length false):=
 ⟨⟨h,by simp⟩,fun p _ hm=>((Oe (P:=fun _=>False) fun _ h=>h).2 p |>.1 hm).elim⟩
theorem a8o{ns:List Nd}{k:Int}{s:List Bool}(hk:Dc ns k)(h:mrQ ns k (List.replicate ns.length false) s):MK ns.length (Und ns k) s:=by
 obtain⟨h1,h2,h3,h4,h5⟩:=h
 refine⟨h1,fun j=>⟨fun hj=> ?_,fun hu=> ?_⟩⟩
 ·rcases h3 j hj with hj|hj
  ·exact((Oe (P:=fun _=>False) fun _ h=>h).2 j |>.1 hj).elim
  ·exact hj
 ·induction hu with
  |base=>exact h4
  |step hp hc ih=>exact h5 _ (FB hk hp).2 ih _ hc
def fdl{α β:Type}(f:β→α→β)(b:β)(l:List α)(i:Int):β:=(l.take i.toNat).foldl f b
theorem QA{α β:Type}{f:β→α→β}{b:β}{l:List α}:fdl f b l 0=b:=by simp [fdl]
theorem HU{α β:Type}{f:β→α→β}{b:β}{l:List α}{i:Int}{e:α}(h0:0≤i)(he:l[i.toNat]? =some e):fdl f b l (i+1)=f (fdl f b l i) e:=by
 rw[fdl,show(i+1).toNat=i.toNat+1 by omega,List.take_add_one,he];simp [fdl]
theorem QB{α β:Type}{f:β→α→β}{b:β}{l:List α}{i:Int}(h:¬i<(l.length:Int)):fdl f b l i=l.foldl f b:=by
 rw[fdl,List.take_of_length_le (by omega)]
def Cu(l:List (List UInt8))(s:List UInt8):List (List UInt8):=if l.elem s then l else l++[s]
theorem Za(l:List (List UInt8))(s:List UInt8):(Cu l s).length≤l.length+1:=by unfold Cu;split<;>simp
def isPar(ns:List Nd)(L:List Int)(j:Int):Bool:=L.any fun p=>(decide (kindAt ns p=9)||decide (kindAt ns p=20))&&(Ab ns p).kids.dropLast.elem j
def Cj(k:Int):Bool:=decide (k=1)||(decide (k=12)||decide (k=13))
def nmF(ns:List Nd)(out:List (List UInt8))(i:Int):List (List UInt8):=if kindAt ns i=1 then Cu out (Ab ns i).text else out
def ltF(ns:List Nd)(L:List Int)(out:List (List UInt8))(i:Int):List (List UInt8):=if kindAt ns i=12∨isPar ns L i=true then Cu out (Ab ns i).text else out
noncomputable def BH (ns:List Nd) (k:Int):List (List UInt8):=(undL ns k).foldl (nmF ns) []
noncomputable def Bl (ns:List Nd) (k:Int):List (List UInt8):=(undL ns k).foldl (ltF ns (undL ns k)) []
noncomputable def CE (ns:List Nd) (k:Int):List (List UInt8):=(BH ns k).filter fun s=> !(Bl ns k).elem s
def cnF(ns:List Nd)(nm:List UInt8)(n:Int)(i:Int):Int:=if(Cj (kindAt ns i)&&(Ab ns i).text==nm)=true then n+1 else n
noncomputable def BV (ns:List Nd) (k:Int) (nm:List UInt8):Int:=(undL ns k).foldl (cnF ns nm) 0
def usF(ns:List Nd)(L:List Int)(out:List (List UInt8))(i:Int):List (List UInt8):=if(decide (kindAt ns i=1)&& !isPar ns L i)=true then out++[(Ab ns i).text] else out
noncomputable def DC (ns:List Nd) (k:Int):List (List UInt8):=(undL ns k).foldl (usF ns (undL ns k)) []
noncomputable def DD (ns:List Nd) (k:Int):List (List UInt8):=(Bl ns k).filter fun s=> !(DC ns k).elem s
theorem Oi{α:Type}{f:List (List UInt8)→α→List (List UInt8)}(hf:∀o e,(f o e).length≤o.length+1):∀(l:List α) (o:List (List UInt8)),(l.foldl f o).length≤o.length+l.length
 |[],o=>by simp
 |e::l,o=>by rw[List.foldl_cons];have:=Oi hf l (f o e);have:=hf o e;simp only[List.length_cons];omega
theorem Zb(ns:List Nd)(o:List (List UInt8))(e:Int):(nmF ns o e).length≤o.length+1:=by unfold nmF;split;exact Za _ _;omega
theorem Zd(ns:List Nd)(L:List Int)(o:List (List UInt8))(e:Int):(ltF ns L o e).length≤o.length+1:=by unfold ltF;split;exact Za _ _;omega
theorem Ze(ns:List Nd)(L:List Int)(o:List (List UInt8))(e:Int):(usF ns L o e).length≤o.length+1:=by unfold usF;split;simp;omega
theorem Um{ns:List Nd}{k:Int}:(BH ns k).length≤ns.length:=by have:=Oi (Zb ns) (undL ns k) [];have:= @Ix ns k;unfold BH;simp at*;omega
theorem Zf{ns:List Nd}{k:Int}:(Bl ns k).length≤ns.length:=by have:=Oi (Zd ns (undL ns k)) (undL ns k) [];have:= @Ix ns k;unfold Bl;simp at*;omega
theorem a8p{ns:List Nd}{k:Int}:(DC ns k).length≤ns.length:=by have:=Oi (Ze ns (undL ns k)) (undL ns k) [];have:= @Ix ns k;unfold DC;simp at*;omega
end Go.My
end
section
set_option linter.unusedVariables false
set_option linter.unusedSimpArgs false
namespace Go.My
open Go.Eng Go.Proofs
variable {G:GInv}
def BX(l:List Bool):AV:= .sl true 0 1 Bool Bq l
theorem Oj{ns:List Nd}{k:Int}(h:¬deepOf ns k=0):Dc ns k:=Oc h
def umK(x:List Nd×Int)(i:Int×List Bool):LS:= {
 ι:=Int×List Bool,inv:=fun j=>umI x.1 x.2 i.1 j.1 j.2,
 regs:=fun j=>[(0,nds x.1),(1,.int .i64 x.2),(5,BX j.2),(6,.int .i64 i.1),(29,An (Ab x.1 i.1).kids),(30,.int .i64 (Ab x.1 i.1).kids.length),(31,.int .i64 j.1)],als:=[],meas:=fun j=>(Ab x.1 i.1).kids.length-j.1.toNat}
def umL(x:List Nd×Int):LS:= {
 ι:=Int×List Bool,inv:=fun i=>umO x.1 x.2 i.1 i.2,
 regs:=fun i=>[(0,nds x.1),(1,.int .i64 x.2),(5,BX i.2),(6,.int .i64 i.1)],als:=[],meas:=fun i=>(i.1+1).toNat,
 sub:=fun i=>[(8,umK x i)]}
theorem a8q{ns:List Nd}{k i:Int}{m:List Bool}(h:umO ns k i m):((0≤k∧k<ns.length)∧ -1≤i∧i≤k)∧m.length=(k+1).toNat:=⟨⟨Ci.1 h.1.1.1,h.1.2⟩,h.2.1⟩
theorem a8r{ns:List Nd}{k i t:Int}{m:List Bool}(h:umI ns k i t m):(((0≤k∧k<ns.length)∧0≤i∧i≤k)∧(0≤t∧t≤(Ab ns i).kids.length)∧(Ab ns i).kids.length≤12)∧m.length=(k+1).toNat:=
 ⟨⟨⟨Ci.1 h.1.1.1.1,h.1.1.2⟩,h.1.2,(CS (Oh h.1.1.1 h.2.1)).2.1⟩,h.2.2.1⟩
theorem Zg{ns:List Nd}{k:Int}(h:Dc ns k):0≤k∧k<ns.length:=Ci.1 h.1
theorem Zh{ns:List Nd}{k:Int}(h:deepOf ns k=0):([]:List Int)=undL ns k:=by rw[undL,if_pos h]
def uoI(ns:List Nd)(k:Int)(m:List Bool)(i:Int)(o:List Int):Prop:=(((Dc ns k∧deepOf ns k≠0)∧m.length≤2^30)∧0≤i∧i≤m.length)∧(∃n,MK n (Und ns k) m)∧o=DB (m.take i.toNat)
theorem a8s{ns:List Nd}{k:Int}{m:List Bool}(hk:Dc ns k)(h:MK (k+1).toNat (Und ns k) m)(hd:¬deepOf ns k=0)(hl:ns.length≤2^30):uoI ns k m 0 []:=
 ⟨⟨⟨⟨hk,hd⟩,by have:=Ci.1 hk.1;have:=h.1;omega⟩,by omega,by omega⟩,⟨_,h⟩,rfl⟩
theorem a8t{ns:List Nd}{k:Int}{m:List Bool}(hk:Dc ns k)(h:mrQ ns k (List.replicate ns.length false) m)(hd:¬deepOf ns k=0)(hl:ns.length≤2^30):uoI ns k m 0 []:=
 ⟨⟨⟨⟨hk,hd⟩,by have:=h.1;omega⟩,by omega,by omega⟩,⟨_,a8o hk h⟩,rfl⟩
theorem Zi{ns:List Nd}{k i:Int}{m:List Bool}{o:List Int}{b:Bool}(h:uoI ns k m i o)(hb:m[i.toNat]? =some b)(hf:b=false):uoI ns k m (i+1) o:=by
 have hl:=(List.getElem?_eq_some_iff.1 hb).1
 obtain⟨⟨h1,h2⟩,h3,h4⟩:=h
 subst hf
 exact⟨⟨h1,by omega,by omega⟩,h3,by rw[Qy h2.1 hb,h4];simp⟩
theorem Zj{ns:List Nd}{k i:Int}{m:List Bool}{o:List Int}{b:Bool}(h:uoI ns k m i o)(hb:m[i.toNat]? =some b)(hf:b=true):uoI ns k m (i+1) (o++[i]):=by
 have hl:=(List.getElem?_eq_some_iff.1 hb).1
 obtain⟨⟨h1,h2⟩,h3,h4⟩:=h
 subst hf
 exact⟨⟨h1,by omega,by omega⟩,h3,by rw[Qy h2.1 hb,h4];simp⟩
theorem Zk{ns:List Nd}{k i:Int}{m:List Bool}{o:List Int}(h:uoI ns k m i o)(hl:¬i<(m.length:Int)):o=undL ns k:=by
 obtain⟨⟨⟨⟨h1,h0⟩,_⟩,h2⟩,⟨n,h3⟩,h4⟩:=h
 rw[h4,List.take_of_length_le (by omega)];exact a8a h0 h3
theorem Zl{ns:List Nd}{k i:Int}{m:List Bool}{o:List Int}(h:uoI ns k m i o):((0≤i∧i≤m.length)∧m.length≤2^30)∧o.length≤m.length:=by
 refine⟨⟨h.1.2,h.1.1.2⟩,?_⟩
 rw[h.2.2];exact Nat.le_trans (Og _) (by rw[List.length_take];omega)
theorem Zm{ns:List Nd}{k:Int}{s:List Bool}(h:mrP ns k s):(0≤k∧k<ns.length)∧s.length=ns.length:=⟨Ci.1 h.1.1.1,h.1.2⟩
theorem a8u{ns:List Nd}{k i:Int}{s s1:List Bool}(h:mrI ns k i s s1):(((0≤k∧k<ns.length)∧s1.length=ns.length)∧0≤i∧i≤(Ab ns k).kids.length)∧(Ab ns k).kids.length≤12:=
 ⟨⟨⟨Ci.1 h.1.1.1.1,h.1.1.2⟩,h.1.2⟩,(CS (Ui h.1.1.1)).2.1⟩
theorem a8v{ns:List Nd}{k i:Int}{e:Nd}{s s1:List Bool}(h:mrI ns k i s s1)(he:ns[k.toNat]? =some e):(Ab ns k).kids=e.kids:=by rw[AZ he]
theorem a8w{ns:List Nd}{k i c:Int}{e:Nd}{s s1:List Bool}(h:mrI ns k i s s1)(he:ns[k.toNat]? =some e)(hc:e.kids[i.toNat]? =some c):mrP ns c s1∧c<k:=a8k h (by rw[AZ he];exact hc)
theorem a8x{ns:List Nd}{k i c:Int}{e:Nd}{s s1 s2:List Bool}(h:mrI ns k i s s1)(he:ns[k.toNat]? =some e)(hc:e.kids[i.toNat]? =some c)(hq:mrQ ns c s1 s2):mrI ns k (i+1) s s2:=a8l h (by rw[AZ he];exact hc) hq
theorem a8y{ns:List Nd}{k i:Int}{e:Nd}{s s1:List Bool}(h:mrI ns k i s s1)(he:ns[k.toNat]? =some e)(hl:¬i<(e.kids.length:Int)):mrQ ns k s s1:=a8m h (by rw[AZ he];exact hl)
theorem a8z{ns:List Nd}{k:Int}{s:List Bool}{b:Bool}(h:mrP ns k s)(hk:s[k.toNat]? =some b)(hb:b=true):mrQ ns k s s:=a8i h (by rw[hk,hb])
theorem a8A{ns:List Nd}{k:Int}{s:List Bool}{b:Bool}(h:mrP ns k s)(hk:s[k.toNat]? =some b)(hb:b=false):mrI ns k 0 s (s.set k.toNat true):=a8j h (by rw[hk,hb])
attribute [local irreducible] umO umI Dc MK DB mrP mrQ mrI uoI undL
noncomputable def Mj:Sig:= {X:=List Nd×Int,args:=fun x=>[nds x.1,.int .i64 x.2],pre:=fun x=>(Bc x.1∧x.1.length≤2^30)∧Dc x.1 x.2,Y:=List Bool×Unit,post:=fun x y=>MK (x.2+1).toNat (Und x.1 x.2) y.1,res:=fun x y=>BX y.1,outs:=fun x y=>[.top,.top],keep:=false}
theorem a8B:Al G Tryz.prog 87 Mj:=
 vcFun_okP [] [(76,⟨Bool,Bq⟩)] false (fun x=>[(4,umL x)]) Tryz.func87 rfl (by decide) trivial (fun(x:List Nd×Int)=>(∀(y:List Bool×Unit),MK (Int.toNat (x.2+(1:Int))) (Und x.1 x.2) y.1→(∀(x:Bool),True∧True)∧True∧True∧True)∧inR IntKind.i64 (x.2+(1:Int))∧((0:Int)≤x.2+(1:Int)∧x.2+(1:Int)≤x.2+(1:Int)∧(↑(1:Nat):Int)*(x.2+(1:Int))≤(2:Int)^(46:Nat)∧x.2+(1:Int)≤(2:Int)^(46:Nat))∧∃(x_1:Bool),false=x_1∧((0:Int)≤x.2∧x.2<(↑(List.length (List.replicate (Int.toNat (x.2+(1:Int))) x_1)):Int))∧Int.toNat x.2<List.length (List.replicate (Int.toNat (x.2+(1:Int))) x_1)∧∀(x_2:Bool),(List.replicate (Int.toNat (x.2+(1:Int))) x_1)[Int.toNat x.2]? =some x_2→∃(x':Bool),((@List.nil AV)=[]∧(@List.nil AV)=[])∧true=x'∧eA (umL x) [nds x.1,.int .i64 x.2,AV.sl true (0:Nat) (1:Nat) Bool Bq (List.set (List.replicate (Int.toNat (x.2+(1:Int))) x_1) (Int.toNat x.2) x'),.int .i64 x.2]∧∀(i:Int×List Bool),umO x.1 x.2 i.1 i.2→Aa (decide (i.1≥(0:Int))) (((0:Int)≤i.1∧i.1<(↑(List.length i.2):Int))∧Int.toNat i.1<List.length i.2∧∀(x_3:Bool),i.2[Int.toNat i.1]? =some x_3→Aa (!x_3) (inR IntKind.i64 (i.1-(1:Int))∧eN (umL x) i [nds x.1,.int .i64 x.2,AV.sl true (0:Nat) (1:Nat) Bool Bq i.2,.int .i64 (i.1-(1:Int))]) (((0:Int)≤i.1∧i.1<(↑(List.length x.1):Int))∧∀(e:Nd),x.1[Int.toNat i.1]? =some e→eA (umK x i) [nds x.1,.int .i64 x.2,AV.sl true (0:Nat) (1:Nat) Bool Bq i.2,.int .i64 i.1,An e.kids,.int .i64 (↑(List.length e.kids):Int),.int .i64 (0:Int)]∧∀(i_1:Int×List Bool),umI x.1 x.2 i.1 i_1.1 i_1.2→Aa (decide (i_1.1<(↑(List.length (Ab x.1 i.1).kids):Int))) (((0:Int)≤i_1.1∧i_1.1<(↑(List.length (Ab x.1 i.1).kids):Int))∧∀(e:Int),(Ab x.1 i.1).kids[Int.toNat i_1.1]? =some e→((0:Int)≤e∧e<(↑(List.length i_1.2):Int))∧Int.toNat e<List.length i_1.2∧∀(x_4:Bool),i_1.2[Int.toNat e]? =some x_4→∃(x':Bool),((@List.nil AV)=[]∧(@List.nil AV)=[])∧true=x'∧inR IntKind.i64 (i_1.1+(1:Int))∧eN (umK x i) i_1 [nds x.1,.int .i64 x.2,AV.sl true (0:Nat) (1:Nat) Bool Bq (List.set i_1.2 (Int.toNat e) x'),.int .i64 i.1,An (Ab x.1 i.1).kids,.int .i64 (↑(List.length (Ab x.1 i.1).kids):Int),.int .i64 (i_1.1+(1:Int))]) (inR IntKind.i64 (i.1-(1:Int))∧eN (umL x) i [nds x.1,.int .i64 x.2,AV.sl true (0:Nat) (1:Nat) Bool Bq i_1.2,.int .i64 (i.1-(1:Int))]))) (rA Mj x [AV.sl true (0:Nat) (1:Nat) Bool Bq i.2,.top,.top])) (fun x=>by kernel_rfl) fun(x:List Nd×Int) (hx:(Bc x.1∧x.1.length≤2^30)∧Dc x.1 x.2)=>(by
 dsimp only[BX,eA,eN,An,Bt,nds,rA,Mj,umK,umL,Av,AA,Bi]
 obtain⟨⟨h1,h2⟩,h3⟩:=hx
 have h4:=Zg h3
 (repeat' first|(with_reducible first|rfl|exact True.intro|apply AL|apply And.intro|((first|apply AB|apply AJ|apply AC|apply AK)<;>intro _))|(apply Az<;>intro _)|apply AI|refine Ag () ?_ ?_|((first|apply AP|apply AO|apply AN|apply AM|apply AH|apply AG|apply AF|apply AE|apply AD)<;>try dsimp only)|apply Ag|(refine Prod.forall.2 ?_;intro _;try dsimp only)|(intro _;try dsimp only))
 all_goals(try(have hO:=a8q (show umO _ _ _ _ by assumption)))
 all_goals(try(have hI:=a8r (show umI _ _ _ _ _ by assumption)))
 all_goals first
  |rfl
  |omega
  |exact()
  |(have hq:=YZ (show umI _ _ _ _ _ by assumption) ‹_›;omega)
  |(simp only[AR,List.length_replicate,List.length_set];omega)
  |exact a8c h3
  |exact a8h ‹_› ‹_›
  |(subst_vars;exact a8d ‹_› ‹_› ‹_›)
  |(subst_vars;rw[AZ ‹_›];done)
  |(subst_vars;exact a8e ‹_› ‹_› ‹_›)
  |exact a8f ‹_› ‹_›
  |exact a8g ‹_› ‹_›
  |skip)
noncomputable def Dt:Sig:= {X:=List Nd×Int,args:=fun x=>[nds x.1,.int .i64 x.2],pre:=fun x=>Bc x.1∧x.1.length≤2^30,Y:=Unit,post:=fun x y=>True,res:=fun x y=>Ae (undL x.1 x.2),outs:=fun x y=>[.top,.top],keep:=false}
noncomputable def Ok (x:List Nd×Int):LS:= {ι:=List Bool×Int×List Int,inv:=fun i=>uoI x.1 x.2 i.1 i.2.1 i.2.2,regs:=fun i=>[(5,Ae i.2.2),(14,BX i.1),(15,.int .i64 i.1.length),(16,.int .i64 i.2.1)],als:=[],meas:=fun i=>i.1.length-i.2.1.toNat}
theorem Mk:Al G Tryz.prog 31 Dt:=
 vcFun_okP [(9,0,GI),(87,0,Mj)] [(76,⟨Bool,Bq⟩),(26,⟨Int,Bh⟩)] false (fun x=>[(5,Ok x)]) Tryz.func31 rfl (by decide) ⟨Yq,a8B,trivial⟩ (fun(x:List Nd×Int)=>(∀(y:Unit),True→(∀(x:Int),True∧True)∧True∧True∧True)∧cA GI [nds x.1,.int .i64 x.2] fun x_1 y=>Aa (deepOf x_1.1 x_1.2==(0:Int)) (rA Dt x [.nil,.top,.top]) (cA Mj [nds x.1,.int .i64 x.2] fun x_2 y=>eA (Ok x) [.nil,AV.sl true (0:Nat) (1:Nat) Bool Bq y.1,.int .i64 (↑(List.length y.1):Int),.int .i64 (0:Int)]∧∀(i:List Bool×Int×List Int),uoI x.1 x.2 i.1 i.2.1 i.2.2→Aa (decide (i.2.1<(↑(List.length i.1):Int))) (((0:Int)≤i.2.1∧i.2.1<(↑(List.length i.1):Int))∧Int.toNat i.2.1<List.length i.1∧∀(x_3:Bool),i.1[Int.toNat i.2.1]? =some x_3→Aa x_3 (∃(x_4:Int),i.2.1=x_4∧∃(zs:List Int),Ae [x_4]=Ae zs∧BG Bh∧Bb (List.length i.2.2+List.length zs) (8:Nat)∧inR IntKind.i64 (i.2.1+(1:Int))∧eN (Ok x) i [Ae (i.2.2++zs),AV.sl true (0:Nat) (1:Nat) Bool Bq i.1,.int .i64 (↑(List.length i.1):Int),.int .i64 (i.2.1+(1:Int))]) (inR IntKind.i64 (i.2.1+(1:Int))∧eN (Ok x) i [Ae i.2.2,AV.sl true (0:Nat) (1:Nat) Bool Bq i.1,.int .i64 (↑(List.length i.1):Int),.int .i64 (i.2.1+(1:Int))])) (rA Dt x [Ae i.2.2,.top,.top]))) (fun x=>by kernel_rfl) fun(x:List Nd×Int) (hx:Bc x.1∧x.1.length≤2^30)=>(by
 dsimp only[BX,cA,eA,eN,Ok,Bt,nds,Ae,rA,GI,Dt,Mj,Av,AA,mvL,lnL,mvE,lnE,Bi]
 obtain⟨h1,h2⟩:=hx
 (repeat' first|(with_reducible first|rfl|exact True.intro|apply AL|apply And.intro|((first|apply AB|apply AJ|apply AC|apply AK)<;>intro _))|(apply Az<;>intro _)|apply AI|refine Ag () ?_ ?_|((first|apply AP|apply AO|apply AN|apply AM|apply AH|apply AG|apply AF|apply AE|apply AD)<;>try dsimp only)|apply Ag|(refine Prod.forall.2 ?_;intro _;try dsimp only)|(intro _;try dsimp only))
 all_goals(try(have hI:=Zl (show uoI _ _ _ _ _ by assumption)))
 all_goals first
  |rfl
  |omega
  |exact()
  |exact(Zh ‹_›).symm
  |exact Oj ‹_›
  |exact a8s (Oj ‹_›) ‹_› ‹_› ‹_›
  |exact Zi ‹_› ‹_› ‹_›
  |exact Zj ‹_› ‹_› ‹_›
  |exact Zk ‹_› ‹_›
  |(simp only[AR,Bb,List.length_cons,List.length_nil];omega)
  |skip)
def Iy(n:Nat):Sig:= {X:=List Nd×Int×List Bool,args:=fun x=>[nds x.1,.int .i64 x.2.1,BX x.2.2],pre:=fun x=>mrP x.1 x.2.1 x.2.2∧x.2.1<n,Y:=List Bool×Unit,post:=fun x y=>mrQ x.1 x.2.1 x.2.2 y.1,res:=fun x y=> .tup [],outs:=fun x y=>[.top,.top,BX y.1],keep:=false,fixed:=[2]}
noncomputable def QC (n:Nat):Sig:= {X:=List Nd×Int×List Bool,args:=fun x=>[nds x.1,.int .i64 x.2.1,BX x.2.2],pre:=fun x=>mrP x.1 x.2.1 x.2.2∧x.2.1<(n+1:Nat),Y:=List Bool×Unit,post:=fun x y=>mrQ x.1 x.2.1 x.2.2 y.1,res:=fun x y=> .tup [],outs:=fun x y=>[.top,.top,BX y.1],keep:=false,fixed:=[2]}
noncomputable def QD (n:Nat) (x:List Nd×Int×List Bool):LS:= {ι:=Int×List Bool,inv:=fun i=>mrI x.1 x.2.1 i.1 x.2.2 i.2,regs:=fun i=>[(0,nds x.1),(1,.int .i64 x.2.1),(2,BX i.2),(6,.int .i64 i.1)],als:=[],meas:=fun i=>(Ab x.1 x.2.1).kids.length-i.1.toNat}
theorem a8C(n:Nat)(hc:Al G Go.Proofs.Tryz.prog 94 (Iy n)):Al G Tryz.prog 94 (QC n):=
 vcFun_okP [(94,0,(Iy n))] [(76,⟨Bool,Bq⟩)] false (fun x=>[(3,QD n x)]) Tryz.func94 rfl (by decide) ⟨hc,trivial⟩ (fun(x:List Nd×Int×List Bool)=>(∀(y:List Bool×Unit),mrQ x.1 x.2.1 x.2.2 y.1→True∧True∧True∧(∀(x:Bool),True∧True)∧True)∧((0:Int)≤x.2.1∧x.2.1<(↑(List.length x.2.2):Int))∧Int.toNat x.2.1<List.length x.2.2∧∀(x_1:Bool),x.2.2[Int.toNat x.2.1]? =some x_1→Aa x_1 (rA (QC n) x [.tup [],.top,.top,AV.sl true (0:Nat) (1:Nat) Bool Bq x.2.2]) (((0:Int)≤x.2.1∧x.2.1<(↑(List.length x.2.2):Int))∧Int.toNat x.2.1<List.length x.2.2∧∀(x_2:Bool),x.2.2[Int.toNat x.2.1]? =some x_2→∃(x':Bool),((@List.nil AV)=[]∧(@List.nil AV)=[])∧true=x'∧eA (QD n x) [nds x.1,.int .i64 x.2.1,AV.sl true (0:Nat) (1:Nat) Bool Bq (List.set x.2.2 (Int.toNat x.2.1) x'),.int .i64 (0:Int)]∧∀(i:Int×List Bool),mrI x.1 x.2.1 i.1 x.2.2 i.2→((0:Int)≤x.2.1∧x.2.1<(↑(List.length x.1):Int))∧∀(e:Nd),x.1[Int.toNat x.2.1]? =some e→Aa (decide (i.1<(↑(List.length e.kids):Int))) (((0:Int)≤x.2.1∧x.2.1<(↑(List.length x.1):Int))∧∀(e:Nd),x.1[Int.toNat x.2.1]? =some e→((0:Int)≤i.1∧i.1<(↑(List.length e.kids):Int))∧∀(e_1:Int),e.kids[Int.toNat i.1]? =some e_1→cA (Iy n) [nds x.1,.int .i64 e_1,AV.sl true (0:Nat) (1:Nat) Bool Bq i.2] fun x_3 y=>inR IntKind.i64 (i.1+(1:Int))∧eN (QD n x) i [nds x.1,.int .i64 x.2.1,AV.sl true (0:Nat) (1:Nat) Bool Bq y.1,.int .i64 (i.1+(1:Int))]) (rA (QC n) x [.tup [],.top,.top,AV.sl true (0:Nat) (1:Nat) Bool Bq i.2]))) (fun x=>by kernel_rfl) fun(x:List Nd×Int×List Bool) (hx:mrP x.1 x.2.1 x.2.2∧x.2.1<(n+1:Nat))=>(by
 dsimp only[BX,cA,eA,eN,QD,Bt,nds,rA,Iy,QC,Av,AA,mvL,lnL,mvE,lnE,Bi]
 obtain⟨h1,h2⟩:=hx
 have h3:=Zm h1
 (repeat' first|(with_reducible first|rfl|exact True.intro|apply AL|apply And.intro|((first|apply AB|apply AJ|apply AC|apply AK)<;>intro _))|(apply Az<;>intro _)|apply AI|refine Ag () ?_ ?_|((first|apply AP|apply AO|apply AN|apply AM|apply AH|apply AG|apply AF|apply AE|apply AD)<;>try dsimp only)|apply Ag|(refine Prod.forall.2 ?_;intro _;try dsimp only)|(intro _;try dsimp only))
 all_goals(repeat(rename(_:List Nd)[_]? =some _=>hq;revert hq;rename(_:List Nd)[_]? =some _=>hr;intro hq;rw[hr] at hq;cases hq))
 all_goals(try(repeat(rename(_:List Bool)[_]? =some _=>hq;revert hq;rename(_:List Bool)[_]? =some _=>hr;intro hq;rw[hr] at hq;cases hq)))
 all_goals(try(have hI:=a8u (show mrI _ _ _ _ _ by assumption)))
 all_goals(try(have hK:=a8v (show mrI _ _ _ _ _ by assumption) ‹_›))
 all_goals first
  |rfl
  |exact h2
  |omega
  |exact()
  |(have hq:=a8w (show mrI _ _ _ _ _ by assumption) ‹_› ‹_›;first|exact hq.1|omega)
  |exact a8z h1 ‹_› ‹_›
  |exact a8A h1 ‹_› ‹_›
  |exact a8x ‹_› ‹_› ‹_› ‹_›
  |exact a8y ‹_› ‹_› ‹_›
  |(rw[hK] at hI ⊢;omega)
  |(rw[hK] at hI;omega)
  |((try simp only[AR]);omega)
  |skip)
theorem a8D:Al G Go.Proofs.Tryz.prog 94 (Iy 0):=
 ⟨⟨⟨_,Go.Proofs.Tryz.func94,by kernel_rfl,by kernel_rfl⟩,fun x y _ _=>⟨trivial,trivial,trivial,fun _=>⟨trivial,trivial⟩,trivial⟩⟩,fun x hx=>by
   exfalso
   have hx:mrP x.1 x.2.1 x.2.2∧x.2.1<((0:Nat):Int):=hx
   have h1:=Zm hx.1
   have h2:=hx.2
   omega⟩
theorem Zn:∀n,Al G Go.Proofs.Tryz.prog 94 (Iy n)
 |0=>a8D
 |n+1=>a8C n (Zn n)
noncomputable def HV:Sig:= {X:=List Nd×Int,args:=fun x=>[nds x.1,.int .i64 x.2],pre:=fun x=>Bc x.1∧x.1.length≤2^30,Y:=Unit,post:=fun x y=>True,res:=fun x y=>Ae (undL x.1 x.2),outs:=fun x y=>[.top,.top],keep:=false}
noncomputable def Ol (x:List Nd×Int):LS:= {ι:=List Bool×Int×List Int,inv:=fun i=>uoI x.1 x.2 i.1 i.2.1 i.2.2,regs:=fun i=>[(5,Ae i.2.2),(6,BX i.1),(7,.int .i64 i.2.1)],als:=[],meas:=fun i=>i.1.length-i.2.1.toNat}
theorem Zo:Al G Tryz.prog 40 HV:=
 vcFun_okP [(16,0,HT),(94,0,(Iy (2^30)))] [(76,⟨Bool,Bq⟩),(26,⟨Int,Bh⟩)] false (fun x=>[(7,Ol x)]) Tryz.func40 rfl (by decide) ⟨YR,(Zn (2^30)),trivial⟩ (fun(x:List Nd×Int)=>(∀(y:Unit),True→(∀(x:Int),True∧True)∧True∧True∧True)∧cA HT [nds x.1,.int .i64 x.2] fun x_1 y=>Aa (deepOf x_1.1 x_1.2==(0:Int)) (rA HV x [Ae [],.top,.top]) (((0:Int)≤(↑(List.length x.1):Int)∧(↑(List.length x.1):Int)≤(↑(List.length x.1):Int)∧(↑(1:Nat):Int)*(↑(List.length x.1):Int)≤(2:Int)^(46:Nat)∧(↑(List.length x.1):Int)≤(2:Int)^(46:Nat))∧∃(x_2:Bool),false=x_2∧cA (Iy ((2:Nat)^(30:Nat))) [nds x.1,.int .i64 x.2,AV.sl true (0:Nat) (1:Nat) Bool Bq (List.replicate (Int.toNat (↑(List.length x.1):Int)) x_2)] fun x_3 y=>eA (Ol x) [Ae [],AV.sl true (0:Nat) (1:Nat) Bool Bq y.1,.int .i64 (0:Int)]∧∀(i:List Bool×Int×List Int),uoI x.1 x.2 i.1 i.2.1 i.2.2→Aa (decide (i.2.1<(↑(List.length i.1):Int))) (((0:Int)≤i.2.1∧i.2.1<(↑(List.length i.1):Int))∧Int.toNat i.2.1<List.length i.1∧∀(x_4:Bool),i.1[Int.toNat i.2.1]? =some x_4→Aa x_4 (∃(x_5:Int),i.2.1=x_5∧∃(zs:List Int),Ae [x_5]=Ae zs∧BG Bh∧Bb (List.length i.2.2+List.length zs) (8:Nat)∧inR IntKind.i64 (i.2.1+(1:Int))∧eN (Ol x) i [Ae (i.2.2++zs),AV.sl true (0:Nat) (1:Nat) Bool Bq i.1,.int .i64 (i.2.1+(1:Int))]) (inR IntKind.i64 (i.2.1+(1:Int))∧eN (Ol x) i [Ae i.2.2,AV.sl true (0:Nat) (1:Nat) Bool Bq i.1,.int .i64 (i.2.1+(1:Int))])) (rA HV x [Ae i.2.2,.top,.top]))) (fun x=>by kernel_rfl) fun(x:List Nd×Int) (hx:Bc x.1∧x.1.length≤2^30)=>(by
 dsimp only[BX,cA,eA,eN,Ol,Bt,nds,Ae,rA,Iy,HT,HV,Av,AA,mvL,lnL,mvE,lnE,Bi]
 obtain⟨h1,h2⟩:=hx
 (repeat' first|(with_reducible first|rfl|exact True.intro|apply AL|apply And.intro|((first|apply AB|apply AJ|apply AC|apply AK)<;>intro _))|(apply Az<;>intro _)|apply AI|refine Ag () ?_ ?_|((first|apply AP|apply AO|apply AN|apply AM|apply AH|apply AG|apply AF|apply AE|apply AD)<;>try dsimp only)|apply Ag|(refine Prod.forall.2 ?_;intro _;try dsimp only)|(intro _;try dsimp only))
 all_goals(try(have hI:=Zl (show uoI _ _ _ _ _ by assumption)))
 all_goals first
  |rfl
  |omega
  |exact()
  |exact Zh ‹_›
  |exact a8n (Oj ‹_›)
  |(have hq:=Zg (Oj ‹_›);have he:((2^30:Nat):Int)=1073741824:=by decide
    omega)
  |exact a8t (Oj ‹_›) ‹_› ‹_› ‹_›
  |exact Zi ‹_› ‹_› ‹_›
  |exact Zj ‹_› ‹_› ‹_›
  |exact Zk ‹_› ‹_›
  |(simp only[AR,Bb,List.length_cons,List.length_nil];omega)
  |skip)
end Go.My
end
section
set_option linter.unusedVariables false
set_option linter.unusedSimpArgs false
namespace Go.My
open Go.Eng Go.Proofs
variable {G:GInv}
def GK(l:List (List UInt8)):AV:= .sl false 0 1 (List UInt8) Ai l
def Cv(l:List (List UInt8)):AV:= .sl true 0 1 (List UInt8) Ai l
def GL(s:List UInt8):List (List UInt8)→Int→Int
 |[],_=> -1
 |x::l,i=>if s=x then i else GL s l (i+1)
theorem Zp{s:List UInt8}:∀ {l:List (List UInt8)} {i:Int},0≤i→(GL s l i≥0↔s∈l)
 |[],i,h=>by simp [GL]
 |x::l,i,h=>by
  rw[GL]
  by_cases e:s=x
  ·simp [e,h]
  ·rw[if_neg e,Zp (by omega)];simp [e]
def ixI(x:List (List UInt8)×List UInt8)(i:Int):Prop:=(0≤i∧i≤x.1.length)∧GL x.2 (x.1.drop i.toNat) i=GL x.2 x.1 0
theorem a8E{x:List (List UInt8)×List UInt8}:ixI x 0:=⟨by omega,by simp⟩
theorem a8F{x:List (List UInt8)×List UInt8}{i:Int}{e:List UInt8}(h:ixI x i)(he:x.1[i.toNat]? =some e)(hq:x.2=e):i=GL x.2 x.1 0:=by
 rw[←h.2,HM he,GL,if_pos hq]
theorem a8G{x:List (List UInt8)×List UInt8}{i:Int}{e:List UInt8}(h:ixI x i)(he:x.1[i.toNat]? =some e)(hq:¬x.2=e):ixI x (i+1):=by
 have hl:=(List.getElem?_eq_some_iff.1 he).1
 refine⟨by have:=h.1;omega,?_⟩
 rw[←h.2,HM he,GL,if_neg hq,Dv h.1.1]
theorem a8H{x:List (List UInt8)×List UInt8}{i:Int}(h:ixI x i)(hl:¬i<(x.1.length:Int)): -1=GL x.2 x.1 0:=by
 rw[←h.2,List.drop_eq_nil_of_le (by omega)];rfl
noncomputable def KH:Sig:= {X:=List (List UInt8)×List UInt8,args:=fun x=>[GK x.1,.str x.2],pre:=fun x=>x.1.length<2^62,Y:=Unit,post:=fun x y=>True,res:=fun x y=> .int .i64 (GL x.2 x.1 0),outs:=fun x y=>[.top,.top],keep:=false}
noncomputable def QE (x:List (List UInt8)×List UInt8):LS:= {ι:=Int,inv:=fun i=>ixI x i,regs:=fun i=>[(0,GK x.1),(1,.str x.2),(7,.int .i64 x.1.length),(8,.int .i64 i)],als:=[],meas:=fun i=>x.1.length-i.toNat}
theorem a8I:Al G Tryz.prog 118 KH:=
 vcFun_okP [] [] false (fun x=>[(2,QE x)]) Tryz.func118 rfl (by decide) trivial (fun(x:List (List UInt8)×List UInt8)=>(∀(y:Unit),True→True∧True∧True∧True)∧eA (QE x) [AV.sl false (0:Nat) (1:Nat) (List UInt8) Ai x.1,.str x.2,.int .i64 (↑(List.length x.1):Int),.int .i64 (0:Int)]∧∀(i:Int),ixI x i→Aa (decide (i<(↑(List.length x.1):Int))) (((0:Int)≤i∧i<(↑(List.length x.1):Int))∧∀(e:List UInt8),x.1[Int.toNat i]? =some e→Aa (x.2==e) (rA KH x [.int .i64 i,.top,.top]) (inR IntKind.i64 (i+(1:Int))∧eN (QE x) i [AV.sl false (0:Nat) (1:Nat) (List UInt8) Ai x.1,.str x.2,.int .i64 (↑(List.length x.1):Int),.int .i64 (i+(1:Int))])) (rA KH x [.int .i64 (-1:Int),.top,.top])) (fun x=>by kernel_rfl) fun(x:List (List UInt8)×List UInt8) (hx:x.1.length<2^62)=>(by
 dsimp only[eA,eN,QE,GK,rA,KH,Av,AA,Bi]
 have hx:x.1.length<2^62:=hx
 (repeat' first|(with_reducible first|rfl|exact True.intro|apply AL|apply And.intro|((first|apply AB|apply AJ|apply AC|apply AK)<;>intro _))|(apply Az<;>intro _)|apply AI|refine Ag () ?_ ?_|((first|apply AP|apply AO|apply AN|apply AM|apply AH|apply AG|apply AF|apply AE|apply AD)<;>try dsimp only)|apply Ag|(refine Prod.forall.2 ?_;intro _;try dsimp only)|(intro _;try dsimp only))
 all_goals first
  |rfl
  |exact a8E
  |exact a8F ‹_› ‹_› ‹_›
  |exact a8G ‹_› ‹_› ‹_›
  |exact a8H ‹_› ‹_›
  |(have hq:=(show ixI _ _ by assumption).1;(try simp only[AR]);omega)
  |skip)
noncomputable def GM:Sig:= {X:=List (List UInt8)×List UInt8,args:=fun x=>[GK x.1,.str x.2],pre:=fun x=>x.1.length<2^62,Y:=Unit,post:=fun x y=>True,res:=fun x y=> .bool (x.1.elem x.2),outs:=fun x y=>[.top,.top],keep:=false}
theorem Un:Al G Tryz.prog 79 GM:=
 vcFun_okP [(118,0,KH)] [] false (fun x=>[]) Tryz.func79 rfl (by decide) ⟨a8I,trivial⟩ (fun(x:List (List UInt8)×List UInt8)=>(∀(y:Unit),True→True∧True∧True∧True)∧cA KH [AV.sl false (0:Nat) (1:Nat) (List UInt8) Ai x.1,.str x.2] fun x_1 y=>rA GM x [.bool (decide (GL x_1.2 x_1.1 (0:Int)≥(0:Int))),.top,.top]) (fun x=>by kernel_rfl) fun(x:List (List UInt8)×List UInt8) (hx:x.1.length<2^62)=>(by
 dsimp only[cA,GK,rA,GM,KH,Av,AA,mvL,lnL,mvE,lnE]
 have hx:x.1.length<2^62:=hx
 (repeat' first|(with_reducible first|rfl|exact True.intro|apply AL|apply And.intro|((first|apply AB|apply AJ|apply AC|apply AK)<;>intro _))|(apply Az<;>intro _)|apply AI|refine Ag () ?_ ?_|((first|apply AP|apply AO|apply AN|apply AM|apply AH|apply AG|apply AF|apply AE|apply AD)<;>try dsimp only)|apply Ag|(refine Prod.forall.2 ?_;intro _;try dsimp only)|(intro _;try dsimp only))
 all_goals first
  |exact hx
  |(rw[Bool.eq_iff_iff,decide_eq_true_iff,List.elem_iff];exact Zp (by omega))
  |skip)
def hI{α:Type}[DecidableEq α][BEq α][LawfulBEq α](x:List α×α)(i:Int):Prop:=(0≤i∧i≤x.1.length)∧(x.1.take i.toNat).elem x.2=false
theorem h_0{α:Type}[DecidableEq α][BEq α][LawfulBEq α]{x:List α×α}:hI x 0:=⟨by omega,by simp⟩
theorem h_y{α:Type}[DecidableEq α][BEq α][LawfulBEq α]{x:List α×α}{i:Int}{e:α}(he:x.1[i.toNat]? =some e)(h:e=x.2):true=x.1.elem x.2:=by
 symm;rw[List.elem_iff];rw[←h];exact List.mem_of_getElem? he
theorem h_n{α:Type}[DecidableEq α][BEq α][LawfulBEq α]{x:List α×α}{i:Int}{e:α}(h:hI x i)(he:x.1[i.toNat]? =some e)(hn:¬e=x.2):hI x (i+1):=by
 have hl:=(List.getElem?_eq_some_iff.1 he).1
 refine⟨by have:=h.1;omega,?_⟩
 have h2:=h.2
 rw[Bool.eq_false_iff,ne_eq,List.elem_iff] at h2 ⊢
 rw[show(i+1).toNat=i.toNat+1 by have:=h.1;omega,List.take_add_one,he]
 simp only[Option.toList,List.mem_append,List.mem_singleton]
 rintro(hh|hh)
 ·exact h2 hh
 ·exact hn hh.symm
theorem h_e{α:Type}[DecidableEq α][BEq α][LawfulBEq α]{x:List α×α}{i:Int}(h:hI x i)(hl:¬i<(x.1.length:Int)):false=x.1.elem x.2:=by
 have:=h.2;rw[List.take_of_length_le (by omega)] at this;exact this.symm
theorem Zq{l:List (List UInt8)}{s:List UInt8}(h:l.elem s=true):l=Cu l s:=by rw[Cu,if_pos h]
theorem Zs{l:List (List UInt8)}{s:List UInt8}(h:l.elem s=false):l++[s]=Cu l s:=by rw[Cu,h];rfl
noncomputable def KI:Sig:= {X:=List (List UInt8)×List UInt8,args:=fun x=>[GK x.1,.str x.2],pre:=fun x=>x.1.length<2^62,Y:=Unit,post:=fun x y=>True,res:=fun x y=> .bool (x.1.elem x.2),outs:=fun x y=>[.top,.top],keep:=false}
noncomputable def QF (x:List (List UInt8)×List UInt8):LS:= {ι:=Int,inv:=fun i=>hI x i,regs:=fun i=>[(0,GK x.1),(1,.str x.2),(5,.int .i64 i)],als:=[],meas:=fun i=>x.1.length-i.toNat}
theorem a8J:Al G Tryz.prog 95 KI:=
 vcFun_okP [] [] false (fun x=>[(2,QF x)]) Tryz.func95 rfl (by decide) trivial (fun(x:List (List UInt8)×List UInt8)=>(∀(y:Unit),True→True∧True∧True∧True)∧eA (QF x) [AV.sl false (0:Nat) (1:Nat) (List UInt8) Ai x.1,.str x.2,.int .i64 (0:Int)]∧∀(i:Int),hI x i→Aa (decide (i<(↑(List.length x.1):Int))) (((0:Int)≤i∧i<(↑(List.length x.1):Int))∧∀(e:List UInt8),x.1[Int.toNat i]? =some e→Aa (e==x.2) (rA KI x [.bool true,.top,.top]) (inR IntKind.i64 (i+(1:Int))∧eN (QF x) i [AV.sl false (0:Nat) (1:Nat) (List UInt8) Ai x.1,.str x.2,.int .i64 (i+(1:Int))])) (rA KI x [.bool false,.top,.top])) (fun x=>by kernel_rfl) fun(x:List (List UInt8)×List UInt8) (hx:x.1.length<2^62)=>(by
 dsimp only[eA,eN,QF,GK,rA,KI,Av,AA,Bi]
 have hx:x.1.length<2^62:=hx
 (repeat' first|(with_reducible first|rfl|exact True.intro|apply AL|apply And.intro|((first|apply AB|apply AJ|apply AC|apply AK)<;>intro _))|(apply Az<;>intro _)|apply AI|refine Ag () ?_ ?_|((first|apply AP|apply AO|apply AN|apply AM|apply AH|apply AG|apply AF|apply AE|apply AD)<;>try dsimp only)|apply Ag|(refine Prod.forall.2 ?_;intro _;try dsimp only)|(intro _;try dsimp only))
 all_goals first
  |rfl
  |exact h_0
  |exact h_y ‹_› ‹_›
  |exact h_n ‹_› ‹_› ‹_›
  |exact h_e ‹_› ‹_›
  |(have hq:=(show hI _ _ by assumption).1;(try simp only[AR]);omega)
  |skip)
noncomputable def Ht:Sig:= {X:=List (List UInt8)×List UInt8,args:=fun x=>[Cv x.1,.str x.2],pre:=fun x=>x.1.length≤2^40,Y:=Unit,post:=fun x y=>True,res:=fun x y=>Cv (Cu x.1 x.2),outs:=fun x y=>[.top,.top],keep:=false}
theorem Zt:Al G Tryz.prog 76 Ht:=
 vcFun_okP [(79,0,GM)] [(38,⟨List UInt8,Ai⟩)] false (fun x=>[]) Tryz.func76 rfl (by decide) ⟨Un,trivial⟩ (fun(x:List (List UInt8)×List UInt8)=>(∀(y:Unit),True→(∀(x:List UInt8),True∧True)∧True∧True∧True)∧cA GM [AV.sl true (0:Nat) (1:Nat) (List UInt8) Ai x.1,.str x.2] fun x_1 y=>Aa (List.elem x_1.2 x_1.1) (rA Ht x [AV.sl true (0:Nat) (1:Nat) (List UInt8) Ai x.1,.top,.top]) (∃(x_2:List UInt8),x.2=x_2∧∃(zs:List (List UInt8)),AV.sl true (0:Nat) (1:Nat) (List UInt8) Ai [x_2]=AV.sl true (0:Nat) (1:Nat) (List UInt8) Ai zs∧BG Ai∧Bb (List.length x.1+List.length zs) (16:Nat)∧rA Ht x [AV.sl true (0:Nat) (1:Nat) (List UInt8) Ai (x.1++zs),.top,.top])) (fun x=>by kernel_rfl) fun(x:List (List UInt8)×List UInt8) (hx:x.1.length≤2^40)=>(by
 dsimp only[cA,Cv,GK,rA,GM,Ht,Av,AA,mvL,lnL,mvE,lnE]
 have hx:x.1.length≤2^40:=hx
 (repeat' first|(with_reducible first|rfl|exact True.intro|apply AL|apply And.intro|((first|apply AB|apply AJ|apply AC|apply AK)<;>intro _))|(apply Az<;>intro _)|apply AI|refine Ag () ?_ ?_|((first|apply AP|apply AO|apply AN|apply AM|apply AH|apply AG|apply AF|apply AE|apply AD)<;>try dsimp only)|apply Ag|(refine Prod.forall.2 ?_;intro _;try dsimp only)|(intro _;try dsimp only))
 all_goals first
  |rfl
  |omega
  |exact Zq ‹_›
  |exact Zs ‹_›
  |(simp only[AR,Bb,List.length_cons,List.length_nil];omega)
  |skip)
noncomputable def Hu:Sig:= {X:=List (List UInt8)×List UInt8,args:=fun x=>[Cv x.1,.str x.2],pre:=fun x=>x.1.length≤2^40,Y:=Unit,post:=fun x y=>True,res:=fun x y=>Cv (Cu x.1 x.2),outs:=fun x y=>[.top,.top],keep:=false}
theorem Zu:Al G Tryz.prog 78 Hu:=
 vcFun_okP [(95,0,KI)] [(38,⟨List UInt8,Ai⟩)] false (fun x=>[]) Tryz.func78 rfl (by decide) ⟨a8J,trivial⟩ (fun(x:List (List UInt8)×List UInt8)=>(∀(y:Unit),True→(∀(x:List UInt8),True∧True)∧True∧True∧True)∧cA KI [AV.sl true (0:Nat) (1:Nat) (List UInt8) Ai x.1,.str x.2] fun x_1 y=>Aa (List.elem x_1.2 x_1.1) (rA Hu x [AV.sl true (0:Nat) (1:Nat) (List UInt8) Ai x.1,.top,.top]) (∃(x_2:List UInt8),x.2=x_2∧∃(zs:List (List UInt8)),AV.sl true (0:Nat) (1:Nat) (List UInt8) Ai [x_2]=AV.sl true (0:Nat) (1:Nat) (List UInt8) Ai zs∧BG Ai∧Bb (List.length x.1+List.length zs) (16:Nat)∧rA Hu x [AV.sl true (0:Nat) (1:Nat) (List UInt8) Ai (x.1++zs),.top,.top])) (fun x=>by kernel_rfl) fun(x:List (List UInt8)×List UInt8) (hx:x.1.length≤2^40)=>(by
 dsimp only[cA,Cv,GK,rA,KI,Hu,Av,AA,mvL,lnL,mvE,lnE]
 have hx:x.1.length≤2^40:=hx
 (repeat' first|(with_reducible first|rfl|exact True.intro|apply AL|apply And.intro|((first|apply AB|apply AJ|apply AC|apply AK)<;>intro _))|(apply Az<;>intro _)|apply AI|refine Ag () ?_ ?_|((first|apply AP|apply AO|apply AN|apply AM|apply AH|apply AG|apply AF|apply AE|apply AD)<;>try dsimp only)|apply Ag|(refine Prod.forall.2 ?_;intro _;try dsimp only)|(intro _;try dsimp only))
 all_goals first
  |rfl
  |omega
  |exact Zq ‹_›
  |exact Zs ‹_›
  |(simp only[AR,Bb,List.length_cons,List.length_nil];omega)
  |skip)
theorem Uo{α:Type}{f:List (List UInt8)→α→List (List UInt8)}(hf:∀o e,(f o e).length≤o.length+1){l:List α}{i:Int}:(fdl f [] l i).length≤l.length:=by
 have:=Oi hf (l.take i.toNat) []
 rw[List.length_take] at this;unfold fdl;simp at this;omega
def nsI(x:List Nd×Int)(i:Int)(o:List (List UInt8)):Prop:=((0≤i∧i≤(undL x.1 x.2).length)∧x.1.length≤2^30)∧o=fdl (nmF x.1) [] (undL x.1 x.2) i
theorem Zv{x:List Nd×Int}(h:x.1.length≤2^30):nsI x 0 []:=⟨⟨by omega,h⟩,QA.symm⟩
theorem Zw{x:List Nd×Int}{i:Int}{o:List (List UInt8)}(h:nsI x i o):((0≤i∧i≤(undL x.1 x.2).length)∧(undL x.1 x.2).length≤2^30)∧o.length≤2^30:=by
 have h1:= @Ix x.1 x.2;have h2:=h.1.2
 refine⟨⟨h.1.1,by omega⟩,?_⟩
 rw[h.2];have:=Uo (Zb x.1) (l:=undL x.1 x.2) (i:=i);omega
theorem QG{x:List Nd×Int}{i c:Int}(hc:(undL x.1 x.2)[i.toNat]? =some c):0≤c∧c<x.1.length:=(Hs (List.mem_of_getElem? hc)).1
theorem Zx{x:List Nd×Int}{i c:Int}{e:Nd}{o:List (List UInt8)}(h:nsI x i o)(hc:(undL x.1 x.2)[i.toNat]? =some c)(he:x.1[c.toNat]? =some e)(hk:e.kind=1):nsI x (i+1) (Cu o e.text):=by
 have hl:=(List.getElem?_eq_some_iff.1 hc).1
 obtain⟨⟨h1,h2⟩,h3⟩:=h
 exact⟨⟨by omega,h2⟩,by rw[HU h1.1 hc,←h3,nmF,kindAt,AZ he,if_pos hk]⟩
theorem Zy{x:List Nd×Int}{i c:Int}{e:Nd}{o:List (List UInt8)}(h:nsI x i o)(hc:(undL x.1 x.2)[i.toNat]? =some c)(he:x.1[c.toNat]? =some e)(hk:¬e.kind=1):nsI x (i+1) o:=by
 have hl:=(List.getElem?_eq_some_iff.1 hc).1
 obtain⟨⟨h1,h2⟩,h3⟩:=h
 exact⟨⟨by omega,h2⟩,by rw[HU h1.1 hc,←h3,nmF,kindAt,AZ he,if_neg hk]⟩
theorem Zz{x:List Nd×Int}{i:Int}{o:List (List UInt8)}(h:nsI x i o)(hl:¬i<((undL x.1 x.2).length:Int)):o=BH x.1 x.2:=by rw[h.2,QB hl];rfl
attribute [local irreducible] undL BH Bl Cu fdl
noncomputable def Iz:Sig:= {X:=List Nd×Int,args:=fun x=>[nds x.1,.int .i64 x.2],pre:=fun x=>Bc x.1∧x.1.length≤2^30,Y:=Unit,post:=fun x y=>True,res:=fun x y=>Cv (BH x.1 x.2),outs:=fun x y=>[.top,.top],keep:=false}
noncomputable def Om (x:List Nd×Int):LS:= {ι:=Int×List (List UInt8),inv:=fun i=>nsI x i.1 i.2,regs:=fun i=>[(0,nds x.1),(5,Cv i.2),(10,Ae (undL x.1 x.2)),(11,.int .i64 (undL x.1 x.2).length),(12,.int .i64 i.1)],als:=[],meas:=fun i=>(undL x.1 x.2).length-i.1.toNat}
theorem ZA:Al G Tryz.prog 22 Iz:=
 vcFun_okP [(31,0,Dt),(76,0,Ht)] [(38,⟨List UInt8,Ai⟩),(26,⟨Int,Bh⟩)] false (fun x=>[(3,Om x)]) Tryz.func22 rfl (by decide) ⟨Mk,Zt,trivial⟩ (fun(x:List Nd×Int)=>(∀(y:Unit),True→(∀(x:List UInt8),True∧True)∧True∧True∧True)∧cA Dt [nds x.1,.int .i64 x.2] fun x_1 y=>eA (Om x) [nds x.1,.nil,Ae (undL x_1.1 x_1.2),.int .i64 (↑(List.length (undL x_1.1 x_1.2)):Int),.int .i64 (0:Int)]∧∀(i:Int×List (List UInt8)),nsI x i.1 i.2→Aa (decide (i.1<(↑(List.length (undL x.1 x.2)):Int))) (((0:Int)≤i.1∧i.1<(↑(List.length (undL x.1 x.2)):Int))∧Int.toNat i.1<List.length (undL x.1 x.2)∧∀(x_2:Int),(undL x.1 x.2)[Int.toNat i.1]? =some x_2→((0:Int)≤x_2∧x_2<(↑(List.length x.1):Int))∧∀(e:Nd),x.1[Int.toNat x_2]? =some e→Aa (e.kind==(1:Int)) (((0:Int)≤x_2∧x_2<(↑(List.length x.1):Int))∧∀(e:Nd),x.1[Int.toNat x_2]? =some e→cA Ht [AV.sl true (0:Nat) (1:Nat) (List UInt8) Ai i.2,.str e.text] fun x_3 y=>inR IntKind.i64 (i.1+(1:Int))∧eN (Om x) i [nds x.1,AV.sl true (0:Nat) (1:Nat) (List UInt8) Ai (Cu x_3.1 x_3.2),Ae (undL x.1 x.2),.int .i64 (↑(List.length (undL x.1 x.2)):Int),.int .i64 (i.1+(1:Int))]) (inR IntKind.i64 (i.1+(1:Int))∧eN (Om x) i [nds x.1,AV.sl true (0:Nat) (1:Nat) (List UInt8) Ai i.2,Ae (undL x.1 x.2),.int .i64 (↑(List.length (undL x.1 x.2)):Int),.int .i64 (i.1+(1:Int))])) (rA Iz x [AV.sl true (0:Nat) (1:Nat) (List UInt8) Ai i.2,.top,.top])) (fun x=>by kernel_rfl) fun(x:List Nd×Int) (hx:Bc x.1∧x.1.length≤2^30)=>(by
 dsimp only[BX,cA,eA,eN,Om,Bt,nds,Cv,Ae,rA,Ht,Iz,Dt,Av,AA,mvL,lnL,mvE,lnE,Bi]
 obtain⟨h1,h2⟩:=hx
 (repeat' first|(with_reducible first|rfl|exact True.intro|apply AL|apply And.intro|((first|apply AB|apply AJ|apply AC|apply AK)<;>intro _))|(apply Az<;>intro _)|apply AI|refine Ag () ?_ ?_|((first|apply AP|apply AO|apply AN|apply AM|apply AH|apply AG|apply AF|apply AE|apply AD)<;>try dsimp only)|apply Ag|(refine Prod.forall.2 ?_;intro _;try dsimp only)|(intro _;try dsimp only))
 all_goals(try(have hB:=Zw (show nsI _ _ _ by assumption)))
 all_goals(try(repeat(rename(_:List Int)[_]? =some _=>hq;revert hq;rename(_:List Int)[_]? =some _=>hr;intro hq;rw[hr] at hq;cases hq)))
 all_goals(try(repeat(rename(_:List Nd)[_]? =some _=>hq;revert hq;rename(_:List Nd)[_]? =some _=>hr;intro hq;rw[hr] at hq;cases hq)))
 all_goals first
  |rfl
  |omega
  |exact h1
  |exact Zv h2
  |exact(QG ‹_›).1
  |exact(QG ‹_›).2
  |exact Zx ‹_› ‹_› ‹_› ‹_›
  |exact Zy ‹_› ‹_› ‹_› ‹_›
  |exact Zz ‹_› ‹_›
  |((try simp only[AR]);omega)
  |skip)
noncomputable def Ml:Sig:= {X:=List Nd×Int,args:=fun x=>[nds x.1,.int .i64 x.2],pre:=fun x=>Bc x.1∧x.1.length≤2^30,Y:=Unit,post:=fun x y=>True,res:=fun x y=>Cv (BH x.1 x.2),outs:=fun x y=>[.top,.top],keep:=false}
noncomputable def On (x:List Nd×Int):LS:= {ι:=Int×List (List UInt8),inv:=fun i=>nsI x i.1 i.2,regs:=fun i=>[(0,nds x.1),(5,Cv i.2),(6,Ae (undL x.1 x.2)),(7,.int .i64 i.1)],als:=[],meas:=fun i=>(undL x.1 x.2).length-i.1.toNat}
theorem a8K:Al G Tryz.prog 24 Ml:=
 vcFun_okP [(40,0,HV),(78,0,Hu)] [(38,⟨List UInt8,Ai⟩),(26,⟨Int,Bh⟩)] false (fun x=>[(4,On x)]) Tryz.func24 rfl (by decide) ⟨Zo,Zu,trivial⟩ (fun(x:List Nd×Int)=>(∀(y:Unit),True→(∀(x:List UInt8),True∧True)∧True∧True∧True)∧cA HV [nds x.1,.int .i64 x.2] fun x_1 y=>eA (On x) [nds x.1,AV.sl true (0:Nat) (1:Nat) (List UInt8) Ai [],Ae (undL x_1.1 x_1.2),.int .i64 (0:Int)]∧∀(i:Int×List (List UInt8)),nsI x i.1 i.2→Aa (decide (i.1<(↑(List.length (undL x.1 x.2)):Int))) (((0:Int)≤i.1∧i.1<(↑(List.length (undL x.1 x.2)):Int))∧Int.toNat i.1<List.length (undL x.1 x.2)∧∀(x_2:Int),(undL x.1 x.2)[Int.toNat i.1]? =some x_2→((0:Int)≤x_2∧x_2<(↑(List.length x.1):Int))∧∀(e:Nd),x.1[Int.toNat x_2]? =some e→Aa (e.kind==(1:Int)) (((0:Int)≤i.1∧i.1<(↑(List.length (undL x.1 x.2)):Int))∧Int.toNat i.1<List.length (undL x.1 x.2)∧∀(x_3:Int),(undL x.1 x.2)[Int.toNat i.1]? =some x_3→((0:Int)≤x_3∧x_3<(↑(List.length x.1):Int))∧∀(e:Nd),x.1[Int.toNat x_3]? =some e→cA Hu [AV.sl true (0:Nat) (1:Nat) (List UInt8) Ai i.2,.str e.text] fun x_4 y=>inR IntKind.i64 (i.1+(1:Int))∧eN (On x) i [nds x.1,AV.sl true (0:Nat) (1:Nat) (List UInt8) Ai (Cu x_4.1 x_4.2),Ae (undL x.1 x.2),.int .i64 (i.1+(1:Int))]) (inR IntKind.i64 (i.1+(1:Int))∧eN (On x) i [nds x.1,AV.sl true (0:Nat) (1:Nat) (List UInt8) Ai i.2,Ae (undL x.1 x.2),.int .i64 (i.1+(1:Int))])) (rA Ml x [AV.sl true (0:Nat) (1:Nat) (List UInt8) Ai i.2,.top,.top])) (fun x=>by kernel_rfl) fun(x:List Nd×Int) (hx:Bc x.1∧x.1.length≤2^30)=>(by
 dsimp only[BX,cA,eA,eN,On,Bt,nds,Cv,Ae,rA,Hu,Ml,HV,Av,AA,mvL,lnL,mvE,lnE,Bi]
 obtain⟨h1,h2⟩:=hx
 (repeat' first|(with_reducible first|rfl|exact True.intro|apply AL|apply And.intro|((first|apply AB|apply AJ|apply AC|apply AK)<;>intro _))|(apply Az<;>intro _)|apply AI|refine Ag () ?_ ?_|((first|apply AP|apply AO|apply AN|apply AM|apply AH|apply AG|apply AF|apply AE|apply AD)<;>try dsimp only)|apply Ag|(refine Prod.forall.2 ?_;intro _;try dsimp only)|(intro _;try dsimp only))
 all_goals(try(have hB:=Zw (show nsI _ _ _ by assumption)))
 all_goals(try(repeat(rename(_:List Int)[_]? =some _=>hq;revert hq;rename(_:List Int)[_]? =some _=>hr;intro hq;rw[hr] at hq;cases hq)))
 all_goals(try(repeat(rename(_:List Nd)[_]? =some _=>hq;revert hq;rename(_:List Nd)[_]? =some _=>hr;intro hq;rw[hr] at hq;cases hq)))
 all_goals first
  |rfl
  |omega
  |exact h1
  |exact Zv h2
  |exact(QG ‹_›).1
  |exact(QG ‹_›).2
  |exact Zx ‹_› ‹_› ‹_› ‹_›
  |exact Zy ‹_› ‹_› ‹_› ‹_›
  |exact Zz ‹_› ‹_›
  |((try simp only[AR]);omega)
  |skip)
end Go.My
end
section
set_option linter.unusedVariables false
set_option linter.unusedSimpArgs false
namespace Go.My
open Go.Eng Go.Proofs
variable {G:GInv}
def fnK(k:Int):Bool:=decide (k=9)||decide (k=20)
def dlk(ns:List Nd)(L:List Int)(i:Int):List Int:=(Ab ns (L.getD i.toNat 0)).kids.dropLast
theorem a8L{ns:List Nd}{L:List Int}{i c:Int}{e:Nd}(hc:L[i.toNat]? =some c)(he:ns[c.toNat]? =some e):dlk ns L i=e.kids.dropLast:=by
 rw[dlk,List.getD,hc];simp only[Option.getD_some];rw[AZ he]
def ER(ns:List Nd)(L:List Int):Prop:=L.length≤2^30∧∀p∈L,(0≤p∧p<ns.length)∧nodeOk ns p=true
theorem a8M{ns:List Nd}{k:Int}(h:ns.length≤2^30):ER ns (undL ns k):=⟨by have:= @Ix ns k;omega,fun p hp=>Hs hp⟩
def bnI(ns:List Nd)(L:List Int)(i:Int)(m:List Bool):Prop:=(ER ns L∧0≤i∧i≤L.length)∧MK ns.length (fun j=>isPar ns (L.take i.toNat) j=true) m
def bnJ(ns:List Nd)(L:List Int)(i t:Int)(m:List Bool):Prop:=(ER ns L∧0≤i∧i<L.length)∧((0≤t∧t≤(dlk ns L i).length)∧(fnK (kindAt ns (L.getD i.toNat 0))=true∨t=0))∧MK ns.length (fun j=>isPar ns (L.take i.toNat) j=true∨j∈(dlk ns L i).take t.toNat) m
theorem ZB{ns:List Nd}{L:List Int}(h:ER ns L):bnI ns L 0 (List.replicate ns.length false):=
 ⟨⟨h,by omega,by omega⟩,Oe fun j hj=>by simp [isPar] at hj⟩
theorem ZC{ns:List Nd}{L:List Int}{i:Int}{m:List Bool}(h:bnI ns L i m):((0≤i∧i≤L.length)∧L.length≤2^30)∧m.length=ns.length:=⟨⟨h.1.2,h.1.1.1⟩,h.2.1⟩
theorem QH{ns:List Nd}{L:List Int}{i c:Int}{m:List Bool}(h:bnI ns L i m)(hc:L[i.toNat]? =some c):0≤c∧c<ns.length:=(h.1.1.2 c (List.mem_of_getElem? hc)).1
theorem a8N{ns:List Nd}{L:List Int}{i c:Int}{m:List Bool}{e:Nd}(h:bnI ns L i m)(hc:L[i.toNat]? =some c)(he:ns[c.toNat]? =some e):e.kids.length≤12∧(e.kind=9∨e.kind=20→1≤e.kids.length):=by
 have hn:=CS (h.1.1.2 c (List.mem_of_getElem? hc)).2
 rw[AZ he] at hn
 refine⟨hn.2.1,fun hk=> ?_⟩
 have h6:=hn.2.2.2.2.2.1
 rcases Nat.eq_zero_or_pos e.kids.length with h0|h0
 ·have:e.kids=[]:=List.length_eq_zero_iff.1 h0
  rw[this] at h6
  rcases hk with hk|hk<;>rw[hk] at h6<;>simp [Ds,Fw] at h6
 ·exact h0
theorem Up{ns:List Nd}{L:List Int}{i c:Int}{m:List Bool}(h:bnI ns L i m)(hc:L[i.toNat]? =some c):bnJ ns L i 0 m:=by
 have hl:=(List.getElem?_eq_some_iff.1 hc).1
 exact⟨⟨h.1.1,h.1.2.1,by have:=h.1.2;omega⟩,⟨⟨by omega,by omega⟩,.inr rfl⟩,GJ h.2 fun j=>by simp⟩
theorem ZD{ns:List Nd}{L:List Int}{i t:Int}{m:List Bool}(h:bnJ ns L i t m):(((0≤i∧i<L.length)∧L.length≤2^30)∧(0≤t∧t≤(dlk ns L i).length)∧(dlk ns L i).length≤12)∧m.length=ns.length:=by
 refine⟨⟨⟨h.1.2,h.1.1.1⟩,h.2.1.1,?_⟩,h.2.2.1⟩
 have hm:L.getD i.toNat 0∈L:=by
  have hlt:i.toNat<L.length:=by have:=h.1.2;omega
  rw[List.getD,List.getElem?_eq_getElem hlt];simp
 have:=(CS (h.1.1.2 _ hm).2).2.1
 rw[dlk,List.length_dropLast];omega
theorem Uq{ns:List Nd}{L:List Int}{i t d:Int}{m:List Bool}(h:bnJ ns L i t m)(hd:(dlk ns L i)[t.toNat]? =some d):0≤d∧d<ns.length:=by
 have hlt:i.toNat<L.length:=by have:=h.1.2;omega
 have hm:L.getD i.toNat 0∈L:=by rw[List.getD,List.getElem?_eq_getElem hlt];simp
 have hn:=h.1.1.2 _ hm
 have:=(CS hn.2).2.2.2.1 d (List.dropLast_subset _ (List.mem_of_getElem? hd))
 omega
theorem ZE{ns:List Nd}{L:List Int}{i t d:Int}{m:List Bool}(h:bnJ ns L i t m)(hk:fnK (kindAt ns (L.getD i.toNat 0))=true)(hd:(dlk ns L i)[t.toNat]? =some d):bnJ ns L i (t+1) (m.set d.toNat true):=by
 have hb:=Uq h hd
 have hl:=(List.getElem?_eq_some_iff.1 hd).1
 obtain⟨h1,⟨h2,h3⟩,h4⟩:=h
 refine⟨h1,⟨⟨by omega,by omega⟩,.inl hk⟩,GJ (Uj h4 hb) fun j=> ?_⟩
 rw[show(t+1).toNat=t.toNat+1 by omega,List.take_add_one,hd]
 simp only[Option.toList,List.mem_append,List.mem_singleton]
 constructor
 ·rintro((h|h)|h)
  ·exact .inl h
  ·exact .inr (.inl h)
  ·exact .inr (.inr h)
 ·rintro(h|h|h)
  ·exact .inl (.inl h)
  ·exact .inl (.inr h)
  ·exact .inr h
theorem a8O{ns:List Nd}{L:List Int}{i:Int}{j:Int}(h0:0≤i)(hl:i<L.length):isPar ns (L.take (i+1).toNat) j=(isPar ns (L.take i.toNat) j||(fnK (kindAt ns (L.getD i.toNat 0))&&(dlk ns L i).elem j)):=by
 have hlt:i.toNat<L.length:=by omega
 rw[show(i+1).toNat=i.toNat+1 by omega,List.take_add_one,List.getElem?_eq_getElem hlt]
 simp only[isPar,Option.toList,List.any_append,List.any_cons,List.any_nil,Bool.or_false,dlk,fnK,List.getD,List.getElem?_eq_getElem hlt,Option.getD_some]
theorem Oo{ns:List Nd}{L:List Int}{i t:Int}{m:List Bool}(h:bnJ ns L i t m)(he:(fnK (kindAt ns (L.getD i.toNat 0))=true∧¬t<((dlk ns L i).length:Int))∨fnK (kindAt ns (L.getD i.toNat 0))=false):bnI ns L (i+1) m:=by
 obtain⟨h1,⟨h2,h3⟩,h4⟩:=h
 refine⟨⟨h1.1,by omega,by omega⟩,GJ h4 fun j=> ?_⟩
 rw[a8O h1.2.1 h1.2.2,Bool.or_eq_true,Bool.and_eq_true,List.elem_iff]
 rcases he with⟨hk,hl⟩|hk
 ·rw[hk,List.take_of_length_le (l:=dlk ns L i) (by omega)];simp only[true_and]
 ·rcases h3 with h3|h3
  ·rw[h3] at hk;cases hk
  ·subst h3;rw[hk];simp
theorem a8P{ns:List Nd}{L:List Int}{i c:Int}{m:List Bool}{e:Nd}(h:bnI ns L i m)(hc:L[i.toNat]? =some c)(he:ns[c.toNat]? =some e)(h1:¬e.kind=9)(h2:¬e.kind=20):bnI ns L (i+1) m:=by
 refine Oo (Up h hc) (.inr ?_)
 rw[kindAt,List.getD,hc];simp only[Option.getD_some];rw[AZ he,fnK];simp [h1,h2]
theorem a8Q{ns:List Nd}{L:List Int}{i c:Int}{e:Nd}(hc:L[i.toNat]? =some c)(he:ns[c.toNat]? =some e):fnK (kindAt ns (L.getD i.toNat 0))=fnK e.kind:=by
 rw[kindAt,List.getD,hc];simp only[Option.getD_some];rw[AZ he]
def GN(ns:List Nd)(L:List Int)(i t:Int)(m:List Bool):Prop:=bnJ ns L i t m∧fnK (kindAt ns (L.getD i.toNat 0))=true
theorem a8R{ns:List Nd}{L:List Int}{i c:Int}{m:List Bool}{e:Nd}(h:bnI ns L i m)(hc:L[i.toNat]? =some c)(he:ns[c.toNat]? =some e)(hk:(decide (e.kind=9)||decide (e.kind=20))=true):GN ns L i 0 m:=⟨Up h hc,by rw[a8Q hc he];exact hk⟩
theorem a8S{ns:List Nd}{L:List Int}{i t:Int}{m:List Bool}(h:GN ns L i t m):(((0≤i∧i<L.length)∧L.length≤2^30)∧(0≤t∧t≤(dlk ns L i).length)∧(dlk ns L i).length≤12)∧m.length=ns.length:=ZD h.1
theorem a8T{ns:List Nd}{L:List Int}{i t d:Int}{m:List Bool}(h:GN ns L i t m)(hd:(dlk ns L i)[t.toNat]? =some d):0≤d∧d<ns.length:=Uq h.1 hd
theorem a8U{ns:List Nd}{L:List Int}{i t d:Int}{m:List Bool}(h:GN ns L i t m)(hd:(dlk ns L i)[t.toNat]? =some d):GN ns L i (t+1) (m.set d.toNat true):=⟨ZE h.1 h.2 hd,h.2⟩
theorem a8V{ns:List Nd}{L:List Int}{i t:Int}{m:List Bool}(h:GN ns L i t m)(hl:¬t<((dlk ns L i).length:Int)):bnI ns L (i+1) m:=Oo h.1 (.inl ⟨h.2,hl⟩)
theorem ZF{ns:List Nd}{L:List Int}{i:Int}{m:List Bool}(h:bnI ns L i m)(hl:¬i<(L.length:Int)):MK ns.length (fun j=>isPar ns L j=true) m:=by
 have:=h.2;rw[List.take_of_length_le (by omega)] at this;exact this
theorem ZG{ns:List Nd}{L:List Int}{i c:Int}{e:Nd}(hc:L[i.toNat]? =some c)(he:ns[c.toNat]? =some e)(h:1≤e.kids.length):e.kids.take ((e.kids.length:Int)-1).toNat=dlk ns L i:=by
 rw[a8L hc he,List.dropLast_eq_take];congr 1;omega
theorem a8W{ns:List Nd}{L:List Int}{i c:Int}{e:Nd}(hc:L[i.toNat]? =some c)(he:ns[c.toNat]? =some e):e=Ab ns (L.getD i.toNat 0):=by
 rw[List.getD,hc];simp only[Option.getD_some];rw[AZ he]
theorem ZH{ns:List Nd}{L:List Int}{i:Int}:(dlk ns L i).length=(Ab ns (L.getD i.toNat 0)).kids.length-1:=by rw[dlk,List.length_dropLast]
theorem ZI{ns:List Nd}{L:List Int}{i t d:Int}(h:(Ab ns (L.getD i.toNat 0)).kids[t.toNat]? =some d)(hl:t+1<(Ab ns (L.getD i.toNat 0)).kids.length)(h0:0≤t):(dlk ns L i)[t.toNat]? =some d:=by
 rw[dlk,List.getElem?_dropLast,if_pos (by omega)];exact h
theorem a8X{ns:List Nd}{L:List Int}{i t:Int}{m:List Bool}(h:bnJ ns L i t m):(Ab ns (L.getD i.toNat 0)).kids.length≤12:=by
 have hlt:i.toNat<L.length:=by have:=h.1.2;omega
 have hm:L.getD i.toNat 0∈L:=by rw[List.getD,List.getElem?_eq_getElem hlt];simp
 exact(CS (h.1.1.2 _ hm).2).2.1
theorem a8Y{ns:List Nd}{L:List Int}{i t:Int}{m:List Bool}(h:bnJ ns L i t m)(he:¬t+1<((Ab ns (L.getD i.toNat 0)).kids.length:Int)):bnI ns L (i+1) m:=by
 cases hk:fnK (kindAt ns (L.getD i.toNat 0)) with
 |false=>exact Oo h (.inr hk)
 |true=>exact Oo h (.inl ⟨hk,by rw[ZH];have:=h.2.1.1;omega⟩)
theorem a8Z{ns:List Nd}{L:List Int}{i t:Int}{m:List Bool}(h:bnJ ns L i t m)(h9:¬(Ab ns (L.getD i.toNat 0)).kind=9)(h20:¬(Ab ns (L.getD i.toNat 0)).kind=20):bnI ns L (i+1) m:=
 Oo h (.inr (by unfold kindAt fnK;rw[decide_eq_false h9,decide_eq_false h20];rfl))
def Mm(x:List Nd×List Int)(i:Int×List Bool):LS:= {
 ι:=Int×List Bool,inv:=fun j=>GN x.1 x.2 i.1 j.1 j.2,
 regs:=fun j=>[(0,nds x.1),(5,BX j.2),(14,An x.2),(15,.int .i64 x.2.length),(16,.int .i64 i.1),(38,An (dlk x.1 x.2 i.1)),(39,.int .i64 (dlk x.1 x.2 i.1).length),(40,.int .i64 j.1)],als:=[],meas:=fun j=>(dlk x.1 x.2 i.1).length-j.1.toNat}
def Mn(x:List Nd×List Int):LS:= {
 ι:=Int×List Bool,inv:=fun i=>bnI x.1 x.2 i.1 i.2,
 regs:=fun i=>[(0,nds x.1),(5,BX i.2),(14,An x.2),(15,.int .i64 x.2.length),(16,.int .i64 i.1)],als:=[],meas:=fun i=>x.2.length-i.1.toNat,sub:=fun i=>[(8,Mm x i)]}
def Oq(x:List Nd×List Int)(i:Int×List Bool):LS:= {
 ι:=Int×List Bool,inv:=fun j=>bnJ x.1 x.2 i.1 j.1 j.2,
 regs:=fun j=>[(0,nds x.1),(1,An x.2),(5,BX j.2),(6,.int .i64 i.1),(7,.box 0 (ndA false (Ab x.1 (x.2.getD i.1.toNat 0)))),(8,.int .i64 j.1)],als:=[],meas:=fun j=>(dlk x.1 x.2 i.1).length-j.1.toNat}
def Ot(x:List Nd×List Int):LS:= {
 ι:=Int×List Bool,inv:=fun i=>bnI x.1 x.2 i.1 i.2,
 regs:=fun i=>[(0,nds x.1),(1,An x.2),(5,BX i.2),(6,.int .i64 i.1)],als:=[],meas:=fun i=>x.2.length-i.1.toNat,sub:=fun i=>[(7,Oq x i)]}
attribute [local irreducible] bnI bnJ GN ER dlk MK undL
noncomputable def IA:Sig:= {X:=List Nd×List Int,args:=fun x=>[nds x.1,An x.2],pre:=fun x=>(Bc x.1∧x.1.length≤2^30)∧ER x.1 x.2,Y:=List Bool×Unit,post:=fun x y=>MK x.1.length (fun j=>isPar x.1 x.2 j=true) y.1,res:=fun x y=>BX y.1,outs:=fun x y=>[.top,.top],keep:=false}
theorem ZJ:Al G Tryz.prog 75 IA:=
 vcFun_okP [] [(76,⟨Bool,Bq⟩)] false (fun x=>[(3,Mn x)]) Tryz.func75 rfl (by decide) trivial (fun(x:List Nd×List Int)=>(∀(y:List Bool×Unit),MK (List.length x.1) (fun(j:Int)=>isPar x.1 x.2 j=true) y.1→(∀(x:Bool),True∧True)∧True∧True∧True)∧((0:Int)≤(↑(List.length x.1):Int)∧(↑(List.length x.1):Int)≤(↑(List.length x.1):Int)∧(↑(1:Nat):Int)*(↑(List.length x.1):Int)≤(2:Int)^(46:Nat)∧(↑(List.length x.1):Int)≤(2:Int)^(46:Nat))∧∃(x_1:Bool),false=x_1∧eA (Mn x) [nds x.1,AV.sl true (0:Nat) (1:Nat) Bool Bq (List.replicate (Int.toNat (↑(List.length x.1):Int)) x_1),An x.2,.int .i64 (↑(List.length x.2):Int),.int .i64 (0:Int)]∧∀(i:Int×List Bool),bnI x.1 x.2 i.1 i.2→Aa (decide (i.1<(↑(List.length x.2):Int))) (((0:Int)≤i.1∧i.1<(↑(List.length x.2):Int))∧∀(e:Int),x.2[Int.toNat i.1]? =some e→((0:Int)≤e∧e<(↑(List.length x.1):Int))∧∀(e_1:Nd),x.1[Int.toNat e]? =some e_1→Aa (e_1.kind==(9:Int)) (inR IntKind.i64 ((↑(List.length e_1.kids):Int)-(1:Int))∧((0:Int)≤(0:Int)∧(0:Int)≤(↑(List.length e_1.kids):Int)-(1:Int)∧(↑(List.length e_1.kids):Int)-(1:Int)≤(↑(List.length e_1.kids):Int))∧eA (Mm x i) [nds x.1,AV.sl true (0:Nat) (1:Nat) Bool Bq i.2,An x.2,.int .i64 (↑(List.length x.2):Int),.int .i64 i.1,An (List.take (Int.toNat ((↑(List.length e_1.kids):Int)-(1:Int))) e_1.kids),.int .i64 (↑(List.length (List.take (Int.toNat ((↑(List.length e_1.kids):Int)-(1:Int))) e_1.kids)):Int),.int .i64 (0:Int)]∧∀(i_1:Int×List Bool),GN x.1 x.2 i.1 i_1.1 i_1.2→Aa (decide (i_1.1<(↑(List.length (dlk x.1 x.2 i.1)):Int))) (((0:Int)≤i_1.1∧i_1.1<(↑(List.length (dlk x.1 x.2 i.1)):Int))∧∀(e:Int),(dlk x.1 x.2 i.1)[Int.toNat i_1.1]? =some e→((0:Int)≤e∧e<(↑(List.length i_1.2):Int))∧Int.toNat e<List.length i_1.2∧∀(x_2:Bool),i_1.2[Int.toNat e]? =some x_2→∃(x':Bool),((@List.nil AV)=[]∧(@List.nil AV)=[])∧true=x'∧inR IntKind.i64 (i_1.1+(1:Int))∧eN (Mm x i) i_1 [nds x.1,AV.sl true (0:Nat) (1:Nat) Bool Bq (List.set i_1.2 (Int.toNat e) x'),An x.2,.int .i64 (↑(List.length x.2):Int),.int .i64 i.1,An (dlk x.1 x.2 i.1),.int .i64 (↑(List.length (dlk x.1 x.2 i.1)):Int),.int .i64 (i_1.1+(1:Int))]) (inR IntKind.i64 (i.1+(1:Int))∧eN (Mn x) i [nds x.1,AV.sl true (0:Nat) (1:Nat) Bool Bq i_1.2,An x.2,.int .i64 (↑(List.length x.2):Int),.int .i64 (i.1+(1:Int))])) (Aa (e_1.kind==(20:Int)) (inR IntKind.i64 ((↑(List.length e_1.kids):Int)-(1:Int))∧((0:Int)≤(0:Int)∧(0:Int)≤(↑(List.length e_1.kids):Int)-(1:Int)∧(↑(List.length e_1.kids):Int)-(1:Int)≤(↑(List.length e_1.kids):Int))∧eA (Mm x i) [nds x.1,AV.sl true (0:Nat) (1:Nat) Bool Bq i.2,An x.2,.int .i64 (↑(List.length x.2):Int),.int .i64 i.1,An (List.take (Int.toNat ((↑(List.length e_1.kids):Int)-(1:Int))) e_1.kids),.int .i64 (↑(List.length (List.take (Int.toNat ((↑(List.length e_1.kids):Int)-(1:Int))) e_1.kids)):Int),.int .i64 (0:Int)]∧∀(i_1:Int×List Bool),GN x.1 x.2 i.1 i_1.1 i_1.2→Aa (decide (i_1.1<(↑(List.length (dlk x.1 x.2 i.1)):Int))) (((0:Int)≤i_1.1∧i_1.1<(↑(List.length (dlk x.1 x.2 i.1)):Int))∧∀(e:Int),(dlk x.1 x.2 i.1)[Int.toNat i_1.1]? =some e→((0:Int)≤e∧e<(↑(List.length i_1.2):Int))∧Int.toNat e<List.length i_1.2∧∀(x_2:Bool),i_1.2[Int.toNat e]? =some x_2→∃(x':Bool),((@List.nil AV)=[]∧(@List.nil AV)=[])∧true=x'∧inR IntKind.i64 (i_1.1+(1:Int))∧eN (Mm x i) i_1 [nds x.1,AV.sl true (0:Nat) (1:Nat) Bool Bq (List.set i_1.2 (Int.toNat e) x'),An x.2,.int .i64 (↑(List.length x.2):Int),.int .i64 i.1,An (dlk x.1 x.2 i.1),.int .i64 (↑(List.length (dlk x.1 x.2 i.1)):Int),.int .i64 (i_1.1+(1:Int))]) (inR IntKind.i64 (i.1+(1:Int))∧eN (Mn x) i [nds x.1,AV.sl true (0:Nat) (1:Nat) Bool Bq i_1.2,An x.2,.int .i64 (↑(List.length x.2):Int),.int .i64 (i.1+(1:Int))])) (inR IntKind.i64 (i.1+(1:Int))∧eN (Mn x) i [nds x.1,AV.sl true (0:Nat) (1:Nat) Bool Bq i.2,An x.2,.int .i64 (↑(List.length x.2):Int),.int .i64 (i.1+(1:Int))]))) (rA IA x [AV.sl true (0:Nat) (1:Nat) Bool Bq i.2,.top,.top])) (fun x=>by kernel_rfl) fun(x:List Nd×List Int) (hx:(Bc x.1∧x.1.length≤2^30)∧ER x.1 x.2)=>(by
 dsimp only[Mm,Mn,BX,eA,eN,An,Bt,nds,rA,IA,Av,AA,Bi]
 obtain⟨⟨h1,h2⟩,h3⟩:=hx
 (repeat' first|(with_reducible first|rfl|exact True.intro|apply AL|apply And.intro|((first|apply AB|apply AJ|apply AC|apply AK)<;>intro _))|(apply Az<;>intro _)|apply AI|refine Ag () ?_ ?_|((first|apply AP|apply AO|apply AN|apply AM|apply AH|apply AG|apply AF|apply AE|apply AD)<;>try dsimp only)|apply Ag|(refine Prod.forall.2 ?_;intro _;try dsimp only)|(intro _;try dsimp only))
 all_goals(try(repeat(rename(_:List Int)[_]? =some _=>hq;revert hq;rename(_:List Int)[_]? =some _=>hr;intro hq;rw[hr] at hq;cases hq)))
 all_goals(try(repeat(rename(_:List Nd)[_]? =some _=>hq;revert hq;rename(_:List Nd)[_]? =some _=>hr;intro hq;rw[hr] at hq;cases hq)))
 all_goals(try(have hB:=ZC (show bnI _ _ _ _ by assumption)))
 all_goals(try(have hJ:=a8S (show GN _ _ _ _ _ by assumption)))
 all_goals(try(have hK:=a8N (show bnI _ _ _ _ by assumption) ‹_› ‹_›))
 all_goals first
  |rfl
  |omega
  |exact()
  |exact ZB h3
  |exact(QH ‹_› ‹_›).1
  |exact(QH ‹_› ‹_›).2
  |exact ZG ‹_› ‹_› (by omega)
  |(rw[ZG ‹_› ‹_› (by omega)];done)
  |exact a8R ‹_› ‹_› ‹_› (by simp;omega)
  |exact a8U ‹_› ‹_›
  |exact a8V ‹_› ‹_›
  |exact a8P ‹_› ‹_› ‹_› ‹_› ‹_›
  |exact ZF ‹_› ‹_›
  |(have hq:=a8T (show GN _ _ _ _ _ by assumption) ‹_›;omega)
  |((try simp only[AR]);omega)
  |skip)
noncomputable def Mo:Sig:= {X:=List Nd×List Int,args:=fun x=>[nds x.1,An x.2],pre:=fun x=>(Bc x.1∧x.1.length≤2^30)∧ER x.1 x.2,Y:=List Bool×Unit,post:=fun x y=>MK x.1.length (fun j=>isPar x.1 x.2 j=true) y.1,res:=fun x y=>BX y.1,outs:=fun x y=>[.top,.top],keep:=false}
theorem a9a:Al G Tryz.prog 77 Mo:=
 vcFun_okP [] [(76,⟨Bool,Bq⟩)] false (fun x=>[(3,Ot x)]) Tryz.func77 rfl (by decide) trivial (fun(x:List Nd×List Int)=>(∀(y:List Bool×Unit),MK (List.length x.1) (fun(j:Int)=>isPar x.1 x.2 j=true) y.1→(∀(x:Bool),True∧True)∧True∧True∧True)∧((0:Int)≤(↑(List.length x.1):Int)∧(↑(List.length x.1):Int)≤(↑(List.length x.1):Int)∧(↑(1:Nat):Int)*(↑(List.length x.1):Int)≤(2:Int)^(46:Nat)∧(↑(List.length x.1):Int)≤(2:Int)^(46:Nat))∧∃(x_1:Bool),false=x_1∧eA (Ot x) [nds x.1,An x.2,AV.sl true (0:Nat) (1:Nat) Bool Bq (List.replicate (Int.toNat (↑(List.length x.1):Int)) x_1),.int .i64 (0:Int)]∧∀(i:Int×List Bool),bnI x.1 x.2 i.1 i.2→Aa (decide (i.1<(↑(List.length x.2):Int))) (((0:Int)≤i.1∧i.1<(↑(List.length x.2):Int))∧∀(e:Int),x.2[Int.toNat i.1]? =some e→((0:Int)≤e∧e<(↑(List.length x.1):Int))∧∀(e_1:Nd),x.1[Int.toNat e]? =some e_1→eA (Oq x i) [nds x.1,An x.2,AV.sl true (0:Nat) (1:Nat) Bool Bq i.2,.int .i64 i.1,.box 0 [.int .i64 e_1.kind,.str e_1.text,An e_1.kids,.bool e_1.blank],.int .i64 (0:Int)]∧∀(i_1:Int×List Bool),bnJ x.1 x.2 i.1 i_1.1 i_1.2→inR IntKind.i64 (i_1.1+(1:Int))∧Aa (decide (i_1.1+(1:Int)<(↑(List.length (Ab x.1 (List.getD x.2 (Int.toNat i.1) (0:Int))).kids):Int))) (Aa ((Ab x.1 (List.getD x.2 (Int.toNat i.1) (0:Int))).kind==(9:Int)) (((0:Int)≤i_1.1∧i_1.1<(↑(List.length (Ab x.1 (List.getD x.2 (Int.toNat i.1) (0:Int))).kids):Int))∧∀(e:Int),(Ab x.1 (List.getD x.2 (Int.toNat i.1) (0:Int))).kids[Int.toNat i_1.1]? =some e→((0:Int)≤e∧e<(↑(List.length i_1.2):Int))∧Int.toNat e<List.length i_1.2∧∀(x_2:Bool),i_1.2[Int.toNat e]? =some x_2→∃(x':Bool),((@List.nil AV)=[]∧(@List.nil AV)=[])∧true=x'∧inR IntKind.i64 (i_1.1+(1:Int))∧eN (Oq x i) i_1 [nds x.1,An x.2,AV.sl true (0:Nat) (1:Nat) Bool Bq (List.set i_1.2 (Int.toNat e) x'),.int .i64 i.1,.box 0 [.int .i64 (Ab x.1 (List.getD x.2 (Int.toNat i.1) (0:Int))).kind,.str (Ab x.1 (List.getD x.2 (Int.toNat i.1) (0:Int))).text,An (Ab x.1 (List.getD x.2 (Int.toNat i.1) (0:Int))).kids,.bool (Ab x.1 (List.getD x.2 (Int.toNat i.1) (0:Int))).blank],.int .i64 (i_1.1+(1:Int))]) (Aa ((Ab x.1 (List.getD x.2 (Int.toNat i.1) (0:Int))).kind==(20:Int)) (((0:Int)≤i_1.1∧i_1.1<(↑(List.length (Ab x.1 (List.getD x.2 (Int.toNat i.1) (0:Int))).kids):Int))∧∀(e:Int),(Ab x.1 (List.getD x.2 (Int.toNat i.1) (0:Int))).kids[Int.toNat i_1.1]? =some e→((0:Int)≤e∧e<(↑(List.length i_1.2):Int))∧Int.toNat e<List.length i_1.2∧∀(x_2:Bool),i_1.2[Int.toNat e]? =some x_2→∃(x':Bool),((@List.nil AV)=[]∧(@List.nil AV)=[])∧true=x'∧inR IntKind.i64 (i_1.1+(1:Int))∧eN (Oq x i) i_1 [nds x.1,An x.2,AV.sl true (0:Nat) (1:Nat) Bool Bq (List.set i_1.2 (Int.toNat e) x'),.int .i64 i.1,.box 0 [.int .i64 (Ab x.1 (List.getD x.2 (Int.toNat i.1) (0:Int))).kind,.str (Ab x.1 (List.getD x.2 (Int.toNat i.1) (0:Int))).text,An (Ab x.1 (List.getD x.2 (Int.toNat i.1) (0:Int))).kids,.bool (Ab x.1 (List.getD x.2 (Int.toNat i.1) (0:Int))).blank],.int .i64 (i_1.1+(1:Int))]) (inR IntKind.i64 (i.1+(1:Int))∧eN (Ot x) i [nds x.1,An x.2,AV.sl true (0:Nat) (1:Nat) Bool Bq i_1.2,.int .i64 (i.1+(1:Int))]))) (inR IntKind.i64 (i.1+(1:Int))∧eN (Ot x) i [nds x.1,An x.2,AV.sl true (0:Nat) (1:Nat) Bool Bq i_1.2,.int .i64 (i.1+(1:Int))])) (rA Mo x [AV.sl true (0:Nat) (1:Nat) Bool Bq i.2,.top,.top])) (fun x=>by kernel_rfl) fun(x:List Nd×List Int) (hx:(Bc x.1∧x.1.length≤2^30)∧ER x.1 x.2)=>(by
 dsimp only[Oq,Ot,BX,eA,eN,An,Bt,nds,rA,Mo,Av,AA,Bi]
 obtain⟨⟨h1,h2⟩,h3⟩:=hx
 (repeat' first|(with_reducible first|rfl|exact True.intro|apply AL|apply And.intro|((first|apply AB|apply AJ|apply AC|apply AK)<;>intro _))|(apply Az<;>intro _)|apply AI|refine Ag () ?_ ?_|((first|apply AP|apply AO|apply AN|apply AM|apply AH|apply AG|apply AF|apply AE|apply AD)<;>try dsimp only)|apply Ag|(refine Prod.forall.2 ?_;intro _;try dsimp only)|(intro _;try dsimp only))
 all_goals(try(repeat(rename(_:List Int)[_]? =some _=>hq;revert hq;rename(_:List Int)[_]? =some _=>hr;intro hq;rw[hr] at hq;cases hq)))
 all_goals(try(repeat(rename(_:List Nd)[_]? =some _=>hq;revert hq;rename(_:List Nd)[_]? =some _=>hr;intro hq;rw[hr] at hq;cases hq)))
 all_goals(try(have hB:=ZC (show bnI _ _ _ _ by assumption)))
 all_goals(try(have hJ:=ZD (show bnJ _ _ _ _ _ by assumption);have hJ2:=a8X (show bnJ _ _ _ _ _ by assumption)))
 all_goals first
  |rfl
  |omega
  |exact()
  |exact ZB h3
  |exact(QH ‹_› ‹_›).1
  |exact(QH ‹_› ‹_›).2
  |(rw[←a8W ‹_› ‹_›];done)
  |exact Up ‹_› ‹_›
  |exact a8Y ‹_› ‹_›
  |exact a8Z ‹_› ‹_› ‹_›
  |exact ZF ‹_› ‹_›
  |(refine ZE ‹_› ?_ (ZI ‹_› ‹_› (by omega));unfold kindAt fnK;first|(rw[decide_eq_true (show(Ab _ _).kind=9 by assumption)];rfl)|(rw[decide_eq_true (show(Ab _ _).kind=20 by assumption),Bool.or_true]))
  |(have hq:=Uq (show bnJ _ _ _ _ _ by assumption) (ZI ‹_› ‹_› (by omega));omega)
  |(rw[ZH];omega)
  |((try simp only[AR]);omega)
  |skip)
end Go.My
end
section
set_option linter.unusedVariables false
set_option linter.unusedSimpArgs false
namespace Go.My
open Go.Eng Go.Proofs
variable {G:GInv}
def ltI(x:List Nd×Int)(m:List Bool)(i:Int)(o:List (List UInt8)):Prop:=(((0≤i∧i≤(undL x.1 x.2).length)∧x.1.length≤2^30)∧MK x.1.length (fun j=>isPar x.1 (undL x.1 x.2) j=true) m)∧o=fdl (ltF x.1 (undL x.1 x.2)) [] (undL x.1 x.2) i
theorem ZK{x:List Nd×Int}{m:List Bool}(hm:MK x.1.length (fun j=>isPar x.1 (undL x.1 x.2) j=true) m)(h:x.1.length≤2^30):ltI x m 0 []:=⟨⟨⟨by omega,h⟩,hm⟩,QA.symm⟩
theorem ZL{x:List Nd×Int}{m:List Bool}{i:Int}{o:List (List UInt8)}(h:ltI x m i o):((0≤i∧i≤(undL x.1 x.2).length)∧((undL x.1 x.2).length≤2^30∧m.length=x.1.length))∧o.length≤2^30:=by
 have h1:= @Ix x.1 x.2;have h2:=h.1.1.2
 refine⟨⟨h.1.1.1,by omega,h.1.2.1⟩,?_⟩
 rw[h.2];have:=Uo (Zd x.1 (undL x.1 x.2)) (l:=undL x.1 x.2) (i:=i);omega
theorem ZM{x:List Nd×Int}{m:List Bool}{i c:Int}{o:List (List UInt8)}{b:Bool}(h:ltI x m i o)(h0:0≤c)(hb:m[c.toNat]? =some b):b=true↔isPar x.1 (undL x.1 x.2) c=true:=Uk h.1.2 h0 hb
theorem ZN{x:List Nd×Int}{m:List Bool}{i c:Int}{e:Nd}{o:List (List UInt8)}(h:ltI x m i o)(hc:(undL x.1 x.2)[i.toNat]? =some c)(he:x.1[c.toNat]? =some e)(hk:e.kind=12):ltI x m (i+1) (Cu o e.text):=by
 have hl:=(List.getElem?_eq_some_iff.1 hc).1
 obtain⟨⟨⟨h1,h2⟩,h3⟩,h4⟩:=h
 exact⟨⟨⟨by omega,h2⟩,h3⟩,by rw[HU h1.1 hc,←h4,ltF,kindAt,AZ he,if_pos (.inl hk)]⟩
theorem ZO{x:List Nd×Int}{m:List Bool}{i c:Int}{e:Nd}{b:Bool}{o:List (List UInt8)}(h:ltI x m i o)(hc:(undL x.1 x.2)[i.toNat]? =some c)(he:x.1[c.toNat]? =some e)(hb:m[c.toNat]? =some b)(ht:b=true):ltI x m (i+1) (Cu o e.text):=by
 have hp:=(ZM h (Hs (List.mem_of_getElem? hc)).1.1 hb).1 ht
 have hl:=(List.getElem?_eq_some_iff.1 hc).1
 obtain⟨⟨⟨h1,h2⟩,h3⟩,h4⟩:=h
 exact⟨⟨⟨by omega,h2⟩,h3⟩,by rw[HU h1.1 hc,←h4,ltF,kindAt,AZ he,if_pos (.inr hp)]⟩
theorem ZP{x:List Nd×Int}{m:List Bool}{i c:Int}{e:Nd}{b:Bool}{o:List (List UInt8)}(h:ltI x m i o)(hc:(undL x.1 x.2)[i.toNat]? =some c)(he:x.1[c.toNat]? =some e)(hk:¬e.kind=12)(hb:m[c.toNat]? =some b)(hf:b=false):ltI x m (i+1) o:=by
 have hp:¬isPar x.1 (undL x.1 x.2) c=true:=fun hh=>by have:=(ZM h (Hs (List.mem_of_getElem? hc)).1.1 hb).2 hh;rw[hf] at this;cases this
 have hl:=(List.getElem?_eq_some_iff.1 hc).1
 obtain⟨⟨⟨h1,h2⟩,h3⟩,h4⟩:=h
 exact⟨⟨⟨by omega,h2⟩,h3⟩,by rw[HU h1.1 hc,←h4,ltF,kindAt,AZ he,if_neg (fun hh=>hh.elim hk hp)]⟩
theorem ZQ{x:List Nd×Int}{m:List Bool}{i:Int}{o:List (List UInt8)}(h:ltI x m i o)(hl:¬i<((undL x.1 x.2).length:Int)):o=Bl x.1 x.2:=by rw[h.2,QB hl];rfl
def fiI(p:List UInt8→Bool)(l:List (List UInt8))(i:Int)(o:List (List UInt8)):Prop:=((0≤i∧i≤l.length)∧l.length≤2^30)∧o=(l.take i.toNat).filter p
theorem ZR{p:List UInt8→Bool}{l:List (List UInt8)}(h:l.length≤2^30):fiI p l 0 []:=⟨⟨by omega,h⟩,by simp⟩
theorem ZS{p:List UInt8→Bool}{l:List (List UInt8)}{i:Int}{o:List (List UInt8)}(h:fiI p l i o):((0≤i∧i≤l.length)∧l.length≤2^30)∧o.length≤2^30:=by
 refine⟨h.1,?_⟩
 rw[h.2];have:=List.length_filter_le p (l.take i.toNat);have h1:=h.1.2;rw[List.length_take] at this;omega
theorem ZT{p:List UInt8→Bool}{l:List (List UInt8)}{i:Int}{e:List UInt8}{o:List (List UInt8)}(h:fiI p l i o)(he:l[i.toNat]? =some e)(hp:p e=true):fiI p l (i+1) (o++[e]):=by
 have hl:=(List.getElem?_eq_some_iff.1 he).1
 obtain⟨⟨h1,h2⟩,h3⟩:=h
 exact⟨⟨by omega,h2⟩,by rw[show(i+1).toNat=i.toNat+1 by omega,List.take_add_one,he,h3];simp [hp]⟩
theorem ZU{p:List UInt8→Bool}{l:List (List UInt8)}{i:Int}{e:List UInt8}{o:List (List UInt8)}(h:fiI p l i o)(he:l[i.toNat]? =some e)(hp:p e=false):fiI p l (i+1) o:=by
 have hl:=(List.getElem?_eq_some_iff.1 he).1
 obtain⟨⟨h1,h2⟩,h3⟩:=h
 exact⟨⟨by omega,h2⟩,by rw[show(i+1).toNat=i.toNat+1 by omega,List.take_add_one,he,h3];simp [hp]⟩
theorem ZV{p:List UInt8→Bool}{l:List (List UInt8)}{i:Int}{o:List (List UInt8)}(h:fiI p l i o)(hl:¬i<(l.length:Int)):o=l.filter p:=by rw[h.2,List.take_of_length_le (by omega)]
noncomputable def frP (x:List Nd×Int) (s:List UInt8):Bool:= !(Bl x.1 x.2).elem s
theorem a9b{x:List Nd×Int}{s:List UInt8}(h:(Bl x.1 x.2).elem s=false):frP x s=true:=by rw[frP,h];rfl
theorem a9c{x:List Nd×Int}{s:List UInt8}(h:(Bl x.1 x.2).elem s=true):frP x s=false:=by rw[frP,h];rfl
noncomputable def unP (x:List Nd×Int) (s:List UInt8):Bool:= !(DC x.1 x.2).elem s
theorem a9d{x:List Nd×Int}{s:List UInt8}(h:(DC x.1 x.2).elem s=false):unP x s=true:=by rw[unP,h];rfl
theorem a9e{x:List Nd×Int}{s:List UInt8}(h:(DC x.1 x.2).elem s=true):unP x s=false:=by rw[unP,h];rfl
theorem a9f{x:List Nd×Int}{i:Int}{o:List (List UInt8)}(h:fiI (frP x) (BH x.1 x.2) i o)(hl:¬i<((BH x.1 x.2).length:Int)):o=CE x.1 x.2:=ZV h hl
theorem a9g{x:List Nd×Int}{i:Int}{o:List (List UInt8)}(h:fiI (unP x) (Bl x.1 x.2) i o)(hl:¬i<((Bl x.1 x.2).length:Int)):o=DD x.1 x.2:=ZV h hl
def cnI(x:List Nd×Int×List UInt8)(i n:Int):Prop:=((0≤i∧i≤(undL x.1 x.2.1).length)∧x.1.length≤2^30)∧n=fdl (cnF x.1 x.2.2) 0 (undL x.1 x.2.1) i
theorem a9h{x:List Nd×Int×List UInt8}(h:x.1.length≤2^30):cnI x 0 0:=⟨⟨by omega,h⟩,QA.symm⟩
theorem ZW(ns:List Nd)(s:List UInt8):∀(l:List Int) (n:Int),n≤l.foldl (cnF ns s) n∧l.foldl (cnF ns s) n≤n+l.length
 |[],n=>by simp
 |e::l,n=>by
  rw[List.foldl_cons]
  have:=ZW ns s l (cnF ns s n e)
  have h2:n≤cnF ns s n e∧cnF ns s n e≤n+1:=by unfold cnF;split<;>omega
  simp only[List.length_cons];omega
theorem a9i{x:List Nd×Int×List UInt8}{i n:Int}(h:cnI x i n):((0≤i∧i≤(undL x.1 x.2.1).length)∧(undL x.1 x.2.1).length≤2^30)∧0≤n∧n≤2^30:=by
 have h1:= @Ix x.1 x.2.1;have h2:=h.1.2
 refine⟨⟨h.1.1,by omega⟩,?_⟩
 have:=ZW x.1 x.2.2 ((undL x.1 x.2.1).take i.toNat) 0
 rw[h.2,fdl];rw[List.length_take] at this;omega
theorem a9j{x:List Nd×Int×List UInt8}{i n c:Int}{e:Nd}(h:cnI x i n)(hc:(undL x.1 x.2.1)[i.toNat]? =some c)(he:x.1[c.toNat]? =some e)(hp:(Cj e.kind&&e.text==x.2.2)=true):cnI x (i+1) (n+1):=by
 have hl:=(List.getElem?_eq_some_iff.1 hc).1
 obtain⟨⟨h1,h2⟩,h3⟩:=h
 exact⟨⟨by omega,h2⟩,by rw[HU h1.1 hc,←h3,cnF,kindAt,AZ he,if_pos hp]⟩
theorem a9k{x:List Nd×Int×List UInt8}{i n c:Int}{e:Nd}(h:cnI x i n)(hc:(undL x.1 x.2.1)[i.toNat]? =some c)(he:x.1[c.toNat]? =some e)(hp:(Cj e.kind&&e.text==x.2.2)=false):cnI x (i+1) n:=by
 have hl:=(List.getElem?_eq_some_iff.1 hc).1
 obtain⟨⟨h1,h2⟩,h3⟩:=h
 exact⟨⟨by omega,h2⟩,by rw[HU h1.1 hc,←h3,cnF,kindAt,AZ he,if_neg (by rw[hp];simp)]⟩
theorem a9l{x:List Nd×Int×List UInt8}{i n:Int}(h:cnI x i n)(hl:¬i<((undL x.1 x.2.1).length:Int)):n=BV x.1 x.2.1 x.2.2:=by rw[h.2,QB hl];rfl
theorem DY{ns:List Nd}{k i c:Int}(hc:(undL ns k)[i.toNat]? =some c):0≤c∧c<ns.length:=(Hs (List.mem_of_getElem? hc)).1
def usI(x:List Nd×Int)(m:List Bool)(i:Int)(o:List (List UInt8)):Prop:=(((0≤i∧i≤(undL x.1 x.2).length)∧x.1.length≤2^30)∧MK x.1.length (fun j=>isPar x.1 (undL x.1 x.2) j=true) m)∧o=fdl (usF x.1 (undL x.1 x.2)) [] (undL x.1 x.2) i
theorem a9m{x:List Nd×Int}{m:List Bool}(hm:MK x.1.length (fun j=>isPar x.1 (undL x.1 x.2) j=true) m)(h:x.1.length≤2^30):usI x m 0 []:=⟨⟨⟨by omega,h⟩,hm⟩,QA.symm⟩
theorem a9n{x:List Nd×Int}{m:List Bool}{i:Int}{o:List (List UInt8)}(h:usI x m i o):((0≤i∧i≤(undL x.1 x.2).length)∧((undL x.1 x.2).length≤2^30∧m.length=x.1.length))∧o.length≤2^30:=by
 have h1:= @Ix x.1 x.2;have h2:=h.1.1.2
 refine⟨⟨h.1.1.1,by omega,h.1.2.1⟩,?_⟩
 rw[h.2];have:=Uo (Ze x.1 (undL x.1 x.2)) (l:=undL x.1 x.2) (i:=i);omega
theorem ZX{x:List Nd×Int}{m:List Bool}{i c:Int}{e:Nd}{b:Bool}{o:List (List UInt8)}(h:usI x m i o)(hc:(undL x.1 x.2)[i.toNat]? =some c)(hb:m[c.toNat]? =some b):isPar x.1 (undL x.1 x.2) c=b:=by
 have:=Uk h.1.2 (Hs (List.mem_of_getElem? hc)).1.1 hb
 cases b
 ·rw[Bool.eq_false_iff];intro hh;have:=this.2 hh;cases this
 ·exact this.1 rfl
theorem a9o{x:List Nd×Int}{m:List Bool}{i c:Int}{e:Nd}{b:Bool}{o:List (List UInt8)}(h:usI x m i o)(hc:(undL x.1 x.2)[i.toNat]? =some c)(he:x.1[c.toNat]? =some e)(hk:e.kind=1)(hb:m[c.toNat]? =some b)(hf:b=false):usI x m (i+1) (o++[e.text]):=by
 have hp:=ZX (e:=e) h hc hb
 have hl:=(List.getElem?_eq_some_iff.1 hc).1
 obtain⟨⟨⟨h1,h2⟩,h3⟩,h4⟩:=h
 subst hf
 exact⟨⟨⟨by omega,h2⟩,h3⟩,by rw[HU h1.1 hc,←h4,usF,kindAt,AZ he,if_pos (by rw[hp,decide_eq_true hk];rfl)]⟩
theorem a9p{x:List Nd×Int}{m:List Bool}{i c:Int}{e:Nd}{o:List (List UInt8)}(h:usI x m i o)(hc:(undL x.1 x.2)[i.toNat]? =some c)(he:x.1[c.toNat]? =some e)(hk:¬e.kind=1):usI x m (i+1) o:=by
 have hl:=(List.getElem?_eq_some_iff.1 hc).1
 obtain⟨⟨⟨h1,h2⟩,h3⟩,h4⟩:=h
 exact⟨⟨⟨by omega,h2⟩,h3⟩,by rw[HU h1.1 hc,←h4,usF,kindAt,AZ he,if_neg (by rw[decide_eq_false hk];simp)]⟩
theorem a9q{x:List Nd×Int}{m:List Bool}{i c:Int}{e:Nd}{b:Bool}{o:List (List UInt8)}(h:usI x m i o)(hc:(undL x.1 x.2)[i.toNat]? =some c)(he:x.1[c.toNat]? =some e)(hb:m[c.toNat]? =some b)(ht:b=true):usI x m (i+1) o:=by
 have hp:=ZX (e:=e) h hc hb
 have hl:=(List.getElem?_eq_some_iff.1 hc).1
 obtain⟨⟨⟨h1,h2⟩,h3⟩,h4⟩:=h
 subst ht
 exact⟨⟨⟨by omega,h2⟩,h3⟩,by rw[HU h1.1 hc,←h4,usF,kindAt,AZ he,if_neg (by rw[hp];simp)]⟩
theorem a9r{x:List Nd×Int}{m:List Bool}{i:Int}{o:List (List UInt8)}(h:usI x m i o)(hl:¬i<((undL x.1 x.2).length:Int)):o=DC x.1 x.2:=by rw[h.2,QB hl];rfl
theorem Ou{ns:List Nd}{k:Int}(h:ns.length≤2^30):ER ns (undL ns k):=a8M h
theorem Ur{ns:List Nd}{k:Int}(h:ns.length≤2^30):(Bl ns k).length≤2^30:=Nat.le_trans Zf h
theorem a9s{ns:List Nd}{k:Int}(h:ns.length≤2^30):(BH ns k).length≤2^30:=Nat.le_trans Um h
theorem a9t{ns:List Nd}{k:Int}(h:ns.length≤2^30):(DC ns k).length≤2^30:=Nat.le_trans a8p h
def usP(ns:List Nd)(L:List Int)(s:List UInt8)(i:Int):Bool:=(decide (kindAt ns i=1)&& !isPar ns L i)&&(Ab ns i).text==s
def ujI(x:List Nd×Int)(m:List Bool)(i j:Int)(o:List (List UInt8))(b:Bool):Prop:=(((0≤j∧j≤(undL x.1 x.2).length)∧x.1.length≤2^30)∧MK x.1.length (fun j=>isPar x.1 (undL x.1 x.2) j=true) m)∧(fiI (unP x) (Bl x.1 x.2) i o∧i<(Bl x.1 x.2).length)∧b=((undL x.1 x.2).take j.toNat).any (usP x.1 (undL x.1 x.2) ((Bl x.1 x.2).getD i.toNat []))
attribute [local irreducible] undL BH Bl DC CE DD Cu fdl ltI fiI cnI usI ujI MK ER frP unP BV usP
noncomputable def IB:Sig:= {X:=Nd×List UInt8,args:=fun x=>[.agg (ndA false x.1),.str x.2],pre:=fun x=>True,Y:=Unit,post:=fun x y=>True,res:=fun x y=> .bool (Cj x.1.kind&&x.1.text==x.2),outs:=fun x y=>[.top,.top],keep:=false}
theorem a9u:Al G Tryz.prog 86 IB:=
 vcFun_okP [] [] false (fun x=>[]) Tryz.func86 rfl (by decide) trivial (fun(x:Nd×List UInt8)=>(∀(y:Unit),True→True∧True∧True∧True)∧Aa (x.1.kind==(1:Int)) (rA IB x [.bool (x.1.text==x.2),.top,.top]) (Aa (x.1.kind==(12:Int)) (rA IB x [.bool (x.1.text==x.2),.top,.top]) (Aa (x.1.kind==(13:Int)) (rA IB x [.bool (x.1.text==x.2),.top,.top]) (rA IB x [.bool false,.top,.top])))) (fun x=>by kernel_rfl) fun(x:Nd×List UInt8) (hx:True)=>(by
 dsimp only[Bt,rA,IB,Av,AA]
 (repeat' first|(with_reducible first|rfl|exact True.intro|apply AL|apply And.intro|((first|apply AB|apply AJ|apply AC|apply AK)<;>intro _))|(apply Az<;>intro _)|apply AI|refine Ag () ?_ ?_|((first|apply AP|apply AO|apply AN|apply AM|apply AH|apply AG|apply AF|apply AE|apply AD)<;>try dsimp only)|apply Ag|(refine Prod.forall.2 ?_;intro _;try dsimp only)|(intro _;try dsimp only))
 all_goals(try(simp [Cj, *];done)))
end Go.My
end
