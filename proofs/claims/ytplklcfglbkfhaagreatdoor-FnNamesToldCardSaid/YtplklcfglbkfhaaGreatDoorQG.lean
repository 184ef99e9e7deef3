/- A part of the proof: the engine and the contracts, joined. -/
import Derived.Test.YtplklcfglbkfhaaGreatDoorQF
section
set_option linter.unusedVariables false
set_option linter.unusedSimpArgs false
namespace Go.My
open Go.Eng Go.Proofs
variable {G:GInv}
def sdp(ns:List Nd)(i:Nat)(ds:List Int):Int:=
 if BT ns i=true∧(i=0∨ds.getD (i-1) 0≠0) then(if 14≤mx ds (Ai ns i).kids 0 then 0 else mx ds (Ai ns i).kids 0+1) else 0
def sds(ns:List Nd):Nat→List Int
 |0=>[]
 |n+1=>sds ns n++[sdp ns n (sds ns n)]
theorem Hy{ns:List Nd}:∀ {n:Nat},(sds ns n).length=n
 |0=>rfl
 |n+1=>by rw[sds,List.length_append,Hy];rfl
theorem Zj{ns:List Nd}:∀ {n:Nat},(match Dn ns n with|some ds=>sds ns n=ds|none=>0<n∧(sds ns n).getD (n-1) 0=0)
 |0=>by simp [Dn,sds]
 |n+1=>by
  have ih:= @Zj ns n
  unfold Dn
  cases hd:Dn ns n with
  |none=>
   rw[hd] at ih
   simp only
   refine⟨by omega,?_⟩
   have hz:sdp ns n (sds ns n)=0:=by
    unfold sdp;rw[if_neg];rintro⟨_,h|h⟩
    ·omega
    ·exact h ih.2
   rw[sds,hz,List.getD,List.getElem?_append_right (by rw[Hy];omega),Hy];simp
  |some ds=>
   rw[hd] at ih
   simp only at ih ⊢
   by_cases hn:BT ns n=true
   ·rw[if_pos hn]
    have hprev:n=0∨(sds ns n).getD (n-1) 0≠0:=by
     by_cases e:n=0
     ·exact .inl e
     ·right
      rw[ih,List.getD]
      have hl:=Ol hd
      have:ds[n-1]? =some ds[n-1]:=by simp
      rw[this];have:=Ue hd ds[n-1] (by simp);simp;omega
    have hs:sdp ns n (sds ns n)=if 14≤mx ds (Ai ns n).kids 0 then 0 else mx ds (Ai ns n).kids 0+1:=by
     unfold sdp;rw[if_pos ⟨hn,hprev⟩,ih]
    by_cases hm:14≤mx ds (Ai ns n).kids 0
    ·rw[if_pos hm];simp only
     refine⟨by omega,?_⟩
     rw[sds,hs,if_pos hm,List.getD,List.getElem?_append_right (by rw[Hy];omega),Hy];simp
    ·rw[if_neg hm];simp only
     rw[sds,hs,if_neg hm,ih]
   ·rw[if_neg hn];simp only
    refine⟨by omega,?_⟩
    have hz:sdp ns n (sds ns n)=0:=by unfold sdp;rw[if_neg (fun h=>hn h.1)]
    rw[sds,hz,List.getD,List.getElem?_append_right (by rw[Hy];omega),Hy];simp
theorem a7Q{ns:List Nd}{k:Int}{v:Int}(h:BK ns k=true)(hv:(sds ns (k.toNat+1))[k.toNat]? =some v):v=Ct ns k:=by
 have ih:= @Zj ns (k.toNat+1)
 unfold Ct;rw[if_pos h]
 cases hd:Dn ns (k.toNat+1) with
 |none=>rw[hd] at ih;simp only at ih ⊢;have:=ih.2;rw[List.getD] at this;simp [hv] at this;exact this
 |some ds=>rw[hd] at ih;simp only at ih ⊢;rw[←ih,List.getD,hv];rfl
theorem UD{ns:List Nd}:∀ {n:Nat},∀d∈sds ns n,0≤d∧d≤14
 |0,d,h=>by simp [sds] at h
 |n+1,d,h=>by
  rw[sds] at h
  rcases List.mem_append.1 h with h|h
  ·exact UD d h
  ·simp at h;subst h
   have:=Ud (sds ns n) (Ai ns n).kids 0
   unfold sdp;split
   ·split<;>omega
   ·omega
def okB(ns:List Nd)(i:Int):Bool:=BT ns i&&(decide (i=0)|| !decide ((sds ns i.toNat).getD (i.toNat-1) 0=0))
theorem Zk{ns:List Nd}{i:Int}(h:0≤i):sdp ns i.toNat (sds ns i.toNat)=if okB ns i then(if 14≤mx (sds ns i.toNat) (Ai ns i).kids 0 then 0 else mx (sds ns i.toNat) (Ai ns i).kids 0+1) else 0:=by
 have e:((i.toNat:Nat):Int)=i:=by omega
 unfold sdp;rw[e]
 have hb:okB ns i=true↔BT ns i=true∧(i.toNat=0∨(sds ns i.toNat).getD (i.toNat-1) 0≠0):=by
  unfold okB
  simp only[Bool.and_eq_true,Bool.or_eq_true,decide_eq_true_eq,Bool.not_eq_true',decide_eq_false_iff_not]
  constructor
  ·rintro⟨h1,h2⟩;exact⟨h1,h2.imp (fun h=>by omega) id⟩
  ·rintro⟨h1,h2⟩;exact⟨h1,h2.imp (fun h=>by omega) id⟩
 by_cases h1:okB ns i=true
 ·rw[if_pos h1,if_pos (hb.1 h1)]
 ·rw[if_neg h1,if_neg (fun h2=>h1 (hb.2 h2))]
def eI(ns:List Nd)(i j d:Int):Prop:=(okB ns i=true→j≤(Ai ns i).kids.length∧1≤d∧d≤15∧mx (sds ns i.toNat) ((Ai ns i).kids.drop j.toNat) (d-1)=mx (sds ns i.toNat) (Ai ns i).kids 0)∧0≤j∧(okB ns i=false→d=0)
theorem a7R{ns:List Nd}{i:Int}:eI ns i 0 (if okB ns i then 1 else 0):=by
 refine⟨fun h=> ?_,by omega,fun h=> ?_⟩
 ·rw[if_pos h];refine⟨by omega,by omega,by omega,by simp⟩
 ·rw[h];rfl
theorem QO{ns:List Nd}{i j d:Int}(h:eI ns i j d)(hd:d>0):okB ns i=true:=by
 cases hb:okB ns i
 ·have:=h.2.2 hb;omega
 ·rfl
theorem Zl{ns:List Nd}{i:Int}(h:okB ns i=true):BT ns i=true:=by
 simp only[okB,Bool.and_eq_true] at h;exact h.1
theorem a7S{ns:List Nd}{i j d c:Int}{y:Nd}(h:eI ns i j d)(hd:d>0)(hy:ns[i.toNat]? =some y)(hc:y.kids[j.toNat]? =some c):0≤c∧c<i:=by
 have:=(DC (Zl (QO h hd))).2.2.2.1
 rw[Bg hy] at this;exact this c (Cz hc)
theorem a7T{ns:List Nd}{i j d:Int}{y:Nd}(h:eI ns i j d)(hd:d>0)(hy:ns[i.toNat]? =some y):y.kids.length≤12:=by
 have:=(DC (Zl (QO h hd))).2.1
 rwa [Bg hy] at this
theorem a7U{ns:List Nd}{i j d c v d':Int}{y:Nd}(h:eI ns i j d)(hd:d>0)(hy:ns[i.toNat]? =some y)(hc:y.kids[j.toNat]? =some c)(hv:(sds ns i.toNat)[c.toNat]? =some v)(hd':d'-1=max (d-1) v):eI ns i (j+1) d':=by
 have hb:=QO h hd
 obtain⟨h1,h2,h3,h4⟩:=h.1 hb
 have h0:=h.2.1
 have hr:=UD v (Cz hv)
 rw[Bg hy] at h4 h1
 have:=(Fl hc).1
 refine⟨fun _=> ?_,by omega,fun hh=>by rw[hb] at hh;cases hh⟩
 rw[Bg hy]
 refine⟨by omega,by omega,by omega,?_⟩
 rw[←h4,Ia hc,Dv h0,mx,List.getD,hv,Option.getD_some,hd']
theorem a7V{ns:List Nd}{i:Int}{c:Nat}{v:Int}(hv:(sds ns i.toNat)[c]? =some v):0≤v∧v≤14:=UD v (Cz hv)
theorem a7W{ns:List Nd}{i j d:Int}{y:Nd}(hi:0≤i)(h:eI ns i j d)(hd:d>0)(hy:ns[i.toNat]? =some y)(hl:¬j<y.kids.length):sds ns i.toNat++[if d>14 then 0 else d]=sds ns (i+1).toNat:=by
 have hb:=QO h hd
 obtain⟨h1,h2,h3,h4⟩:=h.1 hb
 rw[Bg hy,List.drop_eq_nil_of_le (by omega),mx] at h4
 rw[Dv hi,sds,Zk hi,if_pos hb,Bg hy,←h4]
 congr 2
 by_cases h5:d>14
 ·rw[if_pos h5,if_pos (by omega)]
 ·rw[if_neg h5,if_neg (by omega)];omega
theorem a7X{ns:List Nd}{i j d:Int}(hi:0≤i)(h:eI ns i j d)(hd:¬d>0):sds ns i.toNat++[d]=sds ns (i+1).toNat:=by
 have hb:okB ns i=false:=by
  cases hb:okB ns i
  ·rfl
  ·have:=(h.1 hb).2.1;omega
 rw[Dv hi,sds,Zk hi,hb,h.2.2 hb];rfl
theorem a7Y{ns:List Nd}{i:Int}(h:BT ns i=false):0=if okB ns i=true then(1:Int) else 0:=by simp [okB,h]
theorem a7Z{ns:List Nd}{i v:Int}(h:i>0)(hv:(sds ns i.toNat)[(i-1).toNat]? =some v)(h0:v=0):0=if okB ns i=true then(1:Int) else 0:=by
 have e:(i-1).toNat=i.toNat-1:=by omega
 rw[e] at hv;subst h0
 have:(sds ns i.toNat).getD (i.toNat-1) 0=0:=by rw[List.getD,hv];rfl
 simp only[okB,this,decide_true,Bool.not_true,Bool.or_false]
 rw[decide_eq_false (by omega)];simp
theorem a8a{ns:List Nd}{i:Int}(h:BT ns i=true)(h0:0≤i)(h1:¬i>0):1=if okB ns i=true then(1:Int) else 0:=by
 obtain rfl:i=0:=by omega
 simp [okB,h]
theorem a8b{ns:List Nd}{i v:Int}(h:BT ns i=true)(h0:i>0)(hv:(sds ns i.toNat)[(i-1).toNat]? =some v)(h1:v≠0):1=if okB ns i=true then(1:Int) else 0:=by
 have e:(i-1).toNat=i.toNat-1:=by omega
 rw[e] at hv
 have:(sds ns i.toNat).getD (i.toNat-1) 0≠0:=by rw[List.getD,hv];exact h1
 simp only[okB,h,this,decide_false,Bool.not_false,Bool.or_true,Bool.and_true,if_true]
def Ox(x:List Nd×Int)(o:Int):LS:= {
 ι:=Int×Int,inv:=fun i=>eI x.1 o i.1 i.2,
 regs:=fun i=>[(0,nds x.1),(1,.int .i64 x.2),(5,Ab (sds x.1 o.toNat)),(6,.int .i64 o),(7,.int .i64 i.2),(8,.int .i64 i.1)],als:=[],meas:=fun i=>(Ai x.1 o).kids.length-i.1.toNat}
def Mu(x:List Nd×Int)(o:Int):LS:= {
 ι:=Unit,inv:=fun _=>True,
 regs:=fun i=>[(0,nds x.1),(1,.int .i64 x.2),(5,Ab (sds x.1 o.toNat)),(6,.int .i64 o),(7,.int .i64 (if okB x.1 o then 1 else 0))],als:=[],meas:=fun i=>0}
def lDs(x:List Nd×Int):LS:= {
 ι:=Int,inv:=fun i=>0≤i∧i≤x.2+1,
 regs:=fun i=>[(0,nds x.1),(1,.int .i64 x.2),(5,Ab (sds x.1 i.toNat)),(6,.int .i64 i)],als:=[],meas:=fun i=>(x.2+1-i).toNat,sub:=fun i=>[(9,Ox x i),(200008,Mu x i)]}
def KV:Sig:= {X:=List Nd×Int,args:=fun x=>[nds x.1,.int .i64 x.2],pre:=fun x=>Be x.1∧x.1.length≤2^30∧BK x.1 x.2=true,Y:=Unit,post:=fun x y=>True,res:=fun x y=>Ab (sds x.1 (x.2.toNat+1)),outs:=fun x y=>[.top,.top],keep:=false}
theorem a8c:Am G Tryz.prog 69 KV:=
 vcFun_okP [(15,0,EK)] [(26,⟨Int,Bj⟩)] false (fun x=>[(3,lDs x)]) Tryz.func69 rfl (by decide) ⟨a7P,trivial⟩ (fun(x:List Nd×Int)=>(∀(y:Unit),True→(∀(x:Int),True∧True)∧True∧True∧True)∧eA (lDs x) [nds x.1,.int .i64 x.2,Ab [],.int .i64 (0:Int)]∧∀(i:Int),(0:Int)≤i∧i≤x.2+(1:Int)→Aa (decide (i≤x.2)) (Aa (decide (i<(↑(List.length x.1):Int))) ((cA EK [nds x.1,.int .i64 i] fun x_1 y=>Aa (!BT x_1.1 x_1.2) (eA (Mu x i) [nds x.1,.int .i64 x.2,Ab (sds x.1 (Int.toNat i)),.int .i64 i,.int .i64 (0:Int)]) (Aa (decide (i>(0:Int))) (inR IntKind.i64 (i-(1:Int))∧((0:Int)≤i-(1:Int)∧i-(1:Int)<(↑(List.length (sds x.1 (Int.toNat i))):Int))∧Int.toNat (i-(1:Int))<List.length (sds x.1 (Int.toNat i))∧∀(x_2:Int),(sds x.1 (Int.toNat i))[Int.toNat (i-(1:Int))]? =some x_2→Aa (x_2==(0:Int)) (eA (Mu x i) [nds x.1,.int .i64 x.2,Ab (sds x.1 (Int.toNat i)),.int .i64 i,.int .i64 (0:Int)]) (eA (Mu x i) [nds x.1,.int .i64 x.2,Ab (sds x.1 (Int.toNat i)),.int .i64 i,.int .i64 (1:Int)])) (eA (Mu x i) [nds x.1,.int .i64 x.2,Ab (sds x.1 (Int.toNat i)),.int .i64 i,.int .i64 (1:Int)])))∧∀(i_1:Unit),True→eA (Ox x i) [nds x.1,.int .i64 x.2,Ab (sds x.1 (Int.toNat i)),.int .i64 i,.int .i64 (if okB x.1 i=true then(1:Int) else(0:Int)),.int .i64 (0:Int)]∧∀(i_2:Int×Int),eI x.1 i i_2.1 i_2.2→Aa (decide (i_2.2>(0:Int))) (((0:Int)≤i∧i<(↑(List.length x.1):Int))∧∀(e:Nd),x.1[Int.toNat i]? =some e→Aa (decide (i_2.1<(↑(List.length e.kids):Int))) (((0:Int)≤i∧i<(↑(List.length x.1):Int))∧∀(e:Nd),x.1[Int.toNat i]? =some e→((0:Int)≤i_2.1∧i_2.1<(↑(List.length e.kids):Int))∧∀(e_1:Int),e.kids[Int.toNat i_2.1]? =some e_1→((0:Int)≤e_1∧e_1<(↑(List.length (sds x.1 (Int.toNat i))):Int))∧Int.toNat e_1<List.length (sds x.1 (Int.toNat i))∧∀(x_1:Int),(sds x.1 (Int.toNat i))[Int.toNat e_1]? =some x_1→inR IntKind.i64 (x_1+(1:Int))∧Aa (decide (x_1+(1:Int)>i_2.2)) (((0:Int)≤i∧i<(↑(List.length x.1):Int))∧∀(e:Nd),x.1[Int.toNat i]? =some e→((0:Int)≤i_2.1∧i_2.1<(↑(List.length e.kids):Int))∧∀(e_2:Int),e.kids[Int.toNat i_2.1]? =some e_2→((0:Int)≤e_2∧e_2<(↑(List.length (sds x.1 (Int.toNat i))):Int))∧Int.toNat e_2<List.length (sds x.1 (Int.toNat i))∧∀(x_2:Int),(sds x.1 (Int.toNat i))[Int.toNat e_2]? =some x_2→inR IntKind.i64 (x_2+(1:Int))∧inR IntKind.i64 (i_2.1+(1:Int))∧eN (Ox x i) i_2 [nds x.1,.int .i64 x.2,Ab (sds x.1 (Int.toNat i)),.int .i64 i,.int .i64 (x_2+(1:Int)),.int .i64 (i_2.1+(1:Int))]) (inR IntKind.i64 (i_2.1+(1:Int))∧eN (Ox x i) i_2 [nds x.1,.int .i64 x.2,Ab (sds x.1 (Int.toNat i)),.int .i64 i,.int .i64 i_2.2,.int .i64 (i_2.1+(1:Int))])) (Aa (decide (i_2.2>(14:Int))) (∃(x_1:Int),(0:Int)=x_1∧∃(zs:List Int),Ab [x_1]=Ab zs∧BF Bj∧Ba (List.length (sds x.1 (Int.toNat i))+List.length zs) (8:Nat)∧inR IntKind.i64 (i+(1:Int))∧eN (lDs x) i [nds x.1,.int .i64 x.2,Ab (sds x.1 (Int.toNat i)++zs),.int .i64 (i+(1:Int))]) (∃(x_1:Int),i_2.2=x_1∧∃(zs:List Int),Ab [x_1]=Ab zs∧BF Bj∧Ba (List.length (sds x.1 (Int.toNat i))+List.length zs) (8:Nat)∧inR IntKind.i64 (i+(1:Int))∧eN (lDs x) i [nds x.1,.int .i64 x.2,Ab (sds x.1 (Int.toNat i)++zs),.int .i64 (i+(1:Int))]))) (Aa (decide (i_2.2>(14:Int))) (∃(x_1:Int),(0:Int)=x_1∧∃(zs:List Int),Ab [x_1]=Ab zs∧BF Bj∧Ba (List.length (sds x.1 (Int.toNat i))+List.length zs) (8:Nat)∧inR IntKind.i64 (i+(1:Int))∧eN (lDs x) i [nds x.1,.int .i64 x.2,Ab (sds x.1 (Int.toNat i)++zs),.int .i64 (i+(1:Int))]) (∃(x_1:Int),i_2.2=x_1∧∃(zs:List Int),Ab [x_1]=Ab zs∧BF Bj∧Ba (List.length (sds x.1 (Int.toNat i))+List.length zs) (8:Nat)∧inR IntKind.i64 (i+(1:Int))∧eN (lDs x) i [nds x.1,.int .i64 x.2,Ab (sds x.1 (Int.toNat i)++zs),.int .i64 (i+(1:Int))]))) (rA KV x [Ab (sds x.1 (Int.toNat i)),.top,.top])) (rA KV x [Ab (sds x.1 (Int.toNat i)),.top,.top])) (fun x=>by kernel_rfl) fun(x:List Nd×Int) (hx:Be x.1∧x.1.length≤2^30∧BK x.1 x.2=true)=>(by
 dsimp only[cA,eA,eN,lDs,Ox,Mu,Bn,nds,Ab,rA,KV,EK,Au,Ax,mvL,lnL,mvE,lnE,Bm]
 obtain⟨h1,h2,h3⟩:=hx;have hl:=h1.1;have hn:=Cu.1 h3
 (repeat' first|(with_reducible first|rfl|exact True.intro|apply AJ|apply And.intro|((first|apply Az|apply AH|apply AA|apply AI)<;>intro _))|(apply Av<;>intro _)|apply AG|refine Af () ?_ ?_|((first|apply AO|apply AN|apply AM|apply AL|apply AF|apply AE|apply AD|apply AC|apply AB)<;>try dsimp only)|apply Af|(refine Prod.forall.2 ?_;intro _;try dsimp only)|(intro _;try dsimp only))
 all_goals first
  |rfl
  |omega
  |exact a7Y ‹_›
  |exact a7Z ‹_› ‹_› ‹_›
  |exact a8a ‹_› (by omega) ‹_›
  |exact a8b ‹_› ‹_› ‹_› ‹_›
  |exact a7R
  |(rw[Hy];omega)
  |skip
 all_goals try(repeat(rename x.1[Int.toNat _]? =some _=>hq;revert hq;rename x.1[Int.toNat _]? =some _=>hr;intro hq;rw[hr] at hq;cases hq))
 all_goals try(repeat(rename(Nd.kids _)[Int.toNat _]? =some _=>hq;revert hq;rename(Nd.kids _)[Int.toNat _]? =some _=>hr;intro hq;rw[hr] at hq;cases hq))
 all_goals try(rename(sds x.1 _)[Int.toNat _]? =some _=>hq;revert hq;rename(sds x.1 _)[Int.toNat _]? =some _=>hr2;intro hq;have hqq:=hr2.symm.trans hq;simp only[Option.some.injEq] at hqq;subst hqq)
 all_goals try(have hke:=a7S ‹_› ‹_› ‹_› ‹_›)
 all_goals try(have hle:=a7T ‹_› ‹_› ‹_›)
 all_goals try(have hve:=a7V ‹_›)
 all_goals try(have hse:=(show eI _ _ _ _ by assumption).2.1)
 all_goals first
  |omega
  |(rw[Hy];omega)
  |((try simp only[AR]);omega)
  |exact a7U ‹_› ‹_› ‹_› ‹_› ‹_› (by omega)
  |(rw[←a7W (by omega) ‹_› ‹_› ‹_› ‹_›];simp [*];done)
  |exact a7X (by omega) ‹_› ‹_›
  |(rw[Bg ‹_›];omega)
  |(congr 1;omega)
  |(simp only[Ba,Hy,List.length_cons,List.length_nil];omega)
  |skip)
def Ik:Sig:= {X:=List Nd×Int,args:=fun x=>[nds x.1,.int .i64 x.2],pre:=fun x=>Be x.1∧x.1.length≤2^30,Y:=Unit,post:=fun x y=>True,res:=fun x y=> .int .i64 (Ct x.1 x.2),outs:=fun x y=>[.top,.top],keep:=false}
theorem Zm:Am G Tryz.prog 16 Ik:=
 vcFun_okP [(64,0,CH),(69,0,KV)] [] false (fun x=>[]) Tryz.func16 rfl (by decide) ⟨Kw,a8c,trivial⟩ (fun(x:List Nd×Int)=>(∀(y:Unit),True→True∧True∧True∧True)∧inR IntKind.i64 ((↑(List.length x.1):Int)-(1:Int))∧cA CH [.int .i64 x.2,.int .i64 (0:Int),.int .i64 ((↑(List.length x.1):Int)-(1:Int))] fun x_1 y=>Aa (!inn x_1.1 x_1.2.1 x_1.2.2) (rA Ik x [.int .i64 (0:Int),.top,.top]) (cA KV [nds x.1,.int .i64 x.2] fun x_2 y=>((0:Int)≤x.2∧x.2<(↑(List.length (sds x_2.1 (Int.toNat x_2.2+(1:Nat)))):Int))∧Int.toNat x.2<List.length (sds x_2.1 (Int.toNat x_2.2+(1:Nat)))∧∀(x_3:Int),(sds x_2.1 (Int.toNat x_2.2+(1:Nat)))[Int.toNat x.2]? =some x_3→rA Ik x [.int .i64 x_3,.top,.top])) (fun x=>by kernel_rfl) fun(x:List Nd×Int) (hx:Be x.1∧x.1.length≤2^30)=>(by
 dsimp only[cA,Bn,nds,Ab,rA,CH,KV,Ik,Au,Ax,mvL,lnL,mvE,lnE]
 obtain⟨h1,h2⟩:=hx;have hl:=h1.1
 (repeat' first|(with_reducible first|rfl|exact True.intro|apply AJ|apply And.intro|((first|apply Az|apply AH|apply AA|apply AI)<;>intro _))|(apply Av<;>intro _)|apply AG|refine Af () ?_ ?_|((first|apply AO|apply AN|apply AM|apply AL|apply AF|apply AE|apply AD|apply AC|apply AB)<;>try dsimp only)|apply Af|(refine Prod.forall.2 ?_;intro _;try dsimp only)|(intro _;try dsimp only))
 all_goals first
  |exact h1
  |exact h2
  |((try simp only[AR]);omega)
  |(rw[IP] at*;exact YJ ‹_›)
  |(have hh:=(show inn x.2 0 (x.1.length-1)=true by assumption);rw[IP] at hh;have:=Cu.1 hh;first|exact hh|omega|exact a7Q hh ‹_› |(rw[Hy];omega))
  |skip)
theorem Zn{ns:List Nd}{i v:Int}(hv:(cnt ns.length (BW ns))[i.toNat]? =some v)(h0:0≤i):((BW ns).count i:Int)=v:=by
 have h:i.toNat<ns.length:=by have:=(Fl hv).1;rwa [Gi] at this
 rw[KT h] at hv
 have e2:((i.toNat:Nat):Int)=i:=by omega
 rw[e2] at hv;exact Option.some.inj hv
theorem a8d{ns:List Nd}{i v:Int}(h:tE ns i)(hl:i+1<(ns.length:Int))(hv:(cnt ns.length (BW ns))[i.toNat]? =some v)(h1:v=1):tE ns (i+1):=by
 have:=Zn hv h.1
 refine⟨by have:=h.1;omega,by omega,fun c hc=> ?_⟩
 by_cases e:(c:Int)<i
 ·exact h.2.2 c e
 ·have:=h.1
  obtain rfl:i=(c:Int):=by omega
  omega
theorem UE{ns:List Nd}{i j c:Int}{y:Nd}(h:tI ns)(hy:ns[i.toNat]? =some y)(hc:y.kids[j.toNat]? =some c):0≤c∧c<ns.length:=(Ot h hy).2 c (Cz hc)
theorem a8e{ns:List Nd}{i:Int}{y:Nd}(h:tI ns)(hy:ns[i.toNat]? =some y):y.kids.length≤12:=(Ot h hy).1
theorem a8f{ns:List Nd}{i j c:Int}{y:Nd}(h0:0≤j)(hy:ns[i.toNat]? =some y)(hc:y.kids[j.toNat]? =some c):tk ns i (j+1)=tk ns i j++[c]:=YO h0 (by rw[Bg hy];exact hc)
theorem a8g{ns:List Nd}{i j:Int}{y:Nd}(h0:0≤i)(hy:ns[i.toNat]? =some y)(hl:¬j<y.kids.length):tk ns i j=BW (ns.take (i+1).toNat):=YP h0 hy (by rw[Bg hy];exact hl)
def QP(x:List Nd)(o:Int):LS:= {
 ι:=Int,inv:=fun j=>0≤j∧j≤(Ai x o).kids.length,
 regs:=fun j=>[(0,nds x),(3,.int .i64 x.length),(4,Ab (cnt x.length (tk x o j))),(5,.int .i64 o),(6,.int .i64 j)],als:=[],meas:=fun j=>(Ai x o).kids.length-j.toNat}
def QQ(x:List Nd):LS:= {
 ι:=Int,inv:=fun i=>0≤i∧i≤x.length,
 regs:=fun i=>[(0,nds x),(3,.int .i64 x.length),(4,Ab (cnt x.length (BW (x.take i.toNat)))),(5,.int .i64 i)],als:=[],meas:=fun i=>x.length-i.toNat,
 sub:=fun i=>[(9,QP x i)]}
def QR(x:List Nd):LS:= {
 ι:=Int,inv:=tE x,
 regs:=fun i=>[(3,.int .i64 x.length),(4,Ab (cnt x.length (BW x))),(7,.int .i64 i)],als:=[],meas:=fun i=>x.length-i.toNat}
def FK:Sig:= {X:=List Nd,args:=fun x=>[nds x],pre:=fun x=>Be x∧x.length≤2^30,Y:=Unit,post:=fun x y=>True,res:=fun x y=> .bool (BC x),outs:=fun x y=>[.top],keep:=false}
theorem Zo:Am G Tryz.prog 17 FK:=
 vcFun_okP [(64,0,CH),(16,0,Ik)] [(26,⟨Int,Bj⟩)] false (fun x=>[(6,QQ x),(13,QR x)]) Tryz.func17 rfl (by decide) ⟨Kw,Zm,trivial⟩ (fun(x:List Nd)=>(∀(y:Unit),True→True∧True∧True)∧cA CH [.int .i64 (↑(List.length x):Int),.int .i64 (1:Int),.int .i64 (300:Int)] fun x_1 y=>Aa (!inn x_1.1 x_1.2.1 x_1.2.2) (rA FK x [.bool false,.top]) (inR IntKind.i64 ((↑(List.length x):Int)-(1:Int))∧((0:Int)≤(↑(List.length x):Int)-(1:Int)∧(↑(List.length x):Int)-(1:Int)<(↑(List.length x):Int))∧∀(e:Nd),x[Int.toNat ((↑(List.length x):Int)-(1:Int))]? =some e→Aa (e.kind != (22:Int)) (rA FK x [.bool false,.top]) (inR IntKind.i64 ((↑(List.length x):Int)-(1:Int))∧cA Ik [nds x,.int .i64 ((↑(List.length x):Int)-(1:Int))] fun x_2 y=>Aa (Ct x_2.1 x_2.2==(0:Int)) (rA FK x [.bool false,.top]) (((0:Int)≤(↑(List.length x):Int)∧(↑(List.length x):Int)≤(↑(List.length x):Int)∧(↑(8:Nat):Int)*(↑(List.length x):Int)≤(2:Int)^(46:Nat)∧(↑(List.length x):Int)≤(2:Int)^(46:Nat))∧∃(x_3:Int),(0:Int)=x_3∧eA (QQ x) [nds x,.int .i64 (↑(List.length x):Int),Ab (List.replicate (Int.toNat (↑(List.length x):Int)) x_3),.int .i64 (0:Int)]∧∀(i:Int),(0:Int)≤i∧i≤(↑(List.length x):Int)→Aa (decide (i<(↑(List.length x):Int))) (eA (QP x i) [nds x,.int .i64 (↑(List.length x):Int),Ab (cnt (List.length x) (BW (List.take (Int.toNat i) x))),.int .i64 i,.int .i64 (0:Int)]∧∀(i_1:Int),(0:Int)≤i_1∧i_1≤(↑(List.length (Ai x i).kids):Int)→((0:Int)≤i∧i<(↑(List.length x):Int))∧∀(e:Nd),x[Int.toNat i]? =some e→Aa (decide (i_1<(↑(List.length e.kids):Int))) (((0:Int)≤i∧i<(↑(List.length x):Int))∧∀(e:Nd),x[Int.toNat i]? =some e→((0:Int)≤i_1∧i_1<(↑(List.length e.kids):Int))∧∀(e_1:Int),e.kids[Int.toNat i_1]? =some e_1→((0:Int)≤e_1∧e_1<(↑(List.length (cnt (List.length x) (tk x i i_1))):Int))∧Int.toNat e_1<List.length (cnt (List.length x) (tk x i i_1))∧∀(x_4:Int),(cnt (List.length x) (tk x i i_1))[Int.toNat e_1]? =some x_4→inR IntKind.i64 (x_4+(1:Int))∧((0:Int)≤e_1∧e_1<(↑(List.length (cnt (List.length x) (tk x i i_1))):Int))∧Int.toNat e_1<List.length (cnt (List.length x) (tk x i i_1))∧∀(x_5:Int),(cnt (List.length x) (tk x i i_1))[Int.toNat e_1]? =some x_5→∃(x':Int),((@List.nil AV)=[]∧(@List.nil AV)=[])∧x_4+(1:Int)=x'∧inR IntKind.i64 (i_1+(1:Int))∧eN (QP x i) i_1 [nds x,.int .i64 (↑(List.length x):Int),Ab (List.set (cnt (List.length x) (tk x i i_1)) (Int.toNat e_1) x'),.int .i64 i,.int .i64 (i_1+(1:Int))]) (inR IntKind.i64 (i+(1:Int))∧eN (QQ x) i [nds x,.int .i64 (↑(List.length x):Int),Ab (cnt (List.length x) (tk x i i_1)),.int .i64 (i+(1:Int))])) (eA (QR x) [.int .i64 (↑(List.length x):Int),Ab (cnt (List.length x) (BW (List.take (Int.toNat i) x))),.int .i64 (0:Int)]∧∀(i:Int),tE x i→inR IntKind.i64 (i+(1:Int))∧Aa (decide (i+(1:Int)<(↑(List.length x):Int))) (((0:Int)≤i∧i<(↑(List.length (cnt (List.length x) (BW x))):Int))∧Int.toNat i<List.length (cnt (List.length x) (BW x))∧∀(x_4:Int),(cnt (List.length x) (BW x))[Int.toNat i]? =some x_4→Aa (x_4 != (1:Int)) (rA FK x [.bool false,.top]) (inR IntKind.i64 (i+(1:Int))∧eN (QR x) i [.int .i64 (↑(List.length x):Int),Ab (cnt (List.length x) (BW x)),.int .i64 (i+(1:Int))])) (rA FK x [.bool true,.top])))))) (fun x=>by kernel_rfl) fun(x:List Nd) (hx:Be x∧x.length≤2^30)=>(by
 dsimp only[cA,eA,eN,QQ,QP,QR,Bn,nds,Ab,rA,CH,Ik,FK,Au,Ax,mvL,lnL,mvE,lnE,Bm]
 obtain⟨h1,h2⟩:=hx;have hl:=h1.1
 (repeat' first|(with_reducible first|rfl|exact True.intro|apply AJ|apply And.intro|((first|apply Az|apply AH|apply AA|apply AI)<;>intro _))|(apply Av<;>intro _)|apply AG|refine Af () ?_ ?_|((first|apply AO|apply AN|apply AM|apply AL|apply AF|apply AE|apply AD|apply AC|apply AB)<;>try dsimp only)|apply Af|(refine Prod.forall.2 ?_;intro _;try dsimp only)|(intro _;try dsimp only))
 all_goals try(have t1:=Ms.1 (show inn x.length 1 300=true by assumption))
 all_goals try(have t0:=YV ‹_› ‹_› ‹_› ‹_›)
 all_goals try(repeat(rename x[Int.toNat _]? =some _=>hq;revert hq;rename x[Int.toNat _]? =some _=>hr;intro hq;rw[hr] at hq;cases hq))
 all_goals try(repeat(rename(Nd.kids _)[Int.toNat _]? =some _=>hq;revert hq;rename(Nd.kids _)[Int.toNat _]? =some _=>hr;intro hq;rw[hr] at hq;cases hq))
 all_goals try(simp only[Bg (show x[Int.toNat _]? =some _ by assumption)] at*)
 all_goals first
  |rfl
  |exact Mr (YW ‹_›)
  |exact Mr (YX ‹_› ‹_›)
  |exact Mr (fun h=>h.2.2.2 ‹_›)
  |exact YL
  |(rw[YN];done)
  |(have:=UE ‹_› ‹_› (show(Nd.kids _)[Int.toNat _]? =some _ by assumption);(try rw[Gi]);omega)
  |(rw[a8f (by omega) ‹_› ‹_›];exact YM (UE ‹_› ‹_› ‹_›).1 (UE ‹_› ‹_› ‹_›).2 ‹_›)
  |(rw[a8g (by omega) ‹_› ‹_›];done)
  |(rw[YY ‹_›];done)
  |(have:=YU ‹_› ‹_› ‹_›;omega)
  |exact YR ‹_› ‹_› (by omega)
  |exact YS (Zn ‹_› (‹tE _ _›.1)) (‹tE _ _›.1) (by omega) ‹_›
  |exact a8d ‹_› ‹_› ‹_› ‹_›
  |exact⟨by omega,by omega,fun c hc=>by omega⟩
  |((try simp only[AR,Ba,List.length_replicate,Gi] at*);omega)
  |(have:=a8e ‹_› ‹_›;(try simp only[AR] at*);omega)
  |(have hte:=(show tE x _ by assumption);have:=hte.1;have:=hte.2.1;(try rw[Gi]);(try simp only[AR] at*);omega)
  |skip)
end Go.My
end
section
set_option linter.unusedVariables false
set_option linter.unusedSimpArgs false
namespace Go.My
open Go.Eng
def Dw(ns:List Nd)(k:Int):Prop:=BK ns k=true∧∀i:Nat,(i:Int)≤k→BT ns i=true
theorem Oy{ns:List Nd}{k:Int}(h:Ct ns k≠0):Dw ns k:=⟨(Uf h).1,(Uf h).2.2⟩
theorem a8h{ns:List Nd}{k:Int}(h:Dw ns k):BT ns k=true:=by
 have:=Cu.1 h.1
 have h2:=h.2 k.toNat (by omega)
 rwa [show((k.toNat:Nat):Int)=k by omega] at h2
end Go.My
end
section
set_option linter.unusedVariables false
set_option linter.unusedSimpArgs false
namespace Go.My
open Go.Eng
def Oz(ns:List Nd):Prop:=(∀i:Nat,i<ns.length→BT ns i=true)∧∀i:Nat,i<ns.length-1→(BW ns).count (i:Int)=1
theorem Gj{ns:List Nd}(h:BC ns=true):Oz ns∧1≤ns.length∧ns.length≤300∧Dw ns ((ns.length:Int)-1):=by
 simp only[BC,Bool.and_eq_true,decide_eq_true_eq,Bool.not_eq_true',decide_eq_false_iff_not,List.all_eq_true,List.mem_range] at h
 have hu:=Oy h.2.2.1
 refine⟨⟨fun i hi=>hu.2 i (by omega),fun i hi=> ?_⟩,h.1.1,h.1.2,hu⟩
 exact h.2.2.2 i hi
end Go.My
end
section
set_option linter.unusedVariables false
set_option linter.unusedSimpArgs false
namespace Go.My
open Go.Eng
def mOn(m:List Bool)(j:Int):Prop:=0≤j∧m[j.toNat]? =some true
def MK(n:Nat)(P:Int→Prop)(m:List Bool):Prop:=m.length=n∧∀j,mOn m j↔P j
theorem GR{n:Nat}{P Q:Int→Prop}{m:List Bool}(h:MK n P m)(hq:∀j,P j↔Q j):MK n Q m:=⟨h.1,fun j=>(h.2 j).trans (hq j)⟩
theorem OA{n:Nat}{P:Int→Prop}(h:∀j,¬P j):MK n P (List.replicate n false):=by
 refine⟨by simp,fun j=>⟨fun hj=> ?_,fun hp=>(h j hp).elim⟩⟩
 have:=hj.2
 rw[List.getElem?_replicate] at this
 split at this<;>cases this
theorem KW{m:List Bool}{c j:Int}{b:Bool}(hc:0≤c∧c<m.length):mOn (m.set c.toNat b) j↔(j=c∧b=true)∨(j≠c∧mOn m j):=by
 unfold mOn
 by_cases e:j=c
 ·subst e
  rw[List.getElem?_set_self (by omega)]
  simp [hc.1]
 ·constructor
  ·rintro⟨h0,h1⟩
   rw[List.getElem?_set_ne (by omega)] at h1
   exact .inr ⟨e,h0,h1⟩
  ·rintro(⟨h,_⟩|⟨_,h0,h1⟩)
   ·exact(e h).elim
   ·exact⟨h0,by rw[List.getElem?_set_ne (by omega)];exact h1⟩
theorem UF{n:Nat}{P:Int→Prop}{m:List Bool}{c:Int}(h:MK n P m)(hc:0≤c∧c<n):MK n (fun j=>P j∨j=c) (m.set c.toNat true):=by
 refine⟨by rw[List.length_set];exact h.1,fun j=> ?_⟩
 rw[KW (by have:=h.1;omega),h.2]
 by_cases e:j=c<;>simp [e]
theorem OB{n:Nat}{P:Int→Prop}{m:List Bool}{j:Int}{b:Bool}(h:MK n P m)(h0:0≤j)(hb:m[j.toNat]? =some b):b=true↔P j:=by
 rw[←h.2];unfold mOn;rw[hb];simp [h0]
def EL:List Bool→Int→List Int
 |[],_=>[]
 |b::m,i=>(if b then [i] else [])++EL m (i+1)
def DS(m:List Bool):List Int:=EL m 0
theorem Zp:∀(m m':List Bool) (i:Int),EL (m++m') i=EL m i++EL m' (i+m.length)
 |[],m',i=>by simp [EL]
 |b::m,m',i=>by
  simp only[List.cons_append,EL,Zp m m',List.append_assoc,List.length_cons]
  congr 3;omega
theorem QS{m:List Bool}{i:Int}{b:Bool}(h0:0≤i)(hb:m[i.toNat]? =some b):DS (m.take (i+1).toNat)=DS (m.take i.toNat)++(if b then [i] else []):=by
 have hl:=(List.getElem?_eq_some_iff.1 hb).1
 rw[show(i+1).toNat=i.toNat+1 by omega,List.take_add_one,hb,DS,Zp,DS]
 simp only[Option.toList,EL,List.append_nil,List.length_take]
 rw[show(0:Int)+((min i.toNat m.length:Nat):Int)=i by omega]
theorem UG:∀(m:List Bool) (i j:Int),j∈EL m i↔i≤j∧m[(j-i).toNat]? =some true
 |[],i,j=>by simp [EL]
 |b::m,i,j=>by
  rw[EL,List.mem_append,UG m]
  by_cases e:j=i
  ·subst e
   simp only[Int.sub_self,Int.toNat_zero,List.getElem?_cons_zero,Option.some.injEq]
   cases b<;>simp<;>omega
  ·have e1:j∉(if b then [i] else []):=by cases b<;>simp [e]
   simp only[e1,false_or]
   constructor
   ·rintro⟨h1,h2⟩
    refine⟨by omega,?_⟩
    rw[show(j-i).toNat=(j-(i+1)).toNat+1 by omega];exact h2
   ·rintro⟨h1,h2⟩
    refine⟨by omega,?_⟩
    rw[show(j-i).toNat=(j-(i+1)).toNat+1 by omega] at h2;exact h2
theorem OC{m:List Bool}{j:Int}:j∈DS m↔mOn m j:=by
 rw[DS,UG];simp [mOn]
theorem OD:∀(m:List Bool) (i:Int),(EL m i).Pairwise (· < ·)
 |[],_=>List.Pairwise.nil
 |b::m,i=>by
  rw[EL]
  have h:=OD m (i+1)
  cases b
  ·simpa using h
  ·simp only[if_true,List.singleton_append,List.pairwise_cons]
   exact⟨fun j hj=>by have:=((UG m (i+1) j).1 hj).1;omega,h⟩
theorem QT(m:List Bool):(DS m).length≤m.length:=by
 have:∀(m:List Bool) (i:Int),(EL m i).length≤m.length:=by
  intro m
  induction m with
  |nil=>intro i;simp [EL]
  |cons b m ih=>intro i;rw[EL,List.length_append];have:=ih (i+1);cases b<;>simp<;>omega
 exact this m 0
theorem Zq:∀ {a b:List Int},a.Pairwise (· < ·)→b.Pairwise (· < ·)→(∀j,j∈a↔j∈b)→a=b:=by
 intro a
 induction a with
 |nil=>intro b _ _ h;cases b with
  |nil=>rfl
  |cons x b=>exact absurd ((h x).2 (by simp)) (by simp)
 |cons x a ih=>
  intro b ha hb h
  cases b with
  |nil=>exact absurd ((h x).1 (by simp)) (by simp)
  |cons y b=>
   rw[List.pairwise_cons] at ha hb
   have hxy:x=y:=by
    have h1:=(h x).1 (by simp);have h2:=(h y).2 (by simp)
    rcases List.mem_cons.1 h1 with h1|h1
    ·exact h1
    ·rcases List.mem_cons.1 h2 with h2|h2
     ·exact h2.symm
     ·have:=ha.1 y h2;have:=hb.1 x h1;omega
   subst hxy
   rw[ih ha.2 hb.2 fun j=> ?_]
   have hj:=h j
   simp only[List.mem_cons] at hj
   constructor
   ·intro hja;have:=ha.1 j hja
    rcases hj.1 (.inr hja) with rfl|h
    ·omega
    ·exact h
   ·intro hjb;have:=hb.1 j hjb
    rcases hj.2 (.inr hjb) with rfl|h
    ·omega
    ·exact h
theorem Zs{n n':Nat}{P:Int→Prop}{m m':List Bool}(h:MK n P m)(h':MK n' P m'):DS m=DS m':=
 Zq (OD m 0) (OD m' 0) fun j=>by
  show j∈DS m↔j∈DS m'
  rw[OC,OC,h.2,h'.2]
inductive Und (ns:List Nd) (k:Int):Int→Prop
 |base:Und ns k k
 |step {p c:Int}:Und ns k p→c∈(Ai ns p).kids→Und ns k c
theorem IQ{ns:List Nd}{k i:Int}(h:Dw ns k)(hu:Und ns k i):0≤i∧i≤k:=by
 induction hu with
 |base=>have:=Cu.1 h.1;omega
 |step hp hc ih=>
  rename_i p c
  have hn:=h.2 p.toNat (by omega)
  rw[show((p.toNat:Nat):Int)=p by omega] at hn
  have:=(DC hn).2.2.2.1 c hc
  omega
theorem OE{ns:List Nd}{k i:Int}(h:Dw ns k)(hu:Und ns k i):BT ns i=true:=by
 have hb:=IQ h hu
 have hn:=h.2 i.toNat (by omega)
 rwa [show((i.toNat:Nat):Int)=i by omega] at hn
theorem Zt{ns:List Nd}{k i:Int}(h:Dw ns k)(hu:Und ns k i):Dw ns i:=by
 have hb:=IQ h hu;have hk:=Cu.1 h.1
 exact⟨Cu.2 (by omega),fun j hj=>h.2 j (by omega)⟩
theorem Zu{ns:List Nd}{k i:Int}(hu:Und ns k i):i=k∨∃p,Und ns k p∧i∈(Ai ns p).kids:=by
 cases hu with
 |base=>exact .inl rfl
 |step hp hc=>exact .inr ⟨_,hp,hc⟩
theorem a8i{ns:List Nd}{k c i:Int}(h:Und ns k c)(hu:Und ns c i):Und ns k i:=by
 induction hu with
 |base=>exact h
 |step _ hc ih=>exact .step ih hc
open Classical in
noncomputable def KX (n:Nat) (P:Int→Prop):List Bool:=(List.range n).map fun(j:Nat)=>decide (P (j:Int))
open Classical in
theorem OF{n:Nat}{P:Int→Prop}(h:∀j,P j→0≤j∧j<n):MK n P (KX n P):=by
 refine⟨by simp [KX],fun j=> ?_⟩
 unfold mOn KX
 rw[List.getElem?_map]
 constructor
 ·rintro⟨h0,h1⟩
  rw[Option.map_eq_some_iff] at h1
  obtain⟨a,h2,h3⟩:=h1
  have h4:=(List.getElem?_eq_some_iff.1 h2)
  obtain⟨h5,h6⟩:=h4
  rw[List.getElem_range] at h6
  subst h6
  rw[decide_eq_true_eq,show((j.toNat:Nat):Int)=j by omega] at h3
  exact h3
 ·intro hp
  have hb:=h j hp
  refine⟨hb.1,?_⟩
  rw[List.getElem?_range (by omega),Option.map_some,show((j.toNat:Nat):Int)=j by omega]
  simp [hp]
noncomputable def Ah (ns:List Nd) (k:Int):List Int:=if Ct ns k=0 then [] else DS (KX ns.length (Und ns k))
theorem a8j{ns:List Nd}{k:Int}{n:Nat}{m:List Bool}(hd:Ct ns k≠0)(h:MK n (Und ns k) m):DS m=Ah ns k:=by
 rw[Ah,if_neg hd]
 have hu:=Oy hd
 exact Zs h (OF fun j hj=>by have:=IQ hu hj;have:=Cu.1 hu.1;omega)
theorem a8k{ns:List Nd}{k j:Int}:j∈Ah ns k↔Ct ns k≠0∧Und ns k j:=by
 by_cases hd:Ct ns k=0
 ·rw[Ah,if_pos hd];simp [hd]
 ·have hu:=Oy hd
  rw[Ah,if_neg hd,OC,(OF (P:=Und ns k) (n:=ns.length) fun j hj=>by have:=IQ hu hj;have:=Cu.1 hu.1;omega).2]
  simp [hd]
theorem Hz{ns:List Nd}{k:Int}:(Ah ns k).length≤ns.length:=by
 unfold Ah;split
 ·simp
 ·exact Nat.le_trans (QT _) (by simp [KX])
theorem JL{ns:List Nd}{k j:Int}(h:j∈Ah ns k):(0≤j∧j<ns.length)∧BT ns j=true:=by
 obtain⟨h1,h2⟩:=a8k.1 h
 have hu:=Oy h1
 have:=IQ hu h2;have:=Cu.1 hu.1
 exact⟨by omega,OE hu h2⟩
def umO(ns:List Nd)(k i:Int)(m:List Bool):Prop:=(Dw ns k∧ -1≤i∧i≤k)∧MK (k+1).toNat (fun j=>j=k∨∃p,i<p∧Und ns k p∧j∈(Ai ns p).kids) m
def umI(ns:List Nd)(k i t:Int)(m:List Bool):Prop:=((Dw ns k∧0≤i∧i≤k)∧0≤t∧t≤(Ai ns i).kids.length)∧Und ns k i∧MK (k+1).toNat (fun j=>(j=k∨∃p,i<p∧Und ns k p∧j∈(Ai ns p).kids)∨j∈(Ai ns i).kids.take t.toNat) m
theorem a8l{ns:List Nd}{k:Int}(h:Dw ns k):umO ns k k ((List.replicate (k+1).toNat false).set k.toNat true):=by
 have hk:=Cu.1 h.1
 refine⟨⟨h,by omega,by omega⟩,GR (UF (OA (P:=fun _=>False) fun _ h=>h) (by omega)) fun j=> ?_⟩
 simp only[false_or]
 constructor
 ·exact .inl
 ·rintro(h1|⟨p,h1,h2,_⟩)
  ·exact h1
  ·have:=IQ h h2;omega
theorem Zv{ns:List Nd}{k i:Int}{m:List Bool}{b:Bool}(h:umO ns k i m)(h0:0≤i)(hb:m[i.toNat]? =some b):b=true↔Und ns k i:=by
 rw[OB h.2 h0 hb]
 constructor
 ·rintro(rfl|⟨p,h1,h2,h3⟩)
  ·exact .base
  ·exact .step h2 h3
 ·intro hu
  rcases Zu hu with h1|⟨p,h1,h2⟩
  ·exact .inl h1
  ·refine .inr ⟨p,?_,h1,h2⟩
   have:=(DC (OE h.1.1 h1)).2.2.2.1 i h2;omega
theorem a8m{ns:List Nd}{k i:Int}{m:List Bool}(h:umO ns k i m)(h0:0≤i)(hb:m[i.toNat]? =some false):umO ns k (i-1) m:=by
 have hn:¬Und ns k i:=fun hu=>by have:=(Zv h h0 hb).2 hu;cases this
 refine⟨⟨h.1.1,by omega,by have:=h.1.2;omega⟩,GR h.2 fun j=> ?_⟩
 constructor
 ·rintro(h1|⟨p,h1,h2⟩)
  ·exact .inl h1
  ·exact .inr ⟨p,by omega,h2⟩
 ·rintro(h1|⟨p,h1,h2,h3⟩)
  ·exact .inl h1
  ·refine .inr ⟨p,?_,h2,h3⟩
   have:p≠i:=fun e=>hn (e▸h2)
   omega
theorem a8n{ns:List Nd}{k i:Int}{m:List Bool}(h:umO ns k i m)(h0:0≤i)(hb:m[i.toNat]? =some true):umI ns k i 0 m:=
 ⟨⟨⟨h.1.1,h0,h.1.2.2⟩,by omega,by omega⟩,(Zv h h0 hb).1 rfl,GR h.2 fun j=>by simp⟩
theorem Zw{ns:List Nd}{k i t c:Int}{m:List Bool}(h:umI ns k i t m)(hc:(Ai ns i).kids[t.toNat]? =some c):0≤c∧c<i:=by
 exact(DC (OE h.1.1.1 h.2.1)).2.2.2.1 c (List.mem_of_getElem? hc)
theorem a8o{ns:List Nd}{k i t c:Int}{m:List Bool}(h:umI ns k i t m)(hc:(Ai ns i).kids[t.toNat]? =some c):umI ns k i (t+1) (m.set c.toNat true):=by
 have hb:=Zw h hc
 have hl:=(List.getElem?_eq_some_iff.1 hc).1
 have ht:=h.1.2
 refine⟨⟨h.1.1,by omega,by omega⟩,h.2.1,GR (UF h.2.2 (by have:=h.1.1;omega)) fun j=> ?_⟩
 rw[show(t+1).toNat=t.toNat+1 by omega,List.take_add_one,hc]
 simp only[Option.toList,List.mem_append,List.mem_singleton]
 constructor
 ·rintro(h1|h1)
  ·rcases h1 with h1|h1
   ·exact .inl h1
   ·exact .inr (.inl h1)
  ·exact .inr (.inr h1)
 ·rintro(h1|h1|h1)
  ·exact .inl (.inl h1)
  ·exact .inl (.inr h1)
  ·exact .inr h1
theorem a8p{ns:List Nd}{k i t:Int}{m:List Bool}(h:umI ns k i t m)(hl:¬t<((Ai ns i).kids.length:Int)):umO ns k (i-1) m:=by
 refine⟨⟨h.1.1.1,by have:=h.1.1;omega,by have:=h.1.1;omega⟩,GR h.2.2 fun j=> ?_⟩
 rw[List.take_of_length_le (by omega)]
 constructor
 ·rintro((h1|⟨p,h1,h2⟩)|h1)
  ·exact .inl h1
  ·exact .inr ⟨p,by omega,h2⟩
  ·exact .inr ⟨i,by omega,h.2.1,h1⟩
 ·rintro(h1|⟨p,h1,h2,h3⟩)
  ·exact .inl (.inl h1)
  ·by_cases e:p=i
   ·exact .inr (e▸h3)
   ·exact .inl (.inr ⟨p,by omega,h2,h3⟩)
theorem a8q{ns:List Nd}{k i:Int}{m:List Bool}(h:umO ns k i m)(hi:¬i≥0):MK (k+1).toNat (Und ns k) m:=by
 refine GR h.2 fun j=> ?_
 constructor
 ·rintro(rfl|⟨p,h1,h2,h3⟩)
  ·exact .base
  ·exact .step h2 h3
 ·intro hu
  rcases Zu hu with h1|⟨p,h1,h2⟩
  ·exact .inl h1
  ·exact .inr ⟨p,by have:=IQ h.1.1 h1;omega,h1,h2⟩
def clB(ns:List Nd)(k:Int)(s:List Bool):Prop:=∀p,p≤k→mOn s p→∀c∈(Ai ns p).kids,mOn s c
def mrP(ns:List Nd)(k:Int)(s:List Bool):Prop:=(Dw ns k∧s.length=ns.length)∧clB ns k s
def mrQ(ns:List Nd)(k:Int)(s s':List Bool):Prop:=s'.length=ns.length∧(∀j,mOn s j→mOn s' j)∧(∀j,mOn s' j→mOn s j∨Und ns k j)∧mOn s' k∧clB ns k s'
def mrI(ns:List Nd)(k i:Int)(s s1:List Bool):Prop:=((Dw ns k∧s1.length=ns.length)∧0≤i∧i≤(Ai ns k).kids.length)∧(∀j,mOn s j→mOn s1 j)∧(∀j,mOn s1 j→mOn s j∨Und ns k j)∧mOn s1 k∧clB ns (k-1) s1∧∀c∈(Ai ns k).kids.take i.toNat,mOn s1 c
theorem a8r{ns:List Nd}{k:Int}{s:List Bool}(h:mrP ns k s)(hk:s[k.toNat]? =some true):mrQ ns k s s:=
 ⟨h.1.2,fun _ h=>h,fun _ h=> .inl h,⟨(Cu.1 h.1.1.1).1,hk⟩,h.2⟩
theorem a8s{ns:List Nd}{k:Int}{s:List Bool}(h:mrP ns k s)(hk:s[k.toNat]? =some false):mrI ns k 0 s (s.set k.toNat true):=by
 have hn:=Cu.1 h.1.1.1
 have hc:0≤k∧k<s.length:=by have:=h.1.2;omega
 refine⟨⟨⟨h.1.1,by rw[List.length_set];exact h.1.2⟩,by omega,by omega⟩,fun j hj=> ?_,fun j hj=> ?_,?_,fun p hp hm c hcc=> ?_,by simp⟩
 ·rw[KW hc]
  by_cases e:j=k
  ·exact .inl ⟨e,rfl⟩
  ·exact .inr ⟨e,hj⟩
 ·rw[KW hc] at hj
  rcases hj with⟨rfl,_⟩|⟨_,h⟩
  ·exact .inr .base
  ·exact .inl h
 ·rw[KW hc];exact .inl ⟨rfl,rfl⟩
 ·rw[KW hc] at hm
  rcases hm with⟨rfl,_⟩|⟨_,hm⟩
  ·omega
  ·have:=h.2 p (by omega) hm c hcc
   rw[KW hc]
   by_cases e:c=k
   ·exact .inl ⟨e,rfl⟩
   ·exact .inr ⟨e,this⟩
theorem a8t{ns:List Nd}{k i c:Int}{s s1:List Bool}(h:mrI ns k i s s1)(hc:(Ai ns k).kids[i.toNat]? =some c):mrP ns c s1∧c<k:=by
 have hm:=List.mem_of_getElem? hc
 have hu:Und ns k c:= .step .base hm
 have hlt:=(DC (OE h.1.1.1 .base)).2.2.2.1 c hm
 exact⟨⟨⟨Zt h.1.1.1 hu,h.1.1.2⟩,fun p hp=>h.2.2.2.2.1 p (by omega)⟩,hlt.2⟩
theorem a8u{ns:List Nd}{k i c:Int}{s s1 s2:List Bool}(h:mrI ns k i s s1)(hc:(Ai ns k).kids[i.toNat]? =some c)(hq:mrQ ns c s1 s2):mrI ns k (i+1) s s2:=by
 have hm:=List.mem_of_getElem? hc
 have hu:Und ns k c:= .step .base hm
 have hup:=Zt h.1.1.1 hu
 have hl:=(List.getElem?_eq_some_iff.1 hc).1
 obtain⟨⟨⟨h1,h2⟩,h3,h4⟩,h5,h6,h7,h8,h9⟩:=h
 obtain⟨q1,q2,q3,q4,q5⟩:=hq
 refine⟨⟨⟨h1,q1⟩,by omega,by omega⟩,fun j hj=>q2 j (h5 j hj),fun j hj=> ?_,q2 _ h7,fun p hp hm2 d hd=> ?_,fun d hd=> ?_⟩
 ·rcases q3 j hj with hj|hj
  ·exact h6 j hj
  ·exact .inr (a8i hu hj)
 ·by_cases e:p≤c
  ·exact q5 p e hm2 d hd
  ·rcases q3 p hm2 with hj|hj
   ·exact q2 d (h8 p hp hj d hd)
   ·have:=IQ hup hj;omega
 ·rw[show(i+1).toNat=i.toNat+1 by omega,List.take_add_one,hc] at hd
  simp only[Option.toList,List.mem_append,List.mem_singleton] at hd
  rcases hd with hd|rfl
  ·exact q2 d (h9 d hd)
  ·exact q4
theorem a8v{ns:List Nd}{k i:Int}{s s1:List Bool}(h:mrI ns k i s s1)(hl:¬i<((Ai ns k).kids.length:Int)):mrQ ns k s s1:=by
 obtain⟨⟨⟨h1,h2⟩,h3,h4⟩,h5,h6,h7,h8,h9⟩:=h
 refine⟨h2,h5,h6,h7,fun p hp hm c hc=> ?_⟩
 by_cases e:p=k
 ·subst e
  rw[List.take_of_length_le (by omega)] at h9
  exact h9 c hc
 ·exact h8 p (by omega) hm c hc
theorem a8w{ns:List Nd}{k:Int}(h:Dw ns k):mrP ns k (List.replicate ns.length false):=
 ⟨⟨h,by simp⟩,fun p _ hm=>((OA (P:=fun _=>False) fun _ h=>h).2 p |>.1 hm).elim⟩
theorem a8x{ns:List Nd}{k:Int}{s:List Bool}(hk:Dw ns k)(h:mrQ ns k (List.replicate ns.length false) s):MK ns.length (Und ns k) s:=by
 obtain⟨h1,h2,h3,h4,h5⟩:=h
 refine⟨h1,fun j=>⟨fun hj=> ?_,fun hu=> ?_⟩⟩
 ·rcases h3 j hj with hj|hj
  ·exact((OA (P:=fun _=>False) fun _ h=>h).2 j |>.1 hj).elim
  ·exact hj
 ·induction hu with
  |base=>exact h4
  |step hp hc ih=>exact h5 _ (IQ hk hp).2 ih _ hc
def fdl{α β:Type}(f:β→α→β)(b:β)(l:List α)(i:Int):β:=(l.take i.toNat).foldl f b
theorem QU{α β:Type}{f:β→α→β}{b:β}{l:List α}:fdl f b l 0=b:=by simp [fdl]
theorem Il{α β:Type}{f:β→α→β}{b:β}{l:List α}{i:Int}{e:α}(h0:0≤i)(he:l[i.toNat]? =some e):fdl f b l (i+1)=f (fdl f b l i) e:=by
 rw[fdl,show(i+1).toNat=i.toNat+1 by omega,List.take_add_one,he];simp [fdl]
theorem QV{α β:Type}{f:β→α→β}{b:β}{l:List α}{i:Int}(h:¬i<(l.length:Int)):fdl f b l i=l.foldl f b:=by
 rw[fdl,List.take_of_length_le (by omega)]
def CY(l:List (List UInt8))(s:List UInt8):List (List UInt8):=if l.elem s then l else l++[s]
theorem Zx(l:List (List UInt8))(s:List UInt8):(CY l s).length≤l.length+1:=by unfold CY;split<;>simp
def CK(ns:List Nd)(L:List Int)(j:Int):Bool:=L.any fun p=>(decide (Bd ns p=9)||decide (Bd ns p=20))&&(Ai ns p).kids.dropLast.elem j
def Dg(k:Int):Bool:=decide (k=1)||(decide (k=12)||decide (k=13))
def nmF(ns:List Nd)(out:List (List UInt8))(i:Int):List (List UInt8):=if Bd ns i=1 then CY out (Ai ns i).text else out
def ltF(ns:List Nd)(L:List Int)(out:List (List UInt8))(i:Int):List (List UInt8):=if Bd ns i=12∨CK ns L i=true then CY out (Ai ns i).text else out
noncomputable def Bz (ns:List Nd) (k:Int):List (List UInt8):=(Ah ns k).foldl (nmF ns) []
noncomputable def Bh (ns:List Nd) (k:Int):List (List UInt8):=(Ah ns k).foldl (ltF ns (Ah ns k)) []
noncomputable def FL (ns:List Nd) (k:Int):List (List UInt8):=(Bz ns k).filter fun s=> !(Bh ns k).elem s
def cnF(ns:List Nd)(nm:List UInt8)(n:Int)(i:Int):Int:=if(Dg (Bd ns i)&&(Ai ns i).text==nm)=true then n+1 else n
noncomputable def CL (ns:List Nd) (k:Int) (nm:List UInt8):Int:=(Ah ns k).foldl (cnF ns nm) 0
def usF(ns:List Nd)(L:List Int)(out:List (List UInt8))(i:Int):List (List UInt8):=if(decide (Bd ns i=1)&& !CK ns L i)=true then out++[(Ai ns i).text] else out
noncomputable def DT (ns:List Nd) (k:Int):List (List UInt8):=(Ah ns k).foldl (usF ns (Ah ns k)) []
noncomputable def FM (ns:List Nd) (k:Int):List (List UInt8):=(Bh ns k).filter fun s=> !(DT ns k).elem s
theorem OG{α:Type}{f:List (List UInt8)→α→List (List UInt8)}(hf:∀o e,(f o e).length≤o.length+1):∀(l:List α) (o:List (List UInt8)),(l.foldl f o).length≤o.length+l.length
 |[],o=>by simp
 |e::l,o=>by rw[List.foldl_cons];have:=OG hf l (f o e);have:=hf o e;simp only[List.length_cons];omega
theorem Zy(ns:List Nd)(o:List (List UInt8))(e:Int):(nmF ns o e).length≤o.length+1:=by unfold nmF;split;exact Zx _ _;omega
theorem Zz(ns:List Nd)(L:List Int)(o:List (List UInt8))(e:Int):(ltF ns L o e).length≤o.length+1:=by unfold ltF;split;exact Zx _ _;omega
theorem ZA(ns:List Nd)(L:List Int)(o:List (List UInt8))(e:Int):(usF ns L o e).length≤o.length+1:=by unfold usF;split;simp;omega
theorem UH{ns:List Nd}{k:Int}:(Bz ns k).length≤ns.length:=by have:=OG (Zy ns) (Ah ns k) [];have:= @Hz ns k;unfold Bz;simp at*;omega
theorem UI{ns:List Nd}{k:Int}:(Bh ns k).length≤ns.length:=by have:=OG (Zz ns (Ah ns k)) (Ah ns k) [];have:= @Hz ns k;unfold Bh;simp at*;omega
theorem a8y{ns:List Nd}{k:Int}:(DT ns k).length≤ns.length:=by have:=OG (ZA ns (Ah ns k)) (Ah ns k) [];have:= @Hz ns k;unfold DT;simp at*;omega
end Go.My
end
section
set_option linter.unusedVariables false
set_option linter.unusedSimpArgs false
namespace Go.My
open Go.Eng Go.Proofs
variable {G:GInv}
def BO(l:List Bool):AV:= .sl true 0 1 Bool Bo l
theorem OH{ns:List Nd}{k:Int}(h:¬Ct ns k=0):Dw ns k:=Oy h
def umK(x:List Nd×Int)(i:Int×List Bool):LS:= {
 ι:=Int×List Bool,inv:=fun j=>umI x.1 x.2 i.1 j.1 j.2,
 regs:=fun j=>[(0,nds x.1),(1,.int .i64 x.2),(5,BO j.2),(6,.int .i64 i.1),(29,Aq (Ai x.1 i.1).kids),(30,.int .i64 (Ai x.1 i.1).kids.length),(31,.int .i64 j.1)],als:=[],meas:=fun j=>(Ai x.1 i.1).kids.length-j.1.toNat}
def umL(x:List Nd×Int):LS:= {
 ι:=Int×List Bool,inv:=fun i=>umO x.1 x.2 i.1 i.2,
 regs:=fun i=>[(0,nds x.1),(1,.int .i64 x.2),(5,BO i.2),(6,.int .i64 i.1)],als:=[],meas:=fun i=>(i.1+1).toNat,
 sub:=fun i=>[(8,umK x i)]}
theorem a8z{ns:List Nd}{k i:Int}{m:List Bool}(h:umO ns k i m):((0≤k∧k<ns.length)∧ -1≤i∧i≤k)∧m.length=(k+1).toNat:=⟨⟨Cu.1 h.1.1.1,h.1.2⟩,h.2.1⟩
theorem a8A{ns:List Nd}{k i t:Int}{m:List Bool}(h:umI ns k i t m):(((0≤k∧k<ns.length)∧0≤i∧i≤k)∧(0≤t∧t≤(Ai ns i).kids.length)∧(Ai ns i).kids.length≤12)∧m.length=(k+1).toNat:=
 ⟨⟨⟨Cu.1 h.1.1.1.1,h.1.1.2⟩,h.1.2,(DC (OE h.1.1.1 h.2.1)).2.1⟩,h.2.2.1⟩
theorem ZB{ns:List Nd}{k:Int}(h:Dw ns k):0≤k∧k<ns.length:=Cu.1 h.1
theorem ZC{ns:List Nd}{k:Int}(h:Ct ns k=0):([]:List Int)=Ah ns k:=by rw[Ah,if_pos h]
def uoI(ns:List Nd)(k:Int)(m:List Bool)(i:Int)(o:List Int):Prop:=(((Dw ns k∧Ct ns k≠0)∧m.length≤2^30)∧0≤i∧i≤m.length)∧(∃n,MK n (Und ns k) m)∧o=DS (m.take i.toNat)
theorem a8B{ns:List Nd}{k:Int}{m:List Bool}(hk:Dw ns k)(h:MK (k+1).toNat (Und ns k) m)(hd:¬Ct ns k=0)(hl:ns.length≤2^30):uoI ns k m 0 []:=
 ⟨⟨⟨⟨hk,hd⟩,by have:=Cu.1 hk.1;have:=h.1;omega⟩,by omega,by omega⟩,⟨_,h⟩,rfl⟩
theorem a8C{ns:List Nd}{k:Int}{m:List Bool}(hk:Dw ns k)(h:mrQ ns k (List.replicate ns.length false) m)(hd:¬Ct ns k=0)(hl:ns.length≤2^30):uoI ns k m 0 []:=
 ⟨⟨⟨⟨hk,hd⟩,by have:=h.1;omega⟩,by omega,by omega⟩,⟨_,a8x hk h⟩,rfl⟩
theorem ZD{ns:List Nd}{k i:Int}{m:List Bool}{o:List Int}{b:Bool}(h:uoI ns k m i o)(hb:m[i.toNat]? =some b)(hf:b=false):uoI ns k m (i+1) o:=by
 have hl:=(List.getElem?_eq_some_iff.1 hb).1
 obtain⟨⟨h1,h2⟩,h3,h4⟩:=h
 subst hf
 exact⟨⟨h1,by omega,by omega⟩,h3,by rw[QS h2.1 hb,h4];simp⟩
theorem ZE{ns:List Nd}{k i:Int}{m:List Bool}{o:List Int}{b:Bool}(h:uoI ns k m i o)(hb:m[i.toNat]? =some b)(hf:b=true):uoI ns k m (i+1) (o++[i]):=by
 have hl:=(List.getElem?_eq_some_iff.1 hb).1
 obtain⟨⟨h1,h2⟩,h3,h4⟩:=h
 subst hf
 exact⟨⟨h1,by omega,by omega⟩,h3,by rw[QS h2.1 hb,h4];simp⟩
theorem ZF{ns:List Nd}{k i:Int}{m:List Bool}{o:List Int}(h:uoI ns k m i o)(hl:¬i<(m.length:Int)):o=Ah ns k:=by
 obtain⟨⟨⟨⟨h1,h0⟩,_⟩,h2⟩,⟨n,h3⟩,h4⟩:=h
 rw[h4,List.take_of_length_le (by omega)];exact a8j h0 h3
theorem ZG{ns:List Nd}{k i:Int}{m:List Bool}{o:List Int}(h:uoI ns k m i o):((0≤i∧i≤m.length)∧m.length≤2^30)∧o.length≤m.length:=by
 refine⟨⟨h.1.2,h.1.1.2⟩,?_⟩
 rw[h.2.2];exact Nat.le_trans (QT _) (by rw[List.length_take];omega)
theorem ZH{ns:List Nd}{k:Int}{s:List Bool}(h:mrP ns k s):(0≤k∧k<ns.length)∧s.length=ns.length:=⟨Cu.1 h.1.1.1,h.1.2⟩
theorem a8D{ns:List Nd}{k i:Int}{s s1:List Bool}(h:mrI ns k i s s1):(((0≤k∧k<ns.length)∧s1.length=ns.length)∧0≤i∧i≤(Ai ns k).kids.length)∧(Ai ns k).kids.length≤12:=
 ⟨⟨⟨Cu.1 h.1.1.1.1,h.1.1.2⟩,h.1.2⟩,(DC (a8h h.1.1.1)).2.1⟩
theorem a8E{ns:List Nd}{k i:Int}{e:Nd}{s s1:List Bool}(h:mrI ns k i s s1)(he:ns[k.toNat]? =some e):(Ai ns k).kids=e.kids:=by rw[Bg he]
theorem a8F{ns:List Nd}{k i c:Int}{e:Nd}{s s1:List Bool}(h:mrI ns k i s s1)(he:ns[k.toNat]? =some e)(hc:e.kids[i.toNat]? =some c):mrP ns c s1∧c<k:=a8t h (by rw[Bg he];exact hc)
theorem a8G{ns:List Nd}{k i c:Int}{e:Nd}{s s1 s2:List Bool}(h:mrI ns k i s s1)(he:ns[k.toNat]? =some e)(hc:e.kids[i.toNat]? =some c)(hq:mrQ ns c s1 s2):mrI ns k (i+1) s s2:=a8u h (by rw[Bg he];exact hc) hq
theorem a8H{ns:List Nd}{k i:Int}{e:Nd}{s s1:List Bool}(h:mrI ns k i s s1)(he:ns[k.toNat]? =some e)(hl:¬i<(e.kids.length:Int)):mrQ ns k s s1:=a8v h (by rw[Bg he];exact hl)
theorem a8I{ns:List Nd}{k:Int}{s:List Bool}{b:Bool}(h:mrP ns k s)(hk:s[k.toNat]? =some b)(hb:b=true):mrQ ns k s s:=a8r h (by rw[hk,hb])
theorem a8J{ns:List Nd}{k:Int}{s:List Bool}{b:Bool}(h:mrP ns k s)(hk:s[k.toNat]? =some b)(hb:b=false):mrI ns k 0 s (s.set k.toNat true):=a8s h (by rw[hk,hb])
attribute [local irreducible] umO umI Dw MK DS mrP mrQ mrI uoI Ah
noncomputable def Mv:Sig:= {X:=List Nd×Int,args:=fun x=>[nds x.1,.int .i64 x.2],pre:=fun x=>(Be x.1∧x.1.length≤2^30)∧Dw x.1 x.2,Y:=List Bool×Unit,post:=fun x y=>MK (x.2+1).toNat (Und x.1 x.2) y.1,res:=fun x y=>BO y.1,outs:=fun x y=>[.top,.top],keep:=false}
theorem a8K:Am G Tryz.prog 87 Mv:=
 vcFun_okP [] [(76,⟨Bool,Bo⟩)] false (fun x=>[(4,umL x)]) Tryz.func87 rfl (by decide) trivial (fun(x:List Nd×Int)=>(∀(y:List Bool×Unit),MK (Int.toNat (x.2+(1:Int))) (Und x.1 x.2) y.1→(∀(x:Bool),True∧True)∧True∧True∧True)∧inR IntKind.i64 (x.2+(1:Int))∧((0:Int)≤x.2+(1:Int)∧x.2+(1:Int)≤x.2+(1:Int)∧(↑(1:Nat):Int)*(x.2+(1:Int))≤(2:Int)^(46:Nat)∧x.2+(1:Int)≤(2:Int)^(46:Nat))∧∃(x_1:Bool),false=x_1∧((0:Int)≤x.2∧x.2<(↑(List.length (List.replicate (Int.toNat (x.2+(1:Int))) x_1)):Int))∧Int.toNat x.2<List.length (List.replicate (Int.toNat (x.2+(1:Int))) x_1)∧∀(x_2:Bool),(List.replicate (Int.toNat (x.2+(1:Int))) x_1)[Int.toNat x.2]? =some x_2→∃(x':Bool),((@List.nil AV)=[]∧(@List.nil AV)=[])∧true=x'∧eA (umL x) [nds x.1,.int .i64 x.2,AV.sl true (0:Nat) (1:Nat) Bool Bo (List.set (List.replicate (Int.toNat (x.2+(1:Int))) x_1) (Int.toNat x.2) x'),.int .i64 x.2]∧∀(i:Int×List Bool),umO x.1 x.2 i.1 i.2→Aa (decide (i.1≥(0:Int))) (((0:Int)≤i.1∧i.1<(↑(List.length i.2):Int))∧Int.toNat i.1<List.length i.2∧∀(x_3:Bool),i.2[Int.toNat i.1]? =some x_3→Aa (!x_3) (inR IntKind.i64 (i.1-(1:Int))∧eN (umL x) i [nds x.1,.int .i64 x.2,AV.sl true (0:Nat) (1:Nat) Bool Bo i.2,.int .i64 (i.1-(1:Int))]) (((0:Int)≤i.1∧i.1<(↑(List.length x.1):Int))∧∀(e:Nd),x.1[Int.toNat i.1]? =some e→eA (umK x i) [nds x.1,.int .i64 x.2,AV.sl true (0:Nat) (1:Nat) Bool Bo i.2,.int .i64 i.1,Aq e.kids,.int .i64 (↑(List.length e.kids):Int),.int .i64 (0:Int)]∧∀(i_1:Int×List Bool),umI x.1 x.2 i.1 i_1.1 i_1.2→Aa (decide (i_1.1<(↑(List.length (Ai x.1 i.1).kids):Int))) (((0:Int)≤i_1.1∧i_1.1<(↑(List.length (Ai x.1 i.1).kids):Int))∧∀(e:Int),(Ai x.1 i.1).kids[Int.toNat i_1.1]? =some e→((0:Int)≤e∧e<(↑(List.length i_1.2):Int))∧Int.toNat e<List.length i_1.2∧∀(x_4:Bool),i_1.2[Int.toNat e]? =some x_4→∃(x':Bool),((@List.nil AV)=[]∧(@List.nil AV)=[])∧true=x'∧inR IntKind.i64 (i_1.1+(1:Int))∧eN (umK x i) i_1 [nds x.1,.int .i64 x.2,AV.sl true (0:Nat) (1:Nat) Bool Bo (List.set i_1.2 (Int.toNat e) x'),.int .i64 i.1,Aq (Ai x.1 i.1).kids,.int .i64 (↑(List.length (Ai x.1 i.1).kids):Int),.int .i64 (i_1.1+(1:Int))]) (inR IntKind.i64 (i.1-(1:Int))∧eN (umL x) i [nds x.1,.int .i64 x.2,AV.sl true (0:Nat) (1:Nat) Bool Bo i_1.2,.int .i64 (i.1-(1:Int))]))) (rA Mv x [AV.sl true (0:Nat) (1:Nat) Bool Bo i.2,.top,.top])) (fun x=>by kernel_rfl) fun(x:List Nd×Int) (hx:(Be x.1∧x.1.length≤2^30)∧Dw x.1 x.2)=>(by
 dsimp only[BO,eA,eN,Aq,Bn,nds,rA,Mv,umK,umL,Au,Ax,Bm]
 obtain⟨⟨h1,h2⟩,h3⟩:=hx
 have h4:=ZB h3
 (repeat' first|(with_reducible first|rfl|exact True.intro|apply AJ|apply And.intro|((first|apply Az|apply AH|apply AA|apply AI)<;>intro _))|(apply Av<;>intro _)|apply AG|refine Af () ?_ ?_|((first|apply AO|apply AN|apply AM|apply AL|apply AF|apply AE|apply AD|apply AC|apply AB)<;>try dsimp only)|apply Af|(refine Prod.forall.2 ?_;intro _;try dsimp only)|(intro _;try dsimp only))
 all_goals(try(have hO:=a8z (show umO _ _ _ _ by assumption)))
 all_goals(try(have hI:=a8A (show umI _ _ _ _ _ by assumption)))
 all_goals first
  |rfl
  |omega
  |exact()
  |(have hq:=Zw (show umI _ _ _ _ _ by assumption) ‹_›;omega)
  |(simp only[AR,List.length_replicate,List.length_set];omega)
  |exact a8l h3
  |exact a8q ‹_› ‹_›
  |(subst_vars;exact a8m ‹_› ‹_› ‹_›)
  |(subst_vars;rw[Bg ‹_›];done)
  |(subst_vars;exact a8n ‹_› ‹_› ‹_›)
  |exact a8o ‹_› ‹_›
  |exact a8p ‹_› ‹_›
  |skip)
noncomputable def Dx:Sig:= {X:=List Nd×Int,args:=fun x=>[nds x.1,.int .i64 x.2],pre:=fun x=>Be x.1∧x.1.length≤2^30,Y:=Unit,post:=fun x y=>True,res:=fun x y=>Ab (Ah x.1 x.2),outs:=fun x y=>[.top,.top],keep:=false}
noncomputable def OI (x:List Nd×Int):LS:= {ι:=List Bool×Int×List Int,inv:=fun i=>uoI x.1 x.2 i.1 i.2.1 i.2.2,regs:=fun i=>[(5,Ab i.2.2),(14,BO i.1),(15,.int .i64 i.1.length),(16,.int .i64 i.2.1)],als:=[],meas:=fun i=>i.1.length-i.2.1.toNat}
theorem Mw:Am G Tryz.prog 31 Dx:=
 vcFun_okP [(9,0,GQ),(87,0,Mv)] [(76,⟨Bool,Bo⟩),(26,⟨Int,Bj⟩)] false (fun x=>[(5,OI x)]) Tryz.func31 rfl (by decide) ⟨YK,a8K,trivial⟩ (fun(x:List Nd×Int)=>(∀(y:Unit),True→(∀(x:Int),True∧True)∧True∧True∧True)∧cA GQ [nds x.1,.int .i64 x.2] fun x_1 y=>Aa (Ct x_1.1 x_1.2==(0:Int)) (rA Dx x [.nil,.top,.top]) (cA Mv [nds x.1,.int .i64 x.2] fun x_2 y=>eA (OI x) [.nil,AV.sl true (0:Nat) (1:Nat) Bool Bo y.1,.int .i64 (↑(List.length y.1):Int),.int .i64 (0:Int)]∧∀(i:List Bool×Int×List Int),uoI x.1 x.2 i.1 i.2.1 i.2.2→Aa (decide (i.2.1<(↑(List.length i.1):Int))) (((0:Int)≤i.2.1∧i.2.1<(↑(List.length i.1):Int))∧Int.toNat i.2.1<List.length i.1∧∀(x_3:Bool),i.1[Int.toNat i.2.1]? =some x_3→Aa x_3 (∃(x_4:Int),i.2.1=x_4∧∃(zs:List Int),Ab [x_4]=Ab zs∧BF Bj∧Ba (List.length i.2.2+List.length zs) (8:Nat)∧inR IntKind.i64 (i.2.1+(1:Int))∧eN (OI x) i [Ab (i.2.2++zs),AV.sl true (0:Nat) (1:Nat) Bool Bo i.1,.int .i64 (↑(List.length i.1):Int),.int .i64 (i.2.1+(1:Int))]) (inR IntKind.i64 (i.2.1+(1:Int))∧eN (OI x) i [Ab i.2.2,AV.sl true (0:Nat) (1:Nat) Bool Bo i.1,.int .i64 (↑(List.length i.1):Int),.int .i64 (i.2.1+(1:Int))])) (rA Dx x [Ab i.2.2,.top,.top]))) (fun x=>by kernel_rfl) fun(x:List Nd×Int) (hx:Be x.1∧x.1.length≤2^30)=>(by
 dsimp only[BO,cA,eA,eN,OI,Bn,nds,Ab,rA,GQ,Dx,Mv,Au,Ax,mvL,lnL,mvE,lnE,Bm]
 obtain⟨h1,h2⟩:=hx
 (repeat' first|(with_reducible first|rfl|exact True.intro|apply AJ|apply And.intro|((first|apply Az|apply AH|apply AA|apply AI)<;>intro _))|(apply Av<;>intro _)|apply AG|refine Af () ?_ ?_|((first|apply AO|apply AN|apply AM|apply AL|apply AF|apply AE|apply AD|apply AC|apply AB)<;>try dsimp only)|apply Af|(refine Prod.forall.2 ?_;intro _;try dsimp only)|(intro _;try dsimp only))
 all_goals(try(have hI:=ZG (show uoI _ _ _ _ _ by assumption)))
 all_goals first
  |rfl
  |omega
  |exact()
  |exact(ZC ‹_›).symm
  |exact OH ‹_›
  |exact a8B (OH ‹_›) ‹_› ‹_› ‹_›
  |exact ZD ‹_› ‹_› ‹_›
  |exact ZE ‹_› ‹_› ‹_›
  |exact ZF ‹_› ‹_›
  |(simp only[AR,Ba,List.length_cons,List.length_nil];omega)
  |skip)
def IR(n:Nat):Sig:= {X:=List Nd×Int×List Bool,args:=fun x=>[nds x.1,.int .i64 x.2.1,BO x.2.2],pre:=fun x=>mrP x.1 x.2.1 x.2.2∧x.2.1<n,Y:=List Bool×Unit,post:=fun x y=>mrQ x.1 x.2.1 x.2.2 y.1,res:=fun x y=> .tup [],outs:=fun x y=>[.top,.top,BO y.1],keep:=false,fixed:=[2]}
noncomputable def QW (n:Nat):Sig:= {X:=List Nd×Int×List Bool,args:=fun x=>[nds x.1,.int .i64 x.2.1,BO x.2.2],pre:=fun x=>mrP x.1 x.2.1 x.2.2∧x.2.1<(n+1:Nat),Y:=List Bool×Unit,post:=fun x y=>mrQ x.1 x.2.1 x.2.2 y.1,res:=fun x y=> .tup [],outs:=fun x y=>[.top,.top,BO y.1],keep:=false,fixed:=[2]}
noncomputable def QX (n:Nat) (x:List Nd×Int×List Bool):LS:= {ι:=Int×List Bool,inv:=fun i=>mrI x.1 x.2.1 i.1 x.2.2 i.2,regs:=fun i=>[(0,nds x.1),(1,.int .i64 x.2.1),(2,BO i.2),(6,.int .i64 i.1)],als:=[],meas:=fun i=>(Ai x.1 x.2.1).kids.length-i.1.toNat}
theorem a8L(n:Nat)(hc:Am G Go.Proofs.Tryz.prog 94 (IR n)):Am G Tryz.prog 94 (QW n):=
 vcFun_okP [(94,0,(IR n))] [(76,⟨Bool,Bo⟩)] false (fun x=>[(3,QX n x)]) Tryz.func94 rfl (by decide) ⟨hc,trivial⟩ (fun(x:List Nd×Int×List Bool)=>(∀(y:List Bool×Unit),mrQ x.1 x.2.1 x.2.2 y.1→True∧True∧True∧(∀(x:Bool),True∧True)∧True)∧((0:Int)≤x.2.1∧x.2.1<(↑(List.length x.2.2):Int))∧Int.toNat x.2.1<List.length x.2.2∧∀(x_1:Bool),x.2.2[Int.toNat x.2.1]? =some x_1→Aa x_1 (rA (QW n) x [.tup [],.top,.top,AV.sl true (0:Nat) (1:Nat) Bool Bo x.2.2]) (((0:Int)≤x.2.1∧x.2.1<(↑(List.length x.2.2):Int))∧Int.toNat x.2.1<List.length x.2.2∧∀(x_2:Bool),x.2.2[Int.toNat x.2.1]? =some x_2→∃(x':Bool),((@List.nil AV)=[]∧(@List.nil AV)=[])∧true=x'∧eA (QX n x) [nds x.1,.int .i64 x.2.1,AV.sl true (0:Nat) (1:Nat) Bool Bo (List.set x.2.2 (Int.toNat x.2.1) x'),.int .i64 (0:Int)]∧∀(i:Int×List Bool),mrI x.1 x.2.1 i.1 x.2.2 i.2→((0:Int)≤x.2.1∧x.2.1<(↑(List.length x.1):Int))∧∀(e:Nd),x.1[Int.toNat x.2.1]? =some e→Aa (decide (i.1<(↑(List.length e.kids):Int))) (((0:Int)≤x.2.1∧x.2.1<(↑(List.length x.1):Int))∧∀(e:Nd),x.1[Int.toNat x.2.1]? =some e→((0:Int)≤i.1∧i.1<(↑(List.length e.kids):Int))∧∀(e_1:Int),e.kids[Int.toNat i.1]? =some e_1→cA (IR n) [nds x.1,.int .i64 e_1,AV.sl true (0:Nat) (1:Nat) Bool Bo i.2] fun x_3 y=>inR IntKind.i64 (i.1+(1:Int))∧eN (QX n x) i [nds x.1,.int .i64 x.2.1,AV.sl true (0:Nat) (1:Nat) Bool Bo y.1,.int .i64 (i.1+(1:Int))]) (rA (QW n) x [.tup [],.top,.top,AV.sl true (0:Nat) (1:Nat) Bool Bo i.2]))) (fun x=>by kernel_rfl) fun(x:List Nd×Int×List Bool) (hx:mrP x.1 x.2.1 x.2.2∧x.2.1<(n+1:Nat))=>(by
 dsimp only[BO,cA,eA,eN,QX,Bn,nds,rA,IR,QW,Au,Ax,mvL,lnL,mvE,lnE,Bm]
 obtain⟨h1,h2⟩:=hx
 have h3:=ZH h1
 (repeat' first|(with_reducible first|rfl|exact True.intro|apply AJ|apply And.intro|((first|apply Az|apply AH|apply AA|apply AI)<;>intro _))|(apply Av<;>intro _)|apply AG|refine Af () ?_ ?_|((first|apply AO|apply AN|apply AM|apply AL|apply AF|apply AE|apply AD|apply AC|apply AB)<;>try dsimp only)|apply Af|(refine Prod.forall.2 ?_;intro _;try dsimp only)|(intro _;try dsimp only))
 all_goals(repeat(rename(_:List Nd)[_]? =some _=>hq;revert hq;rename(_:List Nd)[_]? =some _=>hr;intro hq;rw[hr] at hq;cases hq))
 all_goals(try(repeat(rename(_:List Bool)[_]? =some _=>hq;revert hq;rename(_:List Bool)[_]? =some _=>hr;intro hq;rw[hr] at hq;cases hq)))
 all_goals(try(have hI:=a8D (show mrI _ _ _ _ _ by assumption)))
 all_goals(try(have hK:=a8E (show mrI _ _ _ _ _ by assumption) ‹_›))
 all_goals first
  |rfl
  |exact h2
  |omega
  |exact()
  |(have hq:=a8F (show mrI _ _ _ _ _ by assumption) ‹_› ‹_›;first|exact hq.1|omega)
  |exact a8I h1 ‹_› ‹_›
  |exact a8J h1 ‹_› ‹_›
  |exact a8G ‹_› ‹_› ‹_› ‹_›
  |exact a8H ‹_› ‹_› ‹_›
  |(rw[hK] at hI ⊢;omega)
  |(rw[hK] at hI;omega)
  |((try simp only[AR]);omega)
  |skip)
theorem a8M:Am G Go.Proofs.Tryz.prog 94 (IR 0):=
 ⟨⟨⟨_,Go.Proofs.Tryz.func94,by kernel_rfl,by kernel_rfl⟩,fun x y _ _=>⟨trivial,trivial,trivial,fun _=>⟨trivial,trivial⟩,trivial⟩⟩,fun x hx=>by
   exfalso
   have hx:mrP x.1 x.2.1 x.2.2∧x.2.1<((0:Nat):Int):=hx
   have h1:=ZH hx.1
   have h2:=hx.2
   omega⟩
theorem ZI:∀n,Am G Go.Proofs.Tryz.prog 94 (IR n)
 |0=>a8M
 |n+1=>a8L n (ZI n)
noncomputable def Dy:Sig:= {X:=List Nd×Int,args:=fun x=>[nds x.1,.int .i64 x.2],pre:=fun x=>Be x.1∧x.1.length≤2^30,Y:=Unit,post:=fun x y=>True,res:=fun x y=>Ab (Ah x.1 x.2),outs:=fun x y=>[.top,.top],keep:=false}
noncomputable def OJ (x:List Nd×Int):LS:= {ι:=List Bool×Int×List Int,inv:=fun i=>uoI x.1 x.2 i.1 i.2.1 i.2.2,regs:=fun i=>[(5,Ab i.2.2),(6,BO i.1),(7,.int .i64 i.2.1)],als:=[],meas:=fun i=>i.1.length-i.2.1.toNat}
theorem Mx:Am G Tryz.prog 40 Dy:=
 vcFun_okP [(16,0,Ik),(94,0,(IR (2^30)))] [(76,⟨Bool,Bo⟩),(26,⟨Int,Bj⟩)] false (fun x=>[(7,OJ x)]) Tryz.func40 rfl (by decide) ⟨Zm,(ZI (2^30)),trivial⟩ (fun(x:List Nd×Int)=>(∀(y:Unit),True→(∀(x:Int),True∧True)∧True∧True∧True)∧cA Ik [nds x.1,.int .i64 x.2] fun x_1 y=>Aa (Ct x_1.1 x_1.2==(0:Int)) (rA Dy x [Ab [],.top,.top]) (((0:Int)≤(↑(List.length x.1):Int)∧(↑(List.length x.1):Int)≤(↑(List.length x.1):Int)∧(↑(1:Nat):Int)*(↑(List.length x.1):Int)≤(2:Int)^(46:Nat)∧(↑(List.length x.1):Int)≤(2:Int)^(46:Nat))∧∃(x_2:Bool),false=x_2∧cA (IR ((2:Nat)^(30:Nat))) [nds x.1,.int .i64 x.2,AV.sl true (0:Nat) (1:Nat) Bool Bo (List.replicate (Int.toNat (↑(List.length x.1):Int)) x_2)] fun x_3 y=>eA (OJ x) [Ab [],AV.sl true (0:Nat) (1:Nat) Bool Bo y.1,.int .i64 (0:Int)]∧∀(i:List Bool×Int×List Int),uoI x.1 x.2 i.1 i.2.1 i.2.2→Aa (decide (i.2.1<(↑(List.length i.1):Int))) (((0:Int)≤i.2.1∧i.2.1<(↑(List.length i.1):Int))∧Int.toNat i.2.1<List.length i.1∧∀(x_4:Bool),i.1[Int.toNat i.2.1]? =some x_4→Aa x_4 (∃(x_5:Int),i.2.1=x_5∧∃(zs:List Int),Ab [x_5]=Ab zs∧BF Bj∧Ba (List.length i.2.2+List.length zs) (8:Nat)∧inR IntKind.i64 (i.2.1+(1:Int))∧eN (OJ x) i [Ab (i.2.2++zs),AV.sl true (0:Nat) (1:Nat) Bool Bo i.1,.int .i64 (i.2.1+(1:Int))]) (inR IntKind.i64 (i.2.1+(1:Int))∧eN (OJ x) i [Ab i.2.2,AV.sl true (0:Nat) (1:Nat) Bool Bo i.1,.int .i64 (i.2.1+(1:Int))])) (rA Dy x [Ab i.2.2,.top,.top]))) (fun x=>by kernel_rfl) fun(x:List Nd×Int) (hx:Be x.1∧x.1.length≤2^30)=>(by
 dsimp only[BO,cA,eA,eN,OJ,Bn,nds,Ab,rA,IR,Ik,Dy,Au,Ax,mvL,lnL,mvE,lnE,Bm]
 obtain⟨h1,h2⟩:=hx
 (repeat' first|(with_reducible first|rfl|exact True.intro|apply AJ|apply And.intro|((first|apply Az|apply AH|apply AA|apply AI)<;>intro _))|(apply Av<;>intro _)|apply AG|refine Af () ?_ ?_|((first|apply AO|apply AN|apply AM|apply AL|apply AF|apply AE|apply AD|apply AC|apply AB)<;>try dsimp only)|apply Af|(refine Prod.forall.2 ?_;intro _;try dsimp only)|(intro _;try dsimp only))
 all_goals(try(have hI:=ZG (show uoI _ _ _ _ _ by assumption)))
 all_goals first
  |rfl
  |omega
  |exact()
  |exact ZC ‹_›
  |exact a8w (OH ‹_›)
  |(have hq:=ZB (OH ‹_›);have he:((2^30:Nat):Int)=1073741824:=by decide
    omega)
  |exact a8C (OH ‹_›) ‹_› ‹_› ‹_›
  |exact ZD ‹_› ‹_› ‹_›
  |exact ZE ‹_› ‹_› ‹_›
  |exact ZF ‹_› ‹_›
  |(simp only[AR,Ba,List.length_cons,List.length_nil];omega)
  |skip)
end Go.My
end
section
set_option linter.unusedVariables false
set_option linter.unusedSimpArgs false
namespace Go.My
open Go.Eng Go.Proofs
variable {G:GInv}
def Ed(l:List (List UInt8)):AV:= .sl false 0 1 (List UInt8) Ag l
def BX(l:List (List UInt8)):AV:= .sl true 0 1 (List UInt8) Ag l
def GS(s:List UInt8):List (List UInt8)→Int→Int
 |[],_=> -1
 |x::l,i=>if s=x then i else GS s l (i+1)
theorem ZJ{s:List UInt8}:∀ {l:List (List UInt8)} {i:Int},0≤i→(GS s l i≥0↔s∈l)
 |[],i,h=>by simp [GS]
 |x::l,i,h=>by
  rw[GS]
  by_cases e:s=x
  ·simp [e,h]
  ·rw[if_neg e,ZJ (by omega)];simp [e]
def ixI(x:List (List UInt8)×List UInt8)(i:Int):Prop:=(0≤i∧i≤x.1.length)∧GS x.2 (x.1.drop i.toNat) i=GS x.2 x.1 0
theorem a8N{x:List (List UInt8)×List UInt8}:ixI x 0:=⟨by omega,by simp⟩
theorem a8O{x:List (List UInt8)×List UInt8}{i:Int}{e:List UInt8}(h:ixI x i)(he:x.1[i.toNat]? =some e)(hq:x.2=e):i=GS x.2 x.1 0:=by
 rw[←h.2,Ia he,GS,if_pos hq]
theorem a8P{x:List (List UInt8)×List UInt8}{i:Int}{e:List UInt8}(h:ixI x i)(he:x.1[i.toNat]? =some e)(hq:¬x.2=e):ixI x (i+1):=by
 have hl:=(List.getElem?_eq_some_iff.1 he).1
 refine⟨by have:=h.1;omega,?_⟩
 rw[←h.2,Ia he,GS,if_neg hq,Dv h.1.1]
theorem a8Q{x:List (List UInt8)×List UInt8}{i:Int}(h:ixI x i)(hl:¬i<(x.1.length:Int)): -1=GS x.2 x.1 0:=by
 rw[←h.2,List.drop_eq_nil_of_le (by omega)];rfl
noncomputable def KY:Sig:= {X:=List (List UInt8)×List UInt8,args:=fun x=>[Ed x.1,.str x.2],pre:=fun x=>x.1.length<2^62,Y:=Unit,post:=fun x y=>True,res:=fun x y=> .int .i64 (GS x.2 x.1 0),outs:=fun x y=>[.top,.top],keep:=false}
noncomputable def QY (x:List (List UInt8)×List UInt8):LS:= {ι:=Int,inv:=fun i=>ixI x i,regs:=fun i=>[(0,Ed x.1),(1,.str x.2),(7,.int .i64 x.1.length),(8,.int .i64 i)],als:=[],meas:=fun i=>x.1.length-i.toNat}
theorem a8R:Am G Tryz.prog 118 KY:=
 vcFun_okP [] [] false (fun x=>[(2,QY x)]) Tryz.func118 rfl (by decide) trivial (fun(x:List (List UInt8)×List UInt8)=>(∀(y:Unit),True→True∧True∧True∧True)∧eA (QY x) [AV.sl false (0:Nat) (1:Nat) (List UInt8) Ag x.1,.str x.2,.int .i64 (↑(List.length x.1):Int),.int .i64 (0:Int)]∧∀(i:Int),ixI x i→Aa (decide (i<(↑(List.length x.1):Int))) (((0:Int)≤i∧i<(↑(List.length x.1):Int))∧∀(e:List UInt8),x.1[Int.toNat i]? =some e→Aa (x.2==e) (rA KY x [.int .i64 i,.top,.top]) (inR IntKind.i64 (i+(1:Int))∧eN (QY x) i [AV.sl false (0:Nat) (1:Nat) (List UInt8) Ag x.1,.str x.2,.int .i64 (↑(List.length x.1):Int),.int .i64 (i+(1:Int))])) (rA KY x [.int .i64 (-1:Int),.top,.top])) (fun x=>by kernel_rfl) fun(x:List (List UInt8)×List UInt8) (hx:x.1.length<2^62)=>(by
 dsimp only[eA,eN,QY,Ed,rA,KY,Au,Ax,Bm]
 have hx:x.1.length<2^62:=hx
 (repeat' first|(with_reducible first|rfl|exact True.intro|apply AJ|apply And.intro|((first|apply Az|apply AH|apply AA|apply AI)<;>intro _))|(apply Av<;>intro _)|apply AG|refine Af () ?_ ?_|((first|apply AO|apply AN|apply AM|apply AL|apply AF|apply AE|apply AD|apply AC|apply AB)<;>try dsimp only)|apply Af|(refine Prod.forall.2 ?_;intro _;try dsimp only)|(intro _;try dsimp only))
 all_goals first
  |rfl
  |exact a8N
  |exact a8O ‹_› ‹_› ‹_›
  |exact a8P ‹_› ‹_› ‹_›
  |exact a8Q ‹_› ‹_›
  |(have hq:=(show ixI _ _ by assumption).1;(try simp only[AR]);omega)
  |skip)
noncomputable def GT:Sig:= {X:=List (List UInt8)×List UInt8,args:=fun x=>[Ed x.1,.str x.2],pre:=fun x=>x.1.length<2^62,Y:=Unit,post:=fun x y=>True,res:=fun x y=> .bool (x.1.elem x.2),outs:=fun x y=>[.top,.top],keep:=false}
theorem UJ:Am G Tryz.prog 79 GT:=
 vcFun_okP [(118,0,KY)] [] false (fun x=>[]) Tryz.func79 rfl (by decide) ⟨a8R,trivial⟩ (fun(x:List (List UInt8)×List UInt8)=>(∀(y:Unit),True→True∧True∧True∧True)∧cA KY [AV.sl false (0:Nat) (1:Nat) (List UInt8) Ag x.1,.str x.2] fun x_1 y=>rA GT x [.bool (decide (GS x_1.2 x_1.1 (0:Int)≥(0:Int))),.top,.top]) (fun x=>by kernel_rfl) fun(x:List (List UInt8)×List UInt8) (hx:x.1.length<2^62)=>(by
 dsimp only[cA,Ed,rA,GT,KY,Au,Ax,mvL,lnL,mvE,lnE]
 have hx:x.1.length<2^62:=hx
 (repeat' first|(with_reducible first|rfl|exact True.intro|apply AJ|apply And.intro|((first|apply Az|apply AH|apply AA|apply AI)<;>intro _))|(apply Av<;>intro _)|apply AG|refine Af () ?_ ?_|((first|apply AO|apply AN|apply AM|apply AL|apply AF|apply AE|apply AD|apply AC|apply AB)<;>try dsimp only)|apply Af|(refine Prod.forall.2 ?_;intro _;try dsimp only)|(intro _;try dsimp only))
 all_goals first
  |exact hx
  |(rw[Bool.eq_iff_iff,decide_eq_true_iff,List.elem_iff];exact ZJ (by omega))
  |skip)
def hI{α:Type}[DecidableEq α][BEq α][LawfulBEq α](x:List α×α)(i:Int):Prop:=(0≤i∧i≤x.1.length)∧(x.1.take i.toNat).elem x.2=false
theorem h_0{α:Type}[DecidableEq α][BEq α][LawfulBEq α]{x:List α×α}:hI x 0:=⟨by omega,by simp⟩
theorem h_y{α:Type}[DecidableEq α][BEq α][LawfulBEq α]{x:List α×α}{i:Int}{e:α}(he:x.1[i.toNat]? =some e)(h:e=x.2):true=x.1.elem x.2:=by
 symm;rw[List.elem_iff];rw[←h];exact List.mem_of_getElem? he
theorem h_n{α:Type}[DecidableEq α][BEq α][LawfulBEq α]{x:List α×α}{i:Int}{e:α}(h:hI x i)(he:x.1[i.toNat]? =some e)(hn:¬e=x.2):hI x (i+1):=by
 have hl:=(List.getElem?_eq_some_iff.1 he).1
 refine⟨by have:=h.1;omega,?_⟩
 have h2:=h.2
 rw[Bool.eq_false_iff,ne_eq,List.elem_iff] at h2 ⊢
 rw[show(i+1).toNat=i.toNat+1 by have:=h.1;omega,List.take_add_one,he]
 simp only[Option.toList,List.mem_append,List.mem_singleton]
 rintro(hh|hh)
 ·exact h2 hh
 ·exact hn hh.symm
theorem h_e{α:Type}[DecidableEq α][BEq α][LawfulBEq α]{x:List α×α}{i:Int}(h:hI x i)(hl:¬i<(x.1.length:Int)):false=x.1.elem x.2:=by
 have:=h.2;rw[List.take_of_length_le (by omega)] at this;exact this.symm
theorem ZK{l:List (List UInt8)}{s:List UInt8}(h:l.elem s=true):l=CY l s:=by rw[CY,if_pos h]
theorem ZL{l:List (List UInt8)}{s:List UInt8}(h:l.elem s=false):l++[s]=CY l s:=by rw[CY,h];rfl
noncomputable def Im:Sig:= {X:=List (List UInt8)×List UInt8,args:=fun x=>[Ed x.1,.str x.2],pre:=fun x=>x.1.length<2^62,Y:=Unit,post:=fun x y=>True,res:=fun x y=> .bool (x.1.elem x.2),outs:=fun x y=>[.top,.top],keep:=false}
noncomputable def QZ (x:List (List UInt8)×List UInt8):LS:= {ι:=Int,inv:=fun i=>hI x i,regs:=fun i=>[(0,Ed x.1),(1,.str x.2),(5,.int .i64 i)],als:=[],meas:=fun i=>x.1.length-i.toNat}
theorem ZM:Am G Tryz.prog 95 Im:=
 vcFun_okP [] [] false (fun x=>[(2,QZ x)]) Tryz.func95 rfl (by decide) trivial (fun(x:List (List UInt8)×List UInt8)=>(∀(y:Unit),True→True∧True∧True∧True)∧eA (QZ x) [AV.sl false (0:Nat) (1:Nat) (List UInt8) Ag x.1,.str x.2,.int .i64 (0:Int)]∧∀(i:Int),hI x i→Aa (decide (i<(↑(List.length x.1):Int))) (((0:Int)≤i∧i<(↑(List.length x.1):Int))∧∀(e:List UInt8),x.1[Int.toNat i]? =some e→Aa (e==x.2) (rA Im x [.bool true,.top,.top]) (inR IntKind.i64 (i+(1:Int))∧eN (QZ x) i [AV.sl false (0:Nat) (1:Nat) (List UInt8) Ag x.1,.str x.2,.int .i64 (i+(1:Int))])) (rA Im x [.bool false,.top,.top])) (fun x=>by kernel_rfl) fun(x:List (List UInt8)×List UInt8) (hx:x.1.length<2^62)=>(by
 dsimp only[eA,eN,QZ,Ed,rA,Im,Au,Ax,Bm]
 have hx:x.1.length<2^62:=hx
 (repeat' first|(with_reducible first|rfl|exact True.intro|apply AJ|apply And.intro|((first|apply Az|apply AH|apply AA|apply AI)<;>intro _))|(apply Av<;>intro _)|apply AG|refine Af () ?_ ?_|((first|apply AO|apply AN|apply AM|apply AL|apply AF|apply AE|apply AD|apply AC|apply AB)<;>try dsimp only)|apply Af|(refine Prod.forall.2 ?_;intro _;try dsimp only)|(intro _;try dsimp only))
 all_goals first
  |rfl
  |exact h_0
  |exact h_y ‹_› ‹_›
  |exact h_n ‹_› ‹_› ‹_›
  |exact h_e ‹_› ‹_›
  |(have hq:=(show hI _ _ by assumption).1;(try simp only[AR]);omega)
  |skip)
noncomputable def KZ:Sig:= {X:=List Int×Int,args:=fun x=>[Aq x.1,.int .i64 x.2],pre:=fun x=>x.1.length<2^62,Y:=Unit,post:=fun x y=>True,res:=fun x y=> .bool (x.1.elem x.2),outs:=fun x y=>[.top,.top],keep:=false}
noncomputable def Ra (x:List Int×Int):LS:= {ι:=Int,inv:=fun i=>hI x i,regs:=fun i=>[(0,Aq x.1),(1,.int .i64 x.2),(5,.int .i64 i)],als:=[],meas:=fun i=>x.1.length-i.toNat}
theorem a8S:Am G Tryz.prog 91 KZ:=
 vcFun_okP [] [] false (fun x=>[(2,Ra x)]) Tryz.func91 rfl (by decide) trivial (fun(x:List Int×Int)=>(∀(y:Unit),True→True∧True∧True∧True)∧eA (Ra x) [Aq x.1,.int .i64 x.2,.int .i64 (0:Int)]∧∀(i:Int),hI x i→Aa (decide (i<(↑(List.length x.1):Int))) (((0:Int)≤i∧i<(↑(List.length x.1):Int))∧∀(e:Int),x.1[Int.toNat i]? =some e→Aa (e==x.2) (rA KZ x [.bool true,.top,.top]) (inR IntKind.i64 (i+(1:Int))∧eN (Ra x) i [Aq x.1,.int .i64 x.2,.int .i64 (i+(1:Int))])) (rA KZ x [.bool false,.top,.top])) (fun x=>by kernel_rfl) fun(x:List Int×Int) (hx:x.1.length<2^62)=>(by
 dsimp only[eA,eN,Ra,Aq,rA,KZ,Au,Ax,Bm]
 have hx:x.1.length<2^62:=hx
 (repeat' first|(with_reducible first|rfl|exact True.intro|apply AJ|apply And.intro|((first|apply Az|apply AH|apply AA|apply AI)<;>intro _))|(apply Av<;>intro _)|apply AG|refine Af () ?_ ?_|((first|apply AO|apply AN|apply AM|apply AL|apply AF|apply AE|apply AD|apply AC|apply AB)<;>try dsimp only)|apply Af|(refine Prod.forall.2 ?_;intro _;try dsimp only)|(intro _;try dsimp only))
 all_goals first
  |rfl
  |exact h_0
  |exact h_y ‹_› ‹_›
  |exact h_n ‹_› ‹_› ‹_›
  |exact h_e ‹_› ‹_›
  |(have hq:=(show hI _ _ by assumption).1;(try simp only[AR]);omega)
  |skip)
noncomputable def HA:Sig:= {X:=List (List UInt8)×List UInt8,args:=fun x=>[BX x.1,.str x.2],pre:=fun x=>x.1.length≤2^40,Y:=Unit,post:=fun x y=>True,res:=fun x y=>BX (CY x.1 x.2),outs:=fun x y=>[.top,.top],keep:=false}
theorem ZN:Am G Tryz.prog 76 HA:=
 vcFun_okP [(79,0,GT)] [(38,⟨List UInt8,Ag⟩)] false (fun x=>[]) Tryz.func76 rfl (by decide) ⟨UJ,trivial⟩ (fun(x:List (List UInt8)×List UInt8)=>(∀(y:Unit),True→(∀(x:List UInt8),True∧True)∧True∧True∧True)∧cA GT [AV.sl true (0:Nat) (1:Nat) (List UInt8) Ag x.1,.str x.2] fun x_1 y=>Aa (List.elem x_1.2 x_1.1) (rA HA x [AV.sl true (0:Nat) (1:Nat) (List UInt8) Ag x.1,.top,.top]) (∃(x_2:List UInt8),x.2=x_2∧∃(zs:List (List UInt8)),AV.sl true (0:Nat) (1:Nat) (List UInt8) Ag [x_2]=AV.sl true (0:Nat) (1:Nat) (List UInt8) Ag zs∧BF Ag∧Ba (List.length x.1+List.length zs) (16:Nat)∧rA HA x [AV.sl true (0:Nat) (1:Nat) (List UInt8) Ag (x.1++zs),.top,.top])) (fun x=>by kernel_rfl) fun(x:List (List UInt8)×List UInt8) (hx:x.1.length≤2^40)=>(by
 dsimp only[cA,BX,Ed,rA,GT,HA,Au,Ax,mvL,lnL,mvE,lnE]
 have hx:x.1.length≤2^40:=hx
 (repeat' first|(with_reducible first|rfl|exact True.intro|apply AJ|apply And.intro|((first|apply Az|apply AH|apply AA|apply AI)<;>intro _))|(apply Av<;>intro _)|apply AG|refine Af () ?_ ?_|((first|apply AO|apply AN|apply AM|apply AL|apply AF|apply AE|apply AD|apply AC|apply AB)<;>try dsimp only)|apply Af|(refine Prod.forall.2 ?_;intro _;try dsimp only)|(intro _;try dsimp only))
 all_goals first
  |rfl
  |omega
  |exact ZK ‹_›
  |exact ZL ‹_›
  |(simp only[AR,Ba,List.length_cons,List.length_nil];omega)
  |skip)
noncomputable def HB:Sig:= {X:=List (List UInt8)×List UInt8,args:=fun x=>[BX x.1,.str x.2],pre:=fun x=>x.1.length≤2^40,Y:=Unit,post:=fun x y=>True,res:=fun x y=>BX (CY x.1 x.2),outs:=fun x y=>[.top,.top],keep:=false}
theorem ZO:Am G Tryz.prog 78 HB:=
 vcFun_okP [(95,0,Im)] [(38,⟨List UInt8,Ag⟩)] false (fun x=>[]) Tryz.func78 rfl (by decide) ⟨ZM,trivial⟩ (fun(x:List (List UInt8)×List UInt8)=>(∀(y:Unit),True→(∀(x:List UInt8),True∧True)∧True∧True∧True)∧cA Im [AV.sl true (0:Nat) (1:Nat) (List UInt8) Ag x.1,.str x.2] fun x_1 y=>Aa (List.elem x_1.2 x_1.1) (rA HB x [AV.sl true (0:Nat) (1:Nat) (List UInt8) Ag x.1,.top,.top]) (∃(x_2:List UInt8),x.2=x_2∧∃(zs:List (List UInt8)),AV.sl true (0:Nat) (1:Nat) (List UInt8) Ag [x_2]=AV.sl true (0:Nat) (1:Nat) (List UInt8) Ag zs∧BF Ag∧Ba (List.length x.1+List.length zs) (16:Nat)∧rA HB x [AV.sl true (0:Nat) (1:Nat) (List UInt8) Ag (x.1++zs),.top,.top])) (fun x=>by kernel_rfl) fun(x:List (List UInt8)×List UInt8) (hx:x.1.length≤2^40)=>(by
 dsimp only[cA,BX,Ed,rA,Im,HB,Au,Ax,mvL,lnL,mvE,lnE]
 have hx:x.1.length≤2^40:=hx
 (repeat' first|(with_reducible first|rfl|exact True.intro|apply AJ|apply And.intro|((first|apply Az|apply AH|apply AA|apply AI)<;>intro _))|(apply Av<;>intro _)|apply AG|refine Af () ?_ ?_|((first|apply AO|apply AN|apply AM|apply AL|apply AF|apply AE|apply AD|apply AC|apply AB)<;>try dsimp only)|apply Af|(refine Prod.forall.2 ?_;intro _;try dsimp only)|(intro _;try dsimp only))
 all_goals first
  |rfl
  |omega
  |exact ZK ‹_›
  |exact ZL ‹_›
  |(simp only[AR,Ba,List.length_cons,List.length_nil];omega)
  |skip)
theorem UK{α:Type}{f:List (List UInt8)→α→List (List UInt8)}(hf:∀o e,(f o e).length≤o.length+1){l:List α}{i:Int}:(fdl f [] l i).length≤l.length:=by
 have:=OG hf (l.take i.toNat) []
 rw[List.length_take] at this;unfold fdl;simp at this;omega
def nsI(x:List Nd×Int)(i:Int)(o:List (List UInt8)):Prop:=((0≤i∧i≤(Ah x.1 x.2).length)∧x.1.length≤2^30)∧o=fdl (nmF x.1) [] (Ah x.1 x.2) i
theorem ZP{x:List Nd×Int}(h:x.1.length≤2^30):nsI x 0 []:=⟨⟨by omega,h⟩,QU.symm⟩
theorem ZQ{x:List Nd×Int}{i:Int}{o:List (List UInt8)}(h:nsI x i o):((0≤i∧i≤(Ah x.1 x.2).length)∧(Ah x.1 x.2).length≤2^30)∧o.length≤2^30:=by
 have h1:= @Hz x.1 x.2;have h2:=h.1.2
 refine⟨⟨h.1.1,by omega⟩,?_⟩
 rw[h.2];have:=UK (Zy x.1) (l:=Ah x.1 x.2) (i:=i);omega
theorem Rb{x:List Nd×Int}{i c:Int}(hc:(Ah x.1 x.2)[i.toNat]? =some c):0≤c∧c<x.1.length:=(JL (List.mem_of_getElem? hc)).1
theorem ZR{x:List Nd×Int}{i c:Int}{e:Nd}{o:List (List UInt8)}(h:nsI x i o)(hc:(Ah x.1 x.2)[i.toNat]? =some c)(he:x.1[c.toNat]? =some e)(hk:e.kind=1):nsI x (i+1) (CY o e.text):=by
 have hl:=(List.getElem?_eq_some_iff.1 hc).1
 obtain⟨⟨h1,h2⟩,h3⟩:=h
 exact⟨⟨by omega,h2⟩,by rw[Il h1.1 hc,←h3,nmF,Bd,Bg he,if_pos hk]⟩
theorem ZS{x:List Nd×Int}{i c:Int}{e:Nd}{o:List (List UInt8)}(h:nsI x i o)(hc:(Ah x.1 x.2)[i.toNat]? =some c)(he:x.1[c.toNat]? =some e)(hk:¬e.kind=1):nsI x (i+1) o:=by
 have hl:=(List.getElem?_eq_some_iff.1 hc).1
 obtain⟨⟨h1,h2⟩,h3⟩:=h
 exact⟨⟨by omega,h2⟩,by rw[Il h1.1 hc,←h3,nmF,Bd,Bg he,if_neg hk]⟩
theorem ZT{x:List Nd×Int}{i:Int}{o:List (List UInt8)}(h:nsI x i o)(hl:¬i<((Ah x.1 x.2).length:Int)):o=Bz x.1 x.2:=by rw[h.2,QV hl];rfl
attribute [local irreducible] Ah Bz Bh CY fdl
noncomputable def IT:Sig:= {X:=List Nd×Int,args:=fun x=>[nds x.1,.int .i64 x.2],pre:=fun x=>Be x.1∧x.1.length≤2^30,Y:=Unit,post:=fun x y=>True,res:=fun x y=>BX (Bz x.1 x.2),outs:=fun x y=>[.top,.top],keep:=false}
noncomputable def OK (x:List Nd×Int):LS:= {ι:=Int×List (List UInt8),inv:=fun i=>nsI x i.1 i.2,regs:=fun i=>[(0,nds x.1),(5,BX i.2),(10,Ab (Ah x.1 x.2)),(11,.int .i64 (Ah x.1 x.2).length),(12,.int .i64 i.1)],als:=[],meas:=fun i=>(Ah x.1 x.2).length-i.1.toNat}
theorem ZU:Am G Tryz.prog 22 IT:=
 vcFun_okP [(31,0,Dx),(76,0,HA)] [(38,⟨List UInt8,Ag⟩),(26,⟨Int,Bj⟩)] false (fun x=>[(3,OK x)]) Tryz.func22 rfl (by decide) ⟨Mw,ZN,trivial⟩ (fun(x:List Nd×Int)=>(∀(y:Unit),True→(∀(x:List UInt8),True∧True)∧True∧True∧True)∧cA Dx [nds x.1,.int .i64 x.2] fun x_1 y=>eA (OK x) [nds x.1,.nil,Ab (Ah x_1.1 x_1.2),.int .i64 (↑(List.length (Ah x_1.1 x_1.2)):Int),.int .i64 (0:Int)]∧∀(i:Int×List (List UInt8)),nsI x i.1 i.2→Aa (decide (i.1<(↑(List.length (Ah x.1 x.2)):Int))) (((0:Int)≤i.1∧i.1<(↑(List.length (Ah x.1 x.2)):Int))∧Int.toNat i.1<List.length (Ah x.1 x.2)∧∀(x_2:Int),(Ah x.1 x.2)[Int.toNat i.1]? =some x_2→((0:Int)≤x_2∧x_2<(↑(List.length x.1):Int))∧∀(e:Nd),x.1[Int.toNat x_2]? =some e→Aa (e.kind==(1:Int)) (((0:Int)≤x_2∧x_2<(↑(List.length x.1):Int))∧∀(e:Nd),x.1[Int.toNat x_2]? =some e→cA HA [AV.sl true (0:Nat) (1:Nat) (List UInt8) Ag i.2,.str e.text] fun x_3 y=>inR IntKind.i64 (i.1+(1:Int))∧eN (OK x) i [nds x.1,AV.sl true (0:Nat) (1:Nat) (List UInt8) Ag (CY x_3.1 x_3.2),Ab (Ah x.1 x.2),.int .i64 (↑(List.length (Ah x.1 x.2)):Int),.int .i64 (i.1+(1:Int))]) (inR IntKind.i64 (i.1+(1:Int))∧eN (OK x) i [nds x.1,AV.sl true (0:Nat) (1:Nat) (List UInt8) Ag i.2,Ab (Ah x.1 x.2),.int .i64 (↑(List.length (Ah x.1 x.2)):Int),.int .i64 (i.1+(1:Int))])) (rA IT x [AV.sl true (0:Nat) (1:Nat) (List UInt8) Ag i.2,.top,.top])) (fun x=>by kernel_rfl) fun(x:List Nd×Int) (hx:Be x.1∧x.1.length≤2^30)=>(by
 dsimp only[BO,cA,eA,eN,OK,Bn,nds,BX,Ab,rA,HA,IT,Dx,Au,Ax,mvL,lnL,mvE,lnE,Bm]
 obtain⟨h1,h2⟩:=hx
 (repeat' first|(with_reducible first|rfl|exact True.intro|apply AJ|apply And.intro|((first|apply Az|apply AH|apply AA|apply AI)<;>intro _))|(apply Av<;>intro _)|apply AG|refine Af () ?_ ?_|((first|apply AO|apply AN|apply AM|apply AL|apply AF|apply AE|apply AD|apply AC|apply AB)<;>try dsimp only)|apply Af|(refine Prod.forall.2 ?_;intro _;try dsimp only)|(intro _;try dsimp only))
 all_goals(try(have hB:=ZQ (show nsI _ _ _ by assumption)))
 all_goals(try(repeat(rename(_:List Int)[_]? =some _=>hq;revert hq;rename(_:List Int)[_]? =some _=>hr;intro hq;rw[hr] at hq;cases hq)))
 all_goals(try(repeat(rename(_:List Nd)[_]? =some _=>hq;revert hq;rename(_:List Nd)[_]? =some _=>hr;intro hq;rw[hr] at hq;cases hq)))
 all_goals first
  |rfl
  |omega
  |exact h1
  |exact ZP h2
  |exact(Rb ‹_›).1
  |exact(Rb ‹_›).2
  |exact ZR ‹_› ‹_› ‹_› ‹_›
  |exact ZS ‹_› ‹_› ‹_› ‹_›
  |exact ZT ‹_› ‹_›
  |((try simp only[AR]);omega)
  |skip)
noncomputable def GU:Sig:= {X:=List Nd×Int,args:=fun x=>[nds x.1,.int .i64 x.2],pre:=fun x=>Be x.1∧x.1.length≤2^30,Y:=Unit,post:=fun x y=>True,res:=fun x y=>BX (Bz x.1 x.2),outs:=fun x y=>[.top,.top],keep:=false}
noncomputable def OL (x:List Nd×Int):LS:= {ι:=Int×List (List UInt8),inv:=fun i=>nsI x i.1 i.2,regs:=fun i=>[(0,nds x.1),(5,BX i.2),(6,Ab (Ah x.1 x.2)),(7,.int .i64 i.1)],als:=[],meas:=fun i=>(Ah x.1 x.2).length-i.1.toNat}
theorem UL:Am G Tryz.prog 24 GU:=
 vcFun_okP [(40,0,Dy),(78,0,HB)] [(38,⟨List UInt8,Ag⟩),(26,⟨Int,Bj⟩)] false (fun x=>[(4,OL x)]) Tryz.func24 rfl (by decide) ⟨Mx,ZO,trivial⟩ (fun(x:List Nd×Int)=>(∀(y:Unit),True→(∀(x:List UInt8),True∧True)∧True∧True∧True)∧cA Dy [nds x.1,.int .i64 x.2] fun x_1 y=>eA (OL x) [nds x.1,AV.sl true (0:Nat) (1:Nat) (List UInt8) Ag [],Ab (Ah x_1.1 x_1.2),.int .i64 (0:Int)]∧∀(i:Int×List (List UInt8)),nsI x i.1 i.2→Aa (decide (i.1<(↑(List.length (Ah x.1 x.2)):Int))) (((0:Int)≤i.1∧i.1<(↑(List.length (Ah x.1 x.2)):Int))∧Int.toNat i.1<List.length (Ah x.1 x.2)∧∀(x_2:Int),(Ah x.1 x.2)[Int.toNat i.1]? =some x_2→((0:Int)≤x_2∧x_2<(↑(List.length x.1):Int))∧∀(e:Nd),x.1[Int.toNat x_2]? =some e→Aa (e.kind==(1:Int)) (((0:Int)≤i.1∧i.1<(↑(List.length (Ah x.1 x.2)):Int))∧Int.toNat i.1<List.length (Ah x.1 x.2)∧∀(x_3:Int),(Ah x.1 x.2)[Int.toNat i.1]? =some x_3→((0:Int)≤x_3∧x_3<(↑(List.length x.1):Int))∧∀(e:Nd),x.1[Int.toNat x_3]? =some e→cA HB [AV.sl true (0:Nat) (1:Nat) (List UInt8) Ag i.2,.str e.text] fun x_4 y=>inR IntKind.i64 (i.1+(1:Int))∧eN (OL x) i [nds x.1,AV.sl true (0:Nat) (1:Nat) (List UInt8) Ag (CY x_4.1 x_4.2),Ab (Ah x.1 x.2),.int .i64 (i.1+(1:Int))]) (inR IntKind.i64 (i.1+(1:Int))∧eN (OL x) i [nds x.1,AV.sl true (0:Nat) (1:Nat) (List UInt8) Ag i.2,Ab (Ah x.1 x.2),.int .i64 (i.1+(1:Int))])) (rA GU x [AV.sl true (0:Nat) (1:Nat) (List UInt8) Ag i.2,.top,.top])) (fun x=>by kernel_rfl) fun(x:List Nd×Int) (hx:Be x.1∧x.1.length≤2^30)=>(by
 dsimp only[BO,cA,eA,eN,OL,Bn,nds,BX,Ab,rA,HB,GU,Dy,Au,Ax,mvL,lnL,mvE,lnE,Bm]
 obtain⟨h1,h2⟩:=hx
 (repeat' first|(with_reducible first|rfl|exact True.intro|apply AJ|apply And.intro|((first|apply Az|apply AH|apply AA|apply AI)<;>intro _))|(apply Av<;>intro _)|apply AG|refine Af () ?_ ?_|((first|apply AO|apply AN|apply AM|apply AL|apply AF|apply AE|apply AD|apply AC|apply AB)<;>try dsimp only)|apply Af|(refine Prod.forall.2 ?_;intro _;try dsimp only)|(intro _;try dsimp only))
 all_goals(try(have hB:=ZQ (show nsI _ _ _ by assumption)))
 all_goals(try(repeat(rename(_:List Int)[_]? =some _=>hq;revert hq;rename(_:List Int)[_]? =some _=>hr;intro hq;rw[hr] at hq;cases hq)))
 all_goals(try(repeat(rename(_:List Nd)[_]? =some _=>hq;revert hq;rename(_:List Nd)[_]? =some _=>hr;intro hq;rw[hr] at hq;cases hq)))
 all_goals first
  |rfl
  |omega
  |exact h1
  |exact ZP h2
  |exact(Rb ‹_›).1
  |exact(Rb ‹_›).2
  |exact ZR ‹_› ‹_› ‹_› ‹_›
  |exact ZS ‹_› ‹_› ‹_› ‹_›
  |exact ZT ‹_› ‹_›
  |((try simp only[AR]);omega)
  |skip)
end Go.My
end
section
set_option linter.unusedVariables false
set_option linter.unusedSimpArgs false
namespace Go.My
open Go.Eng Go.Proofs
variable {G:GInv}
def fnK(k:Int):Bool:=decide (k=9)||decide (k=20)
def dlk(ns:List Nd)(L:List Int)(i:Int):List Int:=(Ai ns (L.getD i.toNat 0)).kids.dropLast
theorem a8T{ns:List Nd}{L:List Int}{i c:Int}{e:Nd}(hc:L[i.toNat]? =some c)(he:ns[c.toNat]? =some e):dlk ns L i=e.kids.dropLast:=by
 rw[dlk,List.getD,hc];simp only[Option.getD_some];rw[Bg he]
def EZ(ns:List Nd)(L:List Int):Prop:=L.length≤2^30∧∀p∈L,(0≤p∧p<ns.length)∧BT ns p=true
theorem a8U{ns:List Nd}{k:Int}(h:ns.length≤2^30):EZ ns (Ah ns k):=⟨by have:= @Hz ns k;omega,fun p hp=>JL hp⟩
def bnI(ns:List Nd)(L:List Int)(i:Int)(m:List Bool):Prop:=(EZ ns L∧0≤i∧i≤L.length)∧MK ns.length (fun j=>CK ns (L.take i.toNat) j=true) m
def bnJ(ns:List Nd)(L:List Int)(i t:Int)(m:List Bool):Prop:=(EZ ns L∧0≤i∧i<L.length)∧((0≤t∧t≤(dlk ns L i).length)∧(fnK (Bd ns (L.getD i.toNat 0))=true∨t=0))∧MK ns.length (fun j=>CK ns (L.take i.toNat) j=true∨j∈(dlk ns L i).take t.toNat) m
theorem ZV{ns:List Nd}{L:List Int}(h:EZ ns L):bnI ns L 0 (List.replicate ns.length false):=
 ⟨⟨h,by omega,by omega⟩,OA fun j hj=>by simp [CK] at hj⟩
theorem ZW{ns:List Nd}{L:List Int}{i:Int}{m:List Bool}(h:bnI ns L i m):((0≤i∧i≤L.length)∧L.length≤2^30)∧m.length=ns.length:=⟨⟨h.1.2,h.1.1.1⟩,h.2.1⟩
theorem Rc{ns:List Nd}{L:List Int}{i c:Int}{m:List Bool}(h:bnI ns L i m)(hc:L[i.toNat]? =some c):0≤c∧c<ns.length:=(h.1.1.2 c (List.mem_of_getElem? hc)).1
theorem a8V{ns:List Nd}{L:List Int}{i c:Int}{m:List Bool}{e:Nd}(h:bnI ns L i m)(hc:L[i.toNat]? =some c)(he:ns[c.toNat]? =some e):e.kids.length≤12∧(e.kind=9∨e.kind=20→1≤e.kids.length):=by
 have hn:=DC (h.1.1.2 c (List.mem_of_getElem? hc)).2
 rw[Bg he] at hn
 refine⟨hn.2.1,fun hk=> ?_⟩
 have h6:=hn.2.2.2.2.2.1
 rcases Nat.eq_zero_or_pos e.kids.length with h0|h0
 ·have:e.kids=[]:=List.length_eq_zero_iff.1 h0
  rw[this] at h6
  rcases hk with hk|hk<;>rw[hk] at h6<;>simp [DQ,GK] at h6
 ·exact h0
theorem UM{ns:List Nd}{L:List Int}{i c:Int}{m:List Bool}(h:bnI ns L i m)(hc:L[i.toNat]? =some c):bnJ ns L i 0 m:=by
 have hl:=(List.getElem?_eq_some_iff.1 hc).1
 exact⟨⟨h.1.1,h.1.2.1,by have:=h.1.2;omega⟩,⟨⟨by omega,by omega⟩,.inr rfl⟩,GR h.2 fun j=>by simp⟩
theorem ZX{ns:List Nd}{L:List Int}{i t:Int}{m:List Bool}(h:bnJ ns L i t m):(((0≤i∧i<L.length)∧L.length≤2^30)∧(0≤t∧t≤(dlk ns L i).length)∧(dlk ns L i).length≤12)∧m.length=ns.length:=by
 refine⟨⟨⟨h.1.2,h.1.1.1⟩,h.2.1.1,?_⟩,h.2.2.1⟩
 have hm:L.getD i.toNat 0∈L:=by
  have hlt:i.toNat<L.length:=by have:=h.1.2;omega
  rw[List.getD,List.getElem?_eq_getElem hlt];simp
 have:=(DC (h.1.1.2 _ hm).2).2.1
 rw[dlk,List.length_dropLast];omega
theorem UN{ns:List Nd}{L:List Int}{i t d:Int}{m:List Bool}(h:bnJ ns L i t m)(hd:(dlk ns L i)[t.toNat]? =some d):0≤d∧d<ns.length:=by
 have hlt:i.toNat<L.length:=by have:=h.1.2;omega
 have hm:L.getD i.toNat 0∈L:=by rw[List.getD,List.getElem?_eq_getElem hlt];simp
 have hn:=h.1.1.2 _ hm
 have:=(DC hn.2).2.2.2.1 d (List.dropLast_subset _ (List.mem_of_getElem? hd))
 omega
theorem ZY{ns:List Nd}{L:List Int}{i t d:Int}{m:List Bool}(h:bnJ ns L i t m)(hk:fnK (Bd ns (L.getD i.toNat 0))=true)(hd:(dlk ns L i)[t.toNat]? =some d):bnJ ns L i (t+1) (m.set d.toNat true):=by
 have hb:=UN h hd
 have hl:=(List.getElem?_eq_some_iff.1 hd).1
 obtain⟨h1,⟨h2,h3⟩,h4⟩:=h
 refine⟨h1,⟨⟨by omega,by omega⟩,.inl hk⟩,GR (UF h4 hb) fun j=> ?_⟩
 rw[show(t+1).toNat=t.toNat+1 by omega,List.take_add_one,hd]
 simp only[Option.toList,List.mem_append,List.mem_singleton]
 constructor
 ·rintro((h|h)|h)
  ·exact .inl h
  ·exact .inr (.inl h)
  ·exact .inr (.inr h)
 ·rintro(h|h|h)
  ·exact .inl (.inl h)
  ·exact .inl (.inr h)
  ·exact .inr h
theorem a8W{ns:List Nd}{L:List Int}{i:Int}{j:Int}(h0:0≤i)(hl:i<L.length):CK ns (L.take (i+1).toNat) j=(CK ns (L.take i.toNat) j||(fnK (Bd ns (L.getD i.toNat 0))&&(dlk ns L i).elem j)):=by
 have hlt:i.toNat<L.length:=by omega
 rw[show(i+1).toNat=i.toNat+1 by omega,List.take_add_one,List.getElem?_eq_getElem hlt]
 simp only[CK,Option.toList,List.any_append,List.any_cons,List.any_nil,Bool.or_false,dlk,fnK,List.getD,List.getElem?_eq_getElem hlt,Option.getD_some]
theorem OM{ns:List Nd}{L:List Int}{i t:Int}{m:List Bool}(h:bnJ ns L i t m)(he:(fnK (Bd ns (L.getD i.toNat 0))=true∧¬t<((dlk ns L i).length:Int))∨fnK (Bd ns (L.getD i.toNat 0))=false):bnI ns L (i+1) m:=by
 obtain⟨h1,⟨h2,h3⟩,h4⟩:=h
 refine⟨⟨h1.1,by omega,by omega⟩,GR h4 fun j=> ?_⟩
 rw[a8W h1.2.1 h1.2.2,Bool.or_eq_true,Bool.and_eq_true,List.elem_iff]
 rcases he with⟨hk,hl⟩|hk
 ·rw[hk,List.take_of_length_le (l:=dlk ns L i) (by omega)];simp only[true_and]
 ·rcases h3 with h3|h3
  ·rw[h3] at hk;cases hk
  ·subst h3;rw[hk];simp
theorem a8X{ns:List Nd}{L:List Int}{i c:Int}{m:List Bool}{e:Nd}(h:bnI ns L i m)(hc:L[i.toNat]? =some c)(he:ns[c.toNat]? =some e)(h1:¬e.kind=9)(h2:¬e.kind=20):bnI ns L (i+1) m:=by
 refine OM (UM h hc) (.inr ?_)
 rw[Bd,List.getD,hc];simp only[Option.getD_some];rw[Bg he,fnK];simp [h1,h2]
theorem a8Y{ns:List Nd}{L:List Int}{i c:Int}{e:Nd}(hc:L[i.toNat]? =some c)(he:ns[c.toNat]? =some e):fnK (Bd ns (L.getD i.toNat 0))=fnK e.kind:=by
 rw[Bd,List.getD,hc];simp only[Option.getD_some];rw[Bg he]
def GV(ns:List Nd)(L:List Int)(i t:Int)(m:List Bool):Prop:=bnJ ns L i t m∧fnK (Bd ns (L.getD i.toNat 0))=true
theorem a8Z{ns:List Nd}{L:List Int}{i c:Int}{m:List Bool}{e:Nd}(h:bnI ns L i m)(hc:L[i.toNat]? =some c)(he:ns[c.toNat]? =some e)(hk:(decide (e.kind=9)||decide (e.kind=20))=true):GV ns L i 0 m:=⟨UM h hc,by rw[a8Y hc he];exact hk⟩
theorem a9a{ns:List Nd}{L:List Int}{i t:Int}{m:List Bool}(h:GV ns L i t m):(((0≤i∧i<L.length)∧L.length≤2^30)∧(0≤t∧t≤(dlk ns L i).length)∧(dlk ns L i).length≤12)∧m.length=ns.length:=ZX h.1
theorem a9b{ns:List Nd}{L:List Int}{i t d:Int}{m:List Bool}(h:GV ns L i t m)(hd:(dlk ns L i)[t.toNat]? =some d):0≤d∧d<ns.length:=UN h.1 hd
theorem a9c{ns:List Nd}{L:List Int}{i t d:Int}{m:List Bool}(h:GV ns L i t m)(hd:(dlk ns L i)[t.toNat]? =some d):GV ns L i (t+1) (m.set d.toNat true):=⟨ZY h.1 h.2 hd,h.2⟩
theorem a9d{ns:List Nd}{L:List Int}{i t:Int}{m:List Bool}(h:GV ns L i t m)(hl:¬t<((dlk ns L i).length:Int)):bnI ns L (i+1) m:=OM h.1 (.inl ⟨h.2,hl⟩)
theorem ZZ{ns:List Nd}{L:List Int}{i:Int}{m:List Bool}(h:bnI ns L i m)(hl:¬i<(L.length:Int)):MK ns.length (fun j=>CK ns L j=true) m:=by
 have:=h.2;rw[List.take_of_length_le (by omega)] at this;exact this
theorem a0a{ns:List Nd}{L:List Int}{i c:Int}{e:Nd}(hc:L[i.toNat]? =some c)(he:ns[c.toNat]? =some e)(h:1≤e.kids.length):e.kids.take ((e.kids.length:Int)-1).toNat=dlk ns L i:=by
 rw[a8T hc he,List.dropLast_eq_take];congr 1;omega
theorem a9e{ns:List Nd}{L:List Int}{i c:Int}{e:Nd}(hc:L[i.toNat]? =some c)(he:ns[c.toNat]? =some e):e=Ai ns (L.getD i.toNat 0):=by
 rw[List.getD,hc];simp only[Option.getD_some];rw[Bg he]
theorem a0b{ns:List Nd}{L:List Int}{i:Int}:(dlk ns L i).length=(Ai ns (L.getD i.toNat 0)).kids.length-1:=by rw[dlk,List.length_dropLast]
theorem a0c{ns:List Nd}{L:List Int}{i t d:Int}(h:(Ai ns (L.getD i.toNat 0)).kids[t.toNat]? =some d)(hl:t+1<(Ai ns (L.getD i.toNat 0)).kids.length)(h0:0≤t):(dlk ns L i)[t.toNat]? =some d:=by
 rw[dlk,List.getElem?_dropLast,if_pos (by omega)];exact h
theorem a9f{ns:List Nd}{L:List Int}{i t:Int}{m:List Bool}(h:bnJ ns L i t m):(Ai ns (L.getD i.toNat 0)).kids.length≤12:=by
 have hlt:i.toNat<L.length:=by have:=h.1.2;omega
 have hm:L.getD i.toNat 0∈L:=by rw[List.getD,List.getElem?_eq_getElem hlt];simp
 exact(DC (h.1.1.2 _ hm).2).2.1
theorem a9g{ns:List Nd}{L:List Int}{i t:Int}{m:List Bool}(h:bnJ ns L i t m)(he:¬t+1<((Ai ns (L.getD i.toNat 0)).kids.length:Int)):bnI ns L (i+1) m:=by
 cases hk:fnK (Bd ns (L.getD i.toNat 0)) with
 |false=>exact OM h (.inr hk)
 |true=>exact OM h (.inl ⟨hk,by rw[a0b];have:=h.2.1.1;omega⟩)
theorem a9h{ns:List Nd}{L:List Int}{i t:Int}{m:List Bool}(h:bnJ ns L i t m)(h9:¬(Ai ns (L.getD i.toNat 0)).kind=9)(h20:¬(Ai ns (L.getD i.toNat 0)).kind=20):bnI ns L (i+1) m:=
 OM h (.inr (by unfold Bd fnK;rw[decide_eq_false h9,decide_eq_false h20];rfl))
def Mz(x:List Nd×List Int)(i:Int×List Bool):LS:= {
 ι:=Int×List Bool,inv:=fun j=>GV x.1 x.2 i.1 j.1 j.2,
 regs:=fun j=>[(0,nds x.1),(5,BO j.2),(14,Aq x.2),(15,.int .i64 x.2.length),(16,.int .i64 i.1),(38,Aq (dlk x.1 x.2 i.1)),(39,.int .i64 (dlk x.1 x.2 i.1).length),(40,.int .i64 j.1)],als:=[],meas:=fun j=>(dlk x.1 x.2 i.1).length-j.1.toNat}
def MA(x:List Nd×List Int):LS:= {
 ι:=Int×List Bool,inv:=fun i=>bnI x.1 x.2 i.1 i.2,
 regs:=fun i=>[(0,nds x.1),(5,BO i.2),(14,Aq x.2),(15,.int .i64 x.2.length),(16,.int .i64 i.1)],als:=[],meas:=fun i=>x.2.length-i.1.toNat,sub:=fun i=>[(8,Mz x i)]}
def ON(x:List Nd×List Int)(i:Int×List Bool):LS:= {
 ι:=Int×List Bool,inv:=fun j=>bnJ x.1 x.2 i.1 j.1 j.2,
 regs:=fun j=>[(0,nds x.1),(1,Aq x.2),(5,BO j.2),(6,.int .i64 i.1),(7,.box 0 (ndA false (Ai x.1 (x.2.getD i.1.toNat 0)))),(8,.int .i64 j.1)],als:=[],meas:=fun j=>(dlk x.1 x.2 i.1).length-j.1.toNat}
def OO(x:List Nd×List Int):LS:= {
 ι:=Int×List Bool,inv:=fun i=>bnI x.1 x.2 i.1 i.2,
 regs:=fun i=>[(0,nds x.1),(1,Aq x.2),(5,BO i.2),(6,.int .i64 i.1)],als:=[],meas:=fun i=>x.2.length-i.1.toNat,sub:=fun i=>[(7,ON x i)]}
attribute [local irreducible] bnI bnJ GV EZ dlk MK Ah
noncomputable def IU:Sig:= {X:=List Nd×List Int,args:=fun x=>[nds x.1,Aq x.2],pre:=fun x=>(Be x.1∧x.1.length≤2^30)∧EZ x.1 x.2,Y:=List Bool×Unit,post:=fun x y=>MK x.1.length (fun j=>CK x.1 x.2 j=true) y.1,res:=fun x y=>BO y.1,outs:=fun x y=>[.top,.top],keep:=false}
theorem a0d:Am G Tryz.prog 75 IU:=
 vcFun_okP [] [(76,⟨Bool,Bo⟩)] false (fun x=>[(3,MA x)]) Tryz.func75 rfl (by decide) trivial (fun(x:List Nd×List Int)=>(∀(y:List Bool×Unit),MK (List.length x.1) (fun(j:Int)=>CK x.1 x.2 j=true) y.1→(∀(x:Bool),True∧True)∧True∧True∧True)∧((0:Int)≤(↑(List.length x.1):Int)∧(↑(List.length x.1):Int)≤(↑(List.length x.1):Int)∧(↑(1:Nat):Int)*(↑(List.length x.1):Int)≤(2:Int)^(46:Nat)∧(↑(List.length x.1):Int)≤(2:Int)^(46:Nat))∧∃(x_1:Bool),false=x_1∧eA (MA x) [nds x.1,AV.sl true (0:Nat) (1:Nat) Bool Bo (List.replicate (Int.toNat (↑(List.length x.1):Int)) x_1),Aq x.2,.int .i64 (↑(List.length x.2):Int),.int .i64 (0:Int)]∧∀(i:Int×List Bool),bnI x.1 x.2 i.1 i.2→Aa (decide (i.1<(↑(List.length x.2):Int))) (((0:Int)≤i.1∧i.1<(↑(List.length x.2):Int))∧∀(e:Int),x.2[Int.toNat i.1]? =some e→((0:Int)≤e∧e<(↑(List.length x.1):Int))∧∀(e_1:Nd),x.1[Int.toNat e]? =some e_1→Aa (e_1.kind==(9:Int)) (inR IntKind.i64 ((↑(List.length e_1.kids):Int)-(1:Int))∧((0:Int)≤(0:Int)∧(0:Int)≤(↑(List.length e_1.kids):Int)-(1:Int)∧(↑(List.length e_1.kids):Int)-(1:Int)≤(↑(List.length e_1.kids):Int))∧eA (Mz x i) [nds x.1,AV.sl true (0:Nat) (1:Nat) Bool Bo i.2,Aq x.2,.int .i64 (↑(List.length x.2):Int),.int .i64 i.1,Aq (List.take (Int.toNat ((↑(List.length e_1.kids):Int)-(1:Int))) e_1.kids),.int .i64 (↑(List.length (List.take (Int.toNat ((↑(List.length e_1.kids):Int)-(1:Int))) e_1.kids)):Int),.int .i64 (0:Int)]∧∀(i_1:Int×List Bool),GV x.1 x.2 i.1 i_1.1 i_1.2→Aa (decide (i_1.1<(↑(List.length (dlk x.1 x.2 i.1)):Int))) (((0:Int)≤i_1.1∧i_1.1<(↑(List.length (dlk x.1 x.2 i.1)):Int))∧∀(e:Int),(dlk x.1 x.2 i.1)[Int.toNat i_1.1]? =some e→((0:Int)≤e∧e<(↑(List.length i_1.2):Int))∧Int.toNat e<List.length i_1.2∧∀(x_2:Bool),i_1.2[Int.toNat e]? =some x_2→∃(x':Bool),((@List.nil AV)=[]∧(@List.nil AV)=[])∧true=x'∧inR IntKind.i64 (i_1.1+(1:Int))∧eN (Mz x i) i_1 [nds x.1,AV.sl true (0:Nat) (1:Nat) Bool Bo (List.set i_1.2 (Int.toNat e) x'),Aq x.2,.int .i64 (↑(List.length x.2):Int),.int .i64 i.1,Aq (dlk x.1 x.2 i.1),.int .i64 (↑(List.length (dlk x.1 x.2 i.1)):Int),.int .i64 (i_1.1+(1:Int))]) (inR IntKind.i64 (i.1+(1:Int))∧eN (MA x) i [nds x.1,AV.sl true (0:Nat) (1:Nat) Bool Bo i_1.2,Aq x.2,.int .i64 (↑(List.length x.2):Int),.int .i64 (i.1+(1:Int))])) (Aa (e_1.kind==(20:Int)) (inR IntKind.i64 ((↑(List.length e_1.kids):Int)-(1:Int))∧((0:Int)≤(0:Int)∧(0:Int)≤(↑(List.length e_1.kids):Int)-(1:Int)∧(↑(List.length e_1.kids):Int)-(1:Int)≤(↑(List.length e_1.kids):Int))∧eA (Mz x i) [nds x.1,AV.sl true (0:Nat) (1:Nat) Bool Bo i.2,Aq x.2,.int .i64 (↑(List.length x.2):Int),.int .i64 i.1,Aq (List.take (Int.toNat ((↑(List.length e_1.kids):Int)-(1:Int))) e_1.kids),.int .i64 (↑(List.length (List.take (Int.toNat ((↑(List.length e_1.kids):Int)-(1:Int))) e_1.kids)):Int),.int .i64 (0:Int)]∧∀(i_1:Int×List Bool),GV x.1 x.2 i.1 i_1.1 i_1.2→Aa (decide (i_1.1<(↑(List.length (dlk x.1 x.2 i.1)):Int))) (((0:Int)≤i_1.1∧i_1.1<(↑(List.length (dlk x.1 x.2 i.1)):Int))∧∀(e:Int),(dlk x.1 x.2 i.1)[Int.toNat i_1.1]? =some e→((0:Int)≤e∧e<(↑(List.length i_1.2):Int))∧Int.toNat e<List.length i_1.2∧∀(x_2:Bool),i_1.2[Int.toNat e]? =some x_2→∃(x':Bool),((@List.nil AV)=[]∧(@List.nil AV)=[])∧true=x'∧inR IntKind.i64 (i_1.1+(1:Int))∧eN (Mz x i) i_1 [nds x.1,AV.sl true (0:Nat) (1:Nat) Bool Bo (List.set i_1.2 (Int.toNat e) x'),Aq x.2,.int .i64 (↑(List.length x.2):Int),.int .i64 i.1,Aq (dlk x.1 x.2 i.1),.int .i64 (↑(List.length (dlk x.1 x.2 i.1)):Int),.int .i64 (i_1.1+(1:Int))]) (inR IntKind.i64 (i.1+(1:Int))∧eN (MA x) i [nds x.1,AV.sl true (0:Nat) (1:Nat) Bool Bo i_1.2,Aq x.2,.int .i64 (↑(List.length x.2):Int),.int .i64 (i.1+(1:Int))])) (inR IntKind.i64 (i.1+(1:Int))∧eN (MA x) i [nds x.1,AV.sl true (0:Nat) (1:Nat) Bool Bo i.2,Aq x.2,.int .i64 (↑(List.length x.2):Int),.int .i64 (i.1+(1:Int))]))) (rA IU x [AV.sl true (0:Nat) (1:Nat) Bool Bo i.2,.top,.top])) (fun x=>by kernel_rfl) fun(x:List Nd×List Int) (hx:(Be x.1∧x.1.length≤2^30)∧EZ x.1 x.2)=>(by
 dsimp only[Mz,MA,BO,eA,eN,Aq,Bn,nds,rA,IU,Au,Ax,Bm]
 obtain⟨⟨h1,h2⟩,h3⟩:=hx
 (repeat' first|(with_reducible first|rfl|exact True.intro|apply AJ|apply And.intro|((first|apply Az|apply AH|apply AA|apply AI)<;>intro _))|(apply Av<;>intro _)|apply AG|refine Af () ?_ ?_|((first|apply AO|apply AN|apply AM|apply AL|apply AF|apply AE|apply AD|apply AC|apply AB)<;>try dsimp only)|apply Af|(refine Prod.forall.2 ?_;intro _;try dsimp only)|(intro _;try dsimp only))
 all_goals(try(repeat(rename(_:List Int)[_]? =some _=>hq;revert hq;rename(_:List Int)[_]? =some _=>hr;intro hq;rw[hr] at hq;cases hq)))
 all_goals(try(repeat(rename(_:List Nd)[_]? =some _=>hq;revert hq;rename(_:List Nd)[_]? =some _=>hr;intro hq;rw[hr] at hq;cases hq)))
 all_goals(try(have hB:=ZW (show bnI _ _ _ _ by assumption)))
 all_goals(try(have hJ:=a9a (show GV _ _ _ _ _ by assumption)))
 all_goals(try(have hK:=a8V (show bnI _ _ _ _ by assumption) ‹_› ‹_›))
 all_goals first
  |rfl
  |omega
  |exact()
  |exact ZV h3
  |exact(Rc ‹_› ‹_›).1
  |exact(Rc ‹_› ‹_›).2
  |exact a0a ‹_› ‹_› (by omega)
  |(rw[a0a ‹_› ‹_› (by omega)];done)
  |exact a8Z ‹_› ‹_› ‹_› (by simp;omega)
  |exact a9c ‹_› ‹_›
  |exact a9d ‹_› ‹_›
  |exact a8X ‹_› ‹_› ‹_› ‹_› ‹_›
  |exact ZZ ‹_› ‹_›
  |(have hq:=a9b (show GV _ _ _ _ _ by assumption) ‹_›;omega)
  |((try simp only[AR]);omega)
  |skip)
noncomputable def IV:Sig:= {X:=List Nd×List Int,args:=fun x=>[nds x.1,Aq x.2],pre:=fun x=>(Be x.1∧x.1.length≤2^30)∧EZ x.1 x.2,Y:=List Bool×Unit,post:=fun x y=>MK x.1.length (fun j=>CK x.1 x.2 j=true) y.1,res:=fun x y=>BO y.1,outs:=fun x y=>[.top,.top],keep:=false}
theorem a0e:Am G Tryz.prog 77 IV:=
 vcFun_okP [] [(76,⟨Bool,Bo⟩)] false (fun x=>[(3,OO x)]) Tryz.func77 rfl (by decide) trivial (fun(x:List Nd×List Int)=>(∀(y:List Bool×Unit),MK (List.length x.1) (fun(j:Int)=>CK x.1 x.2 j=true) y.1→(∀(x:Bool),True∧True)∧True∧True∧True)∧((0:Int)≤(↑(List.length x.1):Int)∧(↑(List.length x.1):Int)≤(↑(List.length x.1):Int)∧(↑(1:Nat):Int)*(↑(List.length x.1):Int)≤(2:Int)^(46:Nat)∧(↑(List.length x.1):Int)≤(2:Int)^(46:Nat))∧∃(x_1:Bool),false=x_1∧eA (OO x) [nds x.1,Aq x.2,AV.sl true (0:Nat) (1:Nat) Bool Bo (List.replicate (Int.toNat (↑(List.length x.1):Int)) x_1),.int .i64 (0:Int)]∧∀(i:Int×List Bool),bnI x.1 x.2 i.1 i.2→Aa (decide (i.1<(↑(List.length x.2):Int))) (((0:Int)≤i.1∧i.1<(↑(List.length x.2):Int))∧∀(e:Int),x.2[Int.toNat i.1]? =some e→((0:Int)≤e∧e<(↑(List.length x.1):Int))∧∀(e_1:Nd),x.1[Int.toNat e]? =some e_1→eA (ON x i) [nds x.1,Aq x.2,AV.sl true (0:Nat) (1:Nat) Bool Bo i.2,.int .i64 i.1,.box 0 [.int .i64 e_1.kind,.str e_1.text,Aq e_1.kids,.bool e_1.blank],.int .i64 (0:Int)]∧∀(i_1:Int×List Bool),bnJ x.1 x.2 i.1 i_1.1 i_1.2→inR IntKind.i64 (i_1.1+(1:Int))∧Aa (decide (i_1.1+(1:Int)<(↑(List.length (Ai x.1 (List.getD x.2 (Int.toNat i.1) (0:Int))).kids):Int))) (Aa ((Ai x.1 (List.getD x.2 (Int.toNat i.1) (0:Int))).kind==(9:Int)) (((0:Int)≤i_1.1∧i_1.1<(↑(List.length (Ai x.1 (List.getD x.2 (Int.toNat i.1) (0:Int))).kids):Int))∧∀(e:Int),(Ai x.1 (List.getD x.2 (Int.toNat i.1) (0:Int))).kids[Int.toNat i_1.1]? =some e→((0:Int)≤e∧e<(↑(List.length i_1.2):Int))∧Int.toNat e<List.length i_1.2∧∀(x_2:Bool),i_1.2[Int.toNat e]? =some x_2→∃(x':Bool),((@List.nil AV)=[]∧(@List.nil AV)=[])∧true=x'∧inR IntKind.i64 (i_1.1+(1:Int))∧eN (ON x i) i_1 [nds x.1,Aq x.2,AV.sl true (0:Nat) (1:Nat) Bool Bo (List.set i_1.2 (Int.toNat e) x'),.int .i64 i.1,.box 0 [.int .i64 (Ai x.1 (List.getD x.2 (Int.toNat i.1) (0:Int))).kind,.str (Ai x.1 (List.getD x.2 (Int.toNat i.1) (0:Int))).text,Aq (Ai x.1 (List.getD x.2 (Int.toNat i.1) (0:Int))).kids,.bool (Ai x.1 (List.getD x.2 (Int.toNat i.1) (0:Int))).blank],.int .i64 (i_1.1+(1:Int))]) (Aa ((Ai x.1 (List.getD x.2 (Int.toNat i.1) (0:Int))).kind==(20:Int)) (((0:Int)≤i_1.1∧i_1.1<(↑(List.length (Ai x.1 (List.getD x.2 (Int.toNat i.1) (0:Int))).kids):Int))∧∀(e:Int),(Ai x.1 (List.getD x.2 (Int.toNat i.1) (0:Int))).kids[Int.toNat i_1.1]? =some e→((0:Int)≤e∧e<(↑(List.length i_1.2):Int))∧Int.toNat e<List.length i_1.2∧∀(x_2:Bool),i_1.2[Int.toNat e]? =some x_2→∃(x':Bool),((@List.nil AV)=[]∧(@List.nil AV)=[])∧true=x'∧inR IntKind.i64 (i_1.1+(1:Int))∧eN (ON x i) i_1 [nds x.1,Aq x.2,AV.sl true (0:Nat) (1:Nat) Bool Bo (List.set i_1.2 (Int.toNat e) x'),.int .i64 i.1,.box 0 [.int .i64 (Ai x.1 (List.getD x.2 (Int.toNat i.1) (0:Int))).kind,.str (Ai x.1 (List.getD x.2 (Int.toNat i.1) (0:Int))).text,Aq (Ai x.1 (List.getD x.2 (Int.toNat i.1) (0:Int))).kids,.bool (Ai x.1 (List.getD x.2 (Int.toNat i.1) (0:Int))).blank],.int .i64 (i_1.1+(1:Int))]) (inR IntKind.i64 (i.1+(1:Int))∧eN (OO x) i [nds x.1,Aq x.2,AV.sl true (0:Nat) (1:Nat) Bool Bo i_1.2,.int .i64 (i.1+(1:Int))]))) (inR IntKind.i64 (i.1+(1:Int))∧eN (OO x) i [nds x.1,Aq x.2,AV.sl true (0:Nat) (1:Nat) Bool Bo i_1.2,.int .i64 (i.1+(1:Int))])) (rA IV x [AV.sl true (0:Nat) (1:Nat) Bool Bo i.2,.top,.top])) (fun x=>by kernel_rfl) fun(x:List Nd×List Int) (hx:(Be x.1∧x.1.length≤2^30)∧EZ x.1 x.2)=>(by
 dsimp only[ON,OO,BO,eA,eN,Aq,Bn,nds,rA,IV,Au,Ax,Bm]
 obtain⟨⟨h1,h2⟩,h3⟩:=hx
 (repeat' first|(with_reducible first|rfl|exact True.intro|apply AJ|apply And.intro|((first|apply Az|apply AH|apply AA|apply AI)<;>intro _))|(apply Av<;>intro _)|apply AG|refine Af () ?_ ?_|((first|apply AO|apply AN|apply AM|apply AL|apply AF|apply AE|apply AD|apply AC|apply AB)<;>try dsimp only)|apply Af|(refine Prod.forall.2 ?_;intro _;try dsimp only)|(intro _;try dsimp only))
 all_goals(try(repeat(rename(_:List Int)[_]? =some _=>hq;revert hq;rename(_:List Int)[_]? =some _=>hr;intro hq;rw[hr] at hq;cases hq)))
 all_goals(try(repeat(rename(_:List Nd)[_]? =some _=>hq;revert hq;rename(_:List Nd)[_]? =some _=>hr;intro hq;rw[hr] at hq;cases hq)))
 all_goals(try(have hB:=ZW (show bnI _ _ _ _ by assumption)))
 all_goals(try(have hJ:=ZX (show bnJ _ _ _ _ _ by assumption);have hJ2:=a9f (show bnJ _ _ _ _ _ by assumption)))
 all_goals first
  |rfl
  |omega
  |exact()
  |exact ZV h3
  |exact(Rc ‹_› ‹_›).1
  |exact(Rc ‹_› ‹_›).2
  |(rw[←a9e ‹_› ‹_›];done)
  |exact UM ‹_› ‹_›
  |exact a9g ‹_› ‹_›
  |exact a9h ‹_› ‹_› ‹_›
  |exact ZZ ‹_› ‹_›
  |(refine ZY ‹_› ?_ (a0c ‹_› ‹_› (by omega));unfold Bd fnK;first|(rw[decide_eq_true (show(Ai _ _).kind=9 by assumption)];rfl)|(rw[decide_eq_true (show(Ai _ _).kind=20 by assumption),Bool.or_true]))
  |(have hq:=UN (show bnJ _ _ _ _ _ by assumption) (a0c ‹_› ‹_› (by omega));omega)
  |(rw[a0b];omega)
  |((try simp only[AR]);omega)
  |skip)
end Go.My
end
