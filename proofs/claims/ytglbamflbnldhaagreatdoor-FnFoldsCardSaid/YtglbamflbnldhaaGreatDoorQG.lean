/- joined -/
import Derived.Test.YtglbamflbnldhaaGreatDoorQF
import Derived.Test.YtglbamflbnldhaaGreatDoorProg
set_option linter.unusedSimpArgs false
set_option linter.unusedVariables false
section
namespace Go.My
open Go.Eng Go.Proofs
variable {G:GInv}
def sdp(ns:List Nd)(i:Nat)(ds:List Int):Int:=
 if BQ ns i=true∧(i=0∨ds.getD (i-1) 0≠0) then(if 14≤mx ds (Aa ns i).kids 0 then 0 else mx ds (Aa ns i).kids 0+1) else 0
def sds(ns:List Nd):Nat→List Int
 |0=>[]
 |n+1=>sds ns n++[sdp ns n (sds ns n)]
theorem Ij{ns:List Nd}:∀ {n:Nat},(sds ns n).length=n
 |0=>rfl
 |n+1=>by rw[sds,List.length_append,Ij];rfl
theorem a1t{ns:List Nd}:∀ {n:Nat},(match CJ ns n with|some ds=>sds ns n=ds|none=>0<n∧(sds ns n).getD (n-1) 0=0)
 |0=>by simp [CJ,sds]
 |n+1=>by
  have ih:= @a1t ns n
  unfold CJ
  cases hd:CJ ns n with
  |none=>
   rw[hd] at ih
   simp only
   refine⟨by omega,?_⟩
   have hz:sdp ns n (sds ns n)=0:=by
    unfold sdp;rw[if_neg];rintro⟨_,h|h⟩
    ·omega
    ·exact h ih.2
   rw[sds,hz,List.getD,List.getElem?_append_right (by rw[Ij];omega),Ij];simp
  |some ds=>
   rw[hd] at ih
   simp only at ih ⊢
   by_cases hn:BQ ns n=true
   ·rw[if_pos hn]
    have hprev:n=0∨(sds ns n).getD (n-1) 0≠0:=by
     by_cases e:n=0
     ·exact .inl e
     ·right
      rw[ih,List.getD]
      have hl:=Jw hd
      have:ds[n-1]? =some ds[n-1]:=by simp
      rw[this];have:=Pv hd ds[n-1] (by simp);simp;omega
    have hs:sdp ns n (sds ns n)=if 14≤mx ds (Aa ns n).kids 0 then 0 else mx ds (Aa ns n).kids 0+1:=by
     unfold sdp;rw[if_pos ⟨hn,hprev⟩,ih]
    by_cases hm:14≤mx ds (Aa ns n).kids 0
    ·rw[if_pos hm];simp only
     refine⟨by omega,?_⟩
     rw[sds,hs,if_pos hm,List.getD,List.getElem?_append_right (by rw[Ij];omega),Ij];simp
    ·rw[if_neg hm];simp only
     rw[sds,hs,if_neg hm,ih]
   ·rw[if_neg hn];simp only
    refine⟨by omega,?_⟩
    have hz:sdp ns n (sds ns n)=0:=by unfold sdp;rw[if_neg (fun h=>hn h.1)]
    rw[sds,hz,List.getD,List.getElem?_append_right (by rw[Ij];omega),Ij];simp
theorem b0U{ns:List Nd}{k:Int}{v:Int}(h:BK ns k=true)(hv:(sds ns (k.toNat+1))[k.toNat]? =some v):v=Bz ns k:=by
 have ih:= @a1t ns (k.toNat+1)
 unfold Bz;rw[if_pos h]
 cases hd:CJ ns (k.toNat+1) with
 |none=>rw[hd] at ih;simp only at ih ⊢;have:=ih.2;rw[List.getD] at this;simp [hv] at this;exact this
 |some ds=>rw[hd] at ih;simp only at ih ⊢;rw[←ih,List.getD,hv];rfl
theorem VV{ns:List Nd}:∀ {n:Nat},∀d∈sds ns n,0≤d∧d≤14
 |0,d,h=>by simp [sds] at h
 |n+1,d,h=>by
  rw[sds] at h
  rcases List.mem_append.1 h with h|h
  ·exact VV d h
  ·simp at h;subst h
   have:=Rl (sds ns n) (Aa ns n).kids 0
   unfold sdp;split
   ·split<;>omega
   ·omega
def okB(ns:List Nd)(i:Int):Bool:=BQ ns i&&(decide (i=0)|| !decide ((sds ns i.toNat).getD (i.toNat-1) 0=0))
theorem a1u{ns:List Nd}{i:Int}(h:0≤i):sdp ns i.toNat (sds ns i.toNat)=if okB ns i then(if 14≤mx (sds ns i.toNat) (Aa ns i).kids 0 then 0 else mx (sds ns i.toNat) (Aa ns i).kids 0+1) else 0:=by
 have e:((i.toNat:Nat):Int)=i:=by omega
 unfold sdp;rw[e]
 have hb:okB ns i=true↔BQ ns i=true∧(i.toNat=0∨(sds ns i.toNat).getD (i.toNat-1) 0≠0):=by
  unfold okB
  simp only[Bool.and_eq_true,Bool.or_eq_true,decide_eq_true_eq,Bool.not_eq_true',decide_eq_false_iff_not]
  constructor
  ·rintro⟨h1,h2⟩;exact⟨h1,h2.imp (fun h=>by omega) id⟩
  ·rintro⟨h1,h2⟩;exact⟨h1,h2.imp (fun h=>by omega) id⟩
 by_cases h1:okB ns i=true
 ·rw[if_pos h1,if_pos (hb.1 h1)]
 ·rw[if_neg h1,if_neg (fun h2=>h1 (hb.2 h2))]
def eI(ns:List Nd)(i j d:Int):Prop:=(okB ns i=true→j≤(Aa ns i).kids.length∧1≤d∧d≤15∧mx (sds ns i.toNat) ((Aa ns i).kids.drop j.toNat) (d-1)=mx (sds ns i.toNat) (Aa ns i).kids 0)∧0≤j∧(okB ns i=false→d=0)
theorem b0V{ns:List Nd}{i:Int}:eI ns i 0 (if okB ns i then 1 else 0):=by
 refine⟨fun h=> ?_,by omega,fun h=> ?_⟩
 ·rw[if_pos h];refine⟨by omega,by omega,by omega,by simp⟩
 ·rw[h];rfl
theorem RM{ns:List Nd}{i j d:Int}(h:eI ns i j d)(hd:d>0):okB ns i=true:=by
 cases hb:okB ns i
 ·have:=h.2.2 hb;omega
 ·rfl
theorem a1v{ns:List Nd}{i:Int}(h:okB ns i=true):BQ ns i=true:=by
 simp only[okB,Bool.and_eq_true] at h;exact h.1
theorem b0W{ns:List Nd}{i j d c:Int}{y:Nd}(h:eI ns i j d)(hd:d>0)(hy:ns[i.toNat]? =some y)(hc:y.kids[j.toNat]? =some c):0≤c∧c<i:=by
 have:=(DZ (a1v (RM h hd))).2.2.2.1
 rw[Bo hy] at this;exact this c (BJ hc)
theorem b0X{ns:List Nd}{i j d:Int}{y:Nd}(h:eI ns i j d)(hd:d>0)(hy:ns[i.toNat]? =some y):y.kids.length≤12:=by
 have:=(DZ (a1v (RM h hd))).2.1
 rwa [Bo hy] at this
theorem b0Y{ns:List Nd}{i j d c v d':Int}{y:Nd}(h:eI ns i j d)(hd:d>0)(hy:ns[i.toNat]? =some y)(hc:y.kids[j.toNat]? =some c)(hv:(sds ns i.toNat)[c.toNat]? =some v)(hd':d'-1=max (d-1) v):eI ns i (j+1) d':=by
 have hb:=RM h hd
 obtain⟨h1,h2,h3,h4⟩:=h.1 hb
 have h0:=h.2.1
 have hr:=VV v (BJ hv)
 rw[Bo hy] at h4 h1
 have:=(DW hc).1
 refine⟨fun _=> ?_,by omega,fun hh=>by rw[hb] at hh;cases hh⟩
 rw[Bo hy]
 refine⟨by omega,by omega,by omega,?_⟩
 rw[←h4,HA hc,Da h0,mx,List.getD,hv,Option.getD_some,hd']
theorem b0Z{ns:List Nd}{i:Int}{c:Nat}{v:Int}(hv:(sds ns i.toNat)[c]? =some v):0≤v∧v≤14:=VV v (BJ hv)
theorem b1a{ns:List Nd}{i j d:Int}{y:Nd}(hi:0≤i)(h:eI ns i j d)(hd:d>0)(hy:ns[i.toNat]? =some y)(hl:¬j<y.kids.length):sds ns i.toNat++[if d>14 then 0 else d]=sds ns (i+1).toNat:=by
 have hb:=RM h hd
 obtain⟨h1,h2,h3,h4⟩:=h.1 hb
 rw[Bo hy,List.drop_eq_nil_of_le (by omega),mx] at h4
 rw[Da hi,sds,a1u hi,if_pos hb,Bo hy,←h4]
 congr 2
 by_cases h5:d>14
 ·rw[if_pos h5,if_pos (by omega)]
 ·rw[if_neg h5,if_neg (by omega)];omega
theorem b1b{ns:List Nd}{i j d:Int}(hi:0≤i)(h:eI ns i j d)(hd:¬d>0):sds ns i.toNat++[d]=sds ns (i+1).toNat:=by
 have hb:okB ns i=false:=by
  cases hb:okB ns i
  ·rfl
  ·have:=(h.1 hb).2.1;omega
 rw[Da hi,sds,a1u hi,hb,h.2.2 hb];rfl
theorem b1c{ns:List Nd}{i:Int}(h:BQ ns i=false):0=if okB ns i=true then(1:Int) else 0:=by simp [okB,h]
theorem b1d{ns:List Nd}{i v:Int}(h:i>0)(hv:(sds ns i.toNat)[(i-1).toNat]? =some v)(h0:v=0):0=if okB ns i=true then(1:Int) else 0:=by
 have e:(i-1).toNat=i.toNat-1:=by omega
 rw[e] at hv;subst h0
 have:(sds ns i.toNat).getD (i.toNat-1) 0=0:=by rw[List.getD,hv];rfl
 simp only[okB,this,decide_true,Bool.not_true,Bool.or_false]
 rw[decide_eq_false (by omega)];simp
theorem b1e{ns:List Nd}{i:Int}(h:BQ ns i=true)(h0:0≤i)(h1:¬i>0):1=if okB ns i=true then(1:Int) else 0:=by
 obtain rfl:i=0:=by omega
 simp [okB,h]
theorem b1f{ns:List Nd}{i v:Int}(h:BQ ns i=true)(h0:i>0)(hv:(sds ns i.toNat)[(i-1).toNat]? =some v)(h1:v≠0):1=if okB ns i=true then(1:Int) else 0:=by
 have e:(i-1).toNat=i.toNat-1:=by omega
 rw[e] at hv
 have:(sds ns i.toNat).getD (i.toNat-1) 0≠0:=by rw[List.getD,hv];exact h1
 simp only[okB,h,this,decide_false,Bool.not_false,Bool.or_true,Bool.and_true,if_true]
def PD(x:List Nd×Int)(o:Int):LS:= {
 ι:=Int×Int,inv:=fun i=>eI x.1 o i.1 i.2,
 regs:=fun i=>[(0,nds x.1),(1,.int .i64 x.2),(5,Ad (sds x.1 o.toNat)),(6,.int .i64 o),(7,.int .i64 i.2),(8,.int .i64 i.1)],als:=[],meas:=fun i=>(Aa x.1 o).kids.length-i.1.toNat}
def NK(x:List Nd×Int)(o:Int):LS:= {
 ι:=Unit,inv:=fun _=>True,
 regs:=fun i=>[(0,nds x.1),(1,.int .i64 x.2),(5,Ad (sds x.1 o.toNat)),(6,.int .i64 o),(7,.int .i64 (if okB x.1 o then 1 else 0))],als:=[],meas:=fun i=>0}
def lDs(x:List Nd×Int):LS:= {
 ι:=Int,inv:=fun i=>0≤i∧i≤x.2+1,
 regs:=fun i=>[(0,nds x.1),(1,.int .i64 x.2),(5,Ad (sds x.1 i.toNat)),(6,.int .i64 i)],als:=[],meas:=fun i=>(x.2+1-i).toNat,sub:=fun i=>[(9,PD x i),(200008,NK x i)]}
def LV:Sig:= {X:=List Nd×Int,args:=fun x=>[nds x.1,.int .i64 x.2],pre:=fun x=>BD x.1∧x.1.length≤2^30∧BK x.1 x.2=true,Y:=Unit,post:=fun x y=>True,res:=fun x y=>Ad (sds x.1 (x.2.toNat+1)),outs:=fun x y=>[.top,.top],keep:=false}
theorem b1g:Al G Tryz.prog 78 LV:=
 vcFun_okP [(101,0,Ff)] [(25,⟨Int,Bc⟩)] false (fun x=>[(3,lDs x)]) Tryz.func78 rfl (by decide) ⟨b0T,trivial⟩ (fun(x:List Nd×Int)=>(∀(y:Unit),True→(∀(x:Int),True∧True)∧True∧True∧True)∧eA (lDs x) [nds x.1,.int .i64 x.2,Ad [],.int .i64 (0:Int)]∧∀(i:Int),(0:Int)≤i∧i≤x.2+(1:Int)→Ab (decide (i≤x.2)) (Ab (decide (i<(↑(List.length x.1):Int))) ((cA Ff [nds x.1,.int .i64 i] fun x_1 y=>Ab (!BQ x_1.1 x_1.2) (eA (NK x i) [nds x.1,.int .i64 x.2,Ad (sds x.1 (Int.toNat i)),.int .i64 i,.int .i64 (0:Int)]) (Ab (decide (i>(0:Int))) (inR IntKind.i64 (i-(1:Int))∧((0:Int)≤i-(1:Int)∧i-(1:Int)<(↑(List.length (sds x.1 (Int.toNat i))):Int))∧Int.toNat (i-(1:Int))<List.length (sds x.1 (Int.toNat i))∧∀(x_2:Int),(sds x.1 (Int.toNat i))[Int.toNat (i-(1:Int))]? =some x_2→Ab (x_2==(0:Int)) (eA (NK x i) [nds x.1,.int .i64 x.2,Ad (sds x.1 (Int.toNat i)),.int .i64 i,.int .i64 (0:Int)]) (eA (NK x i) [nds x.1,.int .i64 x.2,Ad (sds x.1 (Int.toNat i)),.int .i64 i,.int .i64 (1:Int)])) (eA (NK x i) [nds x.1,.int .i64 x.2,Ad (sds x.1 (Int.toNat i)),.int .i64 i,.int .i64 (1:Int)])))∧∀(i_1:Unit),True→eA (PD x i) [nds x.1,.int .i64 x.2,Ad (sds x.1 (Int.toNat i)),.int .i64 i,.int .i64 (if okB x.1 i=true then(1:Int) else(0:Int)),.int .i64 (0:Int)]∧∀(i_2:Int×Int),eI x.1 i i_2.1 i_2.2→Ab (decide (i_2.2>(0:Int))) (((0:Int)≤i∧i<(↑(List.length x.1):Int))∧∀(e:Nd),x.1[Int.toNat i]? =some e→Ab (decide (i_2.1<(↑(List.length e.kids):Int))) (((0:Int)≤i∧i<(↑(List.length x.1):Int))∧∀(e:Nd),x.1[Int.toNat i]? =some e→((0:Int)≤i_2.1∧i_2.1<(↑(List.length e.kids):Int))∧∀(e_1:Int),e.kids[Int.toNat i_2.1]? =some e_1→((0:Int)≤e_1∧e_1<(↑(List.length (sds x.1 (Int.toNat i))):Int))∧Int.toNat e_1<List.length (sds x.1 (Int.toNat i))∧∀(x_1:Int),(sds x.1 (Int.toNat i))[Int.toNat e_1]? =some x_1→inR IntKind.i64 (x_1+(1:Int))∧Ab (decide (x_1+(1:Int)>i_2.2)) (((0:Int)≤i∧i<(↑(List.length x.1):Int))∧∀(e:Nd),x.1[Int.toNat i]? =some e→((0:Int)≤i_2.1∧i_2.1<(↑(List.length e.kids):Int))∧∀(e_2:Int),e.kids[Int.toNat i_2.1]? =some e_2→((0:Int)≤e_2∧e_2<(↑(List.length (sds x.1 (Int.toNat i))):Int))∧Int.toNat e_2<List.length (sds x.1 (Int.toNat i))∧∀(x_2:Int),(sds x.1 (Int.toNat i))[Int.toNat e_2]? =some x_2→inR IntKind.i64 (x_2+(1:Int))∧inR IntKind.i64 (i_2.1+(1:Int))∧eN (PD x i) i_2 [nds x.1,.int .i64 x.2,Ad (sds x.1 (Int.toNat i)),.int .i64 i,.int .i64 (x_2+(1:Int)),.int .i64 (i_2.1+(1:Int))]) (inR IntKind.i64 (i_2.1+(1:Int))∧eN (PD x i) i_2 [nds x.1,.int .i64 x.2,Ad (sds x.1 (Int.toNat i)),.int .i64 i,.int .i64 i_2.2,.int .i64 (i_2.1+(1:Int))])) (Ab (decide (i_2.2>(14:Int))) (∃(x_1:Int),(0:Int)=x_1∧∃(zs:List Int),Ad [x_1]=Ad zs∧Br Bc∧Ba (List.length (sds x.1 (Int.toNat i))+List.length zs) (8:Nat)∧inR IntKind.i64 (i+(1:Int))∧eN (lDs x) i [nds x.1,.int .i64 x.2,Ad (sds x.1 (Int.toNat i)++zs),.int .i64 (i+(1:Int))]) (∃(x_1:Int),i_2.2=x_1∧∃(zs:List Int),Ad [x_1]=Ad zs∧Br Bc∧Ba (List.length (sds x.1 (Int.toNat i))+List.length zs) (8:Nat)∧inR IntKind.i64 (i+(1:Int))∧eN (lDs x) i [nds x.1,.int .i64 x.2,Ad (sds x.1 (Int.toNat i)++zs),.int .i64 (i+(1:Int))]))) (Ab (decide (i_2.2>(14:Int))) (∃(x_1:Int),(0:Int)=x_1∧∃(zs:List Int),Ad [x_1]=Ad zs∧Br Bc∧Ba (List.length (sds x.1 (Int.toNat i))+List.length zs) (8:Nat)∧inR IntKind.i64 (i+(1:Int))∧eN (lDs x) i [nds x.1,.int .i64 x.2,Ad (sds x.1 (Int.toNat i)++zs),.int .i64 (i+(1:Int))]) (∃(x_1:Int),i_2.2=x_1∧∃(zs:List Int),Ad [x_1]=Ad zs∧Br Bc∧Ba (List.length (sds x.1 (Int.toNat i))+List.length zs) (8:Nat)∧inR IntKind.i64 (i+(1:Int))∧eN (lDs x) i [nds x.1,.int .i64 x.2,Ad (sds x.1 (Int.toNat i)++zs),.int .i64 (i+(1:Int))]))) (rA LV x [Ad (sds x.1 (Int.toNat i)),.top,.top])) (rA LV x [Ad (sds x.1 (Int.toNat i)),.top,.top])) (fun x=>by kernel_rfl) fun(x:List Nd×Int) (hx:BD x.1∧x.1.length≤2^30∧BK x.1 x.2=true)=>(by
 dsimp only[cA,eA,eN,lDs,PD,NK,Bx,nds,Ad,rA,LV,Ff,Aw,Az,mvL,lnL,mvE,lnE,Bv]
 obtain⟨h1,h2,h3⟩:=hx;have hl:=h1.1;have hn:=BX.1 h3
 (repeat' first|(with_reducible first|rfl|exact True.intro|apply AK|apply And.intro|((first|apply AA|apply AI|apply AB|apply AJ)<;>intro _))|(apply Ax<;>intro _)|apply AH|refine Af () ?_ ?_|((first|apply AO|apply AN|apply AM|apply AL|apply AG|apply AF|apply AE|apply AD|apply AC)<;>try dsimp only)|apply Af|(refine Prod.forall.2 ?_;intro _;try dsimp only)|(intro _;try dsimp only))
 all_goals first
  |rfl
  |omega
  |exact b1c ‹_›
  |exact b1d ‹_› ‹_› ‹_›
  |exact b1e ‹_› (by omega) ‹_›
  |exact b1f ‹_› ‹_› ‹_› ‹_›
  |exact b0V
  |(rw[Ij];omega)
  |skip
 all_goals try(repeat(rename x.1[Int.toNat _]? =some _=>hq;revert hq;rename x.1[Int.toNat _]? =some _=>hr;intro hq;rw[hr] at hq;cases hq))
 all_goals try(repeat(rename(Nd.kids _)[Int.toNat _]? =some _=>hq;revert hq;rename(Nd.kids _)[Int.toNat _]? =some _=>hr;intro hq;rw[hr] at hq;cases hq))
 all_goals try(rename(sds x.1 _)[Int.toNat _]? =some _=>hq;revert hq;rename(sds x.1 _)[Int.toNat _]? =some _=>hr2;intro hq;have hqq:=hr2.symm.trans hq;simp only[Option.some.injEq] at hqq;subst hqq)
 all_goals try(have hke:=b0W ‹_› ‹_› ‹_› ‹_›)
 all_goals try(have hle:=b0X ‹_› ‹_› ‹_›)
 all_goals try(have hve:=b0Z ‹_›)
 all_goals try(have hse:=(show eI _ _ _ _ by assumption).2.1)
 all_goals first
  |omega
  |(rw[Ij];omega)
  |((try simp only[AQ]);omega)
  |exact b0Y ‹_› ‹_› ‹_› ‹_› ‹_› (by omega)
  |(rw[←b1a (by omega) ‹_› ‹_› ‹_› ‹_›];simp [*];done)
  |exact b1b (by omega) ‹_› ‹_›
  |(rw[Bo ‹_›];omega)
  |(congr 1;omega)
  |(simp only[Ba,Ij,List.length_cons,List.length_nil];omega)
  |skip)
def LW:Sig:= {X:=List Nd×Int,args:=fun x=>[nds x.1,.int .i64 x.2],pre:=fun x=>BD x.1∧x.1.length≤2^30,Y:=Unit,post:=fun x y=>True,res:=fun x y=> .int .i64 (Bz x.1 x.2),outs:=fun x y=>[.top,.top],keep:=false}
theorem b1h:Al G Tryz.prog 47 LW:=
 vcFun_okP [(46,0,CN),(78,0,LV)] [] false (fun x=>[]) Tryz.func47 rfl (by decide) ⟨Kx,b1g,trivial⟩ (fun(x:List Nd×Int)=>(∀(y:Unit),True→True∧True∧True∧True)∧inR IntKind.i64 ((↑(List.length x.1):Int)-(1:Int))∧cA CN [.int .i64 x.2,.int .i64 (0:Int),.int .i64 ((↑(List.length x.1):Int)-(1:Int))] fun x_1 y=>Ab (!inn x_1.1 x_1.2.1 x_1.2.2) (rA LW x [.int .i64 (0:Int),.top,.top]) (cA LV [nds x.1,.int .i64 x.2] fun x_2 y=>((0:Int)≤x.2∧x.2<(↑(List.length (sds x_2.1 (Int.toNat x_2.2+(1:Nat)))):Int))∧Int.toNat x.2<List.length (sds x_2.1 (Int.toNat x_2.2+(1:Nat)))∧∀(x_3:Int),(sds x_2.1 (Int.toNat x_2.2+(1:Nat)))[Int.toNat x.2]? =some x_3→rA LW x [.int .i64 x_3,.top,.top])) (fun x=>by kernel_rfl) fun(x:List Nd×Int) (hx:BD x.1∧x.1.length≤2^30)=>(by
 dsimp only[cA,Bx,nds,Ad,rA,CN,LV,LW,Aw,Az,mvL,lnL,mvE,lnE]
 obtain⟨h1,h2⟩:=hx;have hl:=h1.1
 (repeat' first|(with_reducible first|rfl|exact True.intro|apply AK|apply And.intro|((first|apply AA|apply AI|apply AB|apply AJ)<;>intro _))|(apply Ax<;>intro _)|apply AH|refine Af () ?_ ?_|((first|apply AO|apply AN|apply AM|apply AL|apply AG|apply AF|apply AE|apply AD|apply AC)<;>try dsimp only)|apply Af|(refine Prod.forall.2 ?_;intro _;try dsimp only)|(intro _;try dsimp only))
 all_goals first
  |exact h1
  |exact h2
  |((try simp only[AQ]);omega)
  |(rw[JA] at*;exact a0U ‹_›)
  |(have hh:=(show inn x.2 0 (x.1.length-1)=true by assumption);rw[JA] at hh;have:=BX.1 hh;first|exact hh|omega|exact b0U hh ‹_› |(rw[Ij];omega))
  |skip)
theorem a1w{ns:List Nd}{i v:Int}(hv:(cnt ns.length (BW ns))[i.toNat]? =some v)(h0:0≤i):((BW ns).count i:Int)=v:=by
 have h:i.toNat<ns.length:=by have:=(DW hv).1;rwa [GY] at this
 rw[LT h] at hv
 have e2:((i.toNat:Nat):Int)=i:=by omega
 rw[e2] at hv;exact Option.some.inj hv
theorem b1i{ns:List Nd}{i v:Int}(h:tE ns i)(hl:i+1<(ns.length:Int))(hv:(cnt ns.length (BW ns))[i.toNat]? =some v)(h1:v=1):tE ns (i+1):=by
 have:=a1w hv h.1
 refine⟨by have:=h.1;omega,by omega,fun c hc=> ?_⟩
 by_cases e:(c:Int)<i
 ·exact h.2.2 c e
 ·have:=h.1
  obtain rfl:i=(c:Int):=by omega
  omega
theorem VW{ns:List Nd}{i j c:Int}{y:Nd}(h:tI ns)(hy:ns[i.toNat]? =some y)(hc:y.kids[j.toNat]? =some c):0≤c∧c<ns.length:=(Pz h hy).2 c (BJ hc)
theorem b1j{ns:List Nd}{i:Int}{y:Nd}(h:tI ns)(hy:ns[i.toNat]? =some y):y.kids.length≤12:=(Pz h hy).1
theorem b1k{ns:List Nd}{i j c:Int}{y:Nd}(h0:0≤j)(hy:ns[i.toNat]? =some y)(hc:y.kids[j.toNat]? =some c):tk ns i (j+1)=tk ns i j++[c]:=a0Y h0 (by rw[Bo hy];exact hc)
theorem b1l{ns:List Nd}{i j:Int}{y:Nd}(h0:0≤i)(hy:ns[i.toNat]? =some y)(hl:¬j<y.kids.length):tk ns i j=BW (ns.take (i+1).toNat):=a0Z h0 hy (by rw[Bo hy];exact hl)
def RN(x:List Nd)(o:Int):LS:= {
 ι:=Int,inv:=fun j=>0≤j∧j≤(Aa x o).kids.length,
 regs:=fun j=>[(0,nds x),(3,.int .i64 x.length),(4,Ad (cnt x.length (tk x o j))),(5,.int .i64 o),(6,.int .i64 j)],als:=[],meas:=fun j=>(Aa x o).kids.length-j.toNat}
def RO(x:List Nd):LS:= {
 ι:=Int,inv:=fun i=>0≤i∧i≤x.length,
 regs:=fun i=>[(0,nds x),(3,.int .i64 x.length),(4,Ad (cnt x.length (BW (x.take i.toNat)))),(5,.int .i64 i)],als:=[],meas:=fun i=>x.length-i.toNat,
 sub:=fun i=>[(9,RN x i)]}
def RP(x:List Nd):LS:= {
 ι:=Int,inv:=tE x,
 regs:=fun i=>[(3,.int .i64 x.length),(4,Ad (cnt x.length (BW x))),(7,.int .i64 i)],als:=[],meas:=fun i=>x.length-i.toNat}
def Fg:Sig:= {X:=List Nd,args:=fun x=>[nds x],pre:=fun x=>BD x∧x.length≤2^30,Y:=Unit,post:=fun x y=>True,res:=fun x y=> .bool (BB x),outs:=fun x y=>[.top],keep:=false}
theorem VX:Al G Tryz.prog 17 Fg:=
 vcFun_okP [(46,0,CN),(47,0,LW)] [(25,⟨Int,Bc⟩)] false (fun x=>[(6,RO x),(13,RP x)]) Tryz.func17 rfl (by decide) ⟨Kx,b1h,trivial⟩ (fun(x:List Nd)=>(∀(y:Unit),True→True∧True∧True)∧cA CN [.int .i64 (↑(List.length x):Int),.int .i64 (1:Int),.int .i64 (300:Int)] fun x_1 y=>Ab (!inn x_1.1 x_1.2.1 x_1.2.2) (rA Fg x [.bool false,.top]) (inR IntKind.i64 ((↑(List.length x):Int)-(1:Int))∧((0:Int)≤(↑(List.length x):Int)-(1:Int)∧(↑(List.length x):Int)-(1:Int)<(↑(List.length x):Int))∧∀(e:Nd),x[Int.toNat ((↑(List.length x):Int)-(1:Int))]? =some e→Ab (e.kind != (22:Int)) (rA Fg x [.bool false,.top]) (inR IntKind.i64 ((↑(List.length x):Int)-(1:Int))∧cA LW [nds x,.int .i64 ((↑(List.length x):Int)-(1:Int))] fun x_2 y=>Ab (Bz x_2.1 x_2.2==(0:Int)) (rA Fg x [.bool false,.top]) (((0:Int)≤(↑(List.length x):Int)∧(↑(List.length x):Int)≤(↑(List.length x):Int)∧(↑(8:Nat):Int)*(↑(List.length x):Int)≤(2:Int)^(46:Nat)∧(↑(List.length x):Int)≤(2:Int)^(46:Nat))∧∃(x_3:Int),(0:Int)=x_3∧eA (RO x) [nds x,.int .i64 (↑(List.length x):Int),Ad (List.replicate (Int.toNat (↑(List.length x):Int)) x_3),.int .i64 (0:Int)]∧∀(i:Int),(0:Int)≤i∧i≤(↑(List.length x):Int)→Ab (decide (i<(↑(List.length x):Int))) (eA (RN x i) [nds x,.int .i64 (↑(List.length x):Int),Ad (cnt (List.length x) (BW (List.take (Int.toNat i) x))),.int .i64 i,.int .i64 (0:Int)]∧∀(i_1:Int),(0:Int)≤i_1∧i_1≤(↑(List.length (Aa x i).kids):Int)→((0:Int)≤i∧i<(↑(List.length x):Int))∧∀(e:Nd),x[Int.toNat i]? =some e→Ab (decide (i_1<(↑(List.length e.kids):Int))) (((0:Int)≤i∧i<(↑(List.length x):Int))∧∀(e:Nd),x[Int.toNat i]? =some e→((0:Int)≤i_1∧i_1<(↑(List.length e.kids):Int))∧∀(e_1:Int),e.kids[Int.toNat i_1]? =some e_1→((0:Int)≤e_1∧e_1<(↑(List.length (cnt (List.length x) (tk x i i_1))):Int))∧Int.toNat e_1<List.length (cnt (List.length x) (tk x i i_1))∧∀(x_4:Int),(cnt (List.length x) (tk x i i_1))[Int.toNat e_1]? =some x_4→inR IntKind.i64 (x_4+(1:Int))∧((0:Int)≤e_1∧e_1<(↑(List.length (cnt (List.length x) (tk x i i_1))):Int))∧Int.toNat e_1<List.length (cnt (List.length x) (tk x i i_1))∧∀(x_5:Int),(cnt (List.length x) (tk x i i_1))[Int.toNat e_1]? =some x_5→∃(x':Int),((@List.nil AV)=[]∧(@List.nil AV)=[])∧x_4+(1:Int)=x'∧inR IntKind.i64 (i_1+(1:Int))∧eN (RN x i) i_1 [nds x,.int .i64 (↑(List.length x):Int),Ad (List.set (cnt (List.length x) (tk x i i_1)) (Int.toNat e_1) x'),.int .i64 i,.int .i64 (i_1+(1:Int))]) (inR IntKind.i64 (i+(1:Int))∧eN (RO x) i [nds x,.int .i64 (↑(List.length x):Int),Ad (cnt (List.length x) (tk x i i_1)),.int .i64 (i+(1:Int))])) (eA (RP x) [.int .i64 (↑(List.length x):Int),Ad (cnt (List.length x) (BW (List.take (Int.toNat i) x))),.int .i64 (0:Int)]∧∀(i:Int),tE x i→inR IntKind.i64 (i+(1:Int))∧Ab (decide (i+(1:Int)<(↑(List.length x):Int))) (((0:Int)≤i∧i<(↑(List.length (cnt (List.length x) (BW x))):Int))∧Int.toNat i<List.length (cnt (List.length x) (BW x))∧∀(x_4:Int),(cnt (List.length x) (BW x))[Int.toNat i]? =some x_4→Ab (x_4 != (1:Int)) (rA Fg x [.bool false,.top]) (inR IntKind.i64 (i+(1:Int))∧eN (RP x) i [.int .i64 (↑(List.length x):Int),Ad (cnt (List.length x) (BW x)),.int .i64 (i+(1:Int))])) (rA Fg x [.bool true,.top])))))) (fun x=>by kernel_rfl) fun(x:List Nd) (hx:BD x∧x.length≤2^30)=>(by
 dsimp only[cA,eA,eN,RO,RN,RP,Bx,nds,Ad,rA,CN,LW,Fg,Aw,Az,mvL,lnL,mvE,lnE,Bv]
 obtain⟨h1,h2⟩:=hx;have hl:=h1.1
 (repeat' first|(with_reducible first|rfl|exact True.intro|apply AK|apply And.intro|((first|apply AA|apply AI|apply AB|apply AJ)<;>intro _))|(apply Ax<;>intro _)|apply AH|refine Af () ?_ ?_|((first|apply AO|apply AN|apply AM|apply AL|apply AG|apply AF|apply AE|apply AD|apply AC)<;>try dsimp only)|apply Af|(refine Prod.forall.2 ?_;intro _;try dsimp only)|(intro _;try dsimp only))
 all_goals try(have t1:=Ih.1 (show inn x.length 1 300=true by assumption))
 all_goals try(have t0:=a1f ‹_› ‹_› ‹_› ‹_›)
 all_goals try(repeat(rename x[Int.toNat _]? =some _=>hq;revert hq;rename x[Int.toNat _]? =some _=>hr;intro hq;rw[hr] at hq;cases hq))
 all_goals try(repeat(rename(Nd.kids _)[Int.toNat _]? =some _=>hq;revert hq;rename(Nd.kids _)[Int.toNat _]? =some _=>hr;intro hq;rw[hr] at hq;cases hq))
 all_goals try(simp only[Bo (show x[Int.toNat _]? =some _ by assumption)] at*)
 all_goals first
  |rfl
  |exact NI (a1g ‹_›)
  |exact NI (a1h ‹_› ‹_›)
  |exact NI (fun h=>h.2.2.2 ‹_›)
  |exact a0V
  |(rw[a0X];done)
  |(have:=VW ‹_› ‹_› (show(Nd.kids _)[Int.toNat _]? =some _ by assumption);(try rw[GY]);omega)
  |(rw[b1k (by omega) ‹_› ‹_›];exact a0W (VW ‹_› ‹_› ‹_›).1 (VW ‹_› ‹_› ‹_›).2 ‹_›)
  |(rw[b1l (by omega) ‹_› ‹_›];done)
  |(rw[a1i ‹_›];done)
  |(have:=a1e ‹_› ‹_› ‹_›;omega)
  |exact a1b ‹_› ‹_› (by omega)
  |exact a1c (a1w ‹_› (‹tE _ _›.1)) (‹tE _ _›.1) (by omega) ‹_›
  |exact b1i ‹_› ‹_› ‹_› ‹_›
  |exact⟨by omega,by omega,fun c hc=>by omega⟩
  |((try simp only[AQ,Ba,List.length_replicate,GY] at*);omega)
  |(have:=b1j ‹_› ‹_›;(try simp only[AQ] at*);omega)
  |(have hte:=(show tE x _ by assumption);have:=hte.1;have:=hte.2.1;(try rw[GY]);(try simp only[AQ] at*);omega)
  |skip)
end Go.My
end
section
namespace Go.My
open Go.Eng
def Cd(s:List UInt8):Int:=s.foldl (fun n c=>n*10+((c.toNat:Int)-48)) 0
def CS(t:List UInt8)(a b:Int):Int:=if t=[43] then a+b else if t=[45] then a-b else a*b
def Gv(t:List UInt8)(a b:Option Int):Option Int:=match a,b with
 |some a,some b=>if inn (CS t a b) (-1000000000) 1000000000 then some (CS t a b) else none
 |_,_=>none
def Fh(t:List UInt8):List (Option Int)→Option Int
 |[]=>some 0
 |a::l=>l.foldl (Gv t) a
def NL(t:List UInt8):Bool:=t==[43]||(t==[45]||t==[42])
def Ha(t:List UInt8)(l:List (Option Int)):Option Int:=if NL t then Fh t l else none
def cst(ns:List Nd):Nat→Int→Option Int
 |0,_=>none
 |n+1,k=>if(Aa ns k).kind=2 then(if 9<(Aa ns k).text.length then none else some (Cd (Aa ns k).text))
  else if(Aa ns k).kind=11 then cst ns n ((Aa ns k).kids.headD 0)
  else if(Aa ns k).kind=7 then Ha (Aa ns k).text ((Aa ns k).kids.map (cst ns n)) else none
def cV(ns:List Nd)(k:Int):Option Int:=cst ns (k.toNat+1) k
def Cj(ns:List Nd)(k:Int):Prop:=BK ns k=true∧∀i:Nat,(i:Int)≤k→BQ ns i=true
theorem b1m{ns:List Nd}{k:Int}(h:Bz ns k≠0):Cj ns k:=⟨(Nt h).1,(Nt h).2.2⟩
theorem LX{ns:List Nd}{k:Int}(h:Cj ns k):BQ ns k=true:=by
 have:=BX.1 h.1
 have h2:=h.2 k.toNat (by omega)
 rwa [show((k.toNat:Nat):Int)=k by omega] at h2
theorem Ez{ns:List Nd}{k c:Int}(h:Cj ns k)(hc:c∈(Aa ns k).kids):Cj ns c∧0≤c∧c<k:=by
 have h1:=(DZ (LX h)).2.2.2.1 c hc
 have h2:=BX.1 h.1
 exact⟨⟨BX.2 (by omega),fun i hi=>h.2 i (by omega)⟩,h1⟩
theorem b1n{ns:List Nd}{x:Nd}(h:Ci x.kind (x.kids.map (AS ns))=true)(hk:x.kind=11):∃c,x.kids=[c]:=by
 rw[hk] at h
 simp [Ci] at h
 match hx:x.kids with
 |[]=>rw[hx] at h;simp at h
 |[c]=>exact⟨c,rfl⟩
 |c::d::l=>rw[hx] at h;simp at h
theorem b1o{ns:List Nd}{x:Nd}(h:Ci x.kind (x.kids.map (AS ns))=true)(hk:x.kind=7):2≤x.kids.length:=by
 rw[hk] at h
 simp [Ci] at h;exact h.1
theorem NM{ns:List Nd}{k:Int}(h:Cj ns k)(hk:(Aa ns k).kind=11):∃c,(Aa ns k).kids=[c]:=b1n (DZ (LX h)).2.2.2.2.2.1 hk
theorem VY{ns:List Nd}{k:Int}(h:Cj ns k)(hk:(Aa ns k).kind=7):2≤(Aa ns k).kids.length:=b1o (DZ (LX h)).2.2.2.2.2.1 hk
theorem b1p{s:List UInt8}(h:Cx s 2=true):s.all Bg=true∧1≤s.length∧s.length≤12:=by
 rw[Rp] at h
 simp only[Bool.and_eq_true,decide_eq_true_eq] at h
 exact⟨h.1,h.2.1,h.2.2⟩
theorem VZ{ns:List Nd}{k:Int}(h:Cj ns k)(hk:(Aa ns k).kind=2):(Aa ns k).text.all Bg=true∧1≤(Aa ns k).text.length∧(Aa ns k).text.length≤12:=by
 have:=(DZ (LX h)).2.2.1
 rw[hk] at this
 exact b1p (by simpa [Ev] using this)
theorem LY{ns:List Nd}:∀ {n m:Nat} {k:Int},Cj ns k→k.toNat<n→k.toNat<m→cst ns n k=cst ns m k
 |0,_,_,_,h,_=>by omega
 |_,0,_,_,_,h=>by omega
 |n+1,m+1,k,h,h1,h2=>by
  have hr:=BX.1 h.1
  simp only[cst]
  by_cases e2:(Aa ns k).kind=2
  ·rw[if_pos e2,if_pos e2]
  ·rw[if_neg e2,if_neg e2]
   by_cases e11:(Aa ns k).kind=11
   ·rw[if_pos e11,if_pos e11]
    obtain⟨c,hc⟩:=NM h e11
    obtain⟨h3,h4⟩:=Ez h (c:=c) (by rw[hc];simp)
    rw[hc];exact LY h3 (by simp;omega) (by simp;omega)
   ·rw[if_neg e11,if_neg e11]
    congr 2
    apply List.map_congr_left
    intro c hc
    obtain⟨h3,h4⟩:=Ez h hc
    exact LY h3 (by omega) (by omega)
theorem RQ{ns:List Nd}{k:Int}(h:Cj ns k):cV ns k=if(Aa ns k).kind=2 then(if 9<(Aa ns k).text.length then none else some (Cd (Aa ns k).text))
 else if(Aa ns k).kind=11 then cV ns ((Aa ns k).kids.headD 0)
 else if(Aa ns k).kind=7 then Ha (Aa ns k).text ((Aa ns k).kids.map (cV ns)) else none:=by
 have hr:=BX.1 h.1
 rw[cV,cst]
 by_cases e2:(Aa ns k).kind=2
 ·rw[if_pos e2,if_pos e2]
 ·rw[if_neg e2,if_neg e2]
  by_cases e11:(Aa ns k).kind=11
  ·rw[if_pos e11,if_pos e11]
   obtain⟨c,hc⟩:=NM h e11
   obtain⟨h3,h4⟩:=Ez h (c:=c) (by rw[hc];simp)
   rw[hc];exact LY h3 (by simp;omega) (by simp)
  ·rw[if_neg e11,if_neg e11]
   congr 2
   apply List.map_congr_left
   intro c hc
   obtain⟨h3,h4⟩:=Ez h hc
   exact LY h3 (by omega) (by omega)
theorem Wa{s:List UInt8}{c:UInt8}:Cd (s++[c])=Cd s*10+((c.toNat:Int)-48):=by simp [Cd,List.foldl_append]
theorem a1x{s:List UInt8}{n:Nat}{c:UInt8}(h:s[n]? =some c):Cd (s.take (n+1))=Cd (s.take n)*10+((c.toNat:Int)-48):=by
 rw[EM h,Wa]
theorem a1y:∀(n:Nat) {s:List UInt8},s.all Bg=true→s.length=n→0≤Cd s∧Cd s<10^n
 |0,s,h,hn=>by
  obtain rfl:s=[]:=List.length_eq_zero_iff.1 hn
  simp [Cd]
 |n+1,s,h,hn=>by
  have hne:s≠[]:=by intro e;rw[e] at hn;simp at hn
  have e:=(List.dropLast_concat_getLast hne).symm
  generalize hl:s.dropLast=l at e
  generalize s.getLast hne=c at e
  subst e
  simp only[List.all_append,Bool.and_eq_true] at h
  have ih:=a1y n h.1 (by simpa using hn)
  have hc:Bg c=true:=by simpa using h.2
  simp only[Bg,Bool.and_eq_true,decide_eq_true_eq] at hc
  rw[Wa,Int.pow_succ];omega
theorem RR{s:List UInt8}(h:s.all Bg=true)(h9:s.length≤9):0≤Cd s∧Cd s<1000000000:=by
 obtain⟨h1,h2⟩:=a1y s.length h rfl
 refine⟨h1,?_⟩
 have:s.length=0∨s.length=1∨s.length=2∨s.length=3∨s.length=4∨s.length=5∨s.length=6∨s.length=7∨s.length=8∨s.length=9:=by omega
 rcases this with e|e|e|e|e|e|e|e|e|e<;>rw[e] at h2<;>simp at h2<;>omega
theorem a1z{a b:Int}(h1: -1000000000≤a)(h2:a≤1000000000)(h3: -1000000000≤b)(h4:b≤1000000000): -1000000000000000000≤a*b∧a*b≤1000000000000000000:=by
 have k1:(a*b).natAbs≤1000000000*1000000000:=by
  rw[Int.natAbs_mul]
  exact Nat.mul_le_mul (by omega) (by omega)
 omega
def bdd(v:Int):Prop:= -1000000000≤v∧v≤1000000000
theorem b1q{t:List UInt8}{a b:Option Int}{v:Int}(h:Gv t a b=some v):bdd v:=by
 unfold Gv at h
 split at h
 ·split at h
  ·rename_i hi;cases h;exact Ih.1 hi
  ·cases h
 ·cases h
theorem a1A{t:List UInt8}:∀ {l:List (Option Int)} {a:Option Int} {v:Int},(∀w,a=some w→bdd w)→l.foldl (Gv t) a=some v→bdd v
 |[],a,v,h,hv=>h v hv
 |b::l,a,v,h,hv=>a1A (l:=l) (fun w hw=>b1q hw) hv
theorem Wb{ns:List Nd}:∀ {n:Nat} {k:Int} {v:Int},Cj ns k→k.toNat<n→cst ns n k=some v→bdd v
 |0,_,_,_,h,_=>by omega
 |n+1,k,v,h,h1,hv=>by
  have hr:=BX.1 h.1
  simp only[cst] at hv
  by_cases e2:(Aa ns k).kind=2
  ·rw[if_pos e2] at hv
   split at hv
   ·cases hv
   ·simp only[Option.some.injEq] at hv
    have:=RR (VZ h e2).1 (by omega)
    unfold bdd;omega
  ·rw[if_neg e2] at hv
   by_cases e11:(Aa ns k).kind=11
   ·rw[if_pos e11] at hv
    obtain⟨c,hc⟩:=NM h e11
    obtain⟨h3,h4⟩:=Ez h (c:=c) (by rw[hc];simp)
    rw[hc] at hv
    exact Wb (k:=c) h3 (by omega) hv
   ·rw[if_neg e11] at hv
    by_cases e7:(Aa ns k).kind=7
    ·rw[if_pos e7] at hv
     unfold Ha at hv
     split at hv
     ·have h2:=VY h e7
      match hkk:(Aa ns k).kids with
      |[]=>rw[hkk] at h2;simp at h2
      |c::l=>
       rw[hkk] at hv
       simp only[List.map_cons,Fh] at hv
       obtain⟨h3,h4⟩:=Ez h (c:=c) (by rw[hkk];simp)
       exact a1A (fun w hw=>Wb h3 (by omega) hw) hv
     ·cases hv
    ·rw[if_neg e7] at hv;cases hv
theorem b1r{ns:List Nd}{k v:Int}(h:Cj ns k)(hv:cV ns k=some v):bdd v:=Wb h (by omega) hv
def oI(o:Option Int):Int:=o.getD 0
theorem a1B{ns:List Nd}{k:Int}(h:Cj ns k):bdd (oI (cV ns k)):=by
 unfold oI
 cases hv:cV ns k with
 |none=>unfold bdd;simp
 |some v=>exact b1r h hv
theorem b1s{t:List UInt8}{l:List (Option Int)}{b:Option Int}(h:l≠[]):Fh t (l++[b])=Gv t (Fh t l) b:=by
 cases l with
 |nil=>exact(h rfl).elim
 |cons a l=>simp [Fh,List.foldl_append]
theorem a1C{t:List UInt8}:∀ {l:List (Option Int)},l.foldl (Gv t) none=none
 |[]=>rfl
 |b::l=>by simp only[List.foldl_cons];rw[show Gv t none b=none from rfl];exact a1C
theorem a1D{t:List UInt8}{l m:List (Option Int)}(h:l≠[])(hn:Fh t l=none):Fh t (l++m)=none:=by
 cases l with
 |nil=>exact(h rfl).elim
 |cons a l=>
  simp only[Fh,List.cons_append,List.foldl_append] at hn ⊢
  rw[hn];exact a1C
end Go.My
end
section
namespace Go.My
open Go.Eng Go.Proofs
variable {G:GInv}
structure Gr where
 notes:List Int
 member:Int
end Go.My
end
section
namespace Go.My
open Go.Eng
section
variable {α:Type} (lt:α→α→Bool)
variable {lt}
end
end Go.My
end
section
namespace Go.My
open Go.Eng Go.Proofs
variable {G:GInv}
end Go.My
end
section
namespace Go.My
open Go.Eng
def DG(ns:List Nd)(k:Int):List Int:=(Aa ns k).kids
def vis(ns:List Nd):Nat→Int→List Int
 |0,_=>[]
 |n+1,k=>k::(DG ns k).flatMap (vis ns n)
def WL(ns:List Nd):Nat→List Int→List Int
 |0,_=>[]
 |n+1,l=>l++WL ns n (l.flatMap (DG ns))
theorem a1E{ns:List Nd}:∀ {n:Nat} {l:List Int},(l.flatMap (vis ns n)).length=(WL ns n l).length
 |0,l=>by
  have:l.flatMap (vis ns 0)=[]:=by simp [vis]
  rw[this];rfl
 |n+1,l=>by
  rw[WL,List.length_append,←a1E (l:=l.flatMap (DG ns)),List.flatMap_assoc]
  have:∀l:List Int,(l.flatMap (vis ns (n+1))).length=l.length+(l.flatMap fun x=>(DG ns x).flatMap (vis ns n)).length:=by
   intro l
   induction l with
   |nil=>rfl
   |cons k l ih=>
    rw[List.flatMap_cons,List.flatMap_cons,List.length_append,List.length_append,ih,vis,List.length_cons,List.length_cons];omega
  rw[this]
theorem a1F{ns:List Nd}:∀ {n:Nat} {l:List Int},WL ns n (l.flatMap (DG ns))=(WL ns n l).flatMap (DG ns)
 |0,l=>rfl
 |n+1,l=>by rw[WL,WL,List.flatMap_append,a1F (l:=l.flatMap (DG ns))]
theorem b1t{ns:List Nd}{n:Nat}{l:List Int}:WL ns (n+1) l=l++(WL ns n l).flatMap (DG ns):=by rw[WL,a1F]
theorem RS(f:Int→Nat):∀(n:Nat) (V:List Int),V.Nodup→(∀p∈V,0≤p∧p<n)→(V.map f).sum≤((List.range n).map fun i:Nat=>f i).sum
 |0,V,_,h=>by
  have:V=[]:=by
   cases V with
   |nil=>rfl
   |cons p V=>have:=h p (by simp);omega
  subst this;simp
 |n+1,V,hn,h=>by
  rw[List.range_succ,List.map_append,List.sum_append]
  by_cases hm:(n:Int)∈V
  ·have hp:=List.perm_cons_erase hm
   have e:(V.map f).sum=f n+((V.erase n).map f).sum:=by
    have:=(hp.map f).sum_nat
    rw[this];simp
   have h2:=RS f n (V.erase n) (hn.erase _) (fun p hp=>by
    have h3:=(List.Nodup.mem_erase_iff hn).1 hp
    have:=h p h3.2
    have h4:=h3.1
    omega)
   rw[e];simp;omega
  ·have h2:=RS f n V hn (fun p hp=>by
    have:=h p hp
    have:p≠n:=fun e=>hm (e▸hp)
    omega)
   simp;omega
theorem a1G{V:List Int}{n:Nat}(hn:V.Nodup)(h:∀p∈V,0≤p∧p<n):V.length≤n:=by
 have:=RS (fun _=>1) n V hn h
 have e1:∀l:List Int,(l.map fun _=>1).sum=l.length:=by
  intro l;induction l with
  |nil=>rfl
  |cons a l ih=>simp only[List.map_cons,List.sum_cons,ih,List.length_cons];omega
 have e2:∀l:List Nat,(l.map fun _=>1).sum=l.length:=by
  intro l;induction l with
  |nil=>rfl
  |cons a l ih=>simp only[List.map_cons,List.sum_cons,ih,List.length_cons];omega
 rw[e1,e2,List.length_range] at this;exact this
theorem b1u{ns:List Nd}:ns=(List.range ns.length).map fun i:Nat=>Aa ns i:=by
 apply List.ext_getElem?
 intro i
 by_cases h:i<ns.length
 ·have:ns[i]? =some ns[i]:=by simp
  rw[List.getElem?_map,List.getElem?_range h,this]
  simp only[Option.map_some]
  congr 1
  exact(Bo (c:=(i:Int)) (by simp)).symm
 ·rw[List.getElem?_eq_none (by omega),List.getElem?_eq_none (by simp;omega)]
theorem b1v{ns:List Nd}{j:Int}:(BW ns).count j=((List.range ns.length).map fun i:Nat=>(DG ns i).count j).sum:=by
 have h:BW ns=((List.range ns.length).map fun i:Nat=>Aa ns i).flatMap (·.kids):=by rw[←b1u];rfl
 rw[h,List.count_flatMap,List.map_map];rfl
theorem a1H:∀ {l:List Nat},(∀m∈l,m=0)→l.sum=0
 |[],_=>rfl
 |m::l,h=>by rw[List.sum_cons,h m (by simp),a1H fun n hn=>h n (by simp [hn])]
def a1I(ns:List Nd):Prop:=(∀i:Nat,i<ns.length→BQ ns i=true)∧∀i:Nat,i<ns.length-1→(BW ns).count (i:Int)=1
theorem Wc{ns:List Nd}(h:a1I ns)(h0:1≤ns.length):∀n:Nat,(WL ns n [(ns.length:Int)-1]).Nodup∧∀p∈WL ns n [(ns.length:Int)-1],0≤p∧p<ns.length
 |0=>⟨List.nodup_nil,fun p hp=>by cases hp⟩
 |n+1=>by
  obtain⟨ih1,ih2⟩:=Wc h h0 n
  rw[b1t]
  have hk:∀p∈WL ns n [(ns.length:Int)-1],∀c∈DG ns p,0≤c∧c<p:=by
   intro p hp c hc
   have h2:=ih2 p hp
   have h3:=h.1 p.toNat (by omega)
   have e:((p.toNat:Nat):Int)=p:=by omega
   rw[e] at h3
   exact(DZ h3).2.2.2.1 c hc
  refine⟨?_,?_⟩
  ·rw[List.nodup_iff_count]
   intro j
   rw[List.count_append,List.count_flatMap]
   by_cases hj:j=(ns.length:Int)-1
   ·subst hj
    have:((WL ns n [(ns.length:Int)-1]).map (List.count ((ns.length:Int)-1)∘DG ns)).sum=0:=by
     refine a1H fun m hm=> ?_
     obtain⟨p,hp,rfl⟩:=List.mem_map.1 hm
     simp only[Function.comp]
     rw[List.count_eq_zero]
     intro hc
     have:=hk p hp _ hc
     have:=ih2 p hp
     omega
    rw[this];simp
   ·have h1:List.count j [(ns.length:Int)-1]=0:=by
     rw[List.count_eq_zero];simpa using hj
    have h2:=RS (fun p=>(DG ns p).count j) ns.length _ ih1 ih2
    rw[←b1v] at h2
    have h3:(BW ns).count j≤1:=by
     by_cases hr:0≤j∧j<ns.length
     ·have:=h.2 j.toNat (by omega)
      rw[show((j.toNat:Nat):Int)=j by omega] at this;omega
     ·have:(BW ns).count j=0:=by
       rw[List.count_eq_zero]
       intro hm
       obtain⟨y,hy,hc⟩:=List.mem_flatMap.1 hm
       obtain⟨i,hi⟩:=List.mem_iff_getElem?.1 hy
       have hlt:=(DW hi).1
       have:=(DZ (h.1 i hlt)).2.2.2.1 j
       rw[Bo (c:=(i:Int)) (by simpa using hi)] at this
       have:=this hc
       omega
      omega
    rw[h1]
    have e:(List.count j∘DG ns)=fun p=>(DG ns p).count j:=rfl
    rw[e];omega
  ·intro p hp
   rcases List.mem_append.1 hp with hp|hp
   ·simp at hp;omega
   ·obtain⟨q,hq,hc⟩:=List.mem_flatMap.1 hp
    have:=hk q hq p hc
    have:=ih2 q hq
    omega
theorem Gw{ns:List Nd}(h:BB ns=true):a1I ns∧1≤ns.length∧ns.length≤300∧Cj ns ((ns.length:Int)-1):=by
 simp only[BB,Bool.and_eq_true,decide_eq_true_eq,Bool.not_eq_true',decide_eq_false_iff_not,List.all_eq_true,List.mem_range] at h
 have hu:=b1m h.2.2.1
 refine⟨⟨fun i hi=>hu.2 i (by omega),fun i hi=> ?_⟩,h.1.1,h.1.2,hu⟩
 exact h.2.2.2 i hi
theorem RT{ns:List Nd}{n:Nat}(h:BB ns=true):(vis ns n ((ns.length:Int)-1)).length≤300:=by
 obtain⟨h1,h2,h3,_⟩:=Gw h
 have e:= @a1E ns n [(ns.length:Int)-1]
 simp only[List.flatMap_cons,List.flatMap_nil,List.append_nil] at e
 rw[e]
 have:=Wc h1 h2 n
 have:=a1G this.1 this.2
 omega
def Cz(ns:List Nd)(n:Nat)(l:List Int):Nat:=(l.flatMap (vis ns n)).length
theorem JB{ns:List Nd}{n:Nat}{k:Int}:(vis ns (n+1) k).length=1+Cz ns n (DG ns k):=by rw[vis,List.length_cons,Cz];omega
theorem IY{ns:List Nd}{n:Nat}{c:Int}{l:List Int}:Cz ns n (c::l)=(vis ns n c).length+Cz ns n l:=by simp [Cz]
theorem b1w{ns:List Nd}{n:Nat}{i:Nat}{c:Int}{l:List Int}(h:l[i]? =some c):Cz ns n (l.drop i)=(vis ns n c).length+Cz ns n (l.drop (i+1)):=by
 rw[HA h,IY]
structure Rw where
 stop:Int→Option Nd
 tgt:Int→Int→Int→Int
 par:Int→Int→Int→Bool
def b1x(o:List Nd):Nd:=⟨11,[],[(o.length:Int)-1],false⟩
def Fi(R:Rw)(f:Int→List Nd→List Nd)(k i c:Int)(out:List Nd):List Nd:=
 if R.par k i c then f (R.tgt k i c) out++[b1x (f (R.tgt k i c) out)] else f (R.tgt k i c) out
def ER(R:Rw)(f:Int→List Nd→List Nd)(k:Int):List Int→Int→List Nd→List Int→List Nd×List Int
 |[],_,out,ks=>(out,ks)
 |c::l,i,out,ks=>ER R f k l (i+1) (Fi R f k i c out) (ks++[((Fi R f k i c out).length:Int)-1])
def Bb(ns:List Nd)(R:Rw):Nat→Int→List Nd→List Nd
 |0,_,out=>out
 |n+1,k,out=>match R.stop k with
  |some x=>out++[x]
  |none=>(ER R (Bb ns R n) k (Aa ns k).kids 0 out []).1++[⟨(Aa ns k).kind,(Aa ns k).text,(ER R (Bb ns R n) k (Aa ns k).kids 0 out []).2,(Aa ns k).blank⟩]
def RU(ns:List Nd)(R:Rw):Prop:=∀(n:Nat) (k:Int) (i:Nat) (c:Int),Cj ns k→(Aa ns k).kids[i]? =some c→c<n→
 Cj ns (R.tgt k i c)∧R.tgt k i c≤c∧(vis ns n (R.tgt k i c)).length+(if R.par k i c then 1 else 0)≤(vis ns n c).length
theorem Wd{ns:List Nd}{R:Rw}(hR:RU ns R):∀ {n:Nat} {k:Int} {out:List Nd},Cj ns k→k<n→out.length<(Bb ns R n k out).length∧(Bb ns R n k out).length≤out.length+2*(vis ns n k).length
 |0,k,out,h,hk=>by have:=BX.1 h.1;omega
 |n+1,k,out,h,hk=>by
  rw[JB,Bb]
  cases hs:R.stop k with
  |some x=>simp only[List.length_append,List.length_cons,List.length_nil];omega
  |none=>
   simp only[List.length_append,List.length_cons,List.length_nil]
   have key:∀(l:List Int) (i:Nat) (o:List Nd) (ks:List Int),(Aa ns k).kids.drop i=l→o.length≤(ER R (Bb ns R n) k l i o ks).1.length∧(ER R (Bb ns R n) k l i o ks).1.length≤o.length+2*Cz ns n l:=by
    intro l
    induction l with
    |nil=>intro i o ks _;simp [ER,Cz]
    |cons c l ih=>
     intro i o ks hd
     have hc:(Aa ns k).kids[i]? =some c:=by
      have:=congrArg (fun l:List Int=>l[0]?) hd
      simpa using this
     have hm:=Ez h (BJ hc)
     obtain⟨g1,g2,g3⟩:=hR n k i c h hc (by omega)
     obtain⟨p1,p2⟩:=Wd hR (n:=n) (k:=R.tgt k i c) (out:=o) g1 (by omega)
     have hd2:(Aa ns k).kids.drop (i+1)=l:=by
      rw[←List.drop_drop,hd];rfl
     obtain⟨q1,q2⟩:=ih (i+1) (Fi R (Bb ns R n) k i c o) (ks++[((Fi R (Bb ns R n) k i c o).length:Int)-1]) hd2
     have hb:o.length≤(Fi R (Bb ns R n) k i c o).length∧(Fi R (Bb ns R n) k i c o).length≤o.length+2*(vis ns n c).length:=by
      unfold Fi
      split
      ·rename_i hp;rw[if_pos hp] at g3;simp;omega
      ·rename_i hp;rw[if_neg hp] at g3;omega
     rw[ER,IY]
     have e:((i:Int)+1)=((i+1:Nat):Int):=by omega
     rw[e]
     omega
   have:=key (Aa ns k).kids 0 out [] (by simp)
   simp only[DG] at this ⊢
   have e:((0:Nat):Int)=0:=rfl
   rw[e] at this
   omega
def pk(ns:List Nd)(R:Rw)(n:Nat)(k:Int)(out0:List Nd)(i:Int)(out:List Nd)(ks:List Int):Prop:=
 (0≤i∧i≤(Aa ns k).kids.length)∧ER R (Bb ns R n) k ((Aa ns k).kids.drop i.toNat) i out ks=ER R (Bb ns R n) k (Aa ns k).kids 0 out0 []∧
   out.length+2*Cz ns n ((Aa ns k).kids.drop i.toNat)≤out0.length+2*Cz ns n (Aa ns k).kids∧out0.length≤out.length∧ks.length=i
theorem b1y{ns:List Nd}{R:Rw}{n:Nat}{k:Int}{out0:List Nd}:pk ns R n k out0 0 out0 []:=⟨⟨by omega,by omega⟩,by simp,by simp,Nat.le_refl _,rfl⟩
theorem b1z{ns:List Nd}{R:Rw}(hR:RU ns R){n:Nat}{k:Int}{out0:List Nd}{i c:Int}{out:List Nd}{ks:List Int}(h:pk ns R n k out0 i out ks)(hu:Cj ns k)(hk:k<n+1)
 (hc:(Aa ns k).kids[i.toNat]? =some c):pk ns R n k out0 (i+1) (Fi R (Bb ns R n) k i c out) (ks++[((Fi R (Bb ns R n) k i c out).length:Int)-1]):=by
 obtain⟨⟨h0,h1⟩,h2,h3,h4,h5⟩:=h
 have hlt:=(DW hc).1
 have hm:=Ez hu (BJ hc)
 obtain⟨g1,g2,g3⟩:=hR n k i.toNat c hu hc (by omega)
 have e:((i.toNat:Nat):Int)=i:=by omega
 rw[e] at g1 g2 g3
 obtain⟨p1,p2⟩:=Wd hR (n:=n) (k:=R.tgt k i c) (out:=out) g1 (by omega)
 have hb:out.length≤(Fi R (Bb ns R n) k i c out).length∧(Fi R (Bb ns R n) k i c out).length≤out.length+2*(vis ns n c).length:=by
  unfold Fi
  split
  ·rename_i hp;rw[if_pos hp] at g3;simp;omega
  ·rename_i hp;rw[if_neg hp] at g3;omega
 refine⟨⟨by omega,by omega⟩,?_,?_,by omega,by simp;omega⟩
 ·rw[←h2,HA hc,Da h0];rfl
 ·rw[HA hc,IY] at h3
  rw[Da h0];omega
theorem b1A{ns:List Nd}{R:Rw}{n:Nat}{k:Int}{out0:List Nd}{i:Int}{out:List Nd}{ks:List Int}(h:pk ns R n k out0 i out ks)(hl:¬i<(Aa ns k).kids.length)(hs:R.stop k=none):
 out++[⟨(Aa ns k).kind,(Aa ns k).text,ks,(Aa ns k).blank⟩]=Bb ns R (n+1) k out0:=by
 obtain⟨⟨h0,h1⟩,h2,_⟩:=h
 rw[List.drop_eq_nil_of_le (by omega),ER] at h2
 rw[Bb,hs]
 simp only
 rw[←h2]
theorem b1B{ns:List Nd}{R:Rw}(hR:RU ns R){n:Nat}{k:Int}{out0:List Nd}{i c:Int}{out:List Nd}{ks:List Int}(h:pk ns R n k out0 i out ks)(hu:Cj ns k)(hk:k<n+1)
 (hc:(Aa ns k).kids[i.toNat]? =some c) {B:Nat} (hB:out0.length+2*(vis ns (n+1) k).length≤B):
 Cj ns (R.tgt k i c)∧R.tgt k i c<n∧out.length+2*(vis ns n (R.tgt k i c)).length≤B:=by
 obtain⟨⟨h0,h1⟩,h2,h3,h4,h5⟩:=h
 have hlt:=(DW hc).1
 have hm:=Ez hu (BJ hc)
 obtain⟨g1,g2,g3⟩:=hR n k i.toNat c hu hc (by omega)
 have e:((i.toNat:Nat):Int)=i:=by omega
 rw[e] at g1 g2 g3
 refine⟨g1,by omega,?_⟩
 rw[HA hc,IY] at h3
 rw[JB] at hB
 simp only[DG] at hB
 omega
theorem b1C{ns:List Nd}{R:Rw}{n:Nat}{k:Int}{out0:List Nd}{i:Int}{out:List Nd}{ks:List Int}(h:pk ns R n k out0 i out ks){B:Nat}(hB:out0.length+2*(vis ns (n+1) k).length≤B):
 (0≤i∧i≤(Aa ns k).kids.length)∧out.length+2≤B∧ks.length=i:=by
 obtain⟨h0,h2,h3,h4,h5⟩:=h
 rw[JB] at hB
 simp only[DG] at hB
 exact⟨h0,by omega,h5⟩
end Go.My
end
section
namespace Go.My
open Go.Eng Go.Proofs
variable {G:GInv}
def LZ:Sig:= {X:=List Int,args:=fun x=>[Ag x],pre:=fun x=>x.length≤2^40,Y:=Unit,post:=fun x y=>True,res:=fun x y=>Ad x,outs:=fun x y=>[.top],keep:=false}
theorem b1D:Al G Tryz.prog 68 LZ:=
 vcFun_okP [] [(25,⟨Int,Bc⟩)] false (fun x=>[]) Tryz.func68 rfl (by decide) trivial (fun(x:List Int)=>(∀(y:Unit),True→(∀(x:Int),True∧True)∧True∧True)∧∀(b:Bool),(b=true→x=[])→Ab b (rA LZ x [.nil,.top]) (∃(zs:List Int),Ag x=Ag zs∧Br Bc∧Ba ((0:Nat)+List.length zs) (8:Nat)∧rA LZ x [Ad ([]++zs),.top])) (fun x=>by kernel_rfl) fun(x:List Int) (hx:x.length≤2^40)=>(by
 dsimp only[Ag,Ad,rA,LZ,Aw,Az]
 have hx:x.length≤2^40:=hx
 (repeat' first|(with_reducible first|rfl|exact True.intro|apply AK|apply And.intro|((first|apply AA|apply AI|apply AB|apply AJ)<;>intro _))|(apply Ax<;>intro _)|apply AH|refine Af () ?_ ?_|((first|apply AO|apply AN|apply AM|apply AL|apply AG|apply AF|apply AE|apply AD|apply AC)<;>try dsimp only)|apply Af|(refine Prod.forall.2 ?_;intro _;try dsimp only)|(intro _;try dsimp only))
 all_goals first
  |rfl
  |(rename_i h0 hb;rw[h0 hb];done)
  |((try simp only[Ba,List.length_nil]);omega)
  |skip)
theorem b1E{l:List Nd}{i:Int}{e:Nd}(h0:0≤i)(he:l[i.toNat]? =some e):l.take i.toNat++[e]=l.take (i+1).toNat:=by rw[Da h0,EM he]
theorem b1F{l:List Nd}{i:Int}(h:¬i<(l.length:Int)):l.take i.toNat=l:=List.take_of_length_le (by omega)
def JC(l:List Nd):Prop:=l.length≤2^30∧∀e∈l,e.kids.length≤2^30
def NN:Sig:= {X:=List Nd,args:=fun x=>[nds x],pre:=fun x=>JC x,Y:=Unit,post:=fun x y=>True,res:=fun x y=>AZ x,outs:=fun x y=>[.top],keep:=false}
def RV(x:List Nd):LS:= {ι:=Int,inv:=fun i=>0≤i∧i≤x.length,regs:=fun i=>[(3,AZ (x.take i.toNat)),(6,nds x),(7,.int .i64 x.length),(8,.int .i64 i)],als:=[],meas:=fun i=>x.length-i.toNat}
theorem b1G:Al G Tryz.prog 38 NN:=
 vcFun_okP [(68,0,LZ)] [(27,⟨Nd,ndA true⟩)] false (fun x=>[(3,RV x)]) Tryz.func38 rfl (by decide) ⟨b1D,trivial⟩ (fun(x:List Nd)=>(∀(y:Unit),True→(∀(x:Nd),True∧True∧(∀(x:Int),True∧True)∧True∧True)∧True∧True)∧eA (RV x) [.nil,nds x,.int .i64 (↑(List.length x):Int),.int .i64 (0:Int)]∧∀(i:Int),(0:Int)≤i∧i≤(↑(List.length x):Int)→Ab (decide (i<(↑(List.length x):Int))) (((0:Int)≤i∧i<(↑(List.length x):Int))∧∀(e:Nd),x[Int.toNat i]? =some e→cA LZ [Ag e.kids] fun x_1 y=>∃(x_2:Nd),e.kind=x_2.kind∧e.text=x_2.text∧Ad x_1=Ad x_2.kids∧e.blank=x_2.blank∧∃(zs:List Nd),AZ [x_2]=AZ zs∧Br (ndA true)∧Ba (List.length (List.take (Int.toNat i) x)+List.length zs) (56:Nat)∧inR IntKind.i64 (i+(1:Int))∧eN (RV x) i [AZ (List.take (Int.toNat i) x++zs),nds x,.int .i64 (↑(List.length x):Int),.int .i64 (i+(1:Int))]) (rA NN x [AZ (List.take (Int.toNat i) x),.top])) (fun x=>by kernel_rfl) fun(x:List Nd) (hx:JC x)=>(by
 dsimp only[cA,eA,eN,RV,Ag,Bx,nds,Ad,AZ,rA,LZ,NN,Aw,Az,mvL,lnL,mvE,lnE,Bv]
 obtain⟨h1,h2⟩:=hx
 (repeat' first|(with_reducible first|rfl|exact True.intro|apply AK|apply And.intro|((first|apply AA|apply AI|apply AB|apply AJ)<;>intro _))|(apply Ax<;>intro _)|apply AH|refine Af () ?_ ?_|((first|apply AO|apply AN|apply AM|apply AL|apply AG|apply AF|apply AE|apply AD|apply AC)<;>try dsimp only)|apply Af|(refine Prod.forall.2 ?_;intro _;try dsimp only)|(intro _;try dsimp only))
 all_goals first
  |rfl
  |exact b1E (And.left ‹_›) ‹_›
  |exact b1F ‹_›
  |(have hk:=h2 _ (BJ (show x[Int.toNat _]? =some _ by assumption));omega)
  |((try simp only[AQ,Ba,List.length_take,List.length_cons,List.length_nil]);omega)
  |skip)
def a1J(R:List Nd→Rw)(n:Nat)(x:List Nd×Int×List Nd):Prop:=BD x.1∧Cj x.1 x.2.1∧x.2.1<n∧x.2.2.length+2*(vis x.1 n x.2.1).length≤1048576
theorem b1H{a:Int}{b:List UInt8}{c:List Int}{d:Bool}{o:Bool}{i:Nat}{q:Nd→Prop}(h:q ⟨a,b,c,d⟩):∃x:Nd,a=x.kind∧b=x.text∧AV.sl o i 1 Int Bc c=AV.sl o i 1 Int Bc x.kids∧d=x.blank∧q x:=⟨⟨a,b,c,d⟩,rfl,rfl,rfl,rfl,h⟩
def De:Nat:=1073741825
theorem b1I{R:List Nd→Rw}{ns:List Nd}(h:BB ns=true)(ho:BD ns):a1J R De (ns,(ns.length:Int)-1,[]):=by
 obtain⟨h1,h2,h3,h4⟩:=Gw h
 refine⟨ho,h4,?_,?_⟩
 ·show(ns.length:Int)-1<De
  unfold De;omega
 ·have:= @RT ns De h
  show 0+_≤_
  simp only at*
  omega
theorem We{ns:List Nd}(h:BB ns=true):1≤ns.length∧ns.length≤300:=⟨(Gw h).2.1,(Gw h).2.2.1⟩
end Go.My
end
section
namespace Go.My
open Go.Eng Go.Proofs
variable {G:GInv}
theorem b1J{n:Int}(h1:0≤n)(h2:n≤255):inR .u8 n:=by
 unfold inR;simp [IntKind.min,IntKind.max,IntKind.bits,IntKind.signed];omega
section
variable {α:Type}
variable {mk:Int→α→α} {sz:α→Nat}
end
end Go.My
end
section
namespace Go.My
open Go.Eng
def rId:Rw:=⟨fun _=>none,fun _ _ c=>c,fun _ _ _=>false⟩
theorem a1K{g:Int→List Int}:∀ {l:List Int},(l.flatMap fun k=>k::g k).Perm (l++l.flatMap g)
 |[]=>List.Perm.refl _
 |k::l=>by
  rw[List.flatMap_cons,List.flatMap_cons,List.cons_append,List.cons_append]
  refine List.Perm.cons _ ?_
  exact(List.Perm.append_left _ (a1K (l:=l))).trans (List.perm_append_comm_assoc _ _ _)
theorem a1L{ns:List Nd}:∀ {n:Nat} {l:List Int},(l.flatMap (vis ns n)).Perm (WL ns n l)
 |0,l=>by
  have:l.flatMap (vis ns 0)=[]:=by simp [vis]
  rw[this];exact List.Perm.refl _
 |n+1,l=>by
  rw[WL]
  have e:vis ns (n+1)=fun k=>k::(DG ns k).flatMap (vis ns n):=by funext k;rfl
  rw[e]
  refine a1K.trans (List.Perm.append_left _ ?_)
  rw[←List.flatMap_assoc]
  exact a1L
abbrev Cls:=List (List UInt8×Int)
structure Mc where
 out:List Int
 code:Int
 steps:Int
 deep:Int
structure Fr where
 cells:Cls
 ended:Bool
 ret:Int
def Cy:Cls→List UInt8→Option Int
 |[],_=>none
 |p::l,t=>if p.1=t then some p.2 else Cy l t
def Cs:Cls→List UInt8→Int→Cls
 |[],t,n=>[(t,n)]
 |p::l,t,n=>if p.1=t then(p.1,n)::l else p::Cs l t n
def Run(α:Type):=Int→Mc→Option (α×Mc)
def Ek{α:Type}(a:α):Run α:=fun _ m=>some (a,m)
def FC{α β:Type}(c:Run α)(k:α→Run β):Run β:=fun L m=>(c L m).bind fun p=>k p.1 L p.2
def Gx{α:Type}(a:α)(c:Run α):Run α:=fun L m=>if m.code=0 then c L m else some (a,m)
def PE(m:Mc):Mc:=if m.code=0 then⟨m.out,1,m.steps,m.deep⟩ else m
def JD:Run Int:=fun _ m=>some (0,PE m)
def RW(L:Int)(m:Mc):Mc:=if m.code=0 then(if L≤m.steps then⟨m.out,2,m.steps,m.deep⟩ else⟨m.out,0,m.steps+1,m.deep⟩) else m
def a1M:Run Unit:=fun L m=>some ((),RW L m)
def b1K(n:Int):Run Int:=Gx 0 fun _ m=>some (0,⟨m.out++[n],m.code,m.steps,m.deep⟩)
def b1L{α:Type}(a:α)(c:Run α):Run α:=Gx a fun L m=>(c L ⟨m.out,m.code,m.steps,m.deep+1⟩).map fun p=>(p.1,⟨p.2.out,p.2.code,p.2.steps,p.2.deep-1⟩)
def Ge(a b:Mc):Prop:=a.out <+: b.out∧a.steps≤b.steps
def St(a b:Mc):Prop:=a.code=2∧Ge a b
structure Gd {α:Type} (c:Run α):Prop where
 stuck:∀ {L m p},m.code≠0→c L m=some p→p.2=m
 mono:∀ {L m p},c L m=some p→Ge m p.2
 rel:∀ {L M m p q},L≤M→c L m=some p→c M m=some q→p=q∨St p.2 q.2
def tr(b:Bool):Int:=if b then 1 else 0
def PF(V:Int→Run Int)(t:List UInt8):List Int→Run Int
 |[]=>Ek (tr (t==[38,38]))
 |k::ks=>FC (V k) fun n=>Gx 0 (if(n != 0)=(t==[124,124]) then Ek (tr ((n != 0))) else PF V t ks)
def Ma(V:Int→Run Int)(t:List UInt8):List Int→Bool→Int→Run Int
 |[],_,s=>Ek s
 |k::ks,b,s=>FC (V k) fun n=>Gx 0 (if b then Ma V t ks false n else if inn (CS t s n) (-1000000000) 1000000000 then Ma V t ks false (CS t s n) else FC JD (Ma V t ks false))
def RX(V:Int→Run Int):List Int→List Int→Run (Option (List Int))
 |[],az=>Ek (some az)
 |k::ks,az=>FC (V k) fun n=>Gx none (RX V ks (az++[n]))
def Bl(ns:List Nd)(t:List UInt8):List Int→Int
 |[]=> -1
 |c::l=>if AS ns c=20∧(Aa ns c).text=t then c else Bl ns t l
def Bf(ns:List Nd):Nd:=Aa ns ((ns.length:Int)-1)
def Hb(ns:List Nd):List Int→List Int→Cls→Cls
 |k::ks,a::az,cs=>Hb ns ks az (Cs cs (Aa ns k).text a)
 |_,_,cs=>cs
def Bu(x:Nd)(i:Nat):Int:=x.kids.getD i 0
def Wf(ns:List Nd)(B:Fr→Int→Run Fr)(t:List UInt8)(az:List Int):Run Int:=fun L m=>
 if m.code≠0∨Bl ns t (Bf ns).kids<0∨20<m.deep then JD L m
 else if(Aa ns (Bl ns t (Bf ns).kids)).kids.length≠az.length+1 then JD L m
 else FC (b1L ⟨[],false,0⟩ (B ⟨Hb ns ((Aa ns (Bl ns t (Bf ns).kids)).kids.take az.length) az [],false,0⟩ (Bu (Aa ns (Bl ns t (Bf ns).kids)) az.length))) (fun f=>Ek f.ret) L m
def b1M(ns:List Nd)(V:Int→Run Int)(B:Fr→Int→Run Fr)(x:Nd):Run Int:=
 if AS ns (Bu x 0)≠1 then JD
 else FC (RX V (x.kids.drop 1) []) fun o=>match o with
  |none=>Ek 0
  |some az=>if(Aa ns (Bu x 0)).text=[112,114,105,110,116]∧az.length=1 then b1K (az.headD 0) else Wf ns B (Aa ns (Bu x 0)).text az
def chG(V:Int→Run Int)(x:Nd):Run Int:=
 if x.text=[38,38]∨x.text=[124,124] then PF V x.text x.kids
 else if x.text=[61,61]∨x.text=[60] then(if x.kids.length≠2 then JD else FC (V (Bu x 0)) fun a=>Gx 0 (FC (V (Bu x 1)) fun b=>Gx 0 (Ek (if x.text=[61,61] then tr (a==b) else tr (decide (a<b))))))
 else Ma V x.text x.kids true 0
def b1N(ns:List Nd)(cs:Cls)(V:Int→Run Int)(B:Fr→Int→Run Fr)(k:Int):Run Int:=
 if AS ns k=2 then(if 9<(Aa ns k).text.length then JD else Ek (Cd (Aa ns k).text))
 else if AS ns k=1 then(match Cy cs (Aa ns k).text with|none=>JD|some n=>Ek n)
 else if AS ns k=11 then V (Bu (Aa ns k) 0)
 else if AS ns k=7 then chG V (Aa ns k)
 else if AS ns k=8 then FC (V (Bu (Aa ns k) 0)) fun n=>Gx 0 (if n≠0 then V (Bu (Aa ns k) 1) else V (Bu (Aa ns k) 2))
 else if AS ns k=5 then b1M ns V B (Aa ns k)
 else JD
def Wg(V:Cls→Int→Run Int)(B:Fr→Int→Run Fr)(x:Nd):Nat→Int→Fr→Run Fr
 |0,_,_=>fun _ _=>none
 |N+1,n,f=>if n=0 then Ek f else FC (B f (Bu x 1)) fun f2=>if f2.ended then Ek f2 else FC a1M fun _=>Gx f2 (FC (V f2.cells (Bu x 0)) fun n2=>Gx f2 (Wg V B x N n2 f2))
def a1N(V:Cls→Int→Run Int)(B:Fr→Int→Run Fr)(x:Nd)(f:Fr)(n:Int):Run Fr:=
 if x.kind=12 then Ek ⟨Cs f.cells x.text n,f.ended,f.ret⟩
 else if x.kind=13 then(match Cy f.cells x.text with|none=>FC JD fun _=>Ek f|some _=>Ek ⟨Cs f.cells x.text n,f.ended,f.ret⟩)
 else if x.kind=15 then Ek ⟨f.cells,true,n⟩
 else if x.kind=16 then(if n≠0 then B f (Bu x 1) else if x.kids.length=3 then B f (Bu x 2) else Ek f)
 else if x.kind=17 then Wg V B x 1002 n f
 else Ek f
def stG(V:Cls→Int→Run Int)(B:Fr→Int→Run Fr)(x:Nd)(f:Fr):Run Fr:=
 FC (if 0<x.kids.length then V f.cells (Bu x 0) else Ek 0) fun n=>Gx f (a1N V B x f n)
def PG(ns:List Nd)(V:Cls→Int→Run Int)(B:Fr→Int→Run Fr):List Int→Fr→Run Fr
 |[],f=>Ek f
 |k::ks,f=>Gx f (if f.ended then Ek f else if AS ns k=19 then PG ns V B ks f else FC a1M fun _=>FC (Gx f (stG V B (Aa ns k) f)) fun f2=>PG ns V B ks f2)
structure Fns where
 val:Cls→Int→Run Int
 blk:Fr→Int→Run Fr
def ev(ns:List Nd):Nat→Fns
 |0=>⟨fun _ _ _ _=>none,fun _ _ _ _=>none⟩
 |n+1=>⟨fun cs k=>b1N ns cs ((ev ns n).val cs) (ev ns n).blk k,fun f k=>PG ns (ev ns n).val (ev ns n).blk (Aa ns k).kids f⟩
end Go.My
end
section
namespace Go.My
open Go.Eng Go.Proofs
variable {G:GInv}
theorem Wh{ns:List Nd}{n:Nat}{ds:List Int}(h:CJ ns (n+1)=some ds):∃es,CJ ns n=some es∧ds=es++[mx es (Aa ns n).kids 0+1]:=by
 rw[CJ] at h
 split at h
 ·cases h
 ·rename_i es he
  split at h
  ·split at h
   ·cases h
   ·exact⟨es,he,(Option.some.inj h).symm⟩
  ·cases h
theorem RY{ns:List Nd}:∀ {m n:Nat} {ds:List Int},n≤m→CJ ns m=some ds→∃es,CJ ns n=some es∧∀i,i<n→ds[i]? =es[i]?
 |0,n,ds,hn,h=>by obtain rfl:n=0:=by omega
                  exact⟨ds,h,fun i hi=>by omega⟩
 |m+1,n,ds,hn,h=>by
  by_cases e:n=m+1
  ·subst e;exact⟨ds,h,fun _ _=>rfl⟩
  ·obtain⟨fs,h1,rfl⟩:=Wh h
   obtain⟨es,h2,h3⟩:=RY (n:=n) (by omega) h1
   refine⟨es,h2,fun i hi=> ?_⟩
   rw[List.getElem?_append_left (by rw[Jw h1];omega)]
   exact h3 i hi
theorem a1O{ds:List Int}:∀ {l:List Int} {d c:Int},c∈l→ds.getD c.toNat 0≤mx ds l d
 |[],_,_,h=>by cases h
 |a::l,d,c,h=>by
  rw[mx]
  rcases List.mem_cons.1 h with rfl|h
  ·have:=Rl ds l (max d (ds.getD c.toNat 0));omega
  ·exact a1O h
theorem a1P{ns:List Nd}{k c:Int}(h:Bz ns k≠0)(hc:c∈(Aa ns k).kids):Bz ns c<Bz ns k:=by
 obtain⟨h1,⟨ds,h2⟩,h3⟩:=Nt h
 have hk:=BX.1 h1
 have hok:BQ ns k=true:=by have:=h3 k.toNat (by omega);rwa [show((k.toNat:Nat):Int)=k by omega] at this
 have hcb:=(DZ hok).2.2.2.1 c hc
 obtain⟨es,h4,h5⟩:=Wh h2
 obtain⟨fs,h6,h7⟩:=RY (n:=c.toNat+1) (by omega) h4
 have e1:Bz ns k=mx es (Aa ns k).kids 0+1:=by
  unfold Bz
  rw[if_pos h1,h2,h5]
  have hl:=Jw h4
  simp only[List.getD]
  rw[List.getElem?_append_right (by omega)]
  simp [hl,show((k.toNat:Nat):Int)=k by omega]
 have e2:Bz ns c=es.getD c.toNat 0:=by
  unfold Bz
  rw[if_pos (BX.2 ⟨hcb.1,by omega⟩),h6]
  simp only[List.getD]
  rw[h7 c.toNat (by omega)]
 rw[e1,e2]
 have:= @a1O es (Aa ns k).kids 0 c hc
 omega
end Go.My
end
section
namespace Go.My
open Go.Eng
structure ZS where
 ns:List Nd
 L:Int
def wD(d:Int):Int:=12^(d.toNat-1)
def wK(ns:List Nd)(k:Int):Int:=wD (Bz ns k)
def wS(ns:List Nd):List Int→Int
 |[]=>0
 |k::l=>wK ns k+wS ns l
theorem NO{d:Int}:1≤wD d:=by
 unfold wD
 have:(0:Int)<12^(d.toNat-1):=Int.pow_pos (by omega)
 omega
theorem PH{ns:List Nd}:∀ {l:List Int},0≤wS ns l
 |[]=>Int.le_refl _
 |k::l=>by rw[wS];have:= @PH ns l;have:= @NO (Bz ns k);unfold wK;omega
theorem Wi{ns:List Nd}{q:Int}:∀ {l:List Int},(∀c∈l,wK ns c≤q)→wS ns l≤l.length*q
 |[],_=>by simp [wS]
 |k::l,h=>by
  rw[wS]
  have h1:=h k (by simp);have h2:=Wi (l:=l) (fun c hc=>h c (by simp [hc]))
  have:((k::l).length:Int)*q=l.length*q+q:=by rw[List.length_cons,Int.natCast_succ,Int.add_mul,Int.one_mul]
  omega
theorem Wj{a b:Int}(h:a≤b):wD a≤wD b:=by
 unfold wD;exact_mod_cast Nat.pow_le_pow_right (n:=12) (by omega) (by omega)
theorem a1Q{d:Int}(h:2≤d):wD d=12*wD (d-1):=by
 unfold wD;rw[show d.toNat-1=((d-1).toNat-1)+1 by omega,Int.pow_succ];omega
theorem b1O{d:Int}(h:d≤10):wD d≤5159780352:=by
 have:=Wj h;have e:wD 10=5159780352:=by decide
 omega
theorem b1P{ns:List Nd}{l:List Int}{d:Int}(hl:l.length≤12)(h:∀c∈l,1≤Bz ns c∧Bz ns c<d):wS ns l≤wD d:=by
 cases l with
 |nil=>rw[wS];have:= @NO d;omega
 |cons k l=>
  have h0:=h k (by simp)
  have h1:wS ns (k::l)≤((k::l).length:Int)*wD (d-1):=Wi fun c hc=>Wj (by have:=h c hc;omega)
  have h2:((k::l).length:Int)*wD (d-1)≤12*wD (d-1):=Int.mul_le_mul_of_nonneg_right (by omega) (by have:= @NO (d-1);omega)
  rw[a1Q (by omega)];omega
theorem b1Q{ns:List Nd}{l:List Int}{d:Int}(hl:l.length≤12)(h:∀c∈l,1≤Bz ns c∧Bz ns c<d)(h1:1≤l.length):wS ns (l.drop 1)+1≤wD d:=by
 cases l with
 |nil=>simp at h1
 |cons k l=>
  have h0:=h k (by simp)
  have hp:= @NO (d-1)
  have h1:wS ns l≤(l.length:Int)*wD (d-1):=Wi fun c hc=>Wj (by have:=h c (by simp [hc]);omega)
  have h2:(l.length:Int)*wD (d-1)≤11*wD (d-1):=Int.mul_le_mul_of_nonneg_right (by simp at hl;omega) (by omega)
  rw[a1Q (by omega)];simp only[List.drop_succ_cons,List.drop_zero];omega
theorem PI{ns:List Nd}:∀ {l:List Int} {c:Int},c∈l→wK ns c≤wS ns l
 |[],_,h=>by cases h
 |k::l,c,h=>by
  rw[wS]
  rcases List.mem_cons.1 h with rfl|h
  ·have:= @PH ns l;omega
  ·have:=PI (ns:=ns) h;have:= @NO (Bz ns k);unfold wK at*;omega
theorem a1R{ns:List Nd}:∀ {n:Nat} {ds:List Int},CJ ns n=some ds→∀d∈ds,d≤14
 |0,ds,h=>by cases h;simp
 |n+1,ds,h=>by
  obtain⟨es,h1,h2⟩:=Wh h
  intro d hd
  rw[CJ,h1] at h
  simp only at h
  split at h
  ·split at h
   ·cases h
   ·rename_i h3
    cases h
    rcases List.mem_append.1 hd with hd|hd
    ·exact a1R h1 d hd
    ·simp at hd;omega
  ·cases h
theorem a1S{ns:List Nd}{k:Int}:Bz ns k≤14:=by
 unfold Bz
 split
 ·split
  ·omega
  ·rename_i ds hd
   rw[List.getD]
   cases h:ds[k.toNat]? with
   |none=>simp
   |some d=>have:=a1R hd d (List.mem_of_getElem? h);simpa using this
 ·omega
def tOk(ns:List Nd):Prop:=(BB ns=true∧BD ns)∧(1≤ns.length∧ns.length≤300)
theorem PJ{ns:List Nd}(h:tOk ns){k:Int}(hk:0≤k∧k<ns.length):BQ ns k=true:=by
 have:=(Gw h.1.1).2.2.2.2 k.toNat (by omega)
 rwa [show((k.toNat:Nat):Int)=k by omega] at this
theorem a1T{ns:List Nd}(h:tOk ns){k:Int}(hk:0≤k∧k<ns.length):1≤Bz ns k:=by
 have h1:Bz ns ((ns.length:Int)-1)≠0:=by
  have:=h.1.1
  simp only[BB,Bool.and_eq_true,decide_eq_true_eq,Bool.not_eq_true',decide_eq_false_iff_not] at this
  exact this.2.2.1
 obtain⟨h2,⟨ds,h3⟩,h4⟩:=Nt h1
 obtain⟨es,h5,h6⟩:=RY (n:=k.toNat+1) (by have:=h.2;omega) h3
 have:=Vz (ns:=ns) (k:=k) (BX.2 hk) h5
 have:= @a0e ns k
 omega
theorem HG{ns:List Nd}(h:tOk ns){k:Int}(hk:0≤k∧k<ns.length):(Aa ns k).kids.length≤12∧∀c∈(Aa ns k).kids,(0≤c∧c<k)∧1≤Bz ns c∧Bz ns c<Bz ns k:=by
 have p:=DZ (PJ h hk)
 refine⟨p.2.1,fun c hc=> ?_⟩
 have hc2:=p.2.2.2.1 c hc
 exact⟨hc2,a1T h (by omega),a1P (by have:=a1T h hk;omega) hc⟩
theorem a1U{ns:List Nd}(h:tOk ns){c:Int}(hc:c∈(Bf ns).kids):(0≤c∧c<ns.length)∧Bz ns c≤13:=by
 have:=(HG h (k:=(ns.length:Int)-1) (by have:=h.2;omega)).2 c hc
 have:= @a1S ns ((ns.length:Int)-1)
 omega
theorem Wk{ns:List Nd}{t:List UInt8}:∀ {l:List Int},Bl ns t l= -1∨Bl ns t l∈l∧AS ns (Bl ns t l)=20
 |[]=> .inl rfl
 |c::l=>by
  rw[Bl];split
  ·rename_i h;exact .inr ⟨by simp,h.1⟩
  ·rcases @Wk ns t l with h|h
   ·exact .inl h
   ·exact .inr ⟨by simp [h.1],h.2⟩
def pot(m:Mc):Int:=5159780352*m.steps-m.out.length
def mOk(m:Mc):Prop:=((0≤m.steps∧m.steps≤1000)∧(0≤m.deep∧m.deep≤21))∧0≤pot m
def Mb(c:Cls)(m:Mc):Prop:=(∀p∈c,bdd p.2)∧(c.length:Int)≤20+m.steps
def fOk(f:Fr)(m:Mc):Prop:=Mb f.cells m∧bdd f.ret
def Ct(ns:List Nd)(m:Mc)(n:Nat)(c:Int):Prop:=(21-m.deep)*((ns.length:Int)+1)+c<n
def kOk(ns:List Nd)(m:Mc)(n:Nat)(c:Int):Prop:=((0≤c∧c<ns.length)∧(1≤Bz ns c∧Bz ns c≤10))∧Ct ns m n c
def El(m m2:Mc)(e:Int):Prop:=(mOk m2∧m2.deep=m.deep)∧m.steps≤m2.steps∧pot m-e≤pot m2
theorem Wl{m:Mc}(h:mOk m):El m m 0:=⟨⟨h,rfl⟩,Int.le_refl _,by omega⟩
theorem b1R{m m2:Mc}{e e2:Int}(h:El m m2 e)(he:e≤e2):El m m2 e2:=⟨h.1,h.2.1,by have:=h.2.2;omega⟩
theorem b1S{m m2 m3:Mc}{e e2:Int}(h:El m m2 e)(g:El m2 m3 e2):El m m3 (e+e2):=
 ⟨⟨g.1.1,by rw[g.1.2,h.1.2]⟩,Int.le_trans h.2.1 g.2.1,by have:=h.2.2;have:=g.2.2;omega⟩
theorem b1T{m:Mc}(h:mOk m):El m (PE m) 0:=by
 unfold PE;split
 ·exact⟨⟨h,rfl⟩,Int.le_refl _,by simp only[pot];omega⟩
 ·exact Wl h
theorem b1U{ns:List Nd}{m:Mc}{n:Nat}{k c:Int}(h:Ct ns m (n+1) k)(hc:c<k):Ct ns m n c:=by unfold Ct at*;omega
theorem a1V{ns:List Nd}{m m2:Mc}{n:Nat}{c:Int}(h:Ct ns m n c)(e:m2.deep=m.deep):Ct ns m2 n c:=by unfold Ct at*;rw[e];exact h
theorem NP{ns:List Nd}{m m2:Mc}{n:Nat}{c:Int}(h:kOk ns m n c)(e:m2.deep=m.deep):kOk ns m2 n c:=⟨h.1,a1V h.2 e⟩
theorem a1W{ns:List Nd}{m:Mc}{n:Nat}{k:Int}(ht:tOk ns)(hk:0≤k∧k<ns.length)(hd:Bz ns k≤11)(hf:Ct ns m (n+1) k):∀c∈(Aa ns k).kids,kOk ns m n c:=by
 intro c hc
 have h:=(HG ht hk).2 c hc
 exact⟨⟨by omega,by omega⟩,b1U hf h.1.2⟩
theorem a1X{ns:List Nd}{m:Mc}{n:Nat}{c:Int}(h:kOk ns m n c):wK ns c≤5159780352:=b1O h.1.2.2
theorem RZ{ns:List Nd}{k:Int}(ht:tOk ns)(hk:0≤k∧k<ns.length):wS ns (Aa ns k).kids≤wK ns k:=b1P (HG ht hk).1 fun c hc=>((HG ht hk).2 c hc).2
theorem a1Y{ns:List Nd}{k:Int}(ht:tOk ns)(hk:0≤k∧k<ns.length)(h1:1≤(Aa ns k).kids.length):wS ns ((Aa ns k).kids.drop 1)+1≤wK ns k:=b1Q (HG ht hk).1 (fun c hc=>((HG ht hk).2 c hc).2) h1
end Go.My
end
section
namespace Go.My
open Go.Eng
structure Ms where
 out:List Int
 code:Int
 steps:Int
 deep:Int
 cells:Cls
 done:Bool
 ret:Int
abbrev Be (α:Type):=Int→Ms→Option (α×Ms)
def Fj{α:Type}(a:α):Be α:=fun _ m=>some (a,m)
def Ce{α β:Type}(c:Be α)(k:α→Be β):Be β:=fun L m=>(c L m).bind fun p=>k p.1 L p.2
def Fk{α:Type}(a:α)(c:Be α):Be α:=fun L m=>if m.code=0 then c L m else some (a,m)
def AU(m:Ms):Ms:=if m.code=0 then⟨m.out,1,m.steps,m.deep,m.cells,m.done,m.ret⟩ else m
def IZ:Be Int:=fun _ m=>some (0,AU m)
def Bm(L:Int)(m:Ms):Ms:=if m.code=0 then(if L≤m.steps then⟨m.out,2,m.steps,m.deep,m.cells,m.done,m.ret⟩ else⟨m.out,0,m.steps+1,m.deep,m.cells,m.done,m.ret⟩) else m
def NQ(n:Int):Be Int:=if inn n (-1000000000) 1000000000 then Fj n else IZ
def a1Z(t:List UInt8)(n:Int):Be Unit:=fun _ m=>some ((),⟨m.out,m.code,m.steps,m.deep,Cs m.cells t n,m.done,m.ret⟩)
def Ja(V:Int→Be Int)(t:List UInt8):List Int→Int→Be Int
 |[],a=>Fj (tr (a != 0))
 |k::ks,a=>Fk (tr (a != 0)) (if(a != 0)=(t==[38,38]) then Ce (V k) (Ja V t ks) else Fj (tr (a != 0)))
def Hc(V:Int→Be Int)(t:List UInt8):List Int→Int→Be Int
 |[],a=>Fj a
 |k::ks,a=>Fk a (Ce (V k) fun b=>Fk a (Ce (NQ (CS t a b)) (Hc V t ks)))
def Ik(V:Int→Be Int):List Int→List Int→Be (List Int)
 |[],az=>Fj az
 |k::ks,az=>Fk az (Ce (V k) fun n=>Ik V ks (az++[n]))
def chT(V:Int→Be Int)(x:Nd)(a:Int):Be Int:=
 if x.text=[38,38]∨x.text=[124,124] then Ja V x.text (x.kids.drop 1) a
 else if x.text=[61,61]∨x.text=[60] then(if x.kids.length≠2 then IZ else Ce (V (Bu x 1)) fun b=>Fj (if x.text=[61,61] then tr (a==b) else tr (decide (a<b))))
 else Hc V x.text (x.kids.drop 1) a
def chU(V:Int→Be Int)(x:Nd):Be Int:=Ce (V (Bu x 0)) (chT V x)
def meU(ns:List Nd)(B:Int→Be Unit)(k:Int)(az:List Int):Be Int:=fun L m=>
 if(Aa ns k).kids.length≠az.length+1 then IZ L m
 else(B (Bu (Aa ns k) az.length) L ⟨m.out,m.code,m.steps,m.deep,Hb ns ((Aa ns k).kids.take az.length) az [],false,0⟩).map fun p=>(p.2.ret,⟨p.2.out,p.2.code,p.2.steps,p.2.deep,p.2.cells,m.done,m.ret⟩)
def mcU(ns:List Nd)(B:Int→Be Unit)(t:List UInt8)(az:List Int):Be Int:=fun L m=>
 if Bl ns t (Bf ns).kids<0∨20≤m.deep then IZ L m
 else(meU ns B (Bl ns t (Bf ns).kids) az L ⟨m.out,m.code,m.steps,m.deep+1,m.cells,m.done,m.ret⟩).map fun p=>(p.1,⟨p.2.out,p.2.code,p.2.steps,p.2.deep-1,m.cells,p.2.done,p.2.ret⟩)
def prU(n:Int):Be Int:=fun _ m=>some (0,⟨m.out++[n],m.code,m.steps,m.deep,m.cells,m.done,m.ret⟩)
def caU(ns:List Nd)(V:Int→Be Int)(B:Int→Be Unit)(x:Nd):Be Int:=
 if AS ns (Bu x 0)≠1 then IZ
 else Ce (Ik V (x.kids.drop 1) []) fun az=>Fk 0 (if(Aa ns (Bu x 0)).text=[112,114,105,110,116]∧az.length=1 then prU (az.headD 0) else mcU ns B (Aa ns (Bu x 0)).text az)
def nmU(t:List UInt8):Be Int:=fun L m=>match Cy m.cells t with
 |none=>IZ L m
 |some n=>some (n,m)
def vaU(ns:List Nd)(V:Int→Be Int)(B:Int→Be Unit)(k:Int):Be Int:=Fk 0 (
 if AS ns k=2 then(if 9<(Aa ns k).text.length then IZ else Fj (Cd (Aa ns k).text))
 else if AS ns k=1 then nmU (Aa ns k).text
 else if AS ns k=11 then V (Bu (Aa ns k) 0)
 else if AS ns k=7 then chU V (Aa ns k)
 else if AS ns k=8 then Ce (V (Bu (Aa ns k) 0)) fun n=>if n≠0 then V (Bu (Aa ns k) 1) else V (Bu (Aa ns k) 2)
 else if AS ns k=5 then caU ns V B (Aa ns k)
 else IZ)
def seU(t:List UInt8)(n:Int):Be Unit:=fun L m=>match Cy m.cells t with
 |none=>some ((),AU m)
 |some _=>a1Z t n L m
def reU(n:Int):Be Unit:=fun _ m=>some ((),⟨m.out,m.code,m.steps,m.deep,m.cells,true,n⟩)
def whU(V:Int→Be Int)(B:Int→Be Unit)(x:Nd):Nat→Be Unit
 |0=>fun _ _=>none
 |N+1=>fun L m=>if m.code=0∧m.done=false then Ce (V (Bu x 0)) (fun n L m=>if n=0∨m.code≠0 then some ((),m) else Ce (B (Bu x 1)) (fun _ L m=>if m.done=true∨(Bm L m).code≠0 then some ((),if m.done=true then m else Bm L m) else whU V B x N L (Bm L m)) L m) L m else some ((),m)
def JE(V:Int→Be Int)(x:Nd):Be Int:=if x.kids.length=0 then Fj 0 else V (Bu x 0)
def acU(V:Int→Be Int)(B:Int→Be Unit)(x:Nd):Be Unit:=
 if x.kind=12 then Ce (JE V x) fun n=>Fk () (a1Z x.text n)
 else if x.kind=13 then Ce (V (Bu x 0)) fun n=>Fk () (seU x.text n)
 else if x.kind=14 then Ce (V (Bu x 0)) fun _=>Fj ()
 else if x.kind=15 then Ce (JE V x) fun n=>Fk () (reU n)
 else if x.kind=16 then Ce (V (Bu x 0)) fun n=>Fk () (if n≠0 then B (Bu x 1) else if 2<x.kids.length then B (Bu x 2) else Fj ())
 else if x.kind=17 then whU V B x 1002
 else Fj ()
def stU(V:Int→Be Int)(B:Int→Be Unit)(x:Nd):Be Unit:=fun L m=>
 if x.kind=19 then some ((),m) else if(Bm L m).code≠0 then some ((),Bm L m) else acU V B x L (Bm L m)
def blU(ns:List Nd)(V:Int→Be Int)(B:Int→Be Unit):List Int→Be Unit
 |[]=>Fj ()
 |k::ks=>fun L m=>if m.code=0∧m.done=false then Ce (stU V B (Aa ns k)) (fun _=>blU ns V B ks) L m else some ((),m)
structure UFn where
 val:Int→Be Int
 blk:Int→Be Unit
def eu(ns:List Nd):Nat→UFn
 |0=>⟨fun _ _ _=>none,fun _ _ _=>none⟩
 |n+1=>⟨fun k=>vaU ns (eu ns n).val (eu ns n).blk k,fun k=>blU ns (eu ns n).val (eu ns n).blk (Aa ns k).kids⟩
theorem Cu{α:Type}{a:α}{c:Be α}{L:Int}{m:Ms}:Fk a c L m=if m.code=0 then c L m else some (a,m):=rfl
inductive F2 (R:Int→Int→Prop):List Int→List Int→Prop where
 |nil:F2 R [] []
 |cons {a b:Int} {l m:List Int} (h:R a b) (g:F2 R l m):F2 R (a::l) (b::m)
def Eq2{α:Type}(c d:Be α):Prop:=∀L m p q,c L m=some p→d L m=some q→p=q
theorem Em{α:Type}(c:Be α):Eq2 c c:=fun L m p q h g=>by rw[h] at g;exact Option.some.inj g
theorem FD{α β:Type}{c d:Be α}{k l:α→Be β}(h:Eq2 c d)(g:∀a,Eq2 (k a) (l a)):Eq2 (Ce c k) (Ce d l):=by
 intro L m p q h1 h2
 obtain⟨r,h3,h4⟩:=Option.bind_eq_some_iff.1 h1
 obtain⟨s,h5,h6⟩:=Option.bind_eq_some_iff.1 h2
 have:=h L m r s h3 h5;subst this
 exact g _ _ _ _ _ h4 h6
theorem Md{α:Type}{a:α}{c d:Be α}(h:Eq2 c d):Eq2 (Fk a c) (Fk a d):=by
 intro L m p q h1 h2
 rw[Cu] at h1 h2
 split at h1
 ·rename_i e;rw[if_pos e] at h2;exact h _ _ _ _ h1 h2
 ·rename_i e;rw[if_neg e] at h2;rw[h1] at h2;exact Option.some.inj h2
theorem Jb{α:Type}{p:Prop}[Decidable p]{c d c2 d2:Be α}(h:Eq2 c c2)(g:Eq2 d d2):Eq2 (if p then c else d) (if p then c2 else d2):=by split<;>assumption
theorem Wm{α:Type}{c:Be α}:Eq2 (fun _ _=>none) c:=fun L m p q h=>by cases h
theorem a2a{α:Type}{c:Be α}:Eq2 c (fun _ _=>none):=fun L m p q h g=>by cases g
section
variable {R:Int→Int→Prop} {V W:Int→Be Int} (hV:∀i j,R i j→Eq2 (V i) (W j))
include hV
theorem a2b{t:List UInt8}:∀ {l l2:List Int} {a:Int},F2 R l l2→Eq2 (Ja V t l a) (Ja W t l2 a)
 |_,_,a,.nil=>Em _
 |_,_,a,.cons h g=>Md (Jb (FD (hV _ _ h) fun _=>a2b g) (Em _))
theorem a2c{t:List UInt8}:∀ {l l2:List Int} {a:Int},F2 R l l2→Eq2 (Hc V t l a) (Hc W t l2 a)
 |_,_,a,.nil=>Em _
 |_,_,a,.cons h g=>Md (FD (hV _ _ h) fun _=>Md (FD (Em _) fun _=>a2c g))
theorem a2d:∀ {l l2 az:List Int},F2 R l l2→Eq2 (Ik V l az) (Ik W l2 az)
 |_,_,az,.nil=>Em _
 |_,_,az,.cons h g=>Md (FD (hV _ _ h) fun _=>a2d g)
end
theorem PK{R:Int→Int→Prop}:∀ {l l2:List Int},F2 R l l2→l.length=l2.length
 |_,_,.nil=>rfl
 |_,_,.cons _ g=>by simp [PK g]
theorem Sa{R:Int→Int→Prop}:∀ {l l2:List Int} (n:Nat),F2 R l l2→F2 R (l.drop n) (l2.drop n)
 |_,_,0,h=>by simpa using h
 |_,_,n+1,.nil=>by simpa using F2.nil
 |_,_,n+1,.cons _ g=>by simpa using Sa n g
theorem a2e{R:Int→Int→Prop}:∀ {l l2:List Int} (n:Nat),F2 R l l2→F2 R (l.take n) (l2.take n)
 |_,_,0,h=>by simpa using F2.nil
 |_,_,n+1,.nil=>by simpa using F2.nil
 |_,_,n+1,.cons h g=>by simpa using F2.cons h (a2e n g)
theorem a2f{R:Int→Int→Prop}:∀ {l l2:List Int} {i:Nat},F2 R l l2→i<l.length→R (l.getD i 0) (l2.getD i 0)
 |_,_,i,.nil,h=>by simp at h
 |_,_,0,.cons h _,_=>by simpa using h
 |_,_,i+1,.cons _ g,h=>by simpa using a2f (i:=i) g (by simpa using h)
theorem a2g{α:Type}{P:Int→Ms→Prop}[∀L m,Decidable (P L m)]{c d:Be α}{f:Int→Ms→α×Ms}(h:Eq2 c d):Eq2 (fun L m=>if P L m then c L m else some (f L m)) (fun L m=>if P L m then d L m else some (f L m)):=by
 intro L m p q h1 h2
 dsimp only at h1 h2
 split at h1
 ·rename_i e;rw[if_pos e] at h2;exact h _ _ _ _ h1 h2
 ·rename_i e;rw[if_neg e] at h2;rw[h1] at h2;exact Option.some.inj h2
theorem a2h{α:Type}{P:Int→Ms→Prop}[∀L m,Decidable (P L m)]{c d:Be α}{f:Int→Ms→α×Ms}(h:Eq2 c d):Eq2 (fun L m=>if P L m then some (f L m) else c L m) (fun L m=>if P L m then some (f L m) else d L m):=by
 intro L m p q h1 h2
 dsimp only at h1 h2
 split at h1
 ·rename_i e;rw[if_pos e] at h2;rw[h1] at h2;exact Option.some.inj h2
 ·rename_i e;rw[if_neg e] at h2;exact h _ _ _ _ h1 h2
theorem b1V{α:Type}{c d:Be α}{g:Int→Ms→Ms}(h:Eq2 c d):Eq2 (fun L m=>c L (g L m)) (fun L m=>d L (g L m)):=fun L m p q h1 h2=>h _ _ _ _ h1 h2
def alN(ns ms:List Nd)(R:Int→Int→Prop)(i j:Int):Prop:=((Aa ns i).kind=(Aa ms j).kind∧(Aa ns i).text=(Aa ms j).text)∧(F2 R (Aa ns i).kids (Aa ms j).kids∧Ci (Aa ns i).kind ((Aa ns i).kids.map (AS ns))=true)
def alF(ns ms:List Nd)(i j:Int):Prop:=AS ns i=7∧∃v,(∀n L m p,(eu ns n).val i L m=some p→p=(if m.code=0 then v else 0,m))∧(AS ms j=2∧(¬9<(Aa ms j).text.length∧Cd (Aa ms j).text=v))
structure Alike (ns ms:List Nd) (R:Int→Int→Prop):Prop where
 node:∀ {i j},R i j→alN ns ms R i j∨alF ns ms i j
 meth:∀t,(Bl ns t (Bf ns).kids<0∧Bl ms t (Bf ms).kids<0)∨((0≤Bl ns t (Bf ns).kids∧0≤Bl ms t (Bf ms).kids)∧R (Bl ns t (Bf ns).kids) (Bl ms t (Bf ms).kids))
section
variable {ns ms:List Nd} {R:Int→Int→Prop} (H:Alike ns ms R)
include H
theorem PM{i j:Int}(h:R i j)(hk:AS ns i≠7):alN ns ms R i j:=by
 rcases H.node h with h|h
 ·exact h
 ·exact absurd h.1 hk
theorem a2i{i j:Int}(h:R i j):AS ns i=1↔AS ms j=1:=by
 rcases H.node h with h|⟨h,v,_,h2,_⟩
 ·have:AS ns i=AS ms j:=h.1.1
  rw[this]
 ·omega
end
theorem FE{R:Int→Int→Prop}{x y:Nd}{i:Nat}(h:F2 R x.kids y.kids)(hi:i<x.kids.length):R (Bu x i) (Bu y i):=a2f h hi
theorem a2j{ns:List Nd}{x:Nd}{i:Nat}(hi:i<x.kids.length):(x.kids.map (AS ns)).getD i 0=AS ns (Bu x i):=by
 rw[Bu,List.getD_eq_getElem?_getD,List.getD_eq_getElem?_getD,List.getElem?_map,List.getElem?_eq_getElem hi];rfl
theorem Me{ks:List Int}{k:Int}(h:Ci k ks=true)(hk:k=5∨k=7∨k=11∨k=13∨k=14):1≤ks.length:=by
 rcases hk with rfl|rfl|rfl|rfl|rfl<;>simp [Ci] at h<;>omega
theorem a2k{ks:List Int}(h:Ci 8 ks=true):ks.length=3:=by simp [Ci] at h;omega
theorem a2l{ks:List Int}(h:Ci 16 ks=true):2≤ks.length∧(ks.drop 1).all CR=true:=by
 simp only[Ci,Int.reduceEq,or_self,if_false,if_true,reduceIte,Bool.and_eq_true,decide_eq_true_eq] at h;exact⟨h.1.1,h.2.2⟩
theorem a2m{ks:List Int}(h:Ci 17 ks=true):ks.length=2∧CR (ks.getD 1 0)=true:=by
 simp only[Ci,Int.reduceEq,or_self,if_false,if_true,reduceIte,Bool.and_eq_true,decide_eq_true_eq] at h;exact⟨h.1,h.2.2⟩
theorem b1W{ks:List Int}(h:Ci 18 ks=true):ks.all DS=true:=by
 simp only[Ci,Int.reduceEq,or_self,if_false,if_true,reduceIte] at h;exact h
theorem b1X{ks:List Int}(h:Ci 20 ks=true):EO CR ks=true:=by
 simp only[Ci,Int.reduceEq,or_self,if_false,if_true,reduceIte] at h;exact h
theorem a2n{ns:List Nd}{x:Nd}{i:Nat}(h:((x.kids.map (AS ns)).drop 1).all CR=true)(h1:1≤i)(hi:i<x.kids.length):AS ns (Bu x i)=18:=by
 have e:((x.kids.map (AS ns)).drop 1)[i-1]? =some (AS ns (Bu x i)):=by
  rw[List.getElem?_drop,show 1+(i-1)=i by omega,←a2j hi,List.getD_eq_getElem?_getD,List.getElem?_map,List.getElem?_eq_getElem hi];rfl
 have:=List.all_eq_true.1 h _ (List.mem_of_getElem? e)
 simpa [CR] using this
theorem b1Y{ns:List Nd}{x:Nd}{n:Nat}(h:EO CR (x.kids.map (AS ns))=true)(hl:x.kids.length=n+1):AS ns (Bu x n)=18∧∀c∈x.kids.take n,AS ns c=1:=by
 have e:(x.kids.map (AS ns)).getLast?=some (AS ns (Bu x n)):=by
  rw[List.getLast?_eq_getElem?,List.length_map,hl,show n+1-1=n by omega,List.getElem?_map,List.getElem?_eq_getElem (by omega),Bu,List.getD_eq_getElem?_getD,List.getElem?_eq_getElem (by omega)];rfl
 rw[EO,e] at h
 simp only[Bool.and_eq_true] at h
 refine⟨by simpa [CR] using h.1,fun c hc=> ?_⟩
 have e2:(x.kids.map (AS ns)).dropLast=(x.kids.take n).map (AS ns):=by
  rw[List.dropLast_eq_take,List.length_map,hl,List.map_take];rfl
 rw[e2] at h
 have:=List.all_eq_true.1 h.2 _ (List.mem_map_of_mem hc)
 simpa [Ew] using this
section
variable {ns ms:List Nd} {R:Int→Int→Prop} (H:Alike ns ms R) {V W:Int→Be Int} {B C:Int→Be Unit} (hV:∀i j,R i j→Eq2 (V i) (W j)) (hB:∀i j,R i j→AS ns i=18→Eq2 (B i) (C j))
include H
theorem a2o:∀ {l l2 az:List Int} {cs:Cls},F2 R l l2→(∀c∈l,AS ns c=1)→Hb ns l az cs=Hb ms l2 az cs
 |_,_,[],_,.nil,_=>rfl
 |_,_,_::_,_,.nil,_=>rfl
 |_,_,[],_,.cons _ _,_=>rfl
 |k::l,k2::l2,a::az,cs,.cons h g,hk=>by
  have e:=(PM H h (by rw[hk k (by simp)];decide)).1.2
  rw[Hb,Hb,e,a2o g fun c hc=>hk c (by simp [hc])]
include hV hB
omit hV in
theorem a2p{i j:Int}{az:List Int}(h:R i j)(hk:AS ns i=20):Eq2 (meU ns B i az) (meU ms C j az):=by
 obtain⟨⟨h1,h2⟩,h3,h4⟩:=PM H h (by omega)
 have h5:=b1X (by rw[←(show(Aa ns i).kind=20 from hk)];exact h4)
 have hl:=PK h3
 unfold meU
 intro L m p q g1 g2
 dsimp only at g1 g2
 rw[←hl] at g2
 split at g1
 ·rename_i e;rw[if_pos e] at g2;rw[g1] at g2;exact Option.some.inj g2
 ·rename_i e;rw[if_neg e] at g2
  obtain⟨h6,h7⟩:=b1Y (n:=az.length) h5 (by omega)
  rw[←a2o H (a2e _ h3) h7] at g2
  obtain⟨r,e1,rfl⟩:=Option.map_eq_some_iff.1 g1
  obtain⟨s,e2,rfl⟩:=Option.map_eq_some_iff.1 g2
  rw[hB _ _ (FE h3 (by omega)) h6 _ _ _ _ e1 e2]
omit hV in
theorem b1Z{t:List UInt8}{az:List Int}(hm:∀t,0≤Bl ns t (Bf ns).kids→AS ns (Bl ns t (Bf ns).kids)=20):Eq2 (mcU ns B t az) (mcU ms C t az):=by
 intro L m p q g1 g2
 unfold mcU at g1 g2
 rcases H.meth t with⟨h1,h2⟩|⟨⟨h1,h2⟩,h3⟩
 ·rw[if_pos (.inl h1)] at g1;rw[if_pos (.inl h2)] at g2;rw[g1] at g2;exact Option.some.inj g2
 ·by_cases hd:20≤m.deep
  ·rw[if_pos (.inr hd)] at g1;rw[if_pos (.inr hd)] at g2;rw[g1] at g2;exact Option.some.inj g2
  ·rw[if_neg (by omega)] at g1;rw[if_neg (by omega)] at g2
   obtain⟨r,e1,rfl⟩:=Option.map_eq_some_iff.1 g1
   obtain⟨s,e2,rfl⟩:=Option.map_eq_some_iff.1 g2
   rw[a2p H hB h3 (hm t h1) _ _ _ _ e1 e2]
theorem b2a{x y:Nd}(hk:F2 R x.kids y.kids)(h1:1≤x.kids.length)(hm:∀t,0≤Bl ns t (Bf ns).kids→AS ns (Bl ns t (Bf ns).kids)=20):Eq2 (caU ns V B x) (caU ms W C y):=by
 have h0:=FE (i:=0) hk (by omega)
 unfold caU
 by_cases e:AS ns (Bu x 0)=1
 ·rw[if_neg (fun h=>h e),if_neg (fun h=>h ((a2i H h0).1 e))]
  have et:=(PM H h0 (by omega)).1.2
  rw[et]
  exact FD (a2d hV (Sa 1 hk)) fun az=>Md (Jb (Em _) (b1Z H hB hm))
 ·rw[if_pos e,if_pos (fun h=>e ((a2i H h0).2 h))];exact Em _
omit H hB in
theorem b2b{x y:Nd}(hk:F2 R x.kids y.kids)(ht:x.text=y.text)(h1:1≤x.kids.length):Eq2 (chU V x) (chU W y):=by
 have hl:=PK hk
 unfold chU
 refine FD (hV _ _ (FE hk (by omega))) fun a=> ?_
 unfold chT
 rw[ht,hl]
 refine Jb (a2b hV (Sa 1 hk)) (Jb ?_ (a2c hV (Sa 1 hk)))
 by_cases e:y.kids.length=2
 ·rw[if_neg (by omega),if_neg (by omega)]
  exact FD (hV _ _ (FE hk (by omega))) fun b=>Em _
 ·rw[if_pos e,if_pos e];exact Em _
theorem b2c{i j:Int}(h:alN ns ms R i j)(hm:∀t,0≤Bl ns t (Bf ns).kids→AS ns (Bl ns t (Bf ns).kids)=20):Eq2 (vaU ns V B i) (vaU ms W C j):=by
 obtain⟨⟨h1,h2⟩,h3,h4⟩:=h
 have hk:AS ms j=AS ns i:=h1.symm
 have hk0:(Aa ns i).kind=AS ns i:=rfl
 unfold vaU
 rw[hk,←h2]
 rw[hk0] at h4
 refine Md (Jb (Em _) (Jb (Em _) ?_))
 by_cases e:AS ns i=11
 ·rw[if_pos e,if_pos e]
  rw[e] at h4;have h5:=Me h4 (by simp)
  exact hV _ _ (FE h3 (by simp only[List.length_map] at h5;omega))
 rw[if_neg e,if_neg e]
 by_cases e:AS ns i=7
 ·rw[if_pos e,if_pos e]
  rw[e] at h4;have h5:=Me h4 (by simp)
  exact b2b hV h3 h2 (by simp only[List.length_map] at h5;omega)
 rw[if_neg e,if_neg e]
 by_cases e:AS ns i=8
 ·rw[if_pos e,if_pos e]
  rw[e] at h4;have h5:=a2k h4
  rw[List.length_map] at h5
  exact FD (hV _ _ (FE h3 (by omega))) fun n=>Jb (hV _ _ (FE h3 (by omega))) (hV _ _ (FE h3 (by omega)))
 rw[if_neg e,if_neg e]
 by_cases e:AS ns i=5
 ·rw[if_pos e,if_pos e]
  rw[e] at h4;have h5:=Me h4 (by simp)
  exact b2a H hV hB h3 (by simp only[List.length_map] at h5;omega) hm
 rw[if_neg e,if_neg e];exact Em _
omit hB H in
theorem a2q{x y:Nd}(hk:F2 R x.kids y.kids):Eq2 (JE V x) (JE W y):=by
 unfold JE
 rw[←PK hk]
 by_cases e:x.kids.length=0
 ·rw[if_pos e,if_pos e];exact Em _
 ·rw[if_neg e,if_neg e];exact hV _ _ (FE hk (by omega))
omit H in
theorem a2r{x y:Nd}(hk:F2 R x.kids y.kids)(hl:x.kids.length=2)(hb:AS ns (Bu x 1)=18):∀N:Nat,Eq2 (whU V B x N) (whU W C y N)
 |0=>Wm
 |N+1=>by
  unfold whU
  refine a2g (P:=fun L m=>m.code=0∧m.done=false) (f:=fun L m=>((),m)) (FD (hV _ _ (FE hk (by omega))) fun n=> ?_)
  refine a2h (P:=fun L m=>n=0∨m.code≠0) (f:=fun L m=>((),m)) (FD (hB _ _ (FE hk (by omega)) hb) fun _=> ?_)
  exact a2h (P:=fun L m=>m.done=true∨(Bm L m).code≠0) (f:=fun L m=>((),if m.done=true then m else Bm L m)) (b1V (g:=fun L m=>Bm L m) (a2r hk hl hb N))
omit H in
theorem b2d{i j:Int}(h:alN ns ms R i j):Eq2 (acU V B (Aa ns i)) (acU W C (Aa ms j)):=by
 obtain⟨⟨h1,h2⟩,h3,h4⟩:=h
 unfold acU
 rw[←h1,←h2]
 refine Jb (FD (a2q hV h3) fun n=>Em _) ?_
 by_cases e:(Aa ns i).kind=13
 ·rw[if_pos e,if_pos e]
  rw[e] at h4;have h5:=Me h4 (by simp)
  exact FD (hV _ _ (FE h3 (by simp only[List.length_map] at h5;omega))) fun n=>Em _
 rw[if_neg e,if_neg e]
 by_cases e:(Aa ns i).kind=14
 ·rw[if_pos e,if_pos e]
  rw[e] at h4;have h5:=Me h4 (by simp)
  exact FD (hV _ _ (FE h3 (by simp only[List.length_map] at h5;omega))) fun n=>Em _
 rw[if_neg e,if_neg e]
 refine Jb (FD (a2q hV h3) fun n=>Em _) ?_
 by_cases e:(Aa ns i).kind=16
 ·rw[if_pos e,if_pos e]
  rw[e] at h4;obtain⟨h5,h6⟩:=a2l h4
  rw[List.length_map] at h5
  refine FD (hV _ _ (FE h3 (by omega))) fun n=>Md ?_
  rw[←PK h3]
  refine Jb (hB _ _ (FE h3 (by omega)) (a2n h6 (by omega) (by omega))) ?_
  by_cases e2:2<(Aa ns i).kids.length
  ·rw[if_pos e2,if_pos e2];exact hB _ _ (FE h3 (by omega)) (a2n h6 (by omega) (by omega))
  ·rw[if_neg e2,if_neg e2];exact Em _
 rw[if_neg e,if_neg e]
 by_cases e:(Aa ns i).kind=17
 ·rw[if_pos e,if_pos e]
  rw[e] at h4;obtain⟨h5,h6⟩:=a2m h4
  rw[List.length_map] at h5
  refine a2r hV hB h3 h5 ?_ _
  rw[a2j (by omega)] at h6
  simpa [CR] using h6
 rw[if_neg e,if_neg e];exact Em _
theorem b2e{i j:Int}(h:R i j)(hk:DS (AS ns i)=true):Eq2 (stU V B (Aa ns i)) (stU W C (Aa ms j)):=by
 have hn:=PM H h (fun e=>by rw[e] at hk;simp [DS,Jv,inn] at hk)
 have e2:=b2d hV hB hn
 intro L m p q g1 g2
 unfold stU at g1 g2
 rw[←hn.1.1] at g2
 split at g1
 ·rename_i e;rw[if_pos e] at g2;rw[g1] at g2;exact Option.some.inj g2
 ·rename_i e;rw[if_neg e] at g2
  split at g1
  ·rename_i e;rw[if_pos e] at g2;rw[g1] at g2;exact Option.some.inj g2
  ·rename_i e;rw[if_neg e] at g2;exact e2 _ _ _ _ g1 g2
theorem a2s:∀ {l l2:List Int},F2 R l l2→(∀c∈l,DS (AS ns c)=true)→Eq2 (blU ns V B l) (blU ms W C l2)
 |_,_,.nil,_=>Em _
 |k::l,k2::l2,.cons h g,hk=>by
  unfold blU
  exact a2g (P:=fun L m=>m.code=0∧m.done=false) (f:=fun L m=>((),m)) (FD (b2e H hV hB h (hk k (by simp))) fun _=>a2s g fun c hc=>hk c (by simp [hc]))
end
theorem a2t{ns:List Nd}(t:List UInt8)(h:0≤Bl ns t (Bf ns).kids):AS ns (Bl ns t (Bf ns).kids)=20:=by
 rcases @Wk ns t (Bf ns).kids with e|e
 ·omega
 ·exact e.2
theorem a2u{ns ms:List Nd}{R:Int→Int→Prop}(H:Alike ns ms R):∀n n2:Nat,(∀i j,R i j→Eq2 ((eu ns n).val i) ((eu ms n2).val j))∧(∀i j,R i j→AS ns i=18→Eq2 ((eu ns n).blk i) ((eu ms n2).blk j))
 |0,_=>⟨fun _ _ _=>Wm,fun _ _ _ _=>Wm⟩
 |n+1,0=>⟨fun _ _ _=>a2a,fun _ _ _ _=>a2a⟩
 |n+1,n2+1=>by
  obtain⟨h1,h2⟩:=a2u H n n2
  refine⟨fun i j h=> ?_,fun i j h hk=> ?_⟩
  ·rcases H.node h with h|⟨h3,v,h4,h5,h6,h7⟩
   ·exact b2c H h1 h2 h a2t
   ·intro L m p q g1 g2
    rw[h4 _ _ _ _ g1]
    have e:(eu ms (n2+1)).val j=vaU ms (eu ms n2).val (eu ms n2).blk j:=rfl
    rw[e,vaU,if_pos h5,if_neg h6,h7,Cu] at g2
    split at g2
    ·rename_i e;cases g2;rw[if_pos e]
    ·rename_i e;cases g2;rw[if_neg e]
  ·have hn:=PM H h (by omega)
   have h4:=hn.2.2
   rw[show(Aa ns i).kind=18 from hk] at h4
   have h5:=b1W h4
   refine a2s H h1 h2 hn.2.1 fun c hc=>List.all_eq_true.1 h5 _ (List.mem_map_of_mem hc)
end Go.My
end
section
namespace Go.My
open Go.Eng
inductive Fo:List Nd→Int→List Int→Prop where
 |nil (L:List Nd):Fo L L.length []
 |node {L:List Nd} {a:Int} {ks:List Int} {x:Nd} (h:Fo L a (ks++x.kids)):Fo (L++[x]) a (ks++[(L.length:Int)])
theorem Mf{L:List Nd}{a:Int}{ks:List Int}(h:Fo L a ks):0≤a∧a≤L.length:=by
 induction h with
 |nil L=>omega
 |node h ih=>simp;omega
theorem b2f{L:List Nd}{a:Int}{ks:List Int}{x:Nd}(h:Fo L a ks)(hx:x.kids=[]):Fo (L++[x]) a (ks++[(L.length:Int)]):=Fo.node (by rw[hx,List.append_nil];exact h)
theorem b2g{L:List Nd}{a:Int}{ks js:List Int}{x:Nd}(h:Fo L a (ks++js))(hx:x.kids=js):Fo (L++[x]) a (ks++[(L.length:Int)]):=Fo.node (by rw[hx];exact h)
theorem a2v{L:List Nd}{a:Int}{ks:List Int}(h:Fo L a ks):∀c∈ks,a≤c∧c<L.length:=by
 induction h with
 |nil L=>intro c hc;cases hc
 |node h ih=>
  intro c hc
  have ha:=Mf h
  rcases List.mem_append.1 hc with hc|hc
  ·have:=ih c (List.mem_append_left _ hc);simp;omega
  ·simp at hc;subst hc;simp;omega
def Mg(L:List Nd)(a:Int):List Int:=(L.drop a.toNat).flatMap (·.kids)
theorem b2h{L:List Nd}{a:Int}{x:Nd}(h:a≤L.length)(h0:0≤a):Mg (L++[x]) a=Mg L a++x.kids:=by
 unfold Mg
 rw[List.drop_append_of_le_length (by omega),List.flatMap_append];simp
theorem b2i{L:List Nd}{a:Int}{ks:List Int}(h:Fo L a ks):∀i:Int,(Mg L a++ks).count i=if a≤i∧i<L.length then 1 else 0:=by
 induction h with
 |nil L=>
  intro i
  have:Mg L (L.length:Int)=[]:=by unfold Mg;rw[show((L.length:Nat):Int).toNat=L.length by omega,List.drop_length];rfl
  rw[this,if_neg (by omega)];rfl
 | @node L a ks x h ih=>
   intro i
   have ha:=Mf h
   have h1:=ih i
   rw[b2h ha.2 ha.1]
   simp only[List.count_append,List.length_append,List.length_cons,List.length_nil] at h1 ⊢
   have h2:List.count i [(L.length:Int)]=if i=L.length then 1 else 0:=by
    rw[List.count_cons];simp only[List.count_nil,beq_iff_eq]
    by_cases e:i=L.length
    ·rw[if_pos e.symm,if_pos e]
    ·rw[if_neg (fun h=>e h.symm),if_neg e]
   rw[h2]
   by_cases e:i=L.length
   ·rw[if_neg (by omega)] at h1;rw[if_pos e,if_pos (by omega)];omega
   ·rw[if_neg e]
    by_cases e2:a≤i∧i<L.length
    ·rw[if_pos e2] at h1;rw[if_pos (by omega)];omega
    ·rw[if_neg e2] at h1;rw[if_neg (by omega)];omega
theorem b2j{L:List Nd}(h:Fo L 0 [(L.length:Int)-1]){i:Nat}(hi:i<L.length-1):(BW L).count (i:Int)=1:=by
 have h1:=b2i h i
 rw[if_pos (by omega),List.count_append] at h1
 have h2:List.count (i:Int) [(L.length:Int)-1]=0:=by rw[List.count_eq_zero];simp;omega
 have e:Mg L 0=BW L:=rfl
 rw[h2,e] at h1;omega
theorem a2w{L:List Nd}{a:Int}{ks:List Int}(h:Fo L a ks):∀i:Int,a≤i→i<L.length→∀c∈(Aa L i).kids,a≤c∧c<i:=by
 induction h with
 |nil L=>intro i h1 h2;omega
 | @node L a ks x h ih=>
   intro i h1 h2 c hc
   have ha:=Mf h
   simp only[List.length_append,List.length_cons,List.length_nil] at h2
   by_cases e:i<L.length
   ·have e2:Aa (L++[x]) i=Aa L i:=by
     unfold Aa;rw[List.getD_eq_getElem?_getD,List.getD_eq_getElem?_getD,List.getElem?_append_left (by omega)]
    rw[e2] at hc;exact ih i h1 e c hc
   ·have e1:i=L.length:=by omega
    have e2:Aa (L++[x]) i=x:=by
     unfold Aa;rw[List.getD_eq_getElem?_getD,List.getElem?_append_right (by omega),e1];simp
    rw[e2] at hc
    have:=a2v h c (List.mem_append_right _ hc);omega
theorem a2x{ns:List Nd}{R:Rw}(hs:∀k x,R.stop k=some x→x.kids=[])(ht:∀k i c,R.tgt k i c=c)(hp:∀k i c,R.par k i c=false):∀ {n:Nat} {k:Int} {out:List Nd} {a:Int} {ks:List Int},Cj ns k→k<n→Fo out a ks→Fo (Bb ns R n k out) a (ks++[((Bb ns R n k out).length:Int)-1])
 |0,k,out,a,ks,hu,hk,h=>by have:=BX.1 hu.1;omega
 |n+1,k,out,a,ks,hu,hk,h=>by
  rw[Bb]
  cases hst:R.stop k with
  |some x=>
   simp only[List.length_append,List.length_cons,List.length_nil]
   have:=b2f h (hs k x hst)
   rw[show((out.length+(0+1):Nat):Int)-1=out.length by omega];exact this
  |none=>
   simp only
   have key:∀(l:List Int) (i:Int) (o:List Nd) (js:List Int),(∀c∈l,c∈(Aa ns k).kids)→Fo o a (ks++js)→Fo (ER R (Bb ns R n) k l i o js).1 a (ks++(ER R (Bb ns R n) k l i o js).2):=by
    intro l
    induction l with
    |nil=>intro i o js _ h;exact h
    |cons c l ih=>
     intro i o js hl h
     have hm:=Ez hu (hl c (by simp))
     have e:Fi R (Bb ns R n) k i c o=Bb ns R n c o:=by unfold Fi;rw[hp,ht];rfl
     rw[ER,e]
     refine ih _ _ _ (fun d hd=>hl d (by simp [hd])) ?_
     rw[←List.append_assoc]
     exact a2x hs ht hp hm.1 (by omega) h
   have h2:=b2g (x:=⟨(Aa ns k).kind,(Aa ns k).text,(ER R (Bb ns R n) k (Aa ns k).kids 0 out []).2,(Aa ns k).blank⟩) (key (Aa ns k).kids 0 out [] (fun c hc=>hc) (by simpa using h)) rfl
   rw[List.length_append,List.length_cons,List.length_nil,show(((ER R (Bb ns R n) k (Aa ns k).kids 0 out []).1.length+(0+1):Nat):Int)-1=(ER R (Bb ns R n) k (Aa ns k).kids 0 out []).1.length by omega]
   exact h2
def Jc(R:Rw):Prop:=(∀k i c,R.tgt k i c=c)∧(∀k i c,R.par k i c=false)
theorem b2k{R:Rw}(h:Jc R){f:Int→List Nd→List Nd}{k i c:Int}{o:List Nd}:Fi R f k i c o=f c o:=by unfold Fi;rw[h.1,h.2];rfl
def BR(f:Int→List Nd→List Nd):List Int→List Nd→List Int→List Nd×List Int
 |[],o,js=>(o,js)
 |c::l,o,js=>BR f l (f c o) (js++[((f c o).length:Int)-1])
theorem Il{R:Rw}(h:Jc R){f:Int→List Nd→List Nd}{k:Int}:∀ {l:List Int} {i:Int} {o:List Nd} {js:List Int},ER R f k l i o js=BR f l o js
 |[],_,_,_=>rfl
 |c::l,i,o,js=>by rw[ER,b2k h,Il h];rfl
theorem Wn{f:Int→List Nd→List Nd}:∀ {l m:List Int} {o:List Nd} {js:List Int},BR f (l++m) o js=BR f m (BR f l o js).1 (BR f l o js).2
 |[],_,_,_=>rfl
 |c::l,m,o,js=>by rw[List.cons_append,BR,Wn];rfl
theorem Wo{f:Int→List Nd→List Nd}:∀ {l:List Int} {o:List Nd} {js:List Int},BR f l o js=((BR f l o []).1,js++(BR f l o []).2)
 |[],o,js=>by simp [BR]
 |c::l,o,js=>by
  rw[BR,BR,Wo (l:=l) (js:=js++_),Wo (l:=l) (js:=[]++_)];simp
theorem a2y{L:List Nd}{x:Nd}{i:Int}(h:i<L.length)(h0:0≤i):Aa (L++[x]) i=Aa L i:=by
 unfold Aa;rw[List.getD_eq_getElem?_getD,List.getD_eq_getElem?_getD,List.getElem?_append_left (by omega)]
theorem a2z{L:List Nd}{x:Nd}:Aa (L++[x]) L.length=x:=by
 unfold Aa;rw[List.getD_eq_getElem?_getD,List.getElem?_append_right (by omega)];simp
theorem a2A{f:Int→List Nd→List Nd}:∀ {l:List Int} {o:List Nd} {js:List Int},(BR f l o js).2.length=js.length+l.length
 |[],o,js=>by simp [BR]
 |c::l,o,js=>by rw[BR,a2A];simp;omega
theorem PN{f g:Int→List Nd→List Nd}:∀ {l:List Int} {o:List Nd} {js:List Int},(∀c∈l,∀o,f c o=g c o)→BR f l o js=BR g l o js
 |[],_,_,_=>rfl
 |c::l,o,js,h=>by rw[BR,BR,h c (by simp)];exact PN fun d hd=>h d (by simp [hd])
theorem a2B{R:Rw}(hR:Jc R){L:List Nd}{a:Int}{ks:List Int}(h:Fo L a ks):∀(n m:Nat) (k:Int) (o:List Nd),a≤k→k<L.length→k<n→k<m→Bb L R n k o=Bb L R m k o
 |0,_,k,_,h1,_,h3,_=>by have:=Mf h;omega
 |_+1,0,k,_,h1,_,_,h4=>by have:=Mf h;omega
 |n+1,m+1,k,o,h1,h2,h3,h4=>by
  have e:BR (Bb L R n) (Aa L k).kids o []=BR (Bb L R m) (Aa L k).kids o []:=PN fun c hc o=>by
   have:=a2w h k h1 h2 c hc
   exact a2B hR h n m c o (by omega) (by omega) (by omega) (by omega)
  rw[Bb,Bb,Il hR,Il hR,e]
theorem Wp{R:Rw}(hR:Jc R){L:List Nd}{x:Nd}{a:Int}{ks:List Int}(h:Fo L a ks):∀(m:Nat) (k:Int) (o:List Nd),a≤k→k<L.length→Bb (L++[x]) R m k o=Bb L R m k o
 |0,_,_,_,_=>rfl
 |m+1,k,o,h1,h2=>by
  have ha:=Mf h
  have e:BR (Bb (L++[x]) R m) (Aa L k).kids o []=BR (Bb L R m) (Aa L k).kids o []:=PN fun c hc o=>by
   have:=a2w h k h1 h2 c hc
   exact Wp hR h m c o (by omega) (by omega)
  rw[Bb,Bb,Il hR,Il hR,a2y h2 (by omega),e]
theorem b2l{R:Rw}(hR:Jc R){L:List Nd}{a:Int}{ks:List Int}(h:Fo L a ks):(∀i,a≤i→i<L.length→R.stop i=none)→∀n:Nat,L.length≤n→BR (Bb L R n) ks (L.take a.toNat) []=(L,ks):=by
 induction h with
 |nil L=>intro _ n hn;rw[show((L.length:Nat):Int).toNat=L.length by omega,List.take_length];rfl
 | @node L a ks x h ih=>
   intro hs n hn
   have ha:=Mf h
   have hb:=a2v h
   simp only[List.length_append,List.length_cons,List.length_nil] at hn hs
   obtain⟨n,rfl⟩:∃m,n=m+1:=⟨n-1,by omega⟩
   have ih1:=ih (fun i h1 h2=>hs i h1 (by omega)) (n+1) (by omega)
   rw[Wn,Wo,Prod.mk.injEq] at ih1
   obtain⟨i1,i2⟩:=ih1
   obtain⟨i3,i4⟩:=List.append_inj i2 (by rw[a2A];simp)
   rw[List.take_append_of_le_length (by omega),Wn,PN (l:=ks) (g:=Bb L R (n+1)) fun c hc o=>by
    have:=hb c (List.mem_append_left _ hc)
    exact Wp hR h _ c o this.1 this.2]
   have e1:Bb (L++[x]) R (n+1) L.length (BR (Bb L R (n+1)) ks (L.take a.toNat) []).1=L++[x]:=by
    rw[Bb,hs L.length (by omega) (by omega)]
    simp only
    rw[Il hR,a2z,PN (g:=Bb L R (n+1)) fun c hc o=>by
     have:=hb c (List.mem_append_right _ hc)
     rw[Wp hR h _ c o this.1 this.2]
     exact a2B hR h _ _ c o this.1 this.2 (by omega) (by omega),i1,i4]
   rw[BR,BR,e1,i3]
   simp
theorem a2C{R:Rw}(hR:Jc R){L:List Nd}(h:Fo L 0 [(L.length:Int)-1])(hs:∀i:Int,0≤i→i<L.length→R.stop i=none){n:Nat}(hn:L.length≤n):Bb L R n ((L.length:Int)-1) []=L:=by
 have:=congrArg Prod.fst (b2l hR h (fun i h1 h2=>hs i h1 h2) n hn)
 simpa [BR] using this
end Go.My
end
section
namespace Go.My
open Go.Eng
def oAt(fo:List Int)(c:Int):Int:=fo.getD c.toNat 0
def imN(ns:List Nd)(R:Rw)(A:List Nd)(fo:List Int)(j:Int):Prop:=
 (Cj ns (oAt fo j)∧(∀c∈(Aa A j).kids,0≤c∧c<j))∧
   (R.stop (oAt fo j)=some (Aa A j)∨(R.stop (oAt fo j)=none∧((Aa A j).kind=(Aa ns (oAt fo j)).kind∧(Aa A j).text=(Aa ns (oAt fo j)).text∧(Aa A j).blank=(Aa ns (oAt fo j)).blank)∧(Aa A j).kids.map (oAt fo)=(Aa ns (oAt fo j)).kids))
def Im(ns:List Nd)(R:Rw)(A:List Nd)(fo:List Int):Prop:=fo.length=A.length∧∀j:Int,0≤j→j<A.length→imN ns R A fo j
theorem a2D{fo:List Int}{k c:Int}(h0:0≤c)(h:c<fo.length):oAt (fo++[k]) c=oAt fo c:=by
 unfold oAt;rw[List.getD_eq_getElem?_getD,List.getD_eq_getElem?_getD,List.getElem?_append_left (by omega)]
theorem Wq{fo:List Int}{k:Int}:oAt (fo++[k]) fo.length=k:=by
 unfold oAt;rw[List.getD_eq_getElem?_getD,List.getElem?_append_right (by omega)];simp
theorem a2E{ns:List Nd}{R:Rw}{A:List Nd}{fo:List Int}{x:Nd}{k:Int}(h:Im ns R A fo)(hk:Cj ns k)(hx:∀c∈x.kids,0≤c∧c<A.length)
 (hc:R.stop k=some x∨(R.stop k=none∧(x.kind=(Aa ns k).kind∧x.text=(Aa ns k).text∧x.blank=(Aa ns k).blank)∧x.kids.map (oAt fo)=(Aa ns k).kids)):Im ns R (A++[x]) (fo++[k]):=by
 refine⟨by simp [h.1],fun j h0 h1=> ?_⟩
 simp only[List.length_append,List.length_cons,List.length_nil] at h1
 have e:∀l:List Int,(∀c∈l,0≤c∧c<A.length)→l.map (oAt (fo++[k]))=l.map (oAt fo):=fun l hl=>List.map_congr_left fun c hc=>a2D (hl c hc).1 (by have:=(hl c hc).2;have:=h.1;omega)
 by_cases e1:j<A.length
 ·have hj:=h.2 j h0 e1
  unfold imN at hj ⊢
  rw[a2y e1 h0,a2D h0 (by have:=h.1;omega),e _ fun c hc=>by have:=hj.1.2 c hc;omega]
  exact hj
 ·have e2:j=A.length:=by omega
  subst e2
  unfold imN
  have e3:oAt (fo++[k]) (A.length:Int)=k:=by rw[←h.1];exact Wq
  rw[a2z,e3,e _ hx]
  exact⟨⟨hk,hx⟩,hc⟩
theorem a2F{ns:List Nd}{R:Rw}(hs:∀k x,R.stop k=some x→x.kids=[])(hp:Jc R):∀ {n:Nat} {k:Int} {out:List Nd} {fo:List Int},Cj ns k→k<n→Im ns R out fo→∃g,Im ns R (Bb ns R n k out) (fo++g)∧(1≤g.length∧oAt (fo++g) (((fo++g).length:Int)-1)=k)
 |0,k,out,fo,hu,hk,h=>by have:=BX.1 hu.1;omega
 |n+1,k,out,fo,hu,hk,h=>by
  rw[Bb]
  cases hst:R.stop k with
  |some x=>
   refine⟨[k],a2E h hu (by rw[hs k x hst];intro c hc;cases hc) (.inl hst),by simp,?_⟩
   rw[show((fo++[k]).length:Int)-1=fo.length by simp];exact Wq
  |none=>
   simp only
   rw[Il hp]
   have key:∀(l:List Int) (o:List Nd) (js:List Int) (f:List Int),(∀c∈l,c∈(Aa ns k).kids)→Im ns R o f→(∀c∈js,0≤c∧c<o.length)→
    ∃g,Im ns R (BR (Bb ns R n) l o js).1 (f++g)∧((∀c∈(BR (Bb ns R n) l o js).2,0≤c∧c<(BR (Bb ns R n) l o js).1.length)∧(BR (Bb ns R n) l o js).2.map (oAt (f++g))=js.map (oAt f)++l):=by
    intro l
    induction l with
    |nil=>intro o js f _ h hj;exact⟨[],by simpa [BR] using h,by simpa [BR] using hj,by simp [BR]⟩
    |cons c l ih=>
     intro o js f hl h hj
     have hm:=Ez hu (hl c (by simp))
     obtain⟨g,g1,g2,g3⟩:=a2F hs hp (n:=n) hm.1 (by omega) h
     have hlen:∀j∈js++[((Bb ns R n c o).length:Int)-1],0≤j∧j<(Bb ns R n c o).length:=by
      have hb:o.length+1≤(Bb ns R n c o).length:=by
       have h1:=h.1;have h2:=g1.1;rw[List.length_append] at h2;omega
      intro j hj2
      rcases List.mem_append.1 hj2 with hj2|hj2
      ·have:=hj j hj2;omega
      ·simp at hj2;omega
     obtain⟨g',i1,i2,i3⟩:=ih (Bb ns R n c o) _ (f++g) (fun d hd=>hl d (by simp [hd])) g1 hlen
     refine⟨g++g',?_,i2,?_⟩
     ·rw[←List.append_assoc];exact i1
     ·rw[←List.append_assoc,BR,i3,List.map_append,List.append_assoc]
      congr 1
      ·apply List.map_congr_left
       intro j hj2
       have h1:=h.1
       unfold oAt
       rw[List.getD_eq_getElem?_getD,List.getD_eq_getElem?_getD,List.getElem?_append_left (by have:=hj j hj2;omega)]
      ·have h2:=g1.1
       simp only[List.map_cons,List.map_nil,List.cons_append,List.nil_append]
       rw[←h2,g3]
   obtain⟨g,g1,g2,g3⟩:=key (Aa ns k).kids out [] fo (fun c hc=>hc) h (by simp)
   refine⟨g++[k],?_,by simp,?_⟩
   ·rw[←List.append_assoc]
    exact a2E g1 hu g2 (.inr ⟨hst,⟨rfl,rfl,rfl⟩,by simpa using g3⟩)
   ·rw[←List.append_assoc,show(((fo++g)++[k]).length:Int)-1=((fo++g).length:Int) by simp;omega];exact Wq
theorem a2G{ns:List Nd}{R:Rw}(hp:Jc R):∀ {n:Nat} {k:Int} {out:List Nd},(Bb ns R n k out).length≤out.length+(vis ns n k).length
 |0,k,out=>by simp [Bb,vis]
 |n+1,k,out=>by
  rw[Bb,JB]
  cases hst:R.stop k with
  |some x=>simp
  |none=>
   simp only[List.length_append,List.length_cons,List.length_nil]
   rw[Il hp]
   have key:∀(l:List Int) (o:List Nd) (js:List Int),(BR (Bb ns R n) l o js).1.length≤o.length+Cz ns n l:=by
    intro l
    induction l with
    |nil=>intro o js;simp [BR]
    |cons c l ih=>
     intro o js
     have h1:=ih (Bb ns R n c o) (js++[((Bb ns R n c o).length:Int)-1])
     have h2:=a2G (ns:=ns) hp (n:=n) (k:=c) (out:=o)
     rw[BR,IY];omega
   have:=key (Aa ns k).kids out []
   have e:Cz ns n (DG ns k)=Cz ns n (Aa ns k).kids:=rfl
   omega
theorem a2H{ds:List Int}{b:Int}:∀ {l:List Int} {d:Int},d≤b→(∀c∈l,ds.getD c.toNat 0≤b)→mx ds l d≤b
 |[],d,h,_=>h
 |c::l,d,h,hl=>by
  rw[mx]
  exact a2H (by have:=hl c (by simp);omega) fun c hc=>hl c (by simp [hc])
theorem a2I{A:List Nd}{H:Int→Int}(hn:∀i:Nat,i<A.length→BQ A i=true)(h14:∀i:Int,0≤i→i<A.length→1≤H i∧H i≤14)(hk:∀i:Int,0≤i→i<A.length→∀c∈(Aa A i).kids,H c<H i):
 ∀n:Nat,n≤A.length→∃ds,CJ A n=some ds∧∀i:Nat,i<n→ds.getD i 0≤H i
 |0,_=>⟨[],rfl,fun i hi=>by omega⟩
 |n+1,hle=>by
  obtain⟨ds,h1,h2⟩:=a2I hn h14 hk n (by omega)
  have hl:=Jw h1
  have hp:=DZ (hn n (by omega))
  have hm:mx ds (Aa A n).kids 0≤H n-1:=by
   refine a2H (by have:=h14 n (by omega) (by omega);omega) fun c hc=> ?_
   have hc2:=hp.2.2.2.1 c hc
   have h3:=h2 c.toNat (by omega)
   rw[show((c.toNat:Nat):Int)=c by omega] at h3
   have:=hk n (by omega) (by omega) c hc;omega
  have h14n:=h14 n (by omega) (by omega)
  refine⟨ds++[mx ds (Aa A n).kids 0+1],?_,fun i hi=> ?_⟩
  ·rw[CJ,h1];simp only[hn n (by omega),if_true];rw[if_neg (by omega)]
  ·by_cases e:i<n
   ·rw[List.getD_eq_getElem?_getD,List.getElem?_append_left (by omega),←List.getD_eq_getElem?_getD];exact h2 i e
   ·have e2:i=n:=by omega
    subst e2
    rw[List.getD_eq_getElem?_getD,List.getElem?_append_right (by omega),hl];simp;omega
theorem b2m{A:List Nd}{H:Int→Int}(hf:Fo A 0 [(A.length:Int)-1])(h1:1≤A.length)(h300:A.length≤300)(hr:AS A ((A.length:Int)-1)=22)(hn:∀i:Nat,i<A.length→BQ A i=true)
 (h14:∀i:Int,0≤i→i<A.length→1≤H i∧H i≤14) (hk:∀i:Int,0≤i→i<A.length→∀c∈(Aa A i).kids,H c<H i):BB A=true:=by
 obtain⟨ds,h2,_⟩:=a2I hn h14 hk A.length (Nat.le_refl _)
 have hd:Bz A ((A.length:Int)-1)≠0:=Vz (ds:=ds) (BX.2 (by omega)) (by rw[show((A.length:Int)-1).toNat+1=A.length by omega];exact h2)
 simp only[BB,Bool.and_eq_true,decide_eq_true_eq,Bool.not_eq_true',decide_eq_false_iff_not,List.all_eq_true,List.mem_range]
 exact⟨⟨h1,h300⟩,hr,hd,fun i hi=>b2j hf hi⟩
def e72(a:Int):Int:=if a=7 then 2 else a
theorem Sb{p:Int→Bool}(h:p 7=p 2)(a:Int):p (e72 a)=p a:=by unfold e72;split;rename_i e;rw[e,h];rfl
theorem Mh{p:Int→Bool}(h:p 7=p 2)(l:List Int):(l.map e72).all p=l.all p:=by rw[List.all_map];congr 1;funext a;exact Sb h a
theorem b2n{p:Int→Bool}(h:p 7=p 2)(l:List Int):p ((l.map e72).headD 0)=p (l.headD 0):=by
 cases l with
 |nil=>rfl
 |cons a l=>exact Sb h a
theorem b2o{p:Int→Bool}(h:p 7=p 2)(l:List Int)(i:Nat):p ((l.map e72).getD i 0)=p (l.getD i 0):=by
 rw[List.getD_eq_getElem?_getD,List.getD_eq_getElem?_getD,List.getElem?_map]
 cases l[i]? with
 |none=>rfl
 |some a=>exact Sb h a
theorem a2J{p:Int→Bool}(h:p 7=p 2)(l:List Int):EO p (l.map e72)=EO p l:=by
 unfold EO
 rw[List.getLast?_map]
 cases l.getLast? with
 |none=>rfl
 |some a=>simp only[Option.map_some];rw[Sb h,←List.map_dropLast,Mh (by decide)]
theorem a2K(k:Int)(l:List Int):Ci k (l.map e72)=Ci k l:=by
 unfold Ci
 simp only[List.length_map,←List.map_drop]
 simp only[Mh (p:=BH) (by decide),Mh (p:=FU) (by decide),Mh (p:=CR) (by decide),Mh (p:=DS) (by decide),Mh (p:=EN) (by decide),Mh (p:=GR) (by decide),b2n (p:=BH) (by decide),b2o (p:=CR) (by decide),a2J (p:=BH) (by decide),a2J (p:=CR) (by decide)]
def PO(ns:List Nd)(R:Rw):Prop:=∀k x,R.stop k=some x→AS ns k=7∧(x.kind=2∧x.kids=[])∧(Ev 2 x.text=true∧x.blank=false)
theorem a2L{f:Int→Int}:∀ {l:List Int},(l.map f).Nodup→l.Nodup
 |[],_=>List.nodup_nil
 |c::l,h=>by
  rw[List.map_cons,List.nodup_cons] at h
  exact List.nodup_cons.2 ⟨fun hc=>h.1 (List.mem_map_of_mem hc),a2L h.2⟩
section
variable {ns:List Nd} {R:Rw} {A:List Nd} {fo:List Int} (hS:PO ns R) (hI:Im ns R A fo)
include hS hI
theorem Sc{j:Int}(h0:0≤j)(h1:j<A.length):AS A j=AS ns (oAt fo j)∨(AS ns (oAt fo j)=7∧AS A j=2):=by
 rcases(hI.2 j h0 h1).2 with h|⟨_,h,_⟩
 ·exact .inr ⟨(hS _ _ h).1,(hS _ _ h).2.1.1⟩
 ·exact .inl h.1
theorem b2p{j:Int}(h0:0≤j)(h1:j<A.length):e72 (AS A j)=e72 (AS ns (oAt fo j)):=by
 rcases Sc hS hI h0 h1 with h|⟨h,g⟩
 ·rw[h]
 ·rw[h,g];rfl
theorem b2q(hok:∀k,Cj ns k→BQ ns k=true){j:Int}(h0:0≤j)(h1:j<A.length):BQ A j=true:=by
 have hj:=hI.2 j h0 h1
 have hn:BK A j=true:=BX.2 ⟨h0,h1⟩
 rw[BQ,hn,Bool.true_and]
 rcases hj.2 with h|⟨_,⟨g1,g2,g3⟩,g4⟩
 ·obtain⟨_,⟨s1,s2⟩,s3,s4⟩:=hS _ _ h
  simp only[GS,s1,s2,s3,s4,Bool.and_eq_true,decide_eq_true_eq]
  exact⟨by simp,trivial,⟨rfl,by simp⟩,rfl,by simp [EP,s2],by simp⟩
 ·have hp:=DZ (hok _ hj.1.1)
  have hb:=hok _ hj.1.1
  simp only[BQ,GS,Bool.and_eq_true,decide_eq_true_eq] at hb
  obtain⟨_,b1,b2,⟨b3,b4⟩,b5,b6,b7⟩:=hb
  have hlen:(Aa A j).kids.length=(Aa ns (oAt fo j)).kids.length:=by rw[←g4,List.length_map]
  simp only[GS,g1,g2,g3,Bool.and_eq_true,decide_eq_true_eq]
  refine⟨by omega,b2,⟨?_,?_⟩,?_,?_,b7⟩
  ·simp only[DT,List.all_eq_true,Bool.and_eq_true,decide_eq_true_eq];exact hj.1.2
  ·rw[←g4] at b4;exact a2L b4
  ·rw[←a2K,List.map_map]
   have e:(Aa A j).kids.map (e72∘AS A)=((Aa ns (oAt fo j)).kids.map (AS ns)).map e72:=by
    rw[←g4,List.map_map,List.map_map]
    apply List.map_congr_left
    intro c hc
    have:=hj.1.2 c hc
    exact b2p hS hI this.1 (by omega)
   rw[e,a2K];exact b5
  ·simp only[EP,List.all_eq_true] at b6 ⊢
   rintro⟨c,i⟩ hci
   have hc:(Aa A j).kids[i]? =some c:=by
    have:=List.mem_zipIdx_iff_getElem?.1 hci
    simpa using this
   have hcm:c∈(Aa A j).kids:=List.mem_of_getElem? hc
   have hcr:=hj.1.2 c hcm
   have hc2:(Aa ns (oAt fo j)).kids[i]? =some (oAt fo c):=by rw[←g4,List.getElem?_map,hc];rfl
   have h6:=b6 (oAt fo c,i) (List.mem_zipIdx_iff_getElem?.2 (by simpa using hc2))
   simp only[CV] at h6 ⊢
   split
   ·rename_i e5
    have hk:=Sc hS hI hcr.1 (by omega)
    have e5n:(Aa ns (oAt fo c)).kind=5:=by
     rcases hk with hk|hk
     ·rw[show(Aa ns (oAt fo c)).kind=AS ns (oAt fo c) from rfl,←hk];exact e5
     ·have:=hk.2;rw[show AS A c=(Aa A c).kind from rfl,e5] at this;cases this
    rw[if_pos e5n] at h6
    have hcj:=hI.2 c hcr.1 (by omega)
    rcases hcj.2 with h|⟨_,⟨k1,k2,k3⟩,k4⟩
    ·have:=(hS _ _ h).2.1.1;rw[e5] at this;cases this
    ·cases hkd:(Aa A c).kids with
     |nil=>rw[hkd] at k4;simp only[List.map_nil] at k4;rw[←k4] at h6;cases h6
     |cons hh t=>
      rw[hkd] at k4;simp only[List.map_cons] at k4
      rw[←k4] at h6
      simp only[Bool.and_eq_true] at h6 ⊢
      have hhr:=hcj.1.2 hh (by rw[hkd];simp)
      refine⟨BX.2 ⟨hhr.1,by omega⟩,?_⟩
      have h62:=h6.2
      have hk1:decide (AS A hh=1)=decide (AS ns (oAt fo hh)=1):=by
       rcases Sc hS hI hhr.1 (by omega) with e|e
       ·rw[e]
       ·rw[e.1,e.2];rfl
      rw[g1,hk1];exact h62
   ·rfl
end
theorem b2r{ns:List Nd}{R:Rw}{A:List Nd}{fo:List Int}{H:Int→Int}(hS:PO ns R)(hI:Im ns R A fo)(hf:Fo A 0 [(A.length:Int)-1])(h1:1≤A.length)(h300:A.length≤300)
 (hr:AS ns (oAt fo ((A.length:Int)-1))=22) (h14:∀k,Cj ns k→1≤H k∧H k≤14) (hk:∀k,Cj ns k→∀c∈(Aa ns k).kids,H c<H k):BB A=true:=by
 refine b2m (H:=fun j=>H (oAt fo j)) hf h1 h300 ?_ (fun i hi=>b2q hS hI (fun k hk=>LX hk) (by omega) (by omega)) (fun i h0 h1=>h14 _ (hI.2 i h0 h1).1.1) (fun i h0 h1 c hc=> ?_)
 ·rcases Sc hS hI (j:=(A.length:Int)-1) (by omega) (by omega) with e|e
  ·rw[e,hr]
  ·rw[hr] at e;have:=e.1;cases this
 ·rcases(hI.2 i h0 h1).2 with h|⟨_,_,g⟩
  ·rw[(hS _ _ h).2.1.2] at hc;cases hc
  ·exact hk _ (hI.2 i h0 h1).1.1 _ (by rw[←g];exact List.mem_map_of_mem hc)
end Go.My
end
