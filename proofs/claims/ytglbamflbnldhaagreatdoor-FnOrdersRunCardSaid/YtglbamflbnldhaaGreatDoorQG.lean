/- joined -/
import Derived.Test.YtglbamflbnldhaaGreatDoorQF
import Derived.Test.YtglbamflbnldhaaGreatDoorProg
set_option linter.unusedSimpArgs false
set_option linter.unusedVariables false
section
namespace Go.My
open Go.Eng Go.Proofs
variable {G:GInv}
def sdp(ns:List Nd)(i:Nat)(ds:List Int):Int:=
 if BH ns i=true∧(i=0∨ds.getD (i-1) 0≠0) then(if 14≤mx ds (ndAt ns i).kids 0 then 0 else mx ds (ndAt ns i).kids 0+1) else 0
def sds(ns:List Nd):Nat→List Int
 |0=>[]
 |n+1=>sds ns n++[sdp ns n (sds ns n)]
theorem Ix{ns:List Nd}:∀ {n:Nat},(sds ns n).length=n
 |0=>rfl
 |n+1=>by rw[sds,List.length_append,Ix];rfl
theorem a2n{ns:List Nd}:∀ {n:Nat},(match CN ns n with|some ds=>sds ns n=ds|none=>0<n∧(sds ns n).getD (n-1) 0=0)
 |0=>by simp [CN,sds]
 |n+1=>by
  have ih:= @a2n ns n
  unfold CN
  cases hd:CN ns n with
  |none=>
   rw[hd] at ih
   simp only
   refine⟨by omega,?_⟩
   have hz:sdp ns n (sds ns n)=0:=by
    unfold sdp;rw[if_neg];rintro⟨_,h|h⟩
    ·omega
    ·exact h ih.2
   rw[sds,hz,List.getD,List.getElem?_append_right (by rw[Ix];omega),Ix];simp
  |some ds=>
   rw[hd] at ih
   simp only at ih ⊢
   by_cases hn:BH ns n=true
   ·rw[if_pos hn]
    have hprev:n=0∨(sds ns n).getD (n-1) 0≠0:=by
     by_cases e:n=0
     ·exact .inl e
     ·right
      rw[ih,List.getD]
      have hl:=JD hd
      have:ds[n-1]? =some ds[n-1]:=by simp
      rw[this];have:=PB hd ds[n-1] (by simp);simp;omega
    have hs:sdp ns n (sds ns n)=if 14≤mx ds (ndAt ns n).kids 0 then 0 else mx ds (ndAt ns n).kids 0+1:=by
     unfold sdp;rw[if_pos ⟨hn,hprev⟩,ih]
    by_cases hm:14≤mx ds (ndAt ns n).kids 0
    ·rw[if_pos hm];simp only
     refine⟨by omega,?_⟩
     rw[sds,hs,if_pos hm,List.getD,List.getElem?_append_right (by rw[Ix];omega),Ix];simp
    ·rw[if_neg hm];simp only
     rw[sds,hs,if_neg hm,ih]
   ·rw[if_neg hn];simp only
    refine⟨by omega,?_⟩
    have hz:sdp ns n (sds ns n)=0:=by unfold sdp;rw[if_neg (fun h=>hn h.1)]
    rw[sds,hz,List.getD,List.getElem?_append_right (by rw[Ix];omega),Ix];simp
theorem b1T{ns:List Nd}{k:Int}{v:Int}(h:Bz ns k=true)(hv:(sds ns (k.toNat+1))[k.toNat]? =some v):v=BA ns k:=by
 have ih:= @a2n ns (k.toNat+1)
 unfold BA;rw[if_pos h]
 cases hd:CN ns (k.toNat+1) with
 |none=>rw[hd] at ih;simp only at ih ⊢;have:=ih.2;rw[List.getD] at this;simp [hv] at this;exact this
 |some ds=>rw[hd] at ih;simp only at ih ⊢;rw[←ih,List.getD,hv];rfl
theorem Ww{ns:List Nd}:∀ {n:Nat},∀d∈sds ns n,0≤d∧d≤14
 |0,d,h=>by simp [sds] at h
 |n+1,d,h=>by
  rw[sds] at h
  rcases List.mem_append.1 h with h|h
  ·exact Ww d h
  ·simp at h;subst h
   have:=RC (sds ns n) (ndAt ns n).kids 0
   unfold sdp;split
   ·split<;>omega
   ·omega
def okB(ns:List Nd)(i:Int):Bool:=BH ns i&&(decide (i=0)|| !decide ((sds ns i.toNat).getD (i.toNat-1) 0=0))
theorem a2o{ns:List Nd}{i:Int}(h:0≤i):sdp ns i.toNat (sds ns i.toNat)=if okB ns i then(if 14≤mx (sds ns i.toNat) (ndAt ns i).kids 0 then 0 else mx (sds ns i.toNat) (ndAt ns i).kids 0+1) else 0:=by
 have e:((i.toNat:Nat):Int)=i:=by omega
 unfold sdp;rw[e]
 have hb:okB ns i=true↔BH ns i=true∧(i.toNat=0∨(sds ns i.toNat).getD (i.toNat-1) 0≠0):=by
  unfold okB
  simp only[Bool.and_eq_true,Bool.or_eq_true,decide_eq_true_eq,Bool.not_eq_true',decide_eq_false_iff_not]
  constructor
  ·rintro⟨h1,h2⟩;exact⟨h1,h2.imp (fun h=>by omega) id⟩
  ·rintro⟨h1,h2⟩;exact⟨h1,h2.imp (fun h=>by omega) id⟩
 by_cases h1:okB ns i=true
 ·rw[if_pos h1,if_pos (hb.1 h1)]
 ·rw[if_neg h1,if_neg (fun h2=>h1 (hb.2 h2))]
def eI(ns:List Nd)(i j d:Int):Prop:=(okB ns i=true→j≤(ndAt ns i).kids.length∧1≤d∧d≤15∧mx (sds ns i.toNat) ((ndAt ns i).kids.drop j.toNat) (d-1)=mx (sds ns i.toNat) (ndAt ns i).kids 0)∧0≤j∧(okB ns i=false→d=0)
theorem b1U{ns:List Nd}{i:Int}:eI ns i 0 (if okB ns i then 1 else 0):=by
 refine⟨fun h=> ?_,by omega,fun h=> ?_⟩
 ·rw[if_pos h];refine⟨by omega,by omega,by omega,by simp⟩
 ·rw[h];rfl
theorem Sd{ns:List Nd}{i j d:Int}(h:eI ns i j d)(hd:d>0):okB ns i=true:=by
 cases hb:okB ns i
 ·have:=h.2.2 hb;omega
 ·rfl
theorem a2p{ns:List Nd}{i:Int}(h:okB ns i=true):BH ns i=true:=by
 simp only[okB,Bool.and_eq_true] at h;exact h.1
theorem b1V{ns:List Nd}{i j d c:Int}{y:Nd}(h:eI ns i j d)(hd:d>0)(hy:ns[i.toNat]? =some y)(hc:y.kids[j.toNat]? =some c):0≤c∧c<i:=by
 have:=(DM (a2p (Sd h hd))).2.2.2.1
 rw[Bn hy] at this;exact this c (BO hc)
theorem b1W{ns:List Nd}{i j d:Int}{y:Nd}(h:eI ns i j d)(hd:d>0)(hy:ns[i.toNat]? =some y):y.kids.length≤12:=by
 have:=(DM (a2p (Sd h hd))).2.1
 rwa [Bn hy] at this
theorem b1X{ns:List Nd}{i j d c v d':Int}{y:Nd}(h:eI ns i j d)(hd:d>0)(hy:ns[i.toNat]? =some y)(hc:y.kids[j.toNat]? =some c)(hv:(sds ns i.toNat)[c.toNat]? =some v)(hd':d'-1=max (d-1) v):eI ns i (j+1) d':=by
 have hb:=Sd h hd
 obtain⟨h1,h2,h3,h4⟩:=h.1 hb
 have h0:=h.2.1
 have hr:=Ww v (BO hv)
 rw[Bn hy] at h4 h1
 have:=(DK hc).1
 refine⟨fun _=> ?_,by omega,fun hh=>by rw[hb] at hh;cases hh⟩
 rw[Bn hy]
 refine⟨by omega,by omega,by omega,?_⟩
 rw[←h4,GX hc,Da h0,mx,List.getD,hv,Option.getD_some,hd']
theorem b1Y{ns:List Nd}{i:Int}{c:Nat}{v:Int}(hv:(sds ns i.toNat)[c]? =some v):0≤v∧v≤14:=Ww v (BO hv)
theorem b1Z{ns:List Nd}{i j d:Int}{y:Nd}(hi:0≤i)(h:eI ns i j d)(hd:d>0)(hy:ns[i.toNat]? =some y)(hl:¬j<y.kids.length):sds ns i.toNat++[if d>14 then 0 else d]=sds ns (i+1).toNat:=by
 have hb:=Sd h hd
 obtain⟨h1,h2,h3,h4⟩:=h.1 hb
 rw[Bn hy,List.drop_eq_nil_of_le (by omega),mx] at h4
 rw[Da hi,sds,a2o hi,if_pos hb,Bn hy,←h4]
 congr 2
 by_cases h5:d>14
 ·rw[if_pos h5,if_pos (by omega)]
 ·rw[if_neg h5,if_neg (by omega)];omega
theorem b2a{ns:List Nd}{i j d:Int}(hi:0≤i)(h:eI ns i j d)(hd:¬d>0):sds ns i.toNat++[d]=sds ns (i+1).toNat:=by
 have hb:okB ns i=false:=by
  cases hb:okB ns i
  ·rfl
  ·have:=(h.1 hb).2.1;omega
 rw[Da hi,sds,a2o hi,hb,h.2.2 hb];rfl
theorem b2b{ns:List Nd}{i:Int}(h:BH ns i=false):0=if okB ns i=true then(1:Int) else 0:=by simp [okB,h]
theorem b2c{ns:List Nd}{i v:Int}(h:i>0)(hv:(sds ns i.toNat)[(i-1).toNat]? =some v)(h0:v=0):0=if okB ns i=true then(1:Int) else 0:=by
 have e:(i-1).toNat=i.toNat-1:=by omega
 rw[e] at hv;subst h0
 have:(sds ns i.toNat).getD (i.toNat-1) 0=0:=by rw[List.getD,hv];rfl
 simp only[okB,this,decide_true,Bool.not_true,Bool.or_false]
 rw[decide_eq_false (by omega)];simp
theorem b2d{ns:List Nd}{i:Int}(h:BH ns i=true)(h0:0≤i)(h1:¬i>0):1=if okB ns i=true then(1:Int) else 0:=by
 obtain rfl:i=0:=by omega
 simp [okB,h]
theorem b2e{ns:List Nd}{i v:Int}(h:BH ns i=true)(h0:i>0)(hv:(sds ns i.toNat)[(i-1).toNat]? =some v)(h1:v≠0):1=if okB ns i=true then(1:Int) else 0:=by
 have e:(i-1).toNat=i.toNat-1:=by omega
 rw[e] at hv
 have:(sds ns i.toNat).getD (i.toNat-1) 0≠0:=by rw[List.getD,hv];exact h1
 simp only[okB,h,this,decide_false,Bool.not_false,Bool.or_true,Bool.and_true,if_true]
def PJ(x:List Nd×Int)(o:Int):LS:= {
 ι:=Int×Int,inv:=fun i=>eI x.1 o i.1 i.2,
 regs:=fun i=>[(0,nds x.1),(1,.int .i64 x.2),(5,Ab (sds x.1 o.toNat)),(6,.int .i64 o),(7,.int .i64 i.2),(8,.int .i64 i.1)],als:=[],meas:=fun i=>(ndAt x.1 o).kids.length-i.1.toNat}
def NI(x:List Nd×Int)(o:Int):LS:= {
 ι:=Unit,inv:=fun _=>True,
 regs:=fun i=>[(0,nds x.1),(1,.int .i64 x.2),(5,Ab (sds x.1 o.toNat)),(6,.int .i64 o),(7,.int .i64 (if okB x.1 o then 1 else 0))],als:=[],meas:=fun i=>0}
def lDs(x:List Nd×Int):LS:= {
 ι:=Int,inv:=fun i=>0≤i∧i≤x.2+1,
 regs:=fun i=>[(0,nds x.1),(1,.int .i64 x.2),(5,Ab (sds x.1 i.toNat)),(6,.int .i64 i)],als:=[],meas:=fun i=>(x.2+1-i).toNat,sub:=fun i=>[(9,PJ x i),(200008,NI x i)]}
def LQ:Sig:= {X:=List Nd×Int,args:=fun x=>[nds x.1,.int .i64 x.2],pre:=fun x=>BM x.1∧x.1.length≤2^30∧Bz x.1 x.2=true,Y:=Unit,post:=fun x y=>True,res:=fun x y=>Ab (sds x.1 (x.2.toNat+1)),outs:=fun x y=>[.top,.top],keep:=false}
theorem b2f:Aj G Tryz.prog 78 LQ:=
 vcFun_okP [(101,0,Fi)] [(25,⟨Int,AZ⟩)] false (fun x=>[(3,lDs x)]) Tryz.func78 rfl (by decide) ⟨b1S,trivial⟩ (fun(x:List Nd×Int)=>(∀(y:Unit),True→(∀(x:Int),True∧True)∧True∧True∧True)∧eA (lDs x) [nds x.1,.int .i64 x.2,Ab [],.int .i64 (0:Int)]∧∀(i:Int),(0:Int)≤i∧i≤x.2+(1:Int)→Aa (decide (i≤x.2)) (Aa (decide (i<(↑(List.length x.1):Int))) ((cA Fi [nds x.1,.int .i64 i] fun x_1 y=>Aa (!BH x_1.1 x_1.2) (eA (NI x i) [nds x.1,.int .i64 x.2,Ab (sds x.1 (Int.toNat i)),.int .i64 i,.int .i64 (0:Int)]) (Aa (decide (i>(0:Int))) (inR IntKind.i64 (i-(1:Int))∧((0:Int)≤i-(1:Int)∧i-(1:Int)<(↑(List.length (sds x.1 (Int.toNat i))):Int))∧Int.toNat (i-(1:Int))<List.length (sds x.1 (Int.toNat i))∧∀(x_2:Int),(sds x.1 (Int.toNat i))[Int.toNat (i-(1:Int))]? =some x_2→Aa (x_2==(0:Int)) (eA (NI x i) [nds x.1,.int .i64 x.2,Ab (sds x.1 (Int.toNat i)),.int .i64 i,.int .i64 (0:Int)]) (eA (NI x i) [nds x.1,.int .i64 x.2,Ab (sds x.1 (Int.toNat i)),.int .i64 i,.int .i64 (1:Int)])) (eA (NI x i) [nds x.1,.int .i64 x.2,Ab (sds x.1 (Int.toNat i)),.int .i64 i,.int .i64 (1:Int)])))∧∀(i_1:Unit),True→eA (PJ x i) [nds x.1,.int .i64 x.2,Ab (sds x.1 (Int.toNat i)),.int .i64 i,.int .i64 (if okB x.1 i=true then(1:Int) else(0:Int)),.int .i64 (0:Int)]∧∀(i_2:Int×Int),eI x.1 i i_2.1 i_2.2→Aa (decide (i_2.2>(0:Int))) (((0:Int)≤i∧i<(↑(List.length x.1):Int))∧∀(e:Nd),x.1[Int.toNat i]? =some e→Aa (decide (i_2.1<(↑(List.length e.kids):Int))) (((0:Int)≤i∧i<(↑(List.length x.1):Int))∧∀(e:Nd),x.1[Int.toNat i]? =some e→((0:Int)≤i_2.1∧i_2.1<(↑(List.length e.kids):Int))∧∀(e_1:Int),e.kids[Int.toNat i_2.1]? =some e_1→((0:Int)≤e_1∧e_1<(↑(List.length (sds x.1 (Int.toNat i))):Int))∧Int.toNat e_1<List.length (sds x.1 (Int.toNat i))∧∀(x_1:Int),(sds x.1 (Int.toNat i))[Int.toNat e_1]? =some x_1→inR IntKind.i64 (x_1+(1:Int))∧Aa (decide (x_1+(1:Int)>i_2.2)) (((0:Int)≤i∧i<(↑(List.length x.1):Int))∧∀(e:Nd),x.1[Int.toNat i]? =some e→((0:Int)≤i_2.1∧i_2.1<(↑(List.length e.kids):Int))∧∀(e_2:Int),e.kids[Int.toNat i_2.1]? =some e_2→((0:Int)≤e_2∧e_2<(↑(List.length (sds x.1 (Int.toNat i))):Int))∧Int.toNat e_2<List.length (sds x.1 (Int.toNat i))∧∀(x_2:Int),(sds x.1 (Int.toNat i))[Int.toNat e_2]? =some x_2→inR IntKind.i64 (x_2+(1:Int))∧inR IntKind.i64 (i_2.1+(1:Int))∧eN (PJ x i) i_2 [nds x.1,.int .i64 x.2,Ab (sds x.1 (Int.toNat i)),.int .i64 i,.int .i64 (x_2+(1:Int)),.int .i64 (i_2.1+(1:Int))]) (inR IntKind.i64 (i_2.1+(1:Int))∧eN (PJ x i) i_2 [nds x.1,.int .i64 x.2,Ab (sds x.1 (Int.toNat i)),.int .i64 i,.int .i64 i_2.2,.int .i64 (i_2.1+(1:Int))])) (Aa (decide (i_2.2>(14:Int))) (∃(x_1:Int),(0:Int)=x_1∧∃(zs:List Int),Ab [x_1]=Ab zs∧Bo AZ∧AY (List.length (sds x.1 (Int.toNat i))+List.length zs) (8:Nat)∧inR IntKind.i64 (i+(1:Int))∧eN (lDs x) i [nds x.1,.int .i64 x.2,Ab (sds x.1 (Int.toNat i)++zs),.int .i64 (i+(1:Int))]) (∃(x_1:Int),i_2.2=x_1∧∃(zs:List Int),Ab [x_1]=Ab zs∧Bo AZ∧AY (List.length (sds x.1 (Int.toNat i))+List.length zs) (8:Nat)∧inR IntKind.i64 (i+(1:Int))∧eN (lDs x) i [nds x.1,.int .i64 x.2,Ab (sds x.1 (Int.toNat i)++zs),.int .i64 (i+(1:Int))]))) (Aa (decide (i_2.2>(14:Int))) (∃(x_1:Int),(0:Int)=x_1∧∃(zs:List Int),Ab [x_1]=Ab zs∧Bo AZ∧AY (List.length (sds x.1 (Int.toNat i))+List.length zs) (8:Nat)∧inR IntKind.i64 (i+(1:Int))∧eN (lDs x) i [nds x.1,.int .i64 x.2,Ab (sds x.1 (Int.toNat i)++zs),.int .i64 (i+(1:Int))]) (∃(x_1:Int),i_2.2=x_1∧∃(zs:List Int),Ab [x_1]=Ab zs∧Bo AZ∧AY (List.length (sds x.1 (Int.toNat i))+List.length zs) (8:Nat)∧inR IntKind.i64 (i+(1:Int))∧eN (lDs x) i [nds x.1,.int .i64 x.2,Ab (sds x.1 (Int.toNat i)++zs),.int .i64 (i+(1:Int))]))) (rA LQ x [Ab (sds x.1 (Int.toNat i)),.top,.top])) (rA LQ x [Ab (sds x.1 (Int.toNat i)),.top,.top])) (fun x=>by kernel_rfl) fun(x:List Nd×Int) (hx:BM x.1∧x.1.length≤2^30∧Bz x.1 x.2=true)=>(by
 dsimp only[cA,eA,eN,lDs,PJ,NI,Bu,nds,Ab,rA,LQ,Fi,Au,Az,mvL,lnL,mvE,lnE,Br]
 obtain⟨h1,h2,h3⟩:=hx;have hl:=h1.1;have hn:=BV.1 h3
 (repeat' first|(with_reducible first|rfl|exact True.intro|apply AK|apply And.intro|((first|apply AA|apply AI|apply AB|apply AJ)<;>intro _))|(apply Ax<;>intro _)|apply AH|refine Ae () ?_ ?_|((first|apply AO|apply AN|apply AM|apply AL|apply AG|apply AF|apply AE|apply AD|apply AC)<;>try dsimp only)|apply Ae|(refine Prod.forall.2 ?_;intro _;try dsimp only)|(intro _;try dsimp only))
 all_goals first
  |rfl
  |omega
  |exact b2b ‹_›
  |exact b2c ‹_› ‹_› ‹_›
  |exact b2d ‹_› (by omega) ‹_›
  |exact b2e ‹_› ‹_› ‹_› ‹_›
  |exact b1U
  |(rw[Ix];omega)
  |skip
 all_goals try(repeat(rename x.1[Int.toNat _]? =some _=>hq;revert hq;rename x.1[Int.toNat _]? =some _=>hr;intro hq;rw[hr] at hq;cases hq))
 all_goals try(repeat(rename(Nd.kids _)[Int.toNat _]? =some _=>hq;revert hq;rename(Nd.kids _)[Int.toNat _]? =some _=>hr;intro hq;rw[hr] at hq;cases hq))
 all_goals try(rename(sds x.1 _)[Int.toNat _]? =some _=>hq;revert hq;rename(sds x.1 _)[Int.toNat _]? =some _=>hr2;intro hq;have hqq:=hr2.symm.trans hq;simp only[Option.some.injEq] at hqq;subst hqq)
 all_goals try(have hke:=b1V ‹_› ‹_› ‹_› ‹_›)
 all_goals try(have hle:=b1W ‹_› ‹_› ‹_›)
 all_goals try(have hve:=b1Y ‹_›)
 all_goals try(have hse:=(show eI _ _ _ _ by assumption).2.1)
 all_goals first
  |omega
  |(rw[Ix];omega)
  |((try simp only[AQ]);omega)
  |exact b1X ‹_› ‹_› ‹_› ‹_› ‹_› (by omega)
  |(rw[←b1Z (by omega) ‹_› ‹_› ‹_› ‹_›];simp [*];done)
  |exact b2a (by omega) ‹_› ‹_›
  |(rw[Bn ‹_›];omega)
  |(congr 1;omega)
  |(simp only[AY,Ix,List.length_cons,List.length_nil];omega)
  |skip)
def LR:Sig:= {X:=List Nd×Int,args:=fun x=>[nds x.1,.int .i64 x.2],pre:=fun x=>BM x.1∧x.1.length≤2^30,Y:=Unit,post:=fun x y=>True,res:=fun x y=> .int .i64 (BA x.1 x.2),outs:=fun x y=>[.top,.top],keep:=false}
theorem b2g:Aj G Tryz.prog 47 LR:=
 vcFun_okP [(46,0,CP),(78,0,LQ)] [] false (fun x=>[]) Tryz.func47 rfl (by decide) ⟨Kw,b2f,trivial⟩ (fun(x:List Nd×Int)=>(∀(y:Unit),True→True∧True∧True∧True)∧inR IntKind.i64 ((↑(List.length x.1):Int)-(1:Int))∧cA CP [.int .i64 x.2,.int .i64 (0:Int),.int .i64 ((↑(List.length x.1):Int)-(1:Int))] fun x_1 y=>Aa (!inn x_1.1 x_1.2.1 x_1.2.2) (rA LR x [.int .i64 (0:Int),.top,.top]) (cA LQ [nds x.1,.int .i64 x.2] fun x_2 y=>((0:Int)≤x.2∧x.2<(↑(List.length (sds x_2.1 (Int.toNat x_2.2+(1:Nat)))):Int))∧Int.toNat x.2<List.length (sds x_2.1 (Int.toNat x_2.2+(1:Nat)))∧∀(x_3:Int),(sds x_2.1 (Int.toNat x_2.2+(1:Nat)))[Int.toNat x.2]? =some x_3→rA LR x [.int .i64 x_3,.top,.top])) (fun x=>by kernel_rfl) fun(x:List Nd×Int) (hx:BM x.1∧x.1.length≤2^30)=>(by
 dsimp only[cA,Bu,nds,Ab,rA,CP,LQ,LR,Au,Az,mvL,lnL,mvE,lnE]
 obtain⟨h1,h2⟩:=hx;have hl:=h1.1
 (repeat' first|(with_reducible first|rfl|exact True.intro|apply AK|apply And.intro|((first|apply AA|apply AI|apply AB|apply AJ)<;>intro _))|(apply Ax<;>intro _)|apply AH|refine Ae () ?_ ?_|((first|apply AO|apply AN|apply AM|apply AL|apply AG|apply AF|apply AE|apply AD|apply AC)<;>try dsimp only)|apply Ae|(refine Prod.forall.2 ?_;intro _;try dsimp only)|(intro _;try dsimp only))
 all_goals first
  |exact h1
  |exact h2
  |((try simp only[AQ]);omega)
  |(rw[JH] at*;exact a1O ‹_›)
  |(have hh:=(show inn x.2 0 (x.1.length-1)=true by assumption);rw[JH] at hh;have:=BV.1 hh;first|exact hh|omega|exact b1T hh ‹_› |(rw[Ix];omega))
  |skip)
theorem a2q{ns:List Nd}{i v:Int}(hv:(cnt ns.length (BU ns))[i.toNat]? =some v)(h0:0≤i):((BU ns).count i:Int)=v:=by
 have h:i.toNat<ns.length:=by have:=(DK hv).1;rwa [Hc] at this
 rw[LO h] at hv
 have e2:((i.toNat:Nat):Int)=i:=by omega
 rw[e2] at hv;exact Option.some.inj hv
theorem b2h{ns:List Nd}{i v:Int}(h:tE ns i)(hl:i+1<(ns.length:Int))(hv:(cnt ns.length (BU ns))[i.toNat]? =some v)(h1:v=1):tE ns (i+1):=by
 have:=a2q hv h.1
 refine⟨by have:=h.1;omega,by omega,fun c hc=> ?_⟩
 by_cases e:(c:Int)<i
 ·exact h.2.2 c e
 ·have:=h.1
  obtain rfl:i=(c:Int):=by omega
  omega
theorem Wx{ns:List Nd}{i j c:Int}{y:Nd}(h:tI ns)(hy:ns[i.toNat]? =some y)(hc:y.kids[j.toNat]? =some c):0≤c∧c<ns.length:=(PF h hy).2 c (BO hc)
theorem b2i{ns:List Nd}{i:Int}{y:Nd}(h:tI ns)(hy:ns[i.toNat]? =some y):y.kids.length≤12:=(PF h hy).1
theorem b2j{ns:List Nd}{i j c:Int}{y:Nd}(h0:0≤j)(hy:ns[i.toNat]? =some y)(hc:y.kids[j.toNat]? =some c):tk ns i (j+1)=tk ns i j++[c]:=a1S h0 (by rw[Bn hy];exact hc)
theorem b2k{ns:List Nd}{i j:Int}{y:Nd}(h0:0≤i)(hy:ns[i.toNat]? =some y)(hl:¬j<y.kids.length):tk ns i j=BU (ns.take (i+1).toNat):=a1T h0 hy (by rw[Bn hy];exact hl)
def Se(x:List Nd)(o:Int):LS:= {
 ι:=Int,inv:=fun j=>0≤j∧j≤(ndAt x o).kids.length,
 regs:=fun j=>[(0,nds x),(3,.int .i64 x.length),(4,Ab (cnt x.length (tk x o j))),(5,.int .i64 o),(6,.int .i64 j)],als:=[],meas:=fun j=>(ndAt x o).kids.length-j.toNat}
def Sf(x:List Nd):LS:= {
 ι:=Int,inv:=fun i=>0≤i∧i≤x.length,
 regs:=fun i=>[(0,nds x),(3,.int .i64 x.length),(4,Ab (cnt x.length (BU (x.take i.toNat)))),(5,.int .i64 i)],als:=[],meas:=fun i=>x.length-i.toNat,
 sub:=fun i=>[(9,Se x i)]}
def Sh(x:List Nd):LS:= {
 ι:=Int,inv:=tE x,
 regs:=fun i=>[(3,.int .i64 x.length),(4,Ab (cnt x.length (BU x))),(7,.int .i64 i)],als:=[],meas:=fun i=>x.length-i.toNat}
def He:Sig:= {X:=List Nd,args:=fun x=>[nds x],pre:=fun x=>BM x∧x.length≤2^30,Y:=Unit,post:=fun x y=>True,res:=fun x y=> .bool (Bf x),outs:=fun x y=>[.top],keep:=false}
theorem a2r:Aj G Tryz.prog 17 He:=
 vcFun_okP [(46,0,CP),(47,0,LR)] [(25,⟨Int,AZ⟩)] false (fun x=>[(6,Sf x),(13,Sh x)]) Tryz.func17 rfl (by decide) ⟨Kw,b2g,trivial⟩ (fun(x:List Nd)=>(∀(y:Unit),True→True∧True∧True)∧cA CP [.int .i64 (↑(List.length x):Int),.int .i64 (1:Int),.int .i64 (300:Int)] fun x_1 y=>Aa (!inn x_1.1 x_1.2.1 x_1.2.2) (rA He x [.bool false,.top]) (inR IntKind.i64 ((↑(List.length x):Int)-(1:Int))∧((0:Int)≤(↑(List.length x):Int)-(1:Int)∧(↑(List.length x):Int)-(1:Int)<(↑(List.length x):Int))∧∀(e:Nd),x[Int.toNat ((↑(List.length x):Int)-(1:Int))]? =some e→Aa (e.kind != (22:Int)) (rA He x [.bool false,.top]) (inR IntKind.i64 ((↑(List.length x):Int)-(1:Int))∧cA LR [nds x,.int .i64 ((↑(List.length x):Int)-(1:Int))] fun x_2 y=>Aa (BA x_2.1 x_2.2==(0:Int)) (rA He x [.bool false,.top]) (((0:Int)≤(↑(List.length x):Int)∧(↑(List.length x):Int)≤(↑(List.length x):Int)∧(↑(8:Nat):Int)*(↑(List.length x):Int)≤(2:Int)^(46:Nat)∧(↑(List.length x):Int)≤(2:Int)^(46:Nat))∧∃(x_3:Int),(0:Int)=x_3∧eA (Sf x) [nds x,.int .i64 (↑(List.length x):Int),Ab (List.replicate (Int.toNat (↑(List.length x):Int)) x_3),.int .i64 (0:Int)]∧∀(i:Int),(0:Int)≤i∧i≤(↑(List.length x):Int)→Aa (decide (i<(↑(List.length x):Int))) (eA (Se x i) [nds x,.int .i64 (↑(List.length x):Int),Ab (cnt (List.length x) (BU (List.take (Int.toNat i) x))),.int .i64 i,.int .i64 (0:Int)]∧∀(i_1:Int),(0:Int)≤i_1∧i_1≤(↑(List.length (ndAt x i).kids):Int)→((0:Int)≤i∧i<(↑(List.length x):Int))∧∀(e:Nd),x[Int.toNat i]? =some e→Aa (decide (i_1<(↑(List.length e.kids):Int))) (((0:Int)≤i∧i<(↑(List.length x):Int))∧∀(e:Nd),x[Int.toNat i]? =some e→((0:Int)≤i_1∧i_1<(↑(List.length e.kids):Int))∧∀(e_1:Int),e.kids[Int.toNat i_1]? =some e_1→((0:Int)≤e_1∧e_1<(↑(List.length (cnt (List.length x) (tk x i i_1))):Int))∧Int.toNat e_1<List.length (cnt (List.length x) (tk x i i_1))∧∀(x_4:Int),(cnt (List.length x) (tk x i i_1))[Int.toNat e_1]? =some x_4→inR IntKind.i64 (x_4+(1:Int))∧((0:Int)≤e_1∧e_1<(↑(List.length (cnt (List.length x) (tk x i i_1))):Int))∧Int.toNat e_1<List.length (cnt (List.length x) (tk x i i_1))∧∀(x_5:Int),(cnt (List.length x) (tk x i i_1))[Int.toNat e_1]? =some x_5→∃(x':Int),((@List.nil AV)=[]∧(@List.nil AV)=[])∧x_4+(1:Int)=x'∧inR IntKind.i64 (i_1+(1:Int))∧eN (Se x i) i_1 [nds x,.int .i64 (↑(List.length x):Int),Ab (List.set (cnt (List.length x) (tk x i i_1)) (Int.toNat e_1) x'),.int .i64 i,.int .i64 (i_1+(1:Int))]) (inR IntKind.i64 (i+(1:Int))∧eN (Sf x) i [nds x,.int .i64 (↑(List.length x):Int),Ab (cnt (List.length x) (tk x i i_1)),.int .i64 (i+(1:Int))])) (eA (Sh x) [.int .i64 (↑(List.length x):Int),Ab (cnt (List.length x) (BU (List.take (Int.toNat i) x))),.int .i64 (0:Int)]∧∀(i:Int),tE x i→inR IntKind.i64 (i+(1:Int))∧Aa (decide (i+(1:Int)<(↑(List.length x):Int))) (((0:Int)≤i∧i<(↑(List.length (cnt (List.length x) (BU x))):Int))∧Int.toNat i<List.length (cnt (List.length x) (BU x))∧∀(x_4:Int),(cnt (List.length x) (BU x))[Int.toNat i]? =some x_4→Aa (x_4 != (1:Int)) (rA He x [.bool false,.top]) (inR IntKind.i64 (i+(1:Int))∧eN (Sh x) i [.int .i64 (↑(List.length x):Int),Ab (cnt (List.length x) (BU x)),.int .i64 (i+(1:Int))])) (rA He x [.bool true,.top])))))) (fun x=>by kernel_rfl) fun(x:List Nd) (hx:BM x∧x.length≤2^30)=>(by
 dsimp only[cA,eA,eN,Sf,Se,Sh,Bu,nds,Ab,rA,CP,LR,He,Au,Az,mvL,lnL,mvE,lnE,Br]
 obtain⟨h1,h2⟩:=hx;have hl:=h1.1
 (repeat' first|(with_reducible first|rfl|exact True.intro|apply AK|apply And.intro|((first|apply AA|apply AI|apply AB|apply AJ)<;>intro _))|(apply Ax<;>intro _)|apply AH|refine Ae () ?_ ?_|((first|apply AO|apply AN|apply AM|apply AL|apply AG|apply AF|apply AE|apply AD|apply AC)<;>try dsimp only)|apply Ae|(refine Prod.forall.2 ?_;intro _;try dsimp only)|(intro _;try dsimp only))
 all_goals try(have t1:=KB.1 (show inn x.length 1 300=true by assumption))
 all_goals try(have t0:=a1Z ‹_› ‹_› ‹_› ‹_›)
 all_goals try(repeat(rename x[Int.toNat _]? =some _=>hq;revert hq;rename x[Int.toNat _]? =some _=>hr;intro hq;rw[hr] at hq;cases hq))
 all_goals try(repeat(rename(Nd.kids _)[Int.toNat _]? =some _=>hq;revert hq;rename(Nd.kids _)[Int.toNat _]? =some _=>hr;intro hq;rw[hr] at hq;cases hq))
 all_goals try(simp only[Bn (show x[Int.toNat _]? =some _ by assumption)] at*)
 all_goals first
  |rfl
  |exact NG (a2a ‹_›)
  |exact NG (a2b ‹_› ‹_›)
  |exact NG (fun h=>h.2.2.2 ‹_›)
  |exact a1P
  |(rw[a1R];done)
  |(have:=Wx ‹_› ‹_› (show(Nd.kids _)[Int.toNat _]? =some _ by assumption);(try rw[Hc]);omega)
  |(rw[b2j (by omega) ‹_› ‹_›];exact a1Q (Wx ‹_› ‹_› ‹_›).1 (Wx ‹_› ‹_› ‹_›).2 ‹_›)
  |(rw[b2k (by omega) ‹_› ‹_›];done)
  |(rw[a2c ‹_›];done)
  |(have:=a1Y ‹_› ‹_› ‹_›;omega)
  |exact a1V ‹_› ‹_› (by omega)
  |exact a1W (a2q ‹_› (‹tE _ _›.1)) (‹tE _ _›.1) (by omega) ‹_›
  |exact b2h ‹_› ‹_› ‹_› ‹_›
  |exact⟨by omega,by omega,fun c hc=>by omega⟩
  |((try simp only[AQ,AY,List.length_replicate,Hc] at*);omega)
  |(have:=b2i ‹_› ‹_›;(try simp only[AQ] at*);omega)
  |(have hte:=(show tE x _ by assumption);have:=hte.1;have:=hte.2.1;(try rw[Hc]);(try simp only[AQ] at*);omega)
  |skip)
end Go.My
end
section
namespace Go.My
open Go.Eng
def Dy(s:List UInt8):Int:=s.foldl (fun n c=>n*10+((c.toNat:Int)-48)) 0
def Eh(t:List UInt8)(a b:Int):Int:=if t=[43] then a+b else if t=[45] then a-b else a*b
def b2l(t:List UInt8)(a b:Option Int):Option Int:=match a,b with
 |some a,some b=>if inn (Eh t a b) (-1000000000) 1000000000 then some (Eh t a b) else none
 |_,_=>none
def b2m(t:List UInt8):List (Option Int)→Option Int
 |[]=>some 0
 |a::l=>l.foldl (b2l t) a
def b2n(t:List UInt8):Bool:=t==[43]||(t==[45]||t==[42])
def b2o(t:List UInt8)(l:List (Option Int)):Option Int:=if b2n t then b2m t l else none
def cst(ns:List Nd):Nat→Int→Option Int
 |0,_=>none
 |n+1,k=>if(ndAt ns k).kind=2 then(if 9<(ndAt ns k).text.length then none else some (Dy (ndAt ns k).text))
  else if(ndAt ns k).kind=11 then cst ns n ((ndAt ns k).kids.headD 0)
  else if(ndAt ns k).kind=7 then b2o (ndAt ns k).text ((ndAt ns k).kids.map (cst ns n)) else none
def cV(ns:List Nd)(k:Int):Option Int:=cst ns (k.toNat+1) k
def De(ns:List Nd)(k:Int):Prop:=Bz ns k=true∧∀i:Nat,(i:Int)≤k→BH ns i=true
theorem a2s{ns:List Nd}{k:Int}(h:BA ns k≠0):De ns k:=⟨(Ns h).1,(Ns h).2.2⟩
theorem JI{ns:List Nd}{k:Int}(h:De ns k):BH ns k=true:=by
 have:=BV.1 h.1
 have h2:=h.2 k.toNat (by omega)
 rwa [show((k.toNat:Nat):Int)=k by omega] at h2
theorem HP{ns:List Nd}{k c:Int}(h:De ns k)(hc:c∈(ndAt ns k).kids):De ns c∧0≤c∧c<k:=by
 have h1:=(DM (JI h)).2.2.2.1 c hc
 have h2:=BV.1 h.1
 exact⟨⟨BV.2 (by omega),fun i hi=>h.2 i (by omega)⟩,h1⟩
theorem b2p{s:List UInt8}(h:Cy s 2=true):s.all Bj=true∧1≤s.length∧s.length≤12:=by
 rw[We] at h
 simp only[Bool.and_eq_true,decide_eq_true_eq] at h
 exact⟨h.1,h.2.1,h.2.2⟩
theorem b2q{ns:List Nd}{k:Int}(h:De ns k)(hk:(ndAt ns k).kind=2):(ndAt ns k).text.all Bj=true∧1≤(ndAt ns k).text.length∧(ndAt ns k).text.length≤12:=by
 have:=(DM (JI h)).2.2.1
 rw[hk] at this
 exact b2p (by simpa [Fg] using this)
theorem a2t{s:List UInt8}{c:UInt8}:Dy (s++[c])=Dy s*10+((c.toNat:Int)-48):=by simp [Dy,List.foldl_append]
theorem b2r{s:List UInt8}{n:Nat}{c:UInt8}(h:s[n]? =some c):Dy (s.take (n+1))=Dy (s.take n)*10+((c.toNat:Int)-48):=by
 rw[Ey h,a2t]
theorem a2u:∀(n:Nat) {s:List UInt8},s.all Bj=true→s.length=n→0≤Dy s∧Dy s<10^n
 |0,s,h,hn=>by
  obtain rfl:s=[]:=List.length_eq_zero_iff.1 hn
  simp [Dy]
 |n+1,s,h,hn=>by
  have hne:s≠[]:=by intro e;rw[e] at hn;simp at hn
  have e:=(List.dropLast_concat_getLast hne).symm
  generalize hl:s.dropLast=l at e
  generalize s.getLast hne=c at e
  subst e
  simp only[List.all_append,Bool.and_eq_true] at h
  have ih:=a2u n h.1 (by simpa using hn)
  have hc:Bj c=true:=by simpa using h.2
  simp only[Bj,Bool.and_eq_true,decide_eq_true_eq] at hc
  rw[a2t,Int.pow_succ];omega
theorem a2v{s:List UInt8}(h:s.all Bj=true)(h9:s.length≤9):0≤Dy s∧Dy s<1000000000:=by
 obtain⟨h1,h2⟩:=a2u s.length h rfl
 refine⟨h1,?_⟩
 have:s.length=0∨s.length=1∨s.length=2∨s.length=3∨s.length=4∨s.length=5∨s.length=6∨s.length=7∨s.length=8∨s.length=9:=by omega
 rcases this with e|e|e|e|e|e|e|e|e|e<;>rw[e] at h2<;>simp at h2<;>omega
theorem b2s{a b:Int}(h1: -1000000000≤a)(h2:a≤1000000000)(h3: -1000000000≤b)(h4:b≤1000000000): -1000000000000000000≤a*b∧a*b≤1000000000000000000:=by
 have k1:(a*b).natAbs≤1000000000*1000000000:=by
  rw[Int.natAbs_mul]
  exact Nat.mul_le_mul (by omega) (by omega)
 omega
def bdd(v:Int):Prop:= -1000000000≤v∧v≤1000000000
def oI(o:Option Int):Int:=o.getD 0
end Go.My
end
section
namespace Go.My
open Go.Eng Go.Proofs
variable {G:GInv}
structure Gr where
 notes:List Int
 member:Int
def grA(o:Bool):Gr→List AV:=fun g=>[.sl o 0 1 Int AZ g.notes,.int .i64 g.member]
def GA(l:List Gr):AV:= .sl true 0 2 Gr (grA true) l
def Ce(l:List Nd)(m:Int):List UInt8:=
 if Bz l m then(if As l m=12 then [97]++(ndAt l m).text else if As l m=21 then [98]++(ndAt l m).text else if As l m=20 then [99]++(ndAt l m).text else [100])
 else [100]
theorem b2t{l:List Nd}{m:Int}{x:Nd}(hx:l[m.toNat]? =some x)(h:Bz l m=true):Ce l m=if x.kind=12 then [97]++x.text else if x.kind=21 then [98]++x.text else if x.kind=20 then [99]++x.text else [100]:=by
 rw[Ce,if_pos h,As,Bn hx]
def KC:Sig:= {X:=List Nd×Int,args:=fun x=>[nds x.1,.agg [.any,.int .i64 x.2]],pre:=fun x=>x.1.length<2^62∧∀e∈x.1,e.text.length≤2^40,Y:=Unit,post:=fun x y=>True,res:=fun x y=> .str (Ce x.1 x.2),outs:=fun x y=>[.top,.top],keep:=false}
theorem b2u:Aj G Tryz.prog 72 KC:=
 vcFun_okP [(93,0,FF)] [] false (fun x=>[]) Tryz.func72 rfl (by decide) ⟨RO,trivial⟩ (fun(x:List Nd×Int)=>(∀(y:Unit),True→True∧True∧True∧True)∧cA FF [nds x.1,.int .i64 x.2] fun x_1 y=>Aa (!Bz x_1.1 x_1.2) (rA KC x [.str #[(100:UInt8)].toList,.top,.top]) (((0:Int)≤x.2∧x.2<(↑(List.length x.1):Int))∧∀(e:Nd),x.1[Int.toNat x.2]? =some e→Aa (e.kind==(12:Int)) ((↑((1:Nat)+List.length e.text):Int)≤IntKind.max IntKind.i64∧rA KC x [.str (#[(97:UInt8)].toList++e.text),.top,.top]) (Aa (e.kind==(21:Int)) ((↑((1:Nat)+List.length e.text):Int)≤IntKind.max IntKind.i64∧rA KC x [.str (#[(98:UInt8)].toList++e.text),.top,.top]) (Aa (e.kind==(20:Int)) ((↑((1:Nat)+List.length e.text):Int)≤IntKind.max IntKind.i64∧rA KC x [.str (#[(99:UInt8)].toList++e.text),.top,.top]) (rA KC x [.str #[(100:UInt8)].toList,.top,.top]))))) (fun x=>by kernel_rfl) fun(x:List Nd×Int) (hx:x.1.length<2^62∧∀e∈x.1,e.text.length≤2^40)=>(by
 dsimp only[cA,Bu,nds,rA,KC,FF,Au,Az,mvL,lnL,mvE,lnE]
 obtain⟨h1,h2⟩:=hx
 (repeat' first|(with_reducible first|rfl|exact True.intro|apply AK|apply And.intro|((first|apply AA|apply AI|apply AB|apply AJ)<;>intro _))|(apply Ax<;>intro _)|apply AH|refine Ae () ?_ ?_|((first|apply AO|apply AN|apply AM|apply AL|apply AG|apply AF|apply AE|apply AD|apply AC)<;>try dsimp only)|apply Ae|(refine Prod.forall.2 ?_;intro _;try dsimp only)|(intro _;try dsimp only))
 all_goals first
  |omega
  |(have hn:=BV.1 (show Bz x.1 x.2=true by assumption);omega)
  |(have ht:=h2 _ (BO (show x.1[Int.toNat _]? =some _ by assumption));simp;omega)
  |(rw[b2t ‹_› ‹_›];simp [*];done)
  |(simp [Ce, *];done)
  |skip)
def grp(ns:List Nd):List Int→List Int→List Gr
 |[],notes=>if 0<notes.length then [⟨notes,-1⟩] else []
 |c::l,notes=>if As ns c=19 then grp ns l (notes++[c]) else⟨notes,c⟩::grp ns l []
def Cf(ns:List Nd):List Int:=(ndAt ns (ns.length-1)).kids
def CF(ns:List Nd):List Gr:=if Bf ns then grp ns (Cf ns) [] else []
def gI(ns:List Nd)(i:Int)(out:List Gr)(notes:List Int):Prop:=
 Bf ns=true∧0≤i∧i≤(Cf ns).length∧out++grp ns ((Cf ns).drop i.toNat) notes=CF ns∧out.length≤i∧notes.length≤i
theorem a2w{ns:List Nd}(h:Bf ns=true):1≤ns.length∧BH ns (ns.length-1)=true:=by
 simp only[Bf,Bool.and_eq_true,decide_eq_true_eq,Bool.not_eq_true',decide_eq_false_iff_not] at h
 exact⟨h.1.1,JI (a2s h.2.2.1)⟩
theorem FG{ns:List Nd}(h:Bf ns=true):(Cf ns).length≤12∧∀c∈Cf ns,0≤c∧c<ns.length-1:=by
 have:=DM (a2w h).2
 exact⟨this.2.1,this.2.2.2.1⟩
theorem b2v{ns:List Nd}(h:Bf ns=true):gI ns 0 [] []:=⟨h,by omega,by omega,by simp [CF,h],by simp,by simp⟩
theorem b2w{ns:List Nd}{i c c':Int}{out:List Gr}{notes:List Int}{y:Nd}(h:gI ns i out notes)(hy:ns[c'.toNat]? =some y)(hk:y.kind=19)(hc':(Cf ns)[i.toNat]? =some c')(hc:(Cf ns)[i.toNat]? =some c):gI ns (i+1) out (notes++[c]):=by
 obtain⟨h0,h1,h2,h3,h4,h5⟩:=h
 obtain rfl:c'=c:=Option.some.inj (hc'.symm.trans hc)
 have:=(DK hc).1
 refine⟨h0,by omega,by omega,?_,by omega,by simp;omega⟩
 rw[←h3,GX hc,Da h1,grp,if_pos (by rw[As,Bn hy,hk])]
theorem b2x{ns:List Nd}{i c c':Int}{out:List Gr}{notes:List Int}{y:Nd}(h:gI ns i out notes)(hy:ns[c'.toNat]? =some y)(hk:y.kind≠19)(hc':(Cf ns)[i.toNat]? =some c')(hc:(Cf ns)[i.toNat]? =some c):gI ns (i+1) (out++[⟨notes,c⟩]) []:=by
 obtain⟨h0,h1,h2,h3,h4,h5⟩:=h
 obtain rfl:c'=c:=Option.some.inj (hc'.symm.trans hc)
 have:=(DK hc).1
 refine⟨h0,by omega,by omega,?_,by simp;omega,by simp;omega⟩
 rw[←h3,GX hc,Da h1,grp,if_neg (by rw[As,Bn hy];exact hk),List.append_assoc];rfl
theorem b2y{ns:List Nd}{i:Int}{out:List Gr}{notes:List Int}(h:gI ns i out notes)(hl:¬i<(Cf ns).length)(hn:(notes.length:Int)>0):out++[⟨notes,-1⟩]=CF ns:=by
 have h3:=h.2.2.2.1
 rw[List.drop_eq_nil_of_le (by have:=h.2.1;omega),grp,if_pos (by omega)] at h3;exact h3
theorem b2z{ns:List Nd}{i:Int}{out:List Gr}{notes:List Int}(h:gI ns i out notes)(hl:¬i<(Cf ns).length)(hn:¬(notes.length:Int)>0):out=CF ns:=by
 have h3:=h.2.2.2.1
 rw[List.drop_eq_nil_of_le (by have:=h.2.1;omega),grp,if_neg (by omega)] at h3;simpa using h3
theorem a2x{ns:List Nd}(h:Bf ns=false):CF ns=[]:=by simp [CF,h]
theorem a2y{ns:List Nd}{i c:Int}{out:List Gr}{notes:List Int}(h:gI ns i out notes)(hc:(Cf ns)[i.toNat]? =some c):0≤c∧c<ns.length:=by
 have:=(FG h.1).2 c (BO hc);omega
theorem b2A{ns:List Nd}{i:Int}{out:List Gr}{notes:List Int}(h:gI ns i out notes):(0≤i∧i≤(Cf ns).length)∧(Cf ns).length≤12∧out.length≤12∧notes.length≤12:=by
 have h1:=(FG h.1).1
 obtain⟨_,h2,h3,_,h4,h5⟩:=h
 omega
def lGr(x:List Nd):LS:= {
 ι:=Int×List Gr×List Int,inv:=fun i=>gI x i.1 i.2.1 i.2.2,
 regs:=fun i=>[(0,nds x),(3,GA i.2.1),(4,Ab i.2.2),(16,Af (Cf x)),(17,.int .i64 (Cf x).length),(18,.int .i64 i.1)],als:=[],meas:=fun i=>(Cf x).length-i.1.toNat}
theorem Wy{ns:List Nd}:∀ {l notes:List Int},(grp ns l notes).length≤l.length+(if 0<notes.length then 1 else 0)∧∀g∈grp ns l notes,g.notes.length≤l.length+notes.length
 |[],notes=>by
  unfold grp
  split
  ·rename_i h;simp [h]
  ·simp
 |c::l,notes=>by
  unfold grp
  split
  ·obtain⟨h1,h2⟩:= @Wy ns l (notes++[c])
   refine⟨?_,fun g hg=> ?_⟩
   ·simp at h1 ⊢;omega
   ·have:=h2 g hg;simp at this ⊢;omega
  ·obtain⟨h1,h2⟩:= @Wy ns l []
   refine⟨?_,fun g hg=> ?_⟩
   ·simp at h1 ⊢;omega
   ·rcases List.mem_cons.1 hg with h|h
    ·subst h;simp
    ·have:=h2 g h;simp at this ⊢;omega
theorem a2z{ns:List Nd}:(CF ns).length≤12∧∀g∈CF ns,g.notes.length≤12:=by
 unfold CF
 split
 ·rename_i h
  have h0:=(FG h).1
  obtain⟨h1,h2⟩:= @Wy ns (Cf ns) []
  simp at h1 h2
  exact⟨by omega,fun g hg=>by have:=h2 g hg;omega⟩
 ·simp
def HQ:Sig:= {X:=List Nd,args:=fun x=>[nds x],pre:=fun x=>BM x∧x.length≤2^30,Y:=Unit,post:=fun x y=>True,res:=fun x y=>GA (CF x),outs:=fun x y=>[.top],keep:=false}
theorem a2A:Aj G Tryz.prog 15 HQ:=
 vcFun_okP [(37,0,Hd)] [(25,⟨Int,AZ⟩),(36,⟨Gr,grA true⟩)] false (fun x=>[(6,lGr x)]) Tryz.func15 rfl (by decide) ⟨a2d,trivial⟩ (fun(x:List Nd)=>(∀(y:Unit),True→(∀(x:Gr),(∀(x:Int),True∧True)∧True∧True)∧True∧True)∧cA Hd [nds x] fun x_1 y=>Aa (!Bf x_1) (rA HQ x [.nil,.top]) (inR IntKind.i64 ((↑(List.length x):Int)-(1:Int))∧((0:Int)≤(↑(List.length x):Int)-(1:Int)∧(↑(List.length x):Int)-(1:Int)<(↑(List.length x):Int))∧∀(e:Nd),x[Int.toNat ((↑(List.length x):Int)-(1:Int))]? =some e→eA (lGr x) [nds x,.nil,.nil,Af e.kids,.int .i64 (↑(List.length e.kids):Int),.int .i64 (0:Int)]∧∀(i:Int×List Gr×List Int),gI x i.1 i.2.1 i.2.2→Aa (decide (i.1<(↑(List.length (Cf x)):Int))) (((0:Int)≤i.1∧i.1<(↑(List.length (Cf x)):Int))∧∀(e:Int),(Cf x)[Int.toNat i.1]? =some e→((0:Int)≤e∧e<(↑(List.length x):Int))∧∀(e_1:Nd),x[Int.toNat e]? =some e_1→Aa (e_1.kind==(19:Int)) (∃(x_2:Int),e=x_2∧∃(zs:List Int),Ab [x_2]=Ab zs∧Bo AZ∧AY (List.length i.2.2+List.length zs) (8:Nat)∧inR IntKind.i64 (i.1+(1:Int))∧eN (lGr x) i [nds x,AV.sl true 0 2 Gr (grA true) i.2.1,Ab (i.2.2++zs),Af (Cf x),.int .i64 (↑(List.length (Cf x)):Int),.int .i64 (i.1+(1:Int))]) (∃(x_2:Gr),Ab i.2.2=Ab x_2.notes∧e=x_2.member∧∃(zs:List Gr),AV.sl true 0 2 Gr (grA true) [x_2]=AV.sl true 0 2 Gr (grA true) zs∧Bo (grA true)∧AY (List.length i.2.1+List.length zs) (32:Nat)∧inR IntKind.i64 (i.1+(1:Int))∧eN (lGr x) i [nds x,AV.sl true 0 2 Gr (grA true) (i.2.1++zs),.nil,Af (Cf x),.int .i64 (↑(List.length (Cf x)):Int),.int .i64 (i.1+(1:Int))])) (Aa (decide ((↑(List.length i.2.2):Int)>(0:Int))) (∃(x_2:Gr),Ab i.2.2=Ab x_2.notes∧(-1:Int)=x_2.member∧∃(zs:List Gr),AV.sl true 0 2 Gr (grA true) [x_2]=AV.sl true 0 2 Gr (grA true) zs∧Bo (grA true)∧AY (List.length i.2.1+List.length zs) (32:Nat)∧rA HQ x [AV.sl true 0 2 Gr (grA true) (i.2.1++zs),.top]) (rA HQ x [AV.sl true 0 2 Gr (grA true) i.2.1,.top])))) (fun x=>by kernel_rfl) fun(x:List Nd) (hx:BM x∧x.length≤2^30)=>(by
 dsimp only[cA,eA,eN,Af,lGr,Bu,nds,GA,Ab,rA,HQ,Hd,Au,Az,mvL,lnL,mvE,lnE,Br]
 obtain⟨h1,h2⟩:=hx;have hl:=h1.1
 (repeat' first|(with_reducible first|rfl|exact True.intro|apply AK|apply And.intro|((first|apply AA|apply AI|apply AB|apply AJ)<;>intro _))|(apply Ax<;>intro _)|apply AH|refine Ae () ?_ ?_|((first|apply AO|apply AN|apply AM|apply AL|apply AG|apply AF|apply AE|apply AD|apply AC)<;>try dsimp only)|apply Ae|(refine Prod.forall.2 ?_;intro _;try dsimp only)|(intro _;try dsimp only))
 all_goals first
  |rfl
  |exact h1
  |exact h2
  |exact b2v ‹_›
  |exact a2x ‹_›
  |(symm;exact a2x ‹_›)
  |(rw[Cf,Bn ‹_›];done)
  |((try simp only[AQ]);omega)
  |exact b2w ‹_› ‹_› ‹_› ‹_› ‹_›
  |exact b2x ‹_› ‹_› ‹_› ‹_› ‹_›
  |exact b2y ‹_› ‹_› ‹_›
  |exact b2z ‹_› ‹_› ‹_›
  |exact(a2y ‹_› ‹_›).1
  |exact(a2y ‹_› ‹_›).2
  |(have ht0:=a2w (show Bf x=true by assumption);(try simp only[AQ]);omega)
  |(have hg:=b2A ‹_›;(try simp only[AQ,AY,List.length_cons,List.length_nil]);omega)
  |skip
 all_goals try rfl)
end Go.My
end
section
namespace Go.My
open Go.Eng
abbrev bLt:=Op.bytesLess
theorem Si:∀ {a b:List UInt8},bLt a b=true→bLt b a=false
 |_,[],h=>by simp [bLt,Op.bytesLess] at h
 |[],_::_,_=>by simp [bLt,Op.bytesLess]
 |x::a,y::b,h=>by
  have ih:= @Si a b
  simp only[bLt,Op.bytesLess,Bool.or_eq_true,Bool.and_eq_true,decide_eq_true_eq,beq_iff_eq,Bool.or_eq_false_iff,Bool.and_eq_false_imp,decide_eq_false_iff_not,UInt8.lt_iff_toNat_lt] at h ih ⊢
  rcases h with h|⟨rfl,h⟩
  ·exact⟨by omega,fun e=>by subst e;omega⟩
  ·exact⟨by omega,fun _=>ih h⟩
theorem Wz:∀ {a b c:List UInt8},bLt a c=true→bLt b c=false→bLt a b=true
 |_,_,[],h,_=>by simp [bLt,Op.bytesLess] at h
 |[],[],_::_,_,h=>by simp [bLt,Op.bytesLess] at h
 |[],_::_,_::_,_,_=>by simp [bLt,Op.bytesLess]
 |_::_,[],_::_,_,h=>by simp [bLt,Op.bytesLess] at h
 |x::a,y::b,z::c,h1,h2=>by
  have ih:= @Wz a b c
  simp only[bLt,Op.bytesLess,Bool.or_eq_true,Bool.and_eq_true,decide_eq_true_eq,beq_iff_eq,Bool.or_eq_false_iff,Bool.and_eq_false_imp,decide_eq_false_iff_not,UInt8.lt_iff_toNat_lt,←UInt8.toNat_inj] at h1 h2 ih ⊢
  obtain⟨h2,h3⟩:=h2
  rcases h1 with h1|⟨h0,h1⟩
  ·left;omega
  ·by_cases e:y.toNat=z.toNat
   ·exact .inr ⟨by omega,ih h1 (h3 e)⟩
   ·left;omega
section
variable {α:Type} (lt:α→α→Bool)
def Cs(e:α):List α→List α
 |[]=>[e]
 |x::l=>if lt e x then e::x::l else x::Cs e l
def Ca(l:List α):List α:=l.foldl (fun out e=>Cs lt e out) []
def Hf(l:List α):Prop:=∀(i j:Nat) (a b:α),i<j→l[i]? =some a→l[j]? =some b→lt b a=false
variable {lt}
theorem a2B{e:α}:∀ {l:List α},(Cs lt e l).length=l.length+1
 |[]=>rfl
 |x::l=>by unfold Cs;split<;>simp [a2B]
theorem b2B{l:List α}{e:α}:Ca lt (l++[e])=Cs lt e (Ca lt l):=by simp [Ca,List.foldl_append]
theorem JJ{l:List α}:(Ca lt l).length=l.length:=by
 have:∀(l out:List α),(l.foldl (fun out e=>Cs lt e out) out).length=out.length+l.length:=by
  intro l
  induction l with
  |nil=>intro out;simp
  |cons e l ih=>intro out;simp only[List.foldl_cons,ih,a2B,List.length_cons];omega
 simpa [Ca] using this l []
theorem a2C{e:α}:∀ {l:List α} {j:Nat},(∀x∈l.take j,lt e x=false)→(∀x,l[j]? =some x→lt e x=true)→Cs lt e l=l.take j++e::l.drop j
 |[],j,_,_=>by simp [Cs]
 |x::l,0,_,h=>by have:=h x rfl;simp [Cs,this]
 |x::l,j+1,h1,h2=>by
  have:=h1 x (by simp)
  simp only[Cs,this,Bool.false_eq_true,if_false,List.take_succ_cons,List.cons_append,List.drop_succ_cons]
  rw[a2C (j:=j) (fun y hy=>h1 y (by simp [hy])) (fun y hy=>h2 y (by simpa using hy))]
theorem a2D(hnt:∀a b c:α,lt a c=true→lt b c=false→lt a b=true)(has:∀a b:α,lt a b=true→lt b a=false){e:α}:∀ {l:List α},Hf lt l→Hf lt (Cs lt e l):=by
 intro l
 have hmem:∀ {l:List α} {y:α},y∈Cs lt e l→y=e∨y∈l:=by
  intro l
  induction l with
  |nil=>intro y hy;simpa [Cs] using hy
  |cons x l ih=>
   intro y hy
   unfold Cs at hy;split at hy
   ·simpa using hy
   ·rcases List.mem_cons.1 hy with h|h
    ·exact .inr (by simp [h])
    ·exact(ih h).imp id (fun h=>by simp [h])
 have hcons:∀ {x:α} {l:List α},Hf lt (x::l)↔(∀y∈l,lt y x=false)∧Hf lt l:=by
  intro x l
  constructor
  ·intro h
   refine⟨fun y hy=> ?_,fun i j a b hij ha hb=>h (i+1) (j+1) a b (by omega) (by simpa using ha) (by simpa using hb)⟩
   obtain⟨i,hi⟩:=List.mem_iff_getElem?.1 hy
   exact h 0 (i+1) x y (by omega) rfl (by simpa using hi)
  ·rintro⟨h1,h2⟩ i j a b hij ha hb
   cases j with
   |zero=>omega
   |succ j=>
    cases i with
    |zero=>simp at ha;subst ha;exact h1 b (List.mem_of_getElem? (by simpa using hb))
    |succ i=>exact h2 i j a b (by omega) (by simpa using ha) (by simpa using hb)
 induction l with
 |nil=>
  intro _ i j a b hij ha hb
  cases j with
  |zero=>omega
  |succ j=>simp [Cs] at hb
 |cons x l ih=>
  intro hs
  obtain⟨h1,h2⟩:=hcons.1 hs
  unfold Cs;split
  ·rename_i hl
   refine hcons.2 ⟨fun y hy=> ?_,hs⟩
   rcases List.mem_cons.1 hy with h|h
   ·rw[h]
    exact has _ _ hl
   ·cases hh:lt y e
    ·rfl
    ·have h3:=hnt y x e hh (has _ _ hl)
     rw[h1 y h] at h3;exact h3.symm
  ·rename_i hl
   refine hcons.2 ⟨fun y hy=> ?_,ih h2⟩
   rcases hmem hy with h|h
   ·subst h;simpa using hl
   ·exact h1 y h
theorem a2E(hnt:∀a b c:α,lt a c=true→lt b c=false→lt a b=true)(has:∀a b:α,lt a b=true→lt b a=false){l:List α}:Hf lt (Ca lt l):=by
 have:∀(l out:List α),Hf lt out→Hf lt (l.foldl (fun out e=>Cs lt e out) out):=by
  intro l
  induction l with
  |nil=>intro out h;exact h
  |cons e l ih=>intro out h;exact ih _ (a2D hnt has h)
 exact this l [] (fun i j a b _ _ h=>by simp at h)
theorem b2C(hnt:∀a b c:α,lt a c=true→lt b c=false→lt a b=true){P:List α}(hs:Hf lt P){e:α}{j:Nat}(hj:j≤P.length)(h1:∀x,P[j]? =some x→lt e x=true)
 (h2:j=0∨∃x,P[j-1]? =some x∧lt e x=false):Cs lt e P=P.take j++e::P.drop j:=by
 refine a2C (fun x hx=> ?_) h1
 obtain⟨i,hi⟩:=List.mem_iff_getElem?.1 hx
 have hij:i<j:=by
  rcases Nat.lt_or_ge i j with h|h
  ·exact h
  ·rw[List.getElem?_eq_none (by simp;omega)] at hi;cases hi
 rw[List.getElem?_take_of_lt hij] at hi
 rcases h2 with h2|⟨y,hy,h2⟩
 ·omega
 ·by_cases e2:i=j-1
  ·subst e2;rw[hi] at hy;cases hy;exact h2
  ·cases hh:lt e x
   ·rfl
   ·have h3:=hs i (j-1) x y (by omega) hi hy
    rw[hnt e y x hh h3] at h2;cases h2
theorem a2F{β:Type}{f:α→β}{lt':β→β→Bool}(h:∀a b,lt a b=lt' (f a) (f b)){e:α}:∀ {l:List α},(Cs lt e l).map f=Cs lt' (f e) (l.map f)
 |[]=>rfl
 |x::l=>by
  simp only[Cs,List.map_cons,h]
  split
  ·rfl
  ·rw[List.map_cons,a2F h]
theorem b2D{β:Type}{f:α→β}{lt':β→β→Bool}(h:∀a b,lt a b=lt' (f a) (f b)){l:List α}:(Ca lt l).map f=Ca lt' (l.map f):=by
 have:∀(l out:List α),(l.foldl (fun out e=>Cs lt e out) out).map f=(l.map f).foldl (fun out e=>Cs lt' e out) (out.map f):=by
  intro l
  induction l with
  |nil=>intro out;rfl
  |cons e l ih=>intro out;simp only[List.foldl_cons,List.map_cons,ih,a2F h]
 exact this l []
theorem a2G{e:α}:∀ {l:List α},(Cs lt e l).Perm (e::l)
 |[]=> .refl _
 |x::l=>by
  unfold Cs;split
  ·exact .refl _
  ·exact((a2G (l:=l)).cons x).trans (.swap ..)
theorem LT{l:List α}:(Ca lt l).Perm l:=by
 have:∀(l out:List α),(l.foldl (fun out e=>Cs lt e out) out).Perm (out++l):=by
  intro l
  induction l with
  |nil=>intro out;simp
  |cons e l ih=>
   intro out
   refine(ih _).trans ?_
   refine((a2G (e:=e) (l:=out)).append_right l).trans ?_
   simpa using (List.perm_middle (l₁:=out) (l₂:=l) (a:=e)).symm
 exact this l []
end
end Go.My
end
section
namespace Go.My
open Go.Eng Go.Proofs
variable {G:GInv}
def b2E(l:List Gr):Prop:=l.length<2^40∧∀g∈l,g.notes.length<2^40
def ltG(ns:List Nd)(a b:Gr):Bool:=bLt (Ce ns a.member) (Ce ns b.member)
def Hg(a b:List UInt8):Int:=if bLt a b then-1 else if !(bLt a b||a==b) then 1 else 0
theorem a2H{a b:List UInt8}:Hg a b<0↔bLt a b=true:=by
 unfold Hg
 by_cases h:bLt a b=true
 ·simp [h]
 ·rw[if_neg h];split<;>simp [h]
def LU:Sig:= {X:=List UInt8,args:=fun x=>[.str x],pre:=fun x=>True,Y:=Unit,post:=fun x y=>True,res:=fun x y=> .bool false,outs:=fun x y=>[.top],keep:=false}
theorem b2F:Aj G Tryz.prog 96 LU:=
 vcFun_okP [] [] false (fun x=>[]) Tryz.func96 rfl (by decide) trivial (fun(x:List UInt8)=>(∀(y:Unit),True→True∧True∧True)∧rA LU x [.bool !x==x,.top]) (fun x=>by kernel_rfl) fun(x:List UInt8) (hx:True)=>(by
 dsimp only[rA,LU,Au,Az]
 (repeat' first|(with_reducible first|rfl|exact True.intro|apply AK|apply And.intro|((first|apply AA|apply AI|apply AB|apply AJ)<;>intro _))|(apply Ax<;>intro _)|apply AH|refine Ae () ?_ ?_|((first|apply AO|apply AN|apply AM|apply AL|apply AG|apply AF|apply AE|apply AD|apply AC)<;>try dsimp only)|apply Ae|(refine Prod.forall.2 ?_;intro _;try dsimp only)|(intro _;try dsimp only))<;>(try dsimp only at*)<;>(try simp only[AQ,List.length_cons,List.length_nil])<;>(try omega)
 all_goals simp)
def NJ:Sig:= {X:=List UInt8×List UInt8,args:=fun x=>[.str x.1,.str x.2],pre:=fun x=>True,Y:=Unit,post:=fun x y=>True,res:=fun x y=> .int .i64 (Hg x.1 x.2),outs:=fun x y=>[.top,.top],keep:=false}
theorem b2G:Aj G Tryz.prog 71 NJ:=
 vcFun_okP [(96,0,LU)] [] false (fun x=>[]) Tryz.func71 rfl (by decide) ⟨b2F,trivial⟩ (fun(x:List UInt8×List UInt8)=>(∀(y:Unit),True→True∧True∧True∧True)∧cA LU [.str x.1] fun x_1 y=>cA LU [.str x.2] fun x_2 y=>Aa (Op.bytesLess x.1 x.2) (rA NJ x [.int .i64 (-1:Int),.top,.top]) (Aa (!(Op.bytesLess x.1 x.2||x.1==x.2)) (rA NJ x [.int .i64 (1:Int),.top,.top]) (rA NJ x [.int .i64 (0:Int),.top,.top]))) (fun x=>by kernel_rfl) fun(x:List UInt8×List UInt8) (hx:True)=>(by
 dsimp only[cA,rA,NJ,LU,Au,Az,mvL,lnL,mvE,lnE]
 (repeat' first|(with_reducible first|rfl|exact True.intro|apply AK|apply And.intro|((first|apply AA|apply AI|apply AB|apply AJ)<;>intro _))|(apply Ax<;>intro _)|apply AH|refine Ae () ?_ ?_|((first|apply AO|apply AN|apply AM|apply AL|apply AG|apply AF|apply AE|apply AD|apply AC)<;>try dsimp only)|apply Ae|(refine Prod.forall.2 ?_;intro _;try dsimp only)|(intro _;try dsimp only))<;>(try dsimp only at*)<;>(try simp only[AQ,List.length_cons,List.length_nil])<;>(try omega)
 all_goals simp_all [Hg])
abbrev Raw:=Value×Int
def Dz:Raw→List AV:=fun r=>[.val r.1,.int .i64 r.2]
def EC(l:List Raw):AV:= .sl true 0 2 Raw Dz l
def Je(Z:FP)(w:World):List (Raw×Gr)→FP→Prop
 |[],S=>emp S
 |p::ps,S=>∃A B,Bl S A B∧Ai Z w (.sl true 0 1 Int AZ p.2.notes) p.1.1 A∧Je Z w ps B
theorem b2H{Z:FP}{w:World}{l l':List (Raw×Gr)}(h:l.Perm l'):∀ {S:FP},Je Z w l S→Je Z w l' S:=by
 induction h with
 |nil=>exact fun h=>h
 |cons p _ ih=>
  rintro S ⟨A,B,hj,h1,h2⟩
  exact⟨A,B,hj,h1,ih h2⟩
 |swap p q l=>
  rintro S ⟨A,B,hj,h1,A2,B2,hj2,h2,h3⟩
  obtain⟨E,h4,h5⟩:=Ij hj hj2
  exact⟨A2,E,h4,h2,A,B2,h5,h1,h3⟩
 |trans _ _ ih1 ih2=>exact fun h=>ih2 (ih1 h)
theorem a2I{Z Z':FP}{w w':World}(hZ:∀b,¬Z b→b<w.heap.size→¬Z' b∧w'.heap[b]? =w.heap[b]?):∀ {l:List (Raw×Gr)} {S:FP},(∀b,S b→w'.heap[b]? =w.heap[b]?)→Je Z w l S→Je Z' w' l S
 |[],S,_,h=>h
 |p::l,S,hS,⟨A,B,hj,h1,h2⟩=>⟨A,B,hj,Fu hZ _ _ _ (fun b hb=>hS b ((hj.1 b).2 (.inl hb))) h1,a2I hZ (fun b hb=>hS b ((hj.1 b).2 (.inr hb))) h2⟩
theorem a2J{Z:FP}{w:World}:∀ {l:List Gr} {cs:List Value} {S:FP},Go.Eng.Rows 2 (fun x cs A=>AS Z w (grA true x) cs A) l cs S→
 ∃zs:List (Raw×Gr),zs.map (·.2)=l∧Go.Eng.Rows 2 (fun x cs A=>AS Z w (Dz x) cs A) (zs.map (·.1)) cs (fun _=>False)∧Je Z w zs S∧∀p∈zs,p.1.2=p.2.member
 |[],cs,S,h=>⟨[],rfl,AP,h,(fun _ h=>by cases h)⟩
 |g::l,cs,S,h=>by
  obtain⟨A,B,hj,hl,h1,h2⟩:=h
  obtain⟨zs,e,h3,h4,h5⟩:=a2J h2
  simp only[grA,AS] at h1
  obtain⟨v,cs',A1,A2,e1,hj1,h6,v2,cs2,A3,A4,e2,hj2,h7,e3,h8⟩:=h1
  subst e2;subst e3
  have hv:CI v:=Kh h6
  have hA2:emp A2:=by
   have h9:emp A3:=h7.2
   intro b hb;exact((hj2.1 b).1 hb).elim (h9 b) (h8 b)
  have eA:A=A1:=Es (QO hj1 hA2)
  subst eA
  simp only[Ai] at h7
  refine⟨((v,g.member),g)::zs,by simp [e],⟨_,_,BK _,hl,?_,h3⟩,⟨A,B,hj,h6,h4⟩,fun p hp=> ?_⟩
  ·rw[e1]
   simp only[Dz,AS,Ai]
   exact⟨v,_,_,_,rfl,BK _,⟨rfl,hv,AP⟩,v2,[],_,_,rfl,BK _,⟨h7.1,AP⟩,rfl,AP⟩
  ·rcases List.mem_cons.1 hp with h|h
   ·subst h;rfl
   ·exact h5 p h
theorem a2K{Z:FP}{w:World}:∀ {zs:List (Raw×Gr)} {cs:List Value} {S T:FP},emp T→Go.Eng.Rows 2 (fun x cs A=>AS Z w (Dz x) cs A) (zs.map (·.1)) cs T→Je Z w zs S→(∀p∈zs,p.1.2=p.2.member)→
 Go.Eng.Rows 2 (fun x cs A=>AS Z w (grA true x) cs A) (zs.map (·.2)) cs S
 |[],cs,S,T,_,_,h,_=>h
 |p::zs,cs,S,T,hT,hr,hn,hp=>by
  obtain⟨A,B,hj,hl,h1,h2⟩:=hr
  obtain⟨A',B',hj',h3,h4⟩:=hn
  have hAB:=Ih hj hT
  refine⟨A',B',hj',hl,?_,a2K hAB.2 h2 h4 fun q hq=>hp q (by simp [hq])⟩
  simp only[Dz,AS,Ai] at h1
  obtain⟨v,cs',A1,A2,e1,hj1,⟨e4,_,_⟩,v2,cs2,A3,A4,e2,hj2,⟨h7,_⟩,e3,h8⟩:=h1
  subst e2;subst e3
  rw[e1]
  simp only[grA,AS,Ai]
  refine⟨v,_,A',fun _=>False,rfl,GR A',?_,v2,[],_,_,rfl,BK _,⟨?_,AP⟩,rfl,AP⟩
  ·rw[e4];simpa only[Ai] using h3
  ·rw[h7,hp p (by simp)]
theorem b2I{Z:FP}{w:World}{l:List Gr}{v:Value}{S:FP}(h:Ai Z w (GA l) v S):
 ∃zs:List (Raw×Gr),zs.map (·.2)=l∧(∀p∈zs,p.1.2=p.2.member)∧∃A B,Bl S A B∧Ai Z w (EC (zs.map (·.1))) v A∧Je Z w zs B:=by
 simp only[GA,Ai] at h
 obtain⟨a,n,c,rfl,hn,hc,h⟩:=h
 rcases h with⟨_,h⟩|⟨h,_⟩
 ·rcases h with⟨ha,h0,hS⟩|⟨b,off,arr,ty,S1,ha,hb,hsz,hr,hj⟩
  ·have:l=[]:=List.length_eq_zero_iff.1 (by omega)
   subst this
   refine⟨[],rfl,(fun _ h=>by cases h),S,fun _=>False,GR S,?_,AP⟩
   simp only[EC,Ai]
   exact⟨a,n,c,rfl,by simpa using hn,hc,.inl ⟨trivial,.inl ⟨ha,h0,hS⟩⟩⟩
  ·obtain⟨zs,e,h3,h4,h5⟩:=a2J hr
   refine⟨zs,e,h5,one b,S1,hj,?_,h4⟩
   simp only[EC,Ai]
   refine⟨a,n,c,rfl,by rw[hn,←e];simp,hc,.inl ⟨trivial,.inr ⟨b,off,arr,ty,fun _=>False,ha,hb,hsz,h3,GR _⟩⟩⟩
 ·cases h
theorem b2J{Z:FP}{w:World}{zs:List (Raw×Gr)}{v:Value}{A B S:FP}(h:Ai Z w (EC (zs.map (·.1))) v A)(hn:Je Z w zs B)(hp:∀p∈zs,p.1.2=p.2.member)(hj:Bl S A B):
 Ai Z w (GA (zs.map (·.2))) v S:=by
 simp only[EC,Ai] at h
 obtain⟨a,n,c,rfl,hn1,hc,h⟩:=h
 simp only[GA,Ai]
 refine⟨a,n,c,rfl,by simpa using hn1,hc,.inl ⟨trivial,?_⟩⟩
 rcases h with⟨_,h⟩|⟨h,_⟩
 ·rcases h with⟨ha,h0,hS⟩|⟨b,off,arr,ty,S1,ha,hb,hsz,hr,hj1⟩
  ·have:zs=[]:=List.length_eq_zero_iff.1 (by simp at hn1;omega)
   subst this
   exact .inl ⟨ha,h0,fun b hb=>((hj.1 b).1 hb).elim (hS b) (hn b)⟩
  ·refine .inr ⟨b,off,arr,ty,B,ha,hb,hsz,?_,?_⟩
   ·have hS1:emp S1:=by
     have:∀(l:List Raw) (cs:List Value) (S:FP),Go.Eng.Rows 2 (fun x cs A=>AS Z w (Dz x) cs A) l cs S→emp S:=by
      intro l
      induction l with
      |nil=>intro cs S h;exact h
      |cons r l ih=>
       rintro cs S ⟨A,B,hj,_,h1,h2⟩
       simp only[Dz,AS,Ai] at h1
       obtain⟨v,cs',A1,A2,e1,hj1,⟨_,_,g1⟩,v2,cs2,A3,A4,e2,hj2,⟨_,g2⟩,e3,g3⟩:=h1
       intro b hb
       rcases(hj.1 b).1 hb with hb|hb
       ·rcases(hj1.1 b).1 hb with hb|hb
        ·exact g1 b hb
        ·exact((hj2.1 b).1 hb).elim (g2 b) (g3 b)
       ·exact ih _ _ h2 b hb
     exact this _ _ _ hr
    exact a2K hS1 hr hn hp
   ·have hS1:∀x,A x↔one b x:=by
     have:∀(l:List Raw) (cs:List Value) (S:FP),Go.Eng.Rows 2 (fun x cs A=>AS Z w (Dz x) cs A) l cs S→emp S:=by
      intro l
      induction l with
      |nil=>intro cs S h;exact h
      |cons r l ih=>
       rintro cs S ⟨A,B,hj,_,h1,h2⟩
       simp only[Dz,AS,Ai] at h1
       obtain⟨v,cs',A1,A2,e1,hj1,⟨_,_,g1⟩,v2,cs2,A3,A4,e2,hj2,⟨_,g2⟩,e3,g3⟩:=h1
       intro b hb
       rcases(hj.1 b).1 hb with hb|hb
       ·rcases(hj1.1 b).1 hb with hb|hb
        ·exact g1 b hb
        ·exact((hj2.1 b).1 hb).elim (g2 b) (g3 b)
       ·exact ih _ _ h2 b hb
     exact QO hj1 (this _ _ _ hr)
    rw[Es hS1] at hj;exact hj
 ·cases h
def mkB(l:List Gr):Prop:=l.length≤12∧∀g∈l,g.notes.length≤12
def Gc(l:List Nd):Prop:=l.length<2^62∧∀e∈l,e.text.length≤2^40
def Sj:Sig:= {X:=List Nd×Int×Int,args:=fun x=>[.agg [.any,.int .i64 x.2.1],.agg [.any,.int .i64 x.2.2],.pf [nds x.1]],pre:=fun x=>Gc x.1,Y:=Unit,post:=fun x y=>True,res:=fun x y=> .int .i64 (Hg (Ce x.1 x.2.1) (Ce x.1 x.2.2)),outs:=fun x y=>[.top,.top,.top],keep:=false}
theorem b2K:Aj G Tryz.prog 70 Sj:=
 vcFun_okP [(72,0,KC),(71,0,NJ)] [] false (fun x=>[]) Tryz.func70 rfl (by decide) ⟨b2u,b2G,trivial⟩ (fun(x:List Nd×Int×Int)=>(∀(y:Unit),True→True∧True∧True∧True∧True)∧true=true∧true=true∧∃(x_1:List Nd×Int),(List.length x_1.1<(4611686018427387904:Nat)∧∀(e:Nd),e∈x_1.1→List.length e.text≤(1099511627776:Nat))∧nds x.1=nds x_1.1∧x.2.1=x_1.2∧∃(y0:Unit),(∀(y:Unit),True→AV.str (Ce x_1.1 x_1.2)=AV.str (Ce x_1.1 x_1.2))∧true=true∧∃(x_2:List Nd×Int),(List.length x_2.1<(4611686018427387904:Nat)∧∀(e:Nd),e∈x_2.1→List.length e.text≤(1099511627776:Nat))∧nds x.1=nds x_2.1∧x.2.2=x_2.2∧∃(y0:Unit),(∀(y:Unit),True→AV.str (Ce x_2.1 x_2.2)=AV.str (Ce x_2.1 x_2.2))∧true=true∧∃(x_3:List UInt8×List UInt8),True∧Ce x_1.1 x_1.2=x_3.1∧Ce x_2.1 x_2.2=x_3.2∧∃(y0:Unit),(∀(y:Unit),True→AV.int IntKind.i64 (Hg x_3.1 x_3.2)=AV.int IntKind.i64 (Hg x_3.1 x_3.2))∧true=true∧rA Sj x [.int .i64 (Hg x_3.1 x_3.2),.top,.top,.top]) (fun x=>by kernel_rfl) fun(x:List Nd×Int×Int) (hx:Gc x.1)=>(by
 dsimp only[Bu,nds,rA,Sj,Au,Az]
 have h1:=hx.1;have h2:=hx.2
 (repeat' first|(with_reducible first|rfl|exact True.intro|apply AK|apply And.intro|((first|apply AA|apply AI|apply AB|apply AJ)<;>intro _))|(apply Ax<;>intro _)|apply AH|refine Ae () ?_ ?_|((first|apply AO|apply AN|apply AM|apply AL|apply AG|apply AF|apply AE|apply AD|apply AC)<;>try dsimp only)|apply Ae|(refine Prod.forall.2 ?_;intro _;try dsimp only)|(intro _;try dsimp only))
 all_goals first|exact h1|exact h2|exact h2 _ ‹_› |skip)
def ltR(ns:List Nd)(a b:Raw):Bool:=bLt (Ce ns a.2) (Ce ns b.2)
theorem a2L{ns:List Nd}:∀a b c:Raw,ltR ns a c=true→ltR ns b c=false→ltR ns a b=true:=fun a b c h1 h2=> @Wz (Ce ns a.2) (Ce ns b.2) (Ce ns c.2) h1 h2
theorem b2L{ns:List Nd}:∀a b:Raw,ltR ns a b=true→ltR ns b a=false:=fun a b h=> @Si (Ce ns a.2) (Ce ns b.2) h
def stJ(lt:Raw→Raw→Bool)(l:List Raw)(i j:Int):List Raw:=match l[i.toNat]? with
 |some e=>(Ca lt (l.take i.toNat)).take j.toNat++e::((Ca lt (l.take i.toNat)).drop j.toNat++l.drop (i.toNat+1))
 |none=>l
def stI(lt:Raw→Raw→Bool)(l:List Raw)(i:Int):List Raw:=Ca lt (l.take i.toNat)++l.drop i.toNat
def soI(l:List Raw)(i:Int):Prop:=1≤i∧(i≤l.length∨i=1)
def soJ(lt:Raw→Raw→Bool)(l:List Raw)(i j:Int):Prop:=(0≤j∧j≤i)∧(1≤i∧i<l.length)∧∀x e,(Ca lt (l.take i.toNat))[j.toNat]? =some x→l[i.toNat]? =some e→lt e x=true
theorem b2M{lt:Raw→Raw→Bool}{l:List Raw}{i:Int}:(stI lt l i).length=l.length:=by
 rw[stI,List.length_append,JJ,List.length_take,List.length_drop];omega
theorem b2N{lt:Raw→Raw→Bool}{l:List Raw}{i j:Int}(h:soJ lt l i j):(stJ lt l i j).length=l.length:=by
 unfold stJ
 split
 ·rename_i e he
  have:=(DK he).1
  simp only[List.length_append,List.length_cons,List.length_take,List.length_drop,JJ]
  omega
 ·rfl
theorem a2M{lt:Raw→Raw→Bool}{l:List Raw}:l=stI lt l 1:=by
 unfold stI
 cases l with
 |nil=>rfl
 |cons a l=>simp [Ca,Cs]
theorem b2O{lt:Raw→Raw→Bool}{l:List Raw}{i:Int}(h:soI l i)(hl:i<l.length):stI lt l i=stJ lt l i i:=by
 unfold stI stJ
 obtain⟨q,e⟩:∃q,l[i.toNat]? =some q:=⟨l[i.toNat]'(by have:=h.1;omega),by simp⟩
 rw[e]
 simp only
 rw[GX e,List.take_of_length_le (l:=Ca lt _) (by rw[JJ,List.length_take];omega),List.drop_of_length_le (l:=Ca lt _) (by rw[JJ,List.length_take];omega)]
 simp
theorem b2P{lt:Raw→Raw→Bool}{l:List Raw}{i:Int}(h:soI l i)(hl:i<l.length):soJ lt l i i:=by
 refine⟨⟨by have:=h.1;omega,Int.le_refl i⟩,⟨h.1,hl⟩,fun x e hx _=> ?_⟩
 rw[List.getElem?_eq_none (by rw[JJ,List.length_take];omega)] at hx;cases hx
theorem WA{lt:Raw→Raw→Bool}{l:List Raw}{i j:Int}{y:Raw}(h:soJ lt l i j)(hy:(stJ lt l i j)[j.toNat]? =some y):l[i.toNat]? =some y:=by
 obtain⟨q,e⟩:∃q,l[i.toNat]? =some q:=⟨l[i.toNat]'(by have:=h.2.1;omega),by simp⟩
 unfold stJ at hy
 rw[e] at hy ⊢
 simp only at hy
 have hlen:((Ca lt (l.take i.toNat)).take j.toNat).length=j.toNat:=by rw[List.length_take,JJ,List.length_take];have:=h.1;have:=h.2.1;omega
 rw[List.getElem?_append_right (by omega),hlen,Nat.sub_self] at hy
 simpa using hy
theorem WB{lt:Raw→Raw→Bool}{l:List Raw}{i j:Int}{y:Raw}(h:soJ lt l i j)(hj:j>0)(hy:(stJ lt l i j)[(j-1).toNat]? =some y):(Ca lt (l.take i.toNat))[(j-1).toNat]? =some y:=by
 obtain⟨q,e⟩:∃q,l[i.toNat]? =some q:=⟨l[i.toNat]'(by have:=h.2.1;omega),by simp⟩
 unfold stJ at hy
 rw[e] at hy
 simp only at hy
 have hlen:((Ca lt (l.take i.toNat)).take j.toNat).length=j.toNat:=by rw[List.length_take,JJ,List.length_take];have:=h.1;have:=h.2.1;omega
 rw[List.getElem?_append_left (by omega),List.getElem?_take_of_lt (by omega)] at hy
 exact hy
theorem b2Q{P Q:List Raw}{e x:Raw}{j:Nat}(hj:0<j)(hx:P[j-1]? =some x):((P.take j++e::(P.drop j++Q)).set j x).set (j-1) e=P.take (j-1)++e::(P.drop (j-1)++Q):=by
 have hlt:=(DK hx).1
 have e1:P.take j=P.take (j-1)++[x]:=by
  have:=Ey hx;rwa [show j-1+1=j by omega] at this
 have e2:P.drop (j-1)=x::P.drop j:=by
  have:=GX hx;rwa [show j-1+1=j by omega] at this
 rw[e2,e1]
 have h1:(P.take (j-1)).length=j-1:=by rw[List.length_take];omega
 rw[List.append_assoc,List.set_append_right _ _ (by omega),h1,List.set_append_right _ _ (by omega),h1]
 have:j-(j-1)=1:=by omega
 rw[this];simp
theorem b2R{lt:Raw→Raw→Bool}{l:List Raw}{i j:Int}{x y:Raw}(h:soJ lt l i j)(hj:j>0)(hx:(stJ lt l i j)[(j-1).toNat]? =some x)(hy:(stJ lt l i j)[j.toNat]? =some y):
 ((stJ lt l i j).set j.toNat x).set (j-1).toNat y=stJ lt l i (j-1):=by
 have h1:=WA h hy
 have h2:=WB h hj hx
 unfold stJ
 rw[h1]
 simp only
 have e:(j-1).toNat=j.toNat-1:=by omega
 rw[e] at h2 ⊢
 exact b2Q (by omega) h2
theorem b2S{lt:Raw→Raw→Bool}{l:List Raw}{i j:Int}{x y:Raw}(h:soJ lt l i j)(hj:j>0)(hx:(stJ lt l i j)[(j-1).toNat]? =some x)(hy:(stJ lt l i j)[j.toNat]? =some y)(hlt:lt y x=true):soJ lt l i (j-1):=by
 refine⟨by have:=h.1;omega,h.2.1,fun a e ha he=> ?_⟩
 rw[WA h hy] at he;rw[WB h hj hx] at ha
 cases he;cases ha;exact hlt
theorem a2N{ns:List Nd}{l:List Raw}{i j:Int}(h:soJ (ltR ns) l i j)(hd:¬j>0∨∃x y,(stJ (ltR ns) l i j)[(j-1).toNat]? =some x∧(stJ (ltR ns) l i j)[j.toNat]? =some y∧ltR ns y x=false):
 stJ (ltR ns) l i j=stI (ltR ns) l (i+1):=by
 obtain⟨q,e⟩:∃q,l[i.toNat]? =some q:=⟨l[i.toNat]'(by have:=h.2.1;omega),by simp⟩
 have hs:Hf (ltR ns) (Ca (ltR ns) (l.take i.toNat)):=a2E a2L b2L
 have hlen:(Ca (ltR ns) (l.take i.toNat)).length=i.toNat:=by rw[JJ,List.length_take];have:=h.2.1;omega
 have key:Cs (ltR ns) q (Ca (ltR ns) (l.take i.toNat))=(Ca (ltR ns) (l.take i.toNat)).take j.toNat++q::(Ca (ltR ns) (l.take i.toNat)).drop j.toNat:=by
  refine b2C a2L hs (by have:=h.1;omega) (fun x hx=>h.2.2 x _ hx e) ?_
  by_cases hj:j>0
  ·right
   rcases hd with hd|⟨x,y,hx,hy,hn⟩
   ·exact(hd hj).elim
   ·have h1:=WA h hy;have h2:=WB h hj hx
    rw[e] at h1;cases h1
    exact⟨x,by rw[show j.toNat-1=(j-1).toNat by omega];exact h2,hn⟩
  ·left;omega
 unfold stI stJ
 rw[e]
 simp only
 have:=h.2.1
 rw[Da (by omega),Ey e,b2B,key];simp
theorem b2T{lt:Raw→Raw→Bool}{l:List Raw}{i j:Int}(h:soJ lt l i j):soI l (i+1):=⟨by have:=h.2.1;omega,.inl (by have:=h.2.1;omega)⟩
theorem b2U{lt:Raw→Raw→Bool}{l:List Raw}{i:Int}(h:soI l i)(hl:¬i<l.length):stI lt l i=Ca lt l:=by
 rcases h.2 with h2|h2
 ·unfold stI
  rw[List.take_of_length_le (by omega),List.drop_eq_nil_of_le (by omega)];simp
 ·subst h2
  rw[←a2M]
  cases l with
  |nil=>rfl
  |cons a l=>
   cases l with
   |nil=>rfl
   |cons b l=>simp at hl;omega
theorem b2V{ns:List Nd}{l:List Raw}{i j:Int}{x y:Raw}(h:soJ (ltR ns) l i j)(hj:j>0)(hy:(stJ (ltR ns) l i j)[j.toNat]? =some y)(hx:(stJ (ltR ns) l i j)[(j-1).toNat]? =some x)(hc:Hg (Ce ns y.2) (Ce ns x.2)<0):soJ (ltR ns) l i (j-1):=
 b2S h hj hx hy (a2H.1 hc)
theorem b2W{ns:List Nd}{l:List Raw}{i j:Int}(h:soJ (ltR ns) l i j)(hd:¬j>0):stJ (ltR ns) l i j=stI (ltR ns) l (i+1):=a2N h (.inl hd)
theorem b2X{ns:List Nd}{l:List Raw}{i j:Int}{x y:Raw}(h:soJ (ltR ns) l i j)(hj:j>0)(hy:(stJ (ltR ns) l i j)[j.toNat]? =some y)(hx:(stJ (ltR ns) l i j)[(j-1).toNat]? =some x)(hc:¬Hg (Ce ns y.2) (Ce ns x.2)<0):stJ (ltR ns) l i j=stI (ltR ns) l (i+1):=by
 refine a2N h (.inr ⟨x,y,hx,hy,?_⟩)
 rw[a2H] at hc
 simpa [ltR] using hc
def clG(ns:List Nd):AV:= .clo (.func 70) [.pf [nds ns]]
def Sk(x:List Raw×List Nd)(i j:Int):LS:= {
 ι:=Unit,inv:=fun _=>True,
 regs:=fun _=>[(0,EC (stJ (ltR x.2) x.1 i (j-1))),(1,.int .i64 0),(2,.int .i64 x.1.length),(3,clG x.2),(8,.int .i64 i),(9,.int .i64 j)],als:=[],meas:=fun _=>0}
def Sl(x:List Raw×List Nd)(i:Int):LS:= {
 ι:=Int,inv:=soJ (ltR x.2) x.1 i,
 regs:=fun j=>[(0,EC (stJ (ltR x.2) x.1 i j)),(1,.int .i64 0),(2,.int .i64 x.1.length),(3,clG x.2),(8,.int .i64 i),(9,.int .i64 j)],als:=[],meas:=fun j=>j.toNat,sub:=fun j=>[(100006,Sk x i j)]}
def PK(x:List Raw×List Nd):LS:= {
 ι:=Int,inv:=soI x.1,
 regs:=fun i=>[(0,EC (stI (ltR x.2) x.1 i)),(1,.int .i64 0),(2,.int .i64 x.1.length),(3,clG x.2),(8,.int .i64 i)],als:=[],meas:=fun i=>x.1.length+1-i.toNat,sub:=fun i=>[(4,Sl x i)]}
def LV:Sig:= {X:=List Raw×List Nd,args:=fun x=>[EC x.1,.int .i64 0,.int .i64 x.1.length,clG x.2],pre:=fun x=>x.1.length≤12∧Gc x.2,Y:=Unit,post:=fun x y=>True,res:=fun x y=> .tup [],outs:=fun x y=>[EC (Ca (ltR x.2) x.1),.top,.top,.top],keep:=false,fixed:=[0]}
set_option maxHeartbeats 8000000 in
theorem b2Y:Aj G Tryz.prog 118 LV:=
 vcFun_okP [(70,0,Sj)] [] false (fun x=>[(1,PK x)]) Tryz.func118 rfl (by decide) ⟨b2K,trivial⟩ (fun(x:List Raw×List Nd)=>(∀(y:Unit),True→True∧(∀(x:Raw),True∧True∧True)∧True∧True∧True∧True)∧inR IntKind.i64 ((0:Int)+(1:Int))∧eA (PK x) [AV.sl true 0 2 Raw Dz x.1,.int .i64 (0:Int),.int .i64 (↑(List.length x.1):Int),AV.clo (.func 70) [AV.pf [nds x.2]],.int .i64 ((0:Int)+(1:Int))]∧∀(i:Int),soI x.1 i→Aa (decide (i<(↑(List.length x.1):Int))) (eA (Sl x i) [AV.sl true 0 2 Raw Dz (stI (ltR x.2) x.1 i),.int .i64 (0:Int),.int .i64 (↑(List.length x.1):Int),AV.clo (.func 70) [AV.pf [nds x.2]],.int .i64 i,.int .i64 i]∧∀(i_1:Int),soJ (ltR x.2) x.1 i i_1→true=true∧true=true∧Aa (decide (i_1>(0:Int))) (((0:Int)≤i_1∧i_1<(↑(List.length (stJ (ltR x.2) x.1 i i_1)):Int))∧Int.toNat i_1<List.length (stJ (ltR x.2) x.1 i i_1)∧∀(x_1:Raw),(stJ (ltR x.2) x.1 i i_1)[Int.toNat i_1]? =some x_1→inR IntKind.i64 (i_1-(1:Int))∧((0:Int)≤i_1-(1:Int)∧i_1-(1:Int)<(↑(List.length (stJ (ltR x.2) x.1 i i_1)):Int))∧Int.toNat (i_1-(1:Int))<List.length (stJ (ltR x.2) x.1 i i_1)∧∀(x_2:Raw),(stJ (ltR x.2) x.1 i i_1)[Int.toNat (i_1-(1:Int))]? =some x_2→∃(x_3:List Nd×Int×Int),Gc x_3.1∧x_1.2=x_3.2.1∧x_2.2=x_3.2.2∧AV.pf [nds x.2]=AV.pf [nds x_3.1]∧∃(y0:Unit),(∀(y:Unit),True→AV.int IntKind.i64 (Hg (Ce x_3.1 x_3.2.1) (Ce x_3.1 x_3.2.2))=AV.int IntKind.i64 (Hg (Ce x_3.1 x_3.2.1) (Ce x_3.1 x_3.2.2)))∧true=true∧Aa (decide (Hg (Ce x_3.1 x_3.2.1) (Ce x_3.1 x_3.2.2)<(0:Int))) (true=true∧(inR IntKind.i64 (i_1-(1:Int))∧inR IntKind.i64 (i_1-(1:Int))∧((0:Int)≤i_1-(1:Int)∧i_1-(1:Int)<(↑(List.length (stJ (ltR x.2) x.1 i i_1)):Int))∧((0:Int)≤i_1∧i_1<(↑(List.length (stJ (ltR x.2) x.1 i i_1)):Int))∧(Int.toNat (i_1-(1:Int))<List.length (stJ (ltR x.2) x.1 i i_1)∧∀(x_4:Raw),(stJ (ltR x.2) x.1 i i_1)[Int.toNat (i_1-(1:Int))]? =some x_4→Int.toNat i_1<List.length (stJ (ltR x.2) x.1 i i_1)∧∀(x_5:Raw),(stJ (ltR x.2) x.1 i i_1)[Int.toNat i_1]? =some x_5→((0:Int)≤i_1∧i_1<(↑(List.length (stJ (ltR x.2) x.1 i i_1)):Int))∧Int.toNat i_1<List.length (stJ (ltR x.2) x.1 i i_1)∧∀(x_6:Raw),(stJ (ltR x.2) x.1 i i_1)[Int.toNat i_1]? =some x_6→∃(x':Raw),((@List.nil AV)=[]∧(@List.nil AV)=[])∧x_4.1=x'.1∧x_4.2=x'.2∧((0:Int)≤i_1-(1:Int)∧i_1-(1:Int)<(↑(List.length (List.set (stJ (ltR x.2) x.1 i i_1) (Int.toNat i_1) x')):Int))∧Int.toNat (i_1-(1:Int))<List.length (List.set (stJ (ltR x.2) x.1 i i_1) (Int.toNat i_1) x')∧∀(x_7:Raw),(List.set (stJ (ltR x.2) x.1 i i_1) (Int.toNat i_1) x')[Int.toNat (i_1-(1:Int))]? =some x_7→∃(x'_1:Raw),((@List.nil AV)=[]∧(@List.nil AV)=[])∧x_5.1=x'_1.1∧x_5.2=x'_1.2∧true=true∧eA (Sk x i i_1) [AV.sl true 0 2 Raw Dz (List.set (List.set (stJ (ltR x.2) x.1 i i_1) (Int.toNat i_1) x') (Int.toNat (i_1-(1:Int))) x'_1),.int .i64 (0:Int),.int .i64 (↑(List.length x.1):Int),AV.clo (Fn.func (70:FuncId)) [AV.pf [nds x.2]],.int .i64 i,.int .i64 i_1])∧Int.toNat i_1<List.length (stJ (ltR x.2) x.1 i i_1)∧∀(x_4:Raw),(stJ (ltR x.2) x.1 i i_1)[Int.toNat i_1]? =some x_4→Int.toNat (i_1-(1:Int))<List.length (stJ (ltR x.2) x.1 i i_1)∧∀(x_5:Raw),(stJ (ltR x.2) x.1 i i_1)[Int.toNat (i_1-(1:Int))]? =some x_5→((0:Int)≤i_1∧i_1<(↑(List.length (stJ (ltR x.2) x.1 i i_1)):Int))∧Int.toNat i_1<List.length (stJ (ltR x.2) x.1 i i_1)∧∀(x_6:Raw),(stJ (ltR x.2) x.1 i i_1)[Int.toNat i_1]? =some x_6→∃(x':Raw),((@List.nil AV)=[]∧(@List.nil AV)=[])∧x_5.1=x'.1∧x_5.2=x'.2∧((0:Int)≤i_1-(1:Int)∧i_1-(1:Int)<(↑(List.length (List.set (stJ (ltR x.2) x.1 i i_1) (Int.toNat i_1) x')):Int))∧Int.toNat (i_1-(1:Int))<List.length (List.set (stJ (ltR x.2) x.1 i i_1) (Int.toNat i_1) x')∧∀(x_7:Raw),(List.set (stJ (ltR x.2) x.1 i i_1) (Int.toNat i_1) x')[Int.toNat (i_1-(1:Int))]? =some x_7→∃(x'_1:Raw),((@List.nil AV)=[]∧(@List.nil AV)=[])∧x_4.1=x'_1.1∧x_4.2=x'_1.2∧true=true∧eA (Sk x i i_1) [AV.sl true 0 2 Raw Dz (List.set (List.set (stJ (ltR x.2) x.1 i i_1) (Int.toNat i_1) x') (Int.toNat (i_1-(1:Int))) x'_1),.int .i64 (0:Int),.int .i64 (↑(List.length x.1):Int),AV.clo (Fn.func (70:FuncId)) [AV.pf [nds x.2]],.int .i64 i,.int .i64 i_1])∧∀(i_2:Unit),True→inR IntKind.i64 (i_1-(1:Int))∧eN (Sl x i) i_1 [AV.sl true 0 2 Raw Dz (stJ (ltR x.2) x.1 i (i_1-(1:Int))),.int .i64 (0:Int),.int .i64 (↑(List.length x.1):Int),AV.clo (.func 70) [AV.pf [nds x.2]],.int .i64 i,.int .i64 (i_1-(1:Int))]) (inR IntKind.i64 (i+(1:Int))∧eN (PK x) i [AV.sl true 0 2 Raw Dz (stJ (ltR x.2) x.1 i i_1),.int .i64 (0:Int),.int .i64 (↑(List.length x.1):Int),AV.clo (.func 70) [AV.pf [nds x.2]],.int .i64 (i+(1:Int))])) (inR IntKind.i64 (i+(1:Int))∧eN (PK x) i [AV.sl true 0 2 Raw Dz (stJ (ltR x.2) x.1 i i_1),.int .i64 (0:Int),.int .i64 (↑(List.length x.1):Int),AV.clo (.func 70) [AV.pf [nds x.2]],.int .i64 (i+(1:Int))])) (rA LV x [.tup [],AV.sl true 0 2 Raw Dz (stI (ltR x.2) x.1 i),.top,.top,.top])) (fun x=>by kernel_rfl) fun(x:List Raw×List Nd) (hx:x.1.length≤12∧Gc x.2)=>(by
 dsimp only[clG,eA,eN,Sk,PK,Sl,Bu,nds,rA,EC,LV,Au,Az,Br]
 obtain⟨h1,h2⟩:=hx
 (repeat' first|(with_reducible first|rfl|exact True.intro|apply AK|apply And.intro|((first|apply AA|apply AI|apply AB|apply AJ)<;>intro _))|(apply Ax<;>intro _)|apply AH|refine Ae () ?_ ?_|((first|apply AO|apply AN|apply AM|apply AL|apply AG|apply AF|apply AE|apply AD|apply AC)<;>try dsimp only)|apply Ae|(refine Prod.forall.2 ?_;intro _;try dsimp only)|(intro _;try dsimp only))
 all_goals first
  |rfl
  |exact h2
  |exact a2M
  |exact b2O ‹_› ‹_›
  |exact b2P ‹_› ‹_›
  |exact b2T ‹_›
  |exact b2U ‹_› ‹_›
  |exact b2W ‹_› ‹_›
  |exact b2X ‹_› ‹_› ‹_› ‹_› ‹_›
  |exact b2R ‹_› ‹_› ‹_› ‹_›
  |exact b2V ‹_› ‹_› ‹_› ‹_› ‹_›
  |exact⟨by omega,by omega⟩
  |(have hJ:=(show soJ _ _ _ _ by assumption);have hl:=b2N hJ;have:=hJ.1;have:=hJ.2.1;(try rw[List.length_set]);(try simp only[AQ]);omega)
  |(have hI:=(show soI _ _ by assumption);have:=hI.1;have:=hI.2;(try rw[b2M]);(try simp only[AQ]);omega)
  |((try simp only[AQ]);omega)
  |skip)
def NK:Sig:= {X:=List Raw×List Nd,args:=fun x=>[EC x.1,.int .i64 x.1.length,clG x.2],pre:=fun x=>x.1.length≤12∧Gc x.2,Y:=Unit,post:=fun x y=>True,res:=fun x y=> .tup [],outs:=fun x y=>[EC (Ca (ltR x.2) x.1),.top,.top],keep:=false,fixed:=[0]}
def Sm(x:List Raw×List Nd):LS:= {ι:=Unit,inv:=fun _=>True,regs:=fun _=>[(0,EC x.1),(1,.int .i64 x.1.length),(2,clG x.2),(6,.int .i64 20),(7,.int .i64 0),(8,.int .i64 20)],als:=[],meas:=fun _=>0}
def WC(x:List Raw×List Nd):LS:= {ι:=Unit,inv:=fun _=>True,regs:=fun _=>[(0,EC (Ca (ltR x.2) x.1)),(1,.int .i64 x.1.length),(2,clG x.2),(6,.int .i64 20)],als:=[],meas:=fun _=>0}
theorem b2Z:Aj G Tryz.prog 95 NK:=
 vcFun_okP [(118,70+1,LV)] [] false (fun x=>[(2,Sm x),(7,WC x)]) Tryz.func95 rfl (by decide) ⟨b2Y,trivial⟩ (fun(x:List Raw×List Nd)=>(∀(y:Unit),True→True∧(∀(x:Raw),True∧True∧True)∧True∧True∧True)∧eA (Sm x) [AV.sl true 0 2 Raw Dz x.1,.int .i64 (↑(List.length x.1):Int),AV.clo (.func 70) [AV.pf [nds x.2]],.int .i64 (20:Int),.int .i64 (0:Int),.int .i64 (20:Int)]∧∀(i:Unit),True→Aa (decide ((20:Int)≤(↑(List.length x.1):Int))) (cA LV [AV.sl true 0 2 Raw Dz x.1,.int .i64 (0:Int),.int .i64 (20:Int),AV.clo (.func 70) [AV.pf [nds x.2]]] fun x_1 y=>inR IntKind.i64 ((20:Int)+(20:Int))∧eN (Sm x) i [AV.sl true 0 2 Raw Dz (Ca (ltR x_1.2) x_1.1),.int .i64 (↑(List.length x.1):Int),AV.clo (.func 70) [AV.pf [nds x.2]],.int .i64 (20:Int),.int .i64 (20:Int),.int .i64 ((20:Int)+(20:Int))]) (cA LV [AV.sl true 0 2 Raw Dz x.1,.int .i64 (0:Int),.int .i64 (↑(List.length x.1):Int),AV.clo (.func 70) [AV.pf [nds x.2]]] fun x_1 y=>eA (WC x) [AV.sl true 0 2 Raw Dz (Ca (ltR x_1.2) x_1.1),.int .i64 (↑(List.length x.1):Int),AV.clo (.func 70) [AV.pf [nds x.2]],.int .i64 (20:Int)]∧∀(i:Unit),True→Aa (decide ((20:Int)<(↑(List.length x.1):Int))) (inR IntKind.i64 ((2:Int)*(20:Int))∧False) (rA NK x [.tup [],AV.sl true 0 2 Raw Dz (Ca (ltR x.2) x.1),.top,.top]))) (fun x=>by kernel_rfl) fun(x:List Raw×List Nd) (hx:x.1.length≤12∧Gc x.2)=>(by
 dsimp only[cA,clG,eA,eN,WC,Sm,Bu,nds,rA,EC,LV,NK,Au,Az,mvL,lnL,mvE,lnE,Br]
 obtain⟨h1,h2⟩:=hx
 (repeat' first|(with_reducible first|rfl|exact True.intro|apply AK|apply And.intro|((first|apply AA|apply AI|apply AB|apply AJ)<;>intro _))|(apply Ax<;>intro _)|apply AH|refine Ae () ?_ ?_|((first|apply AO|apply AN|apply AM|apply AL|apply AG|apply AF|apply AE|apply AD|apply AC)<;>try dsimp only)|apply Ae|(refine Prod.forall.2 ?_;intro _;try dsimp only)|(intro _;try dsimp only))
 all_goals first
  |rfl
  |exact h2
  |omega
  |(exfalso;omega)
  |skip)
def NL:Sig:= {X:=List Raw×List Nd,args:=fun x=>[EC x.1,clG x.2],pre:=fun x=>x.1.length≤12∧Gc x.2,Y:=Unit,post:=fun x y=>True,res:=fun x y=> .tup [],outs:=fun x y=>[EC (Ca (ltR x.2) x.1),.top],keep:=false,fixed:=[0]}
theorem a2O:Aj G Tryz.prog 69 NL:=
 vcFun_okP [(95,70+1,NK)] [] false (fun x=>[]) Tryz.func69 rfl (by decide) ⟨b2Z,trivial⟩ (fun(x:List Raw×List Nd)=>(∀(y:Unit),True→True∧(∀(x:Raw),True∧True∧True)∧True∧True)∧cA NK [AV.sl true 0 2 Raw Dz x.1,.int .i64 (↑(List.length x.1):Int),AV.clo (.func 70) [AV.pf [nds x.2]]] fun x_1 y=>rA NL x [.tup [],AV.sl true 0 2 Raw Dz (Ca (ltR x_1.2) x_1.1),.top]) (fun x=>by kernel_rfl) fun(x:List Raw×List Nd) (hx:x.1.length≤12∧Gc x.2)=>(by
 dsimp only[cA,clG,Bu,nds,rA,EC,NL,NK,Au,Az,mvL,lnL,mvE,lnE]
 obtain⟨h1,h2⟩:=hx
 (repeat' first|(with_reducible first|rfl|exact True.intro|apply AK|apply And.intro|((first|apply AA|apply AI|apply AB|apply AJ)<;>intro _))|(apply Ax<;>intro _)|apply AH|refine Ae () ?_ ?_|((first|apply AO|apply AN|apply AM|apply AL|apply AG|apply AF|apply AE|apply AD|apply AC)<;>try dsimp only)|apply Ae|(refine Prod.forall.2 ?_;intro _;try dsimp only)|(intro _;try dsimp only))
 all_goals first
  |rfl
  |exact h1
  |exact h2
  |skip)
def PM:Sig:= {X:=List Gr×List Nd,args:=fun x=>[GA x.1,clG x.2],pre:=fun x=>x.1.length≤12∧Gc x.2,Y:=Unit,post:=fun x y=>True,res:=fun x y=> .tup [],outs:=fun x y=>[GA (Ca (ltG x.2) x.1),.top],keep:=false,fixed:=[0]}
theorem b3a:Aj G Go.Proofs.Tryz.prog 69 PM:=by
 refine⟨⟨a2O (G:=G) |>.1.1,fun x y _ _=> ?_⟩,?_⟩
 ·show GV _
  simp only[PM,GA,GV,Jz,grA]
  exact⟨trivial,⟨fun g=>⟨fun x=>⟨trivial,trivial⟩,trivial,trivial⟩,trivial,trivial⟩⟩
 ·rintro⟨l,ns⟩ ⟨h1,h2⟩ Z w vals A hG hargs hA hcp
  simp only[PM] at hargs
  simp only[AS] at hargs
  obtain⟨v,cs,A1,A2,rfl,hj,hv,v2,cs2,A3,A4,rfl,hj2,hcl,rfl,hA4⟩:=hargs
  obtain⟨zs,hzs,hmem,B1,B2,hjB,hraw,hnest⟩:=b2I hv
  have hA1A:∀b,A1 b→A b:=fun b hb=>(hj.1 b).2 (.inl hb)
  have hA2A:∀b,A2 b→A b:=fun b hb=>(hj.1 b).2 (.inr hb)
  have hB1A:∀b,B1 b→A b:=fun b hb=>hA1A b ((hjB.1 b).2 (.inl hb))
  have hB2A:∀b,B2 b→A b:=fun b hb=>hA1A b ((hjB.1 b).2 (.inr hb))
  have hd12:∀b,B1 b→¬A2 b:=fun b hb h=>hj.2 b ((hjB.1 b).2 (.inl hb)) h
  have hd22:∀b,B2 b→¬A2 b:=fun b hb h=>hj.2 b ((hjB.1 b).2 (.inr hb)) h
  have hargs2:AS Z w ((NL).args (zs.map (·.1),ns)) [v,v2] (fun b=>B1 b∨A2 b):=by
   simp only[NL,AS]
   exact⟨v,[v2],B1,A2,rfl,⟨fun _=>Iff.rfl,fun b x y=>hd12 b x y⟩,hraw,v2,[],A3,A4,rfl,hj2,hcl,rfl,hA4⟩
  have hlen:(zs.map (·.1)).length≤12:=by
   have h1:l.length≤12:=h1
   have:=congrArg List.length hzs;simp only[List.length_map] at this ⊢;omega
  refine((a2O (G:=G)).2 (zs.map (·.1),ns) ⟨hlen,h2⟩ Z w [v,v2] _ hG hargs2 (fun b hb=>hA b (hb.elim (hB1A b) (hA2A b))) trivial).mono ?_
  rintro e w' ⟨y,v',Z',A',hpost,rfl,hres,haft⟩
  simp only[NL] at hres
  simp only[AS] at hres
  obtain⟨r0,us,C1,C2,e1,hk,hr,v3,us2,D1,D2,e2,hk2,hr2,v4,us3,D3,D4,e3,hk3,hr3,e4,hD4⟩:=hres
  simp only[List.cons.injEq] at e1
  obtain⟨rfl,rfl⟩:=e1
  simp only[List.cons.injEq] at e2
  obtain⟨rfl,rfl⟩:=e2
  simp only[List.cons.injEq] at e3
  obtain⟨rfl,rfl⟩:=e3
  let lt2:Raw×Gr→Raw×Gr→Bool:=fun a b=>ltR ns a.1 b.1
  have hm1:(Ca lt2 zs).map (·.1)=Ca (ltR ns) (zs.map (·.1)):=b2D (lt:=lt2) (f:=fun p:Raw×Gr=>p.1) (lt':=ltR ns) (fun a b=>rfl)
  have hm2:(Ca lt2 zs).map (·.2)=Ca (ltG ns) l:=by
   rw[←hzs]
   have hp:∀(l1 l2:List (Raw×Gr)),(∀p∈l1,p.1.2=p.2.member)→(∀p∈l2,p.1.2=p.2.member)→(l1.foldl (fun out e=>Cs lt2 e out) l2).map (·.2)=(l1.map (·.2)).foldl (fun out e=>Cs (ltG ns) e out) (l2.map (·.2)):=by
    have hins:∀(e:Raw×Gr) (l:List (Raw×Gr)),e.1.2=e.2.member→(∀p∈l,p.1.2=p.2.member)→(Cs lt2 e l).map (·.2)=Cs (ltG ns) e.2 (l.map (·.2))∧∀p∈Cs lt2 e l,p.1.2=p.2.member:=by
     intro e l he
     induction l with
     |nil=>intro _;exact⟨rfl,fun p hp=>by simp [Cs] at hp;subst hp;exact he⟩
     |cons q l ih=>
      intro hl
      have hq:=hl q (by simp)
      have ih:=ih fun p hp=>hl p (by simp [hp])
      have hlt:lt2 e q=ltG ns e.2 q.2:=by simp only[lt2,ltR,ltG,he,hq]
      simp only[Cs,List.map_cons,←hlt]
      split
      ·refine⟨rfl,fun p hp=> ?_⟩
       rcases List.mem_cons.1 hp with h|h
       ·subst h;exact he
       ·exact hl p h
      ·refine⟨by rw[List.map_cons,ih.1],fun p hp=> ?_⟩
       rcases List.mem_cons.1 hp with h|h
       ·subst h;exact hq
       ·exact ih.2 p h
    intro l1
    induction l1 with
    |nil=>intro l2 _ _;rfl
    |cons e l1 ih=>
     intro l2 h1 h2
     have hh:=hins e l2 (h1 e (by simp)) h2
     simp only[List.foldl_cons,List.map_cons]
     rw[ih _ (fun p hp=>h1 p (by simp [hp])) hh.2,hh.1]
   exact hp zs [] hmem (fun _ h=>by cases h)
  have hmem':∀p∈Ca lt2 zs,p.1.2=p.2.member:=fun p hp=>hmem p ((LT (lt:=lt2) (l:=zs)).mem_iff.1 hp)
  have hnest':Je Z' w' (Ca lt2 zs) B2:=by
   refine a2I (Z:=Z) (w:=w) (fun b hz hb=> ?_) (fun b hb=> ?_) (b2H LT.symm hnest)
   ·have hn:¬(B1 b∨A2 b):=fun h=>hz (hA b (h.elim (hB1A b) (hA2A b))).1
    obtain⟨g1,g2⟩:=haft.old b hb hn
    exact⟨fun x=>hz (g2.1 x),g1⟩
   ·have hn:¬(B1 b∨A2 b):=fun h=>h.elim (fun h=>hjB.2 b h hb) (hd22 b hb)
    exact(haft.old b (hA b (hB2A b hb)).2 hn).1
  rw[←hm1] at hr2
  have hD1:∀b,D1 b→¬B2 b:=by
   intro b hb hb2
   obtain⟨_,_,g3⟩:=haft.own b ((hk.1 b).2 (.inr ((hk2.1 b).2 (.inl hb))))
   have:=g3 (hA b (hB2A b hb2)).2
   exact this.elim (fun h=>hjB.2 b h hb2) (hd22 b hb2)
  have hfin:=b2J (S:=fun b=>D1 b∨B2 b) hr2 hnest' hmem' ⟨fun _=>Iff.rfl,fun b x y=>hD1 b x y⟩
  rw[hm2] at hfin
  have hC1:emp C1:=by
   simp only[Ai,AS] at hr
   obtain⟨cs,_,_,h⟩:=hr;exact h
  have hD3:emp D3:=by simpa only[Ai] using hr3
  refine⟨(),v',Z',fun b=>D1 b∨B2 b,trivial,rfl,?_,⟨haft.os,haft.tape,haft.output,haft.size,fun b hb hn=>haft.old b hb (fun h=>hn (h.elim (hB1A b) (hA2A b))),fun b hb=> ?_⟩⟩
  ·simp only[PM,AS]
   refine⟨v',_,fun _=>False,_,rfl,BK _,?_,v,_,_,fun _=>False,rfl,GR _,hfin,v2,[],_,_,rfl,BK _,?_,rfl,AP⟩
   ·rw[Et hC1] at hr;exact hr
   ·simp only[Ai];exact AP
  ·rcases hb with hb|hb
   ·obtain⟨g1,g2,g3⟩:=haft.own b ((hk.1 b).2 (.inr ((hk2.1 b).2 (.inl hb))))
    exact⟨g1,g2,fun h=>(g3 h).elim (hB1A b) (hA2A b)⟩
   ·have hn:¬(B1 b∨A2 b):=fun h=>h.elim (fun h=>hjB.2 b h hb) (hd22 b hb)
    have hh:=hA b (hB2A b hb)
    exact⟨(haft.old b hh.2 hn).2.2 hh.1,Nat.lt_of_lt_of_le hh.2 haft.size,fun _=>hB2A b hb⟩
def BZ(ns:List Nd):List Gr:=Ca (ltG ns) (CF ns)
def NM:Sig:= {X:=List Nd,args:=fun x=>[nds x],pre:=fun x=>(BM x∧x.length≤2^30)∧Gc x,Y:=Unit,post:=fun x y=>True,res:=fun x y=>GA (BZ x),outs:=fun x y=>[.top],keep:=false}
theorem b3b:Aj G Tryz.prog 39 NM:=
 vcFun_okP [(15,0,HQ),(69,70+1,PM)] [] false (fun x=>[]) Tryz.func39 rfl (by decide) ⟨a2A,b3a,trivial⟩ (fun(x:List Nd)=>(∀(y:Unit),True→(∀(x:Gr),(∀(x:Int),True∧True)∧True∧True)∧True∧True)∧cA HQ [nds x] fun x_1 y=>∃(x_2:List Gr×List Nd),(List.length x_2.1≤(12:Nat)∧Gc x_2.2)∧AV.sl true 0 2 Gr (grA true) (CF x_1)=AV.sl true 0 2 Gr (grA true) x_2.1∧AV.pf [AV.sl false 0 4 Nd (fun(x:Nd)=>fzL._f [.int .i64 x.kind,.str x.text,Af x.kids,.bool x.blank] ⟨AV.rec (fun(k:IntKind) (n:Int)=>⟨fz._f (AV.int k n) PUnit.unit,PUnit.unit⟩) (fun(b:Bool)=>⟨fz._f (.bool b) PUnit.unit,PUnit.unit⟩) (fun(l:List UInt8)=>⟨fz._f (.str l) PUnit.unit,PUnit.unit⟩) (fun(v:Value)=>⟨fz._f (.val v) PUnit.unit,PUnit.unit⟩) ⟨fz._f AV.any PUnit.unit,PUnit.unit⟩ ⟨fz._f .top PUnit.unit,PUnit.unit⟩ ⟨fz._f .nil PUnit.unit,PUnit.unit⟩ (fun(id:Nat)=>⟨fz._f (AV.hole id) PUnit.unit,PUnit.unit⟩) (fun(id:Nat)=>⟨fz._f (AV.al id) PUnit.unit,PUnit.unit⟩) (fun(id k sz off:Nat)=>⟨fz._f (AV.po id k sz off) PUnit.unit,PUnit.unit⟩) (fun(fs:List AV) (fs_ih:List AV×' AV.below_1 fs)=>⟨fz._f (.agg fs) fs_ih,fs_ih⟩) (fun(vs:List AV) (vs_ih:List AV×' AV.below_1 vs)=>⟨fz._f (.tup vs) vs_ih,vs_ih⟩) (fun(id:Nat) (c:List AV) (c_ih:List AV×' AV.below_1 c)=>⟨fz._f (.box id c) c_ih,c_ih⟩) (fun(x:Value) (c:List AV) (c_ih:List AV×' AV.below_1 c)=>⟨fz._f (AV.bv x c) c_ih,c_ih⟩) (fun(x:Value)=>⟨fz._f (AV.hv x) PUnit.unit,PUnit.unit⟩) (fun(c:List AV) (c_ih:List AV×' AV.below_1 c)=>⟨fz._f (AV.pf c) c_ih,c_ih⟩) (fun(fn:Fn) (caps:List AV) (caps_ih:List AV×' AV.below_1 caps)=>⟨fz._f (AV.clo fn caps) caps_ih,caps_ih⟩) (fun(own:Bool) (id sz:Nat) (α:Type) (f:α→List AV) (xs:List α) (f_ih:(a:α)→List AV×' AV.below_1 (f a))=>⟨fz._f (AV.sl own id sz α f xs) f_ih,f_ih⟩) ⟨fzL._f [] PUnit.unit,PUnit.unit⟩ (fun(head:AV) (tail:List AV) (head_ih:AV×' AV.below head) (tail_ih:List AV×' AV.below_1 tail)=>⟨fzL._f (head::tail) ⟨head_ih,tail_ih⟩,head_ih,tail_ih⟩) (.int .i64 x.kind),AV.rec_1 (fun(k:IntKind) (n:Int)=>⟨fz._f (AV.int k n) PUnit.unit,PUnit.unit⟩) (fun(b:Bool)=>⟨fz._f (.bool b) PUnit.unit,PUnit.unit⟩) (fun(l:List UInt8)=>⟨fz._f (.str l) PUnit.unit,PUnit.unit⟩) (fun(v:Value)=>⟨fz._f (.val v) PUnit.unit,PUnit.unit⟩) ⟨fz._f AV.any PUnit.unit,PUnit.unit⟩ ⟨fz._f .top PUnit.unit,PUnit.unit⟩ ⟨fz._f .nil PUnit.unit,PUnit.unit⟩ (fun(id:Nat)=>⟨fz._f (AV.hole id) PUnit.unit,PUnit.unit⟩) (fun(id:Nat)=>⟨fz._f (AV.al id) PUnit.unit,PUnit.unit⟩) (fun(id k sz off:Nat)=>⟨fz._f (AV.po id k sz off) PUnit.unit,PUnit.unit⟩) (fun(fs:List AV) (fs_ih:List AV×' AV.below_1 fs)=>⟨fz._f (.agg fs) fs_ih,fs_ih⟩) (fun(vs:List AV) (vs_ih:List AV×' AV.below_1 vs)=>⟨fz._f (.tup vs) vs_ih,vs_ih⟩) (fun(id:Nat) (c:List AV) (c_ih:List AV×' AV.below_1 c)=>⟨fz._f (.box id c) c_ih,c_ih⟩) (fun(x:Value) (c:List AV) (c_ih:List AV×' AV.below_1 c)=>⟨fz._f (AV.bv x c) c_ih,c_ih⟩) (fun(x:Value)=>⟨fz._f (AV.hv x) PUnit.unit,PUnit.unit⟩) (fun(c:List AV) (c_ih:List AV×' AV.below_1 c)=>⟨fz._f (AV.pf c) c_ih,c_ih⟩) (fun(fn:Fn) (caps:List AV) (caps_ih:List AV×' AV.below_1 caps)=>⟨fz._f (AV.clo fn caps) caps_ih,caps_ih⟩) (fun(own:Bool) (id sz:Nat) (α:Type) (f:α→List AV) (xs:List α) (f_ih:(a:α)→List AV×' AV.below_1 (f a))=>⟨fz._f (AV.sl own id sz α f xs) f_ih,f_ih⟩) ⟨fzL._f [] PUnit.unit,PUnit.unit⟩ (fun(head:AV) (tail:List AV) (head_ih:AV×' AV.below head) (tail_ih:List AV×' AV.below_1 tail)=>⟨fzL._f (head::tail) ⟨head_ih,tail_ih⟩,head_ih,tail_ih⟩) [.str x.text,Af x.kids,.bool x.blank]⟩) x]=AV.pf [nds x_2.2]∧∀(y:Unit),True→rA NM x [AV.sl true 0 2 Gr (grA true) (Ca (ltG x_2.2) x_2.1),.top]) (fun x=>by kernel_rfl) fun(x:List Nd) (hx:(BM x∧x.length≤2^30)∧Gc x)=>(by
 dsimp only[cA,Af,Bu,nds,GA,rA,HQ,NM,Au,Az,mvL,lnL,mvE,lnE]
 obtain⟨⟨h1,h2⟩,h3⟩:=hx
 (repeat' first|(with_reducible first|rfl|exact True.intro|apply AK|apply And.intro|((first|apply AA|apply AI|apply AB|apply AJ)<;>intro _))|(apply Ax<;>intro _)|apply AH|refine Ae () ?_ ?_|((first|apply AO|apply AN|apply AM|apply AL|apply AG|apply AF|apply AE|apply AD|apply AC)<;>try dsimp only)|apply Ae|(refine Prod.forall.2 ?_;intro _;try dsimp only)|(intro _;try dsimp only))
 all_goals first
  |rfl
  |exact h1
  |exact h2
  |exact h3
  |exact a2z.1
  |skip)
theorem b3c{ns:List Nd}:mkB (BZ ns)∧b2E (BZ ns):=by
 have h:= @a2z ns
 have h2:∀g∈BZ ns,g.notes.length≤12:=fun g hg=>h.2 g ((LT (lt:=ltG ns) (l:=CF ns)).mem_iff.1 hg)
 have h3:(BZ ns).length≤12:=by rw[BZ,JJ];exact h.1
 exact⟨⟨h3,h2⟩,by omega,fun g hg=>by have:=h2 g hg;omega⟩
end Go.My
end
section
namespace Go.My
open Go.Eng
def Df(ns:List Nd)(k:Int):List Int:=(ndAt ns k).kids
def vis(ns:List Nd):Nat→Int→List Int
 |0,_=>[]
 |n+1,k=>k::(Df ns k).flatMap (vis ns n)
def WL(ns:List Nd):Nat→List Int→List Int
 |0,_=>[]
 |n+1,l=>l++WL ns n (l.flatMap (Df ns))
theorem a2P{ns:List Nd}:∀ {n:Nat} {l:List Int},(l.flatMap (vis ns n)).length=(WL ns n l).length
 |0,l=>by
  have:l.flatMap (vis ns 0)=[]:=by simp [vis]
  rw[this];rfl
 |n+1,l=>by
  rw[WL,List.length_append,←a2P (l:=l.flatMap (Df ns)),List.flatMap_assoc]
  have:∀l:List Int,(l.flatMap (vis ns (n+1))).length=l.length+(l.flatMap fun x=>(Df ns x).flatMap (vis ns n)).length:=by
   intro l
   induction l with
   |nil=>rfl
   |cons k l ih=>
    rw[List.flatMap_cons,List.flatMap_cons,List.length_append,List.length_append,ih,vis,List.length_cons,List.length_cons];omega
  rw[this]
theorem a2Q{ns:List Nd}:∀ {n:Nat} {l:List Int},WL ns n (l.flatMap (Df ns))=(WL ns n l).flatMap (Df ns)
 |0,l=>rfl
 |n+1,l=>by rw[WL,WL,List.flatMap_append,a2Q (l:=l.flatMap (Df ns))]
theorem b3d{ns:List Nd}{n:Nat}{l:List Int}:WL ns (n+1) l=l++(WL ns n l).flatMap (Df ns):=by rw[WL,a2Q]
theorem Sn(f:Int→Nat):∀(n:Nat) (V:List Int),V.Nodup→(∀p∈V,0≤p∧p<n)→(V.map f).sum≤((List.range n).map fun i:Nat=>f i).sum
 |0,V,_,h=>by
  have:V=[]:=by
   cases V with
   |nil=>rfl
   |cons p V=>have:=h p (by simp);omega
  subst this;simp
 |n+1,V,hn,h=>by
  rw[List.range_succ,List.map_append,List.sum_append]
  by_cases hm:(n:Int)∈V
  ·have hp:=List.perm_cons_erase hm
   have e:(V.map f).sum=f n+((V.erase n).map f).sum:=by
    have:=(hp.map f).sum_nat
    rw[this];simp
   have h2:=Sn f n (V.erase n) (hn.erase _) (fun p hp=>by
    have h3:=(List.Nodup.mem_erase_iff hn).1 hp
    have:=h p h3.2
    have h4:=h3.1
    omega)
   rw[e];simp;omega
  ·have h2:=Sn f n V hn (fun p hp=>by
    have:=h p hp
    have:p≠n:=fun e=>hm (e▸hp)
    omega)
   simp;omega
theorem b3e{V:List Int}{n:Nat}(hn:V.Nodup)(h:∀p∈V,0≤p∧p<n):V.length≤n:=by
 have:=Sn (fun _=>1) n V hn h
 have e1:∀l:List Int,(l.map fun _=>1).sum=l.length:=by
  intro l;induction l with
  |nil=>rfl
  |cons a l ih=>simp only[List.map_cons,List.sum_cons,ih,List.length_cons];omega
 have e2:∀l:List Nat,(l.map fun _=>1).sum=l.length:=by
  intro l;induction l with
  |nil=>rfl
  |cons a l ih=>simp only[List.map_cons,List.sum_cons,ih,List.length_cons];omega
 rw[e1,e2,List.length_range] at this;exact this
theorem b3f{ns:List Nd}:ns=(List.range ns.length).map fun i:Nat=>ndAt ns i:=by
 apply List.ext_getElem?
 intro i
 by_cases h:i<ns.length
 ·have:ns[i]? =some ns[i]:=by simp
  rw[List.getElem?_map,List.getElem?_range h,this]
  simp only[Option.map_some]
  congr 1
  exact(Bn (c:=(i:Int)) (by simp)).symm
 ·rw[List.getElem?_eq_none (by omega),List.getElem?_eq_none (by simp;omega)]
theorem b3g{ns:List Nd}{j:Int}:(BU ns).count j=((List.range ns.length).map fun i:Nat=>(Df ns i).count j).sum:=by
 have h:BU ns=((List.range ns.length).map fun i:Nat=>ndAt ns i).flatMap (·.kids):=by rw[←b3f];rfl
 rw[h,List.count_flatMap,List.map_map];rfl
theorem a2R:∀ {l:List Nat},(∀m∈l,m=0)→l.sum=0
 |[],_=>rfl
 |m::l,h=>by rw[List.sum_cons,h m (by simp),a2R fun n hn=>h n (by simp [hn])]
def a2S(ns:List Nd):Prop:=(∀i:Nat,i<ns.length→BH ns i=true)∧∀i:Nat,i<ns.length-1→(BU ns).count (i:Int)=1
theorem WD{ns:List Nd}(h:a2S ns)(h0:1≤ns.length):∀n:Nat,(WL ns n [(ns.length:Int)-1]).Nodup∧∀p∈WL ns n [(ns.length:Int)-1],0≤p∧p<ns.length
 |0=>⟨List.nodup_nil,fun p hp=>by cases hp⟩
 |n+1=>by
  obtain⟨ih1,ih2⟩:=WD h h0 n
  rw[b3d]
  have hk:∀p∈WL ns n [(ns.length:Int)-1],∀c∈Df ns p,0≤c∧c<p:=by
   intro p hp c hc
   have h2:=ih2 p hp
   have h3:=h.1 p.toNat (by omega)
   have e:((p.toNat:Nat):Int)=p:=by omega
   rw[e] at h3
   exact(DM h3).2.2.2.1 c hc
  refine⟨?_,?_⟩
  ·rw[List.nodup_iff_count]
   intro j
   rw[List.count_append,List.count_flatMap]
   by_cases hj:j=(ns.length:Int)-1
   ·subst hj
    have:((WL ns n [(ns.length:Int)-1]).map (List.count ((ns.length:Int)-1)∘Df ns)).sum=0:=by
     refine a2R fun m hm=> ?_
     obtain⟨p,hp,rfl⟩:=List.mem_map.1 hm
     simp only[Function.comp]
     rw[List.count_eq_zero]
     intro hc
     have:=hk p hp _ hc
     have:=ih2 p hp
     omega
    rw[this];simp
   ·have h1:List.count j [(ns.length:Int)-1]=0:=by
     rw[List.count_eq_zero];simpa using hj
    have h2:=Sn (fun p=>(Df ns p).count j) ns.length _ ih1 ih2
    rw[←b3g] at h2
    have h3:(BU ns).count j≤1:=by
     by_cases hr:0≤j∧j<ns.length
     ·have:=h.2 j.toNat (by omega)
      rw[show((j.toNat:Nat):Int)=j by omega] at this;omega
     ·have:(BU ns).count j=0:=by
       rw[List.count_eq_zero]
       intro hm
       obtain⟨y,hy,hc⟩:=List.mem_flatMap.1 hm
       obtain⟨i,hi⟩:=List.mem_iff_getElem?.1 hy
       have hlt:=(DK hi).1
       have:=(DM (h.1 i hlt)).2.2.2.1 j
       rw[Bn (c:=(i:Int)) (by simpa using hi)] at this
       have:=this hc
       omega
      omega
    rw[h1]
    have e:(List.count j∘Df ns)=fun p=>(Df ns p).count j:=rfl
    rw[e];omega
  ·intro p hp
   rcases List.mem_append.1 hp with hp|hp
   ·simp at hp;omega
   ·obtain⟨q,hq,hc⟩:=List.mem_flatMap.1 hp
    have:=hk q hq p hc
    have:=ih2 q hq
    omega
theorem ER{ns:List Nd}(h:Bf ns=true):a2S ns∧1≤ns.length∧ns.length≤300∧De ns ((ns.length:Int)-1):=by
 simp only[Bf,Bool.and_eq_true,decide_eq_true_eq,Bool.not_eq_true',decide_eq_false_iff_not,List.all_eq_true,List.mem_range] at h
 have hu:=a2s h.2.2.1
 refine⟨⟨fun i hi=>hu.2 i (by omega),fun i hi=> ?_⟩,h.1.1,h.1.2,hu⟩
 exact h.2.2.2 i hi
theorem a2T{ns:List Nd}{n:Nat}(h:Bf ns=true):(vis ns n ((ns.length:Int)-1)).length≤300:=by
 obtain⟨h1,h2,h3,_⟩:=ER h
 have e:= @a2P ns n [(ns.length:Int)-1]
 simp only[List.flatMap_cons,List.flatMap_nil,List.append_nil] at e
 rw[e]
 have:=WD h1 h2 n
 have:=b3e this.1 this.2
 omega
def DU(ns:List Nd)(n:Nat)(l:List Int):Nat:=(l.flatMap (vis ns n)).length
theorem LW{ns:List Nd}{n:Nat}{k:Int}:(vis ns (n+1) k).length=1+DU ns n (Df ns k):=by rw[vis,List.length_cons,DU];omega
theorem NN{ns:List Nd}{n:Nat}{c:Int}{l:List Int}:DU ns n (c::l)=(vis ns n c).length+DU ns n l:=by simp [DU]
structure Rw where
 stop:Int→Option Nd
 tgt:Int→Int→Int→Int
 par:Int→Int→Int→Bool
def b3h(o:List Nd):Nd:=⟨11,[],[(o.length:Int)-1],false⟩
def FH(R:Rw)(f:Int→List Nd→List Nd)(k i c:Int)(out:List Nd):List Nd:=
 if R.par k i c then f (R.tgt k i c) out++[b3h (f (R.tgt k i c) out)] else f (R.tgt k i c) out
def ET(R:Rw)(f:Int→List Nd→List Nd)(k:Int):List Int→Int→List Nd→List Int→List Nd×List Int
 |[],_,out,ks=>(out,ks)
 |c::l,i,out,ks=>ET R f k l (i+1) (FH R f k i c out) (ks++[((FH R f k i c out).length:Int)-1])
def Bv(ns:List Nd)(R:Rw):Nat→Int→List Nd→List Nd
 |0,_,out=>out
 |n+1,k,out=>match R.stop k with
  |some x=>out++[x]
  |none=>(ET R (Bv ns R n) k (ndAt ns k).kids 0 out []).1++[⟨(ndAt ns k).kind,(ndAt ns k).text,(ET R (Bv ns R n) k (ndAt ns k).kids 0 out []).2,(ndAt ns k).blank⟩]
def So(ns:List Nd)(R:Rw):Prop:=∀(n:Nat) (k:Int) (i:Nat) (c:Int),De ns k→(ndAt ns k).kids[i]? =some c→c<n→
 De ns (R.tgt k i c)∧R.tgt k i c≤c∧(vis ns n (R.tgt k i c)).length+(if R.par k i c then 1 else 0)≤(vis ns n c).length
theorem WE{ns:List Nd}{R:Rw}(hR:So ns R):∀ {n:Nat} {k:Int} {out:List Nd},De ns k→k<n→out.length<(Bv ns R n k out).length∧(Bv ns R n k out).length≤out.length+2*(vis ns n k).length
 |0,k,out,h,hk=>by have:=BV.1 h.1;omega
 |n+1,k,out,h,hk=>by
  rw[LW,Bv]
  cases hs:R.stop k with
  |some x=>simp only[List.length_append,List.length_cons,List.length_nil];omega
  |none=>
   simp only[List.length_append,List.length_cons,List.length_nil]
   have key:∀(l:List Int) (i:Nat) (o:List Nd) (ks:List Int),(ndAt ns k).kids.drop i=l→o.length≤(ET R (Bv ns R n) k l i o ks).1.length∧(ET R (Bv ns R n) k l i o ks).1.length≤o.length+2*DU ns n l:=by
    intro l
    induction l with
    |nil=>intro i o ks _;simp [ET,DU]
    |cons c l ih=>
     intro i o ks hd
     have hc:(ndAt ns k).kids[i]? =some c:=by
      have:=congrArg (fun l:List Int=>l[0]?) hd
      simpa using this
     have hm:=HP h (BO hc)
     obtain⟨g1,g2,g3⟩:=hR n k i c h hc (by omega)
     obtain⟨p1,p2⟩:=WE hR (n:=n) (k:=R.tgt k i c) (out:=o) g1 (by omega)
     have hd2:(ndAt ns k).kids.drop (i+1)=l:=by
      rw[←List.drop_drop,hd];rfl
     obtain⟨q1,q2⟩:=ih (i+1) (FH R (Bv ns R n) k i c o) (ks++[((FH R (Bv ns R n) k i c o).length:Int)-1]) hd2
     have hb:o.length≤(FH R (Bv ns R n) k i c o).length∧(FH R (Bv ns R n) k i c o).length≤o.length+2*(vis ns n c).length:=by
      unfold FH
      split
      ·rename_i hp;rw[if_pos hp] at g3;simp;omega
      ·rename_i hp;rw[if_neg hp] at g3;omega
     rw[ET,NN]
     have e:((i:Int)+1)=((i+1:Nat):Int):=by omega
     rw[e]
     omega
   have:=key (ndAt ns k).kids 0 out [] (by simp)
   simp only[Df] at this ⊢
   have e:((0:Nat):Int)=0:=rfl
   rw[e] at this
   omega
def pk(ns:List Nd)(R:Rw)(n:Nat)(k:Int)(out0:List Nd)(i:Int)(out:List Nd)(ks:List Int):Prop:=
 (0≤i∧i≤(ndAt ns k).kids.length)∧ET R (Bv ns R n) k ((ndAt ns k).kids.drop i.toNat) i out ks=ET R (Bv ns R n) k (ndAt ns k).kids 0 out0 []∧
   out.length+2*DU ns n ((ndAt ns k).kids.drop i.toNat)≤out0.length+2*DU ns n (ndAt ns k).kids∧out0.length≤out.length∧ks.length=i
theorem b3i{ns:List Nd}{R:Rw}{n:Nat}{k:Int}{out0:List Nd}:pk ns R n k out0 0 out0 []:=⟨⟨by omega,by omega⟩,by simp,by simp,Nat.le_refl _,rfl⟩
theorem b3j{ns:List Nd}{R:Rw}(hR:So ns R){n:Nat}{k:Int}{out0:List Nd}{i c:Int}{out:List Nd}{ks:List Int}(h:pk ns R n k out0 i out ks)(hu:De ns k)(hk:k<n+1)
 (hc:(ndAt ns k).kids[i.toNat]? =some c):pk ns R n k out0 (i+1) (FH R (Bv ns R n) k i c out) (ks++[((FH R (Bv ns R n) k i c out).length:Int)-1]):=by
 obtain⟨⟨h0,h1⟩,h2,h3,h4,h5⟩:=h
 have hlt:=(DK hc).1
 have hm:=HP hu (BO hc)
 obtain⟨g1,g2,g3⟩:=hR n k i.toNat c hu hc (by omega)
 have e:((i.toNat:Nat):Int)=i:=by omega
 rw[e] at g1 g2 g3
 obtain⟨p1,p2⟩:=WE hR (n:=n) (k:=R.tgt k i c) (out:=out) g1 (by omega)
 have hb:out.length≤(FH R (Bv ns R n) k i c out).length∧(FH R (Bv ns R n) k i c out).length≤out.length+2*(vis ns n c).length:=by
  unfold FH
  split
  ·rename_i hp;rw[if_pos hp] at g3;simp;omega
  ·rename_i hp;rw[if_neg hp] at g3;omega
 refine⟨⟨by omega,by omega⟩,?_,?_,by omega,by simp;omega⟩
 ·rw[←h2,GX hc,Da h0];rfl
 ·rw[GX hc,NN] at h3
  rw[Da h0];omega
theorem b3k{ns:List Nd}{R:Rw}{n:Nat}{k:Int}{out0:List Nd}{i:Int}{out:List Nd}{ks:List Int}(h:pk ns R n k out0 i out ks)(hl:¬i<(ndAt ns k).kids.length)(hs:R.stop k=none):
 out++[⟨(ndAt ns k).kind,(ndAt ns k).text,ks,(ndAt ns k).blank⟩]=Bv ns R (n+1) k out0:=by
 obtain⟨⟨h0,h1⟩,h2,_⟩:=h
 rw[List.drop_eq_nil_of_le (by omega),ET] at h2
 rw[Bv,hs]
 simp only
 rw[←h2]
theorem b3l{ns:List Nd}{R:Rw}(hR:So ns R){n:Nat}{k:Int}{out0:List Nd}{i c:Int}{out:List Nd}{ks:List Int}(h:pk ns R n k out0 i out ks)(hu:De ns k)(hk:k<n+1)
 (hc:(ndAt ns k).kids[i.toNat]? =some c) {B:Nat} (hB:out0.length+2*(vis ns (n+1) k).length≤B):
 De ns (R.tgt k i c)∧R.tgt k i c<n∧out.length+2*(vis ns n (R.tgt k i c)).length≤B:=by
 obtain⟨⟨h0,h1⟩,h2,h3,h4,h5⟩:=h
 have hlt:=(DK hc).1
 have hm:=HP hu (BO hc)
 obtain⟨g1,g2,g3⟩:=hR n k i.toNat c hu hc (by omega)
 have e:((i.toNat:Nat):Int)=i:=by omega
 rw[e] at g1 g2 g3
 refine⟨g1,by omega,?_⟩
 rw[GX hc,NN] at h3
 rw[LW] at hB
 simp only[Df] at hB
 omega
theorem b3m{ns:List Nd}{R:Rw}{n:Nat}{k:Int}{out0:List Nd}{i:Int}{out:List Nd}{ks:List Int}(h:pk ns R n k out0 i out ks){B:Nat}(hB:out0.length+2*(vis ns (n+1) k).length≤B):
 (0≤i∧i≤(ndAt ns k).kids.length)∧out.length+2≤B∧ks.length=i:=by
 obtain⟨h0,h2,h3,h4,h5⟩:=h
 rw[LW] at hB
 simp only[Df] at hB
 exact⟨h0,by omega,h5⟩
end Go.My
end
section
namespace Go.My
open Go.Eng Go.Proofs
variable {G:GInv}
def Jf:Sig:= {X:=List Int,args:=fun x=>[Af x],pre:=fun x=>x.length≤2^40,Y:=Unit,post:=fun x y=>True,res:=fun x y=>Ab x,outs:=fun x y=>[.top],keep:=false}
theorem a2U:Aj G Tryz.prog 68 Jf:=
 vcFun_okP [] [(25,⟨Int,AZ⟩)] false (fun x=>[]) Tryz.func68 rfl (by decide) trivial (fun(x:List Int)=>(∀(y:Unit),True→(∀(x:Int),True∧True)∧True∧True)∧∀(b:Bool),(b=true→x=[])→Aa b (rA Jf x [.nil,.top]) (∃(zs:List Int),Af x=Af zs∧Bo AZ∧AY ((0:Nat)+List.length zs) (8:Nat)∧rA Jf x [Ab ([]++zs),.top])) (fun x=>by kernel_rfl) fun(x:List Int) (hx:x.length≤2^40)=>(by
 dsimp only[Af,Ab,rA,Jf,Au,Az]
 have hx:x.length≤2^40:=hx
 (repeat' first|(with_reducible first|rfl|exact True.intro|apply AK|apply And.intro|((first|apply AA|apply AI|apply AB|apply AJ)<;>intro _))|(apply Ax<;>intro _)|apply AH|refine Ae () ?_ ?_|((first|apply AO|apply AN|apply AM|apply AL|apply AG|apply AF|apply AE|apply AD|apply AC)<;>try dsimp only)|apply Ae|(refine Prod.forall.2 ?_;intro _;try dsimp only)|(intro _;try dsimp only))
 all_goals first
  |rfl
  |(rename_i h0 hb;rw[h0 hb];done)
  |((try simp only[AY,List.length_nil]);omega)
  |skip)
theorem a2V{l:List Nd}{i:Int}{e:Nd}(h0:0≤i)(he:l[i.toNat]? =some e):l.take i.toNat++[e]=l.take (i+1).toNat:=by rw[Da h0,Ey he]
theorem a2W{l:List Nd}{i:Int}(h:¬i<(l.length:Int)):l.take i.toNat=l:=List.take_of_length_le (by omega)
def KD(l:List Nd):Prop:=l.length≤2^30∧∀e∈l,e.kids.length≤2^30
def NO:Sig:= {X:=List Nd,args:=fun x=>[nds x],pre:=fun x=>KD x,Y:=Unit,post:=fun x y=>True,res:=fun x y=>Ba x,outs:=fun x y=>[.top],keep:=false}
def Sp(x:List Nd):LS:= {ι:=Int,inv:=fun i=>0≤i∧i≤x.length,regs:=fun i=>[(3,Ba (x.take i.toNat)),(6,nds x),(7,.int .i64 x.length),(8,.int .i64 i)],als:=[],meas:=fun i=>x.length-i.toNat}
theorem b3n:Aj G Tryz.prog 38 NO:=
 vcFun_okP [(68,0,Jf)] [(27,⟨Nd,ndA true⟩)] false (fun x=>[(3,Sp x)]) Tryz.func38 rfl (by decide) ⟨a2U,trivial⟩ (fun(x:List Nd)=>(∀(y:Unit),True→(∀(x:Nd),True∧True∧(∀(x:Int),True∧True)∧True∧True)∧True∧True)∧eA (Sp x) [.nil,nds x,.int .i64 (↑(List.length x):Int),.int .i64 (0:Int)]∧∀(i:Int),(0:Int)≤i∧i≤(↑(List.length x):Int)→Aa (decide (i<(↑(List.length x):Int))) (((0:Int)≤i∧i<(↑(List.length x):Int))∧∀(e:Nd),x[Int.toNat i]? =some e→cA Jf [Af e.kids] fun x_1 y=>∃(x_2:Nd),e.kind=x_2.kind∧e.text=x_2.text∧Ab x_1=Ab x_2.kids∧e.blank=x_2.blank∧∃(zs:List Nd),Ba [x_2]=Ba zs∧Bo (ndA true)∧AY (List.length (List.take (Int.toNat i) x)+List.length zs) (56:Nat)∧inR IntKind.i64 (i+(1:Int))∧eN (Sp x) i [Ba (List.take (Int.toNat i) x++zs),nds x,.int .i64 (↑(List.length x):Int),.int .i64 (i+(1:Int))]) (rA NO x [Ba (List.take (Int.toNat i) x),.top])) (fun x=>by kernel_rfl) fun(x:List Nd) (hx:KD x)=>(by
 dsimp only[cA,eA,eN,Sp,Af,Bu,nds,Ab,Ba,rA,Jf,NO,Au,Az,mvL,lnL,mvE,lnE,Br]
 obtain⟨h1,h2⟩:=hx
 (repeat' first|(with_reducible first|rfl|exact True.intro|apply AK|apply And.intro|((first|apply AA|apply AI|apply AB|apply AJ)<;>intro _))|(apply Ax<;>intro _)|apply AH|refine Ae () ?_ ?_|((first|apply AO|apply AN|apply AM|apply AL|apply AG|apply AF|apply AE|apply AD|apply AC)<;>try dsimp only)|apply Ae|(refine Prod.forall.2 ?_;intro _;try dsimp only)|(intro _;try dsimp only))
 all_goals first
  |rfl
  |exact a2V (And.left ‹_›) ‹_›
  |exact a2W ‹_›
  |(have hk:=h2 _ (BO (show x[Int.toNat _]? =some _ by assumption));omega)
  |((try simp only[AQ,AY,List.length_take,List.length_cons,List.length_nil]);omega)
  |skip)
def a2X(R:List Nd→Rw)(n:Nat)(x:List Nd×Int×List Nd):Prop:=BM x.1∧De x.1 x.2.1∧x.2.1<n∧x.2.2.length+2*(vis x.1 n x.2.1).length≤1048576
theorem b3o{R:List Nd→Rw}{ns:List Nd}{n:Nat}{k:Int}{out0:List Nd}{i:Int}{out:List Nd}{ks:List Int}{z:Nd}(hz:ns[k.toNat]? =some z)(hx:a2X R (n+1) (ns,k,out0))(h:pk ns (R ns) n k out0 i out ks):
 (0≤i∧i≤z.kids.length)∧z.kids.length≤12∧ks.length=i∧out.length≤1048576:=by
 have e:=Bn hz
 obtain⟨h1,h2,h3⟩:=b3m h hx.2.2.2
 rw[e] at h1
 have h4:=(DM (JI hx.2.1)).2.1
 simp only at h4;rw[e] at h4
 exact⟨h1,h4,h3,by omega⟩
theorem a2Y{R:List Nd→Rw}{ns:List Nd}{n:Nat}{k:Int}{out0:List Nd}{i:Int}{out:List Nd}{ks:List Int}{z:Nd}(hz:ns[k.toNat]? =some z)(h:pk ns (R ns) n k out0 i out ks)(hl:¬i<z.kids.length)(hs:(R ns).stop k=none):
 out++[⟨z.kind,z.text,ks,z.blank⟩]=Bv ns (R ns) (n+1) k out0:=by
 have e:=Bn hz
 rw[←e] at hl ⊢
 exact b3k h hl hs
theorem b3p{R:List Nd→Rw}{ns:List Nd}{n:Nat}{k:Int}{out0:List Nd}{i:Int}{out:List Nd}{ks:List Int}{z:Nd}(hz:ns[k.toNat]? =some z)(h:pk ns (R ns) n k out0 i out ks)(hl:¬i<z.kids.length)(hs:(R ns).stop k=none):
 (out.length:Int)=(Bv ns (R ns) (n+1) k out0).length-1:=by
 rw[←a2Y hz h hl hs];simp
def Ea:Nat:=1073741825
theorem a2Z{ns:List Nd}(h:Bf ns=true):1≤ns.length∧ns.length≤300:=⟨(ER h).2.1,(ER h).2.2.1⟩
end Go.My
end
section
namespace Go.My
open Go.Eng Go.Proofs
variable {G:GInv}
section
variable {α:Type}
variable {mk:Int→α→α} {sz:α→Nat}
end
end Go.My
end
section
namespace Go.My
open Go.Eng
def gk(g:Gr):List Int:=g.notes++(if 0≤g.member then [g.member] else [])
def CQ(ns:List Nd):List Int:=(BZ ns).flatMap gk
theorem Sq{ns:List Nd}:∀ {l notes:List Int},(∀c∈l,0≤c)→(grp ns l notes).flatMap gk=notes++l
 |[],notes,_=>by
  unfold grp
  split
  ·simp [gk]
  ·rename_i h
   have:notes=[]:=List.length_eq_zero_iff.1 (by omega)
   simp [this]
 |c::l,notes,h=>by
  unfold grp
  have hl:∀d∈l,0≤d:=fun d hd=>h d (by simp [hd])
  split
  ·rw[Sq hl];simp
  ·rw[List.flatMap_cons,Sq hl]
   have hc:=h c (by simp)
   simp [gk,hc]
theorem NP{ns:List Nd}(h:Bf ns=true):(CQ ns).Perm (Cf ns):=by
 have h1:(BZ ns).Perm (CF ns):=LT
 have h2:(CF ns).flatMap gk=Cf ns:=by
  rw[CF,if_pos h,Sq (fun c hc=>((FG h).2 c hc).1)];rfl
 rw[←h2]
 exact h1.flatMap_right gk
def PN(x:Nd):Nd:=⟨x.kind,x.text,x.kids,false⟩
def NQ(ns:List Nd):Nd:=⟨(ndAt ns (ns.length-1)).kind,(ndAt ns (ns.length-1)).text,CQ ns,(ndAt ns (ns.length-1)).blank⟩
def Hh(ns:List Nd):List Nd:=ns.set (ns.length-1) (NQ ns)
def BP(ns:List Nd):List Nd:=match CQ ns with
 |[]=>Hh ns
 |c::_=>(Hh ns).set c.toNat (PN (ndAt ns c))
theorem NR{ns:List Nd}:(BP ns).length=ns.length:=by
 unfold BP Hh
 split<;>simp
theorem Sr{l:List Nd}{i:Nat}{x:Nd}{k:Int}:ndAt (l.set i x) k=if i=k.toNat∧i<l.length then x else ndAt l k:=by
 unfold ndAt
 rw[List.getD_eq_getElem?_getD,List.getD_eq_getElem?_getD,List.getElem?_set]
 by_cases h:i=k.toNat
 ·subst h
  by_cases h2:k.toNat<l.length
  ·simp [h2]
  ·simp [h2]
 ·simp [h]
theorem Jg{ns:List Nd}(h:Bf ns=true){c:Int}:c∈CQ ns↔c∈Cf ns:=(NP h).mem_iff
theorem Ss{ns:List Nd}(h:Bf ns=true){k:Int}(h0:0≤k)(h1:k<ns.length):
 ndAt (BP ns) k=if k=(ns.length:Int)-1 then NQ ns else if(CQ ns).head?=some k then PN (ndAt ns k) else ndAt ns k:=by
 have ht:=(ER h).2.1
 unfold BP
 split
 ·rename_i e
  rw[Hh,Sr,e]
  by_cases hk:k=(ns.length:Int)-1
  ·rw[if_pos ⟨by omega,by omega⟩,if_pos hk]
  ·rw[if_neg (by omega),if_neg hk];simp
 ·rename_i c l e
  have hc:c∈Cf ns:=(Jg h).1 (by rw[e];simp)
  have hcr:=(FG h).2 c hc
  rw[Sr,Hh,Sr,e,List.length_set]
  by_cases hk:k=(ns.length:Int)-1
  ·rw[if_neg (by omega),if_pos ⟨by omega,by omega⟩,if_pos hk]
  ·by_cases hkc:c=k
   ·subst hkc
    rw[if_pos ⟨rfl,by omega⟩,if_neg hk];simp
   ·rw[if_neg (by omega),if_neg (by omega),if_neg hk]
    simp [hkc]
theorem NS{ns:List Nd}(h:Bf ns=true):ndAt (BP ns) ((ns.length:Int)-1)=NQ ns:=by
 have ht:=(ER h).2.1
 rw[Ss h (by omega) (by omega),if_pos rfl]
theorem NU{ns:List Nd}(h:Bf ns=true){k:Int}(h0:0≤k)(h1:k<ns.length):As (BP ns) k=As ns k:=by
 unfold As
 rw[Ss h h0 h1]
 split
 ·rename_i e;subst e;rfl
 ·split<;>rfl
theorem LX{ns:List Nd}(h:Bf ns=true){k:Int}(h0:0≤k)(h1:k<(ns.length:Int)-1):(ndAt (BP ns) k).kind=(ndAt ns k).kind∧(ndAt (BP ns) k).text=(ndAt ns k).text∧(ndAt (BP ns) k).kids=(ndAt ns k).kids∧((ndAt (BP ns) k).blank=(ndAt ns k).blank∨(ndAt (BP ns) k).blank=false):=by
 rw[Ss h h0 (by omega),if_neg (by omega)]
 split
 ·exact⟨rfl,rfl,rfl,.inr rfl⟩
 ·exact⟨rfl,rfl,rfl,.inl rfl⟩
theorem b3q{ns:List Nd}(h:Bf ns=true){k:Int}(h0:0≤k)(h1:k<(ns.length:Int)):BH (BP ns) k=true:=by
 have ht:=ER h
 have hup:De ns k:=⟨BV.2 ⟨h0,h1⟩,fun i hi=>ht.1.1 i (by omega)⟩
 have hok:=JI hup
 have hin:Bz (BP ns) k=true:=BV.2 ⟨h0,by rw[NR];exact h1⟩
 rw[BH,hin,Bool.true_and]
 have hp:=DM hok
 have hb:(HJ (ndAt ns k).kind|| !(ndAt ns k).blank)=true:=by
  simp only[BH,FB,Bool.and_eq_true] at hok;exact hok.2.2.2.2.2.2
 by_cases hk:k=(ns.length:Int)-1
 ·subst hk
  rw[NS h]
  have hperm:=NP h
  have hk22:(ndAt ns ((ns.length:Int)-1)).kind=22:=by
   simp only[Bf,Bool.and_eq_true,decide_eq_true_eq] at h;exact h.2.1
  have hkinds:=hp.2.2.2.2.2.1
  have htop:∀c∈Cf ns,FA (As ns c)=true:=by
   rw[hk22] at hkinds
   simp only[Cd,Int.reduceEq,or_self,if_false,if_true,reduceIte,List.all_map,List.all_eq_true,Function.comp] at hkinds
   exact fun c hc=>hkinds c hc
  have hmem:∀c∈CQ ns,0≤c∧c<(ns.length:Int)-1:=fun c hc=>(FG h).2 c ((Jg h).1 hc)
  have e1:Cd 22 ((CQ ns).map (As (BP ns)))=true:=by
   simp only[Cd,Int.reduceEq,or_self,if_false,if_true,reduceIte,List.all_map,List.all_eq_true,Function.comp]
   intro c hc
   have:=hmem c hc
   rw[NU h (by omega) (by omega)]
   exact htop c ((Jg h).1 hc)
  have e2:DL (BP ns) (NQ ns)=true:=by
   simp only[DL,List.all_eq_true]
   rintro⟨c,i⟩ hci
   have hc:c∈CQ ns:=by
    have:=List.mem_zipIdx hci
    obtain⟨_,_,e⟩:=this
    rw[e];exact List.getElem_mem _
   have hr:=hmem c hc
   have ht2:=htop c ((Jg h).1 hc)
   rw[CD]
   have hne:(ndAt (BP ns) c).kind≠5:=by
    have e3:(ndAt (BP ns) c).kind=As ns c:=NU h (by omega) (by omega)
    rw[e3]
    intro e5
    rw[e5] at ht2;cases ht2
   simp only[if_neg hne]
  simp only[FB,Bool.and_eq_true,decide_eq_true_eq]
  refine⟨show(CQ ns).length≤12 by rw[hperm.length_eq];exact hp.2.1,hp.2.2.1,⟨?_,show(CQ ns).Nodup from hperm.nodup_iff.2 hp.2.2.2.2.1⟩,show Cd (ndAt ns ((ns.length:Int)-1)).kind ((CQ ns).map (As (BP ns)))=true by rw[hk22];exact e1,e2,hb⟩
  simp only[DE,List.all_eq_true,Bool.and_eq_true,decide_eq_true_eq]
  exact hmem
 ·obtain⟨g1,g2,g3,g4⟩:=LX h h0 (by omega)
  have hr:∀c∈(ndAt ns k).kids,0≤c∧c<k:=hp.2.2.2.1
  simp only[FB,g1,g2,g3,Bool.and_eq_true,decide_eq_true_eq]
  have e1:(ndAt ns k).kids.map (As (BP ns))=(ndAt ns k).kids.map (As ns):=by
   refine List.map_congr_left fun c hc=> ?_
   have:=hr c hc
   exact NU h (by omega) (by omega)
  have e2:DL (BP ns) (ndAt (BP ns) k)=DL ns (ndAt ns k):=by
   simp only[DL,g3]
   rw[Bool.eq_iff_iff]
   simp only[List.all_eq_true]
   have key:∀p∈(ndAt ns k).kids.zipIdx,CD (BP ns) (ndAt (BP ns) k) p.2 p.1=CD ns (ndAt ns k) p.2 p.1:=by
    rintro⟨c,i⟩ hci
    have hc:c∈(ndAt ns k).kids:=by
     have:=List.mem_zipIdx hci
     obtain⟨_,_,e⟩:=this
     rw[e];exact List.getElem_mem _
    have hcr:=hr c hc
    obtain⟨q1,q2,q3,q4⟩:=LX h (k:=c) (by omega) (by omega)
    have hcup:=(HP hup hc).1
    unfold CD
    simp only[q1,q3,g1]
    split
    ·split
     ·rfl
     ·rename_i hh t e
      have hm:hh∈(ndAt ns c).kids:=by rw[e];simp
      have:=(HP hcup hm).2
      rw[NU h (by omega) (by omega)]
      simp only[Bz,NR]
    ·rfl
   exact⟨fun hh p hp=>(key p hp)▸hh p hp,fun hh p hp=>(key p hp).symm▸hh p hp⟩
  rw[e1,e2]
  refine⟨hp.2.1,hp.2.2.1,⟨?_,hp.2.2.2.2.1⟩,hp.2.2.2.2.2.1,hp.2.2.2.2.2.2,?_⟩
  ·simp only[DE,List.all_eq_true,Bool.and_eq_true,decide_eq_true_eq];exact hr
  ·rcases g4 with g4|g4
   ·rw[g4];exact hb
   ·rw[g4];simp
theorem a3a{ns:List Nd}(h:Bf ns=true){k:Int}(h0:0≤k)(h1:k<(ns.length:Int)):De (BP ns) k:=
 ⟨BV.2 ⟨h0,by rw[NR];exact h1⟩,fun i hi=>b3q h (by omega) (by omega)⟩
theorem WF{ns:List Nd}(h:Bf ns=true):∀ {n:Nat} {k:Int},De ns k→k<(ns.length:Int)-1→vis (BP ns) n k=vis ns n k
 |0,k,_,_=>rfl
 |n+1,k,hu,hk=>by
  have hr:=BV.1 hu.1
  rw[vis,vis]
  have e:Df (BP ns) k=Df ns k:=by rw[Df,Df,(LX h hr.1 hk).2.2.1]
  rw[e]
  congr 1
  have:∀l:List Int,(∀c∈l,c∈(ndAt ns k).kids)→l.flatMap (vis (BP ns) n)=l.flatMap (vis ns n):=by
   intro l
   induction l with
   |nil=>intro _;rfl
   |cons c l ih=>
    intro hl
    have hm:=HP hu (hl c (by simp))
    rw[List.flatMap_cons,List.flatMap_cons,WF h hm.1 (by omega),ih (fun d hd=>hl d (by simp [hd]))]
  exact this _ fun c hc=>hc
def rId:Rw:=⟨fun _=>none,fun _ _ c=>c,fun _ _ _=>false⟩
theorem WG{ns:List Nd}:So ns rId:=by
 intro n k i c hu hc hn
 exact⟨(HP hu (BO hc)).1,Int.le_refl _,by simp [rId]⟩
theorem a3b{g:Int→List Int}:∀ {l:List Int},(l.flatMap fun k=>k::g k).Perm (l++l.flatMap g)
 |[]=>List.Perm.refl _
 |k::l=>by
  rw[List.flatMap_cons,List.flatMap_cons,List.cons_append,List.cons_append]
  refine List.Perm.cons _ ?_
  exact(List.Perm.append_left _ (a3b (l:=l))).trans (List.perm_append_comm_assoc _ _ _)
theorem a3c{ns:List Nd}:∀ {n:Nat} {l:List Int},(l.flatMap (vis ns n)).Perm (WL ns n l)
 |0,l=>by
  have:l.flatMap (vis ns 0)=[]:=by simp [vis]
  rw[this];exact List.Perm.refl _
 |n+1,l=>by
  rw[WL]
  have e:vis ns (n+1)=fun k=>k::(Df ns k).flatMap (vis ns n):=by funext k;rfl
  rw[e]
  refine a3b.trans (List.Perm.append_left _ ?_)
  rw[←List.flatMap_assoc]
  exact a3c
theorem b3r{ns:List Nd}(h:Bf ns=true){n:Nat}:((Cf ns).flatMap (vis ns n)).Nodup∧((Cf ns).flatMap (vis ns n)).length≤300:=by
 obtain⟨h1,h2,h3,h4⟩:=ER h
 have hv:= @a2T ns (n+1) h
 rw[LW] at hv
 refine⟨?_,by simp only[DU,Df] at hv;simp only[Cf];omega⟩
 have e:= @a3c ns (n+1) [(ns.length:Int)-1]
 have hd:=(WD h1 h2 (n+1)).1
 rw[←e.nodup_iff] at hd
 simp only[List.flatMap_cons,List.flatMap_nil,List.append_nil,vis] at hd
 exact(List.nodup_cons.1 hd).2
theorem b3s{ns:List Nd}(h:Bf ns=true){n:Nat}:((CQ ns).flatMap (vis ns n)).Nodup∧((CQ ns).flatMap (vis ns n)).length≤300:=by
 have hp:=(NP h).flatMap_right (vis ns n)
 have:= @b3r ns h n
 exact⟨hp.nodup_iff.2 this.1,by rw[hp.length_eq];exact this.2⟩
def HR(ns:List Nd):List Nd:=if Bf ns then Bv (BP ns) rId Ea (ns.length-1) [] else ns
end Go.My
end
