/- joined -/
import Derived.Test.YtaenadacepeagaaGreatDoorQF
set_option linter.unusedSimpArgs false
set_option linter.unusedVariables false
section
namespace Go.My
open Go.Eng Go.Proofs
variable {G:GInv}
def sdp(ns:List Nd)(i:Nat)(ds:List Int):Int:=
 if Cb ns i=true∧(i=0∨ds.getD (i-1) 0≠0) then(if 14≤mx ds (Aj ns i).kids 0 then 0 else mx ds (Aj ns i).kids 0+1) else 0
def sds(ns:List Nd):Nat→List Int
 |0=>[]
 |n+1=>sds ns n++[sdp ns n (sds ns n)]
theorem HH{ns:List Nd}:∀ {n:Nat},(sds ns n).length=n
 |0=>rfl
 |n+1=>by rw[sds,List.length_append,HH];rfl
theorem ZV{ns:List Nd}:∀ {n:Nat},(match De ns n with|some ds=>sds ns n=ds|none=>0<n∧(sds ns n).getD (n-1) 0=0)
 |0=>by simp [De,sds]
 |n+1=>by
  have ih:= @ZV ns n
  unfold De
  cases hd:De ns n with
  |none=>
   rw[hd] at ih
   simp only
   refine⟨by omega,?_⟩
   have hz:sdp ns n (sds ns n)=0:=by
    unfold sdp;rw[if_neg];rintro⟨_,h|h⟩
    ·omega
    ·exact h ih.2
   rw[sds,hz,List.getD,List.getElem?_append_right (by rw[HH];omega),HH];simp
  |some ds=>
   rw[hd] at ih
   simp only at ih ⊢
   by_cases hn:Cb ns n=true
   ·rw[if_pos hn]
    have hprev:n=0∨(sds ns n).getD (n-1) 0≠0:=by
     by_cases e:n=0
     ·exact .inl e
     ·right
      rw[ih,List.getD]
      have hl:=Ov hd
      have:ds[n-1]? =some ds[n-1]:=by simp
      rw[this];have:=Uw hd ds[n-1] (by simp);simp;omega
    have hs:sdp ns n (sds ns n)=if 14≤mx ds (Aj ns n).kids 0 then 0 else mx ds (Aj ns n).kids 0+1:=by
     unfold sdp;rw[if_pos ⟨hn,hprev⟩,ih]
    by_cases hm:14≤mx ds (Aj ns n).kids 0
    ·rw[if_pos hm];simp only
     refine⟨by omega,?_⟩
     rw[sds,hs,if_pos hm,List.getD,List.getElem?_append_right (by rw[HH];omega),HH];simp
    ·rw[if_neg hm];simp only
     rw[sds,hs,if_neg hm,ih]
   ·rw[if_neg hn];simp only
    refine⟨by omega,?_⟩
    have hz:sdp ns n (sds ns n)=0:=by unfold sdp;rw[if_neg (fun h=>hn h.1)]
    rw[sds,hz,List.getD,List.getElem?_append_right (by rw[HH];omega),HH];simp
theorem a8e{ns:List Nd}{k:Int}{v:Int}(h:BF ns k=true)(hv:(sds ns (k.toNat+1))[k.toNat]? =some v):v=Dr ns k:=by
 have ih:= @ZV ns (k.toNat+1)
 unfold Dr;rw[if_pos h]
 cases hd:De ns (k.toNat+1) with
 |none=>rw[hd] at ih;simp only at ih ⊢;have:=ih.2;rw[List.getD] at this;simp [hv] at this;exact this
 |some ds=>rw[hd] at ih;simp only at ih ⊢;rw[←ih,List.getD,hv];rfl
theorem UU{ns:List Nd}:∀ {n:Nat},∀d∈sds ns n,0≤d∧d≤14
 |0,d,h=>by simp [sds] at h
 |n+1,d,h=>by
  rw[sds] at h
  rcases List.mem_append.1 h with h|h
  ·exact UU d h
  ·simp at h;subst h
   have:=Uv (sds ns n) (Aj ns n).kids 0
   unfold sdp;split
   ·split<;>omega
   ·omega
def okB(ns:List Nd)(i:Int):Bool:=Cb ns i&&(decide (i=0)|| !decide ((sds ns i.toNat).getD (i.toNat-1) 0=0))
theorem ZW{ns:List Nd}{i:Int}(h:0≤i):sdp ns i.toNat (sds ns i.toNat)=if okB ns i then(if 14≤mx (sds ns i.toNat) (Aj ns i).kids 0 then 0 else mx (sds ns i.toNat) (Aj ns i).kids 0+1) else 0:=by
 have e:((i.toNat:Nat):Int)=i:=by omega
 unfold sdp;rw[e]
 have hb:okB ns i=true↔Cb ns i=true∧(i.toNat=0∨(sds ns i.toNat).getD (i.toNat-1) 0≠0):=by
  unfold okB
  simp only[Bool.and_eq_true,Bool.or_eq_true,decide_eq_true_eq,Bool.not_eq_true',decide_eq_false_iff_not]
  constructor
  ·rintro⟨h1,h2⟩;exact⟨h1,h2.imp (fun h=>by omega) id⟩
  ·rintro⟨h1,h2⟩;exact⟨h1,h2.imp (fun h=>by omega) id⟩
 by_cases h1:okB ns i=true
 ·rw[if_pos h1,if_pos (hb.1 h1)]
 ·rw[if_neg h1,if_neg (fun h2=>h1 (hb.2 h2))]
def eI(ns:List Nd)(i j d:Int):Prop:=(okB ns i=true→j≤(Aj ns i).kids.length∧1≤d∧d≤15∧mx (sds ns i.toNat) ((Aj ns i).kids.drop j.toNat) (d-1)=mx (sds ns i.toNat) (Aj ns i).kids 0)∧0≤j∧(okB ns i=false→d=0)
theorem a8f{ns:List Nd}{i:Int}:eI ns i 0 (if okB ns i then 1 else 0):=by
 refine⟨fun h=> ?_,by omega,fun h=> ?_⟩
 ·rw[if_pos h];refine⟨by omega,by omega,by omega,by simp⟩
 ·rw[h];rfl
theorem QM{ns:List Nd}{i j d:Int}(h:eI ns i j d)(hd:d>0):okB ns i=true:=by
 cases hb:okB ns i
 ·have:=h.2.2 hb;omega
 ·rfl
theorem ZX{ns:List Nd}{i:Int}(h:okB ns i=true):Cb ns i=true:=by
 simp only[okB,Bool.and_eq_true] at h;exact h.1
theorem a8g{ns:List Nd}{i j d c:Int}{y:Nd}(h:eI ns i j d)(hd:d>0)(hy:ns[i.toNat]? =some y)(hc:y.kids[j.toNat]? =some c):0≤c∧c<i:=by
 have:=(FG (ZX (QM h hd))).2.2.2.1
 rw[Bz hy] at this;exact this c (Cu hc)
theorem a8h{ns:List Nd}{i j d:Int}{y:Nd}(h:eI ns i j d)(hd:d>0)(hy:ns[i.toNat]? =some y):y.kids.length≤12:=by
 have:=(FG (ZX (QM h hd))).2.1
 rwa [Bz hy] at this
theorem a8i{ns:List Nd}{i j d c v d':Int}{y:Nd}(h:eI ns i j d)(hd:d>0)(hy:ns[i.toNat]? =some y)(hc:y.kids[j.toNat]? =some c)(hv:(sds ns i.toNat)[c.toNat]? =some v)(hd':d'-1=max (d-1) v):eI ns i (j+1) d':=by
 have hb:=QM h hd
 obtain⟨h1,h2,h3,h4⟩:=h.1 hb
 have h0:=h.2.1
 have hr:=UU v (Cu hv)
 rw[Bz hy] at h4 h1
 have:=(EK hc).1
 refine⟨fun _=> ?_,by omega,fun hh=>by rw[hb] at hh;cases hh⟩
 rw[Bz hy]
 refine⟨by omega,by omega,by omega,?_⟩
 rw[←h4,Ik hc,Dz h0,mx,List.getD,hv,Option.getD_some,hd']
theorem a8j{ns:List Nd}{i:Int}{c:Nat}{v:Int}(hv:(sds ns i.toNat)[c]? =some v):0≤v∧v≤14:=UU v (Cu hv)
theorem a8k{ns:List Nd}{i j d:Int}{y:Nd}(hi:0≤i)(h:eI ns i j d)(hd:d>0)(hy:ns[i.toNat]? =some y)(hl:¬j<y.kids.length):sds ns i.toNat++[if d>14 then 0 else d]=sds ns (i+1).toNat:=by
 have hb:=QM h hd
 obtain⟨h1,h2,h3,h4⟩:=h.1 hb
 rw[Bz hy,List.drop_eq_nil_of_le (by omega),mx] at h4
 rw[Dz hi,sds,ZW hi,if_pos hb,Bz hy,←h4]
 congr 2
 by_cases h5:d>14
 ·rw[if_pos h5,if_pos (by omega)]
 ·rw[if_neg h5,if_neg (by omega)];omega
theorem a8l{ns:List Nd}{i j d:Int}(hi:0≤i)(h:eI ns i j d)(hd:¬d>0):sds ns i.toNat++[d]=sds ns (i+1).toNat:=by
 have hb:okB ns i=false:=by
  cases hb:okB ns i
  ·rfl
  ·have:=(h.1 hb).2.1;omega
 rw[Dz hi,sds,ZW hi,hb,h.2.2 hb];rfl
theorem a8m{ns:List Nd}{i:Int}(h:Cb ns i=false):0=if okB ns i=true then(1:Int) else 0:=by simp [okB,h]
theorem a8n{ns:List Nd}{i v:Int}(h:i>0)(hv:(sds ns i.toNat)[(i-1).toNat]? =some v)(h0:v=0):0=if okB ns i=true then(1:Int) else 0:=by
 have e:(i-1).toNat=i.toNat-1:=by omega
 rw[e] at hv;subst h0
 have:(sds ns i.toNat).getD (i.toNat-1) 0=0:=by rw[List.getD,hv];rfl
 simp only[okB,this,decide_true,Bool.not_true,Bool.or_false]
 rw[decide_eq_false (by omega)];simp
theorem a8o{ns:List Nd}{i:Int}(h:Cb ns i=true)(h0:0≤i)(h1:¬i>0):1=if okB ns i=true then(1:Int) else 0:=by
 obtain rfl:i=0:=by omega
 simp [okB,h]
theorem a8p{ns:List Nd}{i v:Int}(h:Cb ns i=true)(h0:i>0)(hv:(sds ns i.toNat)[(i-1).toNat]? =some v)(h1:v≠0):1=if okB ns i=true then(1:Int) else 0:=by
 have e:(i-1).toNat=i.toNat-1:=by omega
 rw[e] at hv
 have:(sds ns i.toNat).getD (i.toNat-1) 0≠0:=by rw[List.getD,hv];exact h1
 simp only[okB,h,this,decide_false,Bool.not_false,Bool.or_true,Bool.and_true,if_true]
def OD(x:List Nd×Int)(o:Int):LS:= {
 ι:=Int×Int,inv:=fun i=>eI x.1 o i.1 i.2,
 regs:=fun i=>[(0,nds x.1),(1,.int .i64 x.2),(5,Ab (sds x.1 o.toNat)),(6,.int .i64 o),(7,.int .i64 i.2),(8,.int .i64 i.1)],als:=[],meas:=fun i=>(Aj x.1 o).kids.length-i.1.toNat}
def MP(x:List Nd×Int)(o:Int):LS:= {
 ι:=Unit,inv:=fun _=>True,
 regs:=fun i=>[(0,nds x.1),(1,.int .i64 x.2),(5,Ab (sds x.1 o.toNat)),(6,.int .i64 o),(7,.int .i64 (if okB x.1 o then 1 else 0))],als:=[],meas:=fun i=>0}
def lDs(x:List Nd×Int):LS:= {
 ι:=Int,inv:=fun i=>0≤i∧i≤x.2+1,
 regs:=fun i=>[(0,nds x.1),(1,.int .i64 x.2),(5,Ab (sds x.1 i.toNat)),(6,.int .i64 i)],als:=[],meas:=fun i=>(x.2+1-i).toNat,sub:=fun i=>[(9,OD x i),(200008,MP x i)]}
def Lg:Sig:= {X:=List Nd×Int,args:=fun x=>[nds x.1,.int .i64 x.2],pre:=fun x=>Bi x.1∧x.1.length≤2^30∧BF x.1 x.2=true,Y:=Unit,post:=fun x y=>True,res:=fun x y=>Ab (sds x.1 (x.2.toNat+1)),outs:=fun x y=>[.top,.top],keep:=false}
theorem a8q:Am G Tryz.prog 80 Lg:=
 vcFun_okP [(91,0,Fg)] [(47,⟨Int,Bw⟩)] false (fun x=>[(3,lDs x)]) Tryz.func80 rfl (by decide) ⟨a8d,trivial⟩ (fun(x:List Nd×Int)=>(∀(y:Unit),True→(∀(x:Int),True∧True)∧True∧True∧True)∧eA (lDs x) [nds x.1,.int .i64 x.2,Ab [],.int .i64 (0:Int)]∧∀(i:Int),(0:Int)≤i∧i≤x.2+(1:Int)→Aa (decide (i≤x.2)) (Aa (decide (i<(↑(List.length x.1):Int))) ((cA Fg [nds x.1,.int .i64 i] fun x_1 y=>Aa (!Cb x_1.1 x_1.2) (eA (MP x i) [nds x.1,.int .i64 x.2,Ab (sds x.1 (Int.toNat i)),.int .i64 i,.int .i64 (0:Int)]) (Aa (decide (i>(0:Int))) (inR IntKind.i64 (i-(1:Int))∧((0:Int)≤i-(1:Int)∧i-(1:Int)<(↑(List.length (sds x.1 (Int.toNat i))):Int))∧Int.toNat (i-(1:Int))<List.length (sds x.1 (Int.toNat i))∧∀(x_2:Int),(sds x.1 (Int.toNat i))[Int.toNat (i-(1:Int))]? =some x_2→Aa (x_2==(0:Int)) (eA (MP x i) [nds x.1,.int .i64 x.2,Ab (sds x.1 (Int.toNat i)),.int .i64 i,.int .i64 (0:Int)]) (eA (MP x i) [nds x.1,.int .i64 x.2,Ab (sds x.1 (Int.toNat i)),.int .i64 i,.int .i64 (1:Int)])) (eA (MP x i) [nds x.1,.int .i64 x.2,Ab (sds x.1 (Int.toNat i)),.int .i64 i,.int .i64 (1:Int)])))∧∀(i_1:Unit),True→eA (OD x i) [nds x.1,.int .i64 x.2,Ab (sds x.1 (Int.toNat i)),.int .i64 i,.int .i64 (if okB x.1 i=true then(1:Int) else(0:Int)),.int .i64 (0:Int)]∧∀(i_2:Int×Int),eI x.1 i i_2.1 i_2.2→Aa (decide (i_2.2>(0:Int))) (((0:Int)≤i∧i<(↑(List.length x.1):Int))∧∀(e:Nd),x.1[Int.toNat i]? =some e→Aa (decide (i_2.1<(↑(List.length e.kids):Int))) (((0:Int)≤i∧i<(↑(List.length x.1):Int))∧∀(e:Nd),x.1[Int.toNat i]? =some e→((0:Int)≤i_2.1∧i_2.1<(↑(List.length e.kids):Int))∧∀(e_1:Int),e.kids[Int.toNat i_2.1]? =some e_1→((0:Int)≤e_1∧e_1<(↑(List.length (sds x.1 (Int.toNat i))):Int))∧Int.toNat e_1<List.length (sds x.1 (Int.toNat i))∧∀(x_1:Int),(sds x.1 (Int.toNat i))[Int.toNat e_1]? =some x_1→inR IntKind.i64 (x_1+(1:Int))∧Aa (decide (x_1+(1:Int)>i_2.2)) (((0:Int)≤i∧i<(↑(List.length x.1):Int))∧∀(e:Nd),x.1[Int.toNat i]? =some e→((0:Int)≤i_2.1∧i_2.1<(↑(List.length e.kids):Int))∧∀(e_2:Int),e.kids[Int.toNat i_2.1]? =some e_2→((0:Int)≤e_2∧e_2<(↑(List.length (sds x.1 (Int.toNat i))):Int))∧Int.toNat e_2<List.length (sds x.1 (Int.toNat i))∧∀(x_2:Int),(sds x.1 (Int.toNat i))[Int.toNat e_2]? =some x_2→inR IntKind.i64 (x_2+(1:Int))∧inR IntKind.i64 (i_2.1+(1:Int))∧eN (OD x i) i_2 [nds x.1,.int .i64 x.2,Ab (sds x.1 (Int.toNat i)),.int .i64 i,.int .i64 (x_2+(1:Int)),.int .i64 (i_2.1+(1:Int))]) (inR IntKind.i64 (i_2.1+(1:Int))∧eN (OD x i) i_2 [nds x.1,.int .i64 x.2,Ab (sds x.1 (Int.toNat i)),.int .i64 i,.int .i64 i_2.2,.int .i64 (i_2.1+(1:Int))])) (Aa (decide (i_2.2>(14:Int))) (∃(x_1:Int),(0:Int)=x_1∧∃(zs:List Int),Ab [x_1]=Ab zs∧Bu Bw∧Ba (List.length (sds x.1 (Int.toNat i))+List.length zs) (8:Nat)∧inR IntKind.i64 (i+(1:Int))∧eN (lDs x) i [nds x.1,.int .i64 x.2,Ab (sds x.1 (Int.toNat i)++zs),.int .i64 (i+(1:Int))]) (∃(x_1:Int),i_2.2=x_1∧∃(zs:List Int),Ab [x_1]=Ab zs∧Bu Bw∧Ba (List.length (sds x.1 (Int.toNat i))+List.length zs) (8:Nat)∧inR IntKind.i64 (i+(1:Int))∧eN (lDs x) i [nds x.1,.int .i64 x.2,Ab (sds x.1 (Int.toNat i)++zs),.int .i64 (i+(1:Int))]))) (Aa (decide (i_2.2>(14:Int))) (∃(x_1:Int),(0:Int)=x_1∧∃(zs:List Int),Ab [x_1]=Ab zs∧Bu Bw∧Ba (List.length (sds x.1 (Int.toNat i))+List.length zs) (8:Nat)∧inR IntKind.i64 (i+(1:Int))∧eN (lDs x) i [nds x.1,.int .i64 x.2,Ab (sds x.1 (Int.toNat i)++zs),.int .i64 (i+(1:Int))]) (∃(x_1:Int),i_2.2=x_1∧∃(zs:List Int),Ab [x_1]=Ab zs∧Bu Bw∧Ba (List.length (sds x.1 (Int.toNat i))+List.length zs) (8:Nat)∧inR IntKind.i64 (i+(1:Int))∧eN (lDs x) i [nds x.1,.int .i64 x.2,Ab (sds x.1 (Int.toNat i)++zs),.int .i64 (i+(1:Int))]))) (rA Lg x [Ab (sds x.1 (Int.toNat i)),.top,.top])) (rA Lg x [Ab (sds x.1 (Int.toNat i)),.top,.top])) (fun x=>by kernel_rfl) fun(x:List Nd×Int) (hx:Bi x.1∧x.1.length≤2^30∧BF x.1 x.2=true)=>(by
 dsimp only[cA,eA,eN,lDs,OD,MP,Bx,nds,Ab,rA,Lg,Fg,Aw,AR,mvL,lnL,mvE,lnE,Br]
 obtain⟨h1,h2,h3⟩:=hx;have hl:=h1.1;have hn:=CR.1 h3
 (repeat' first|(with_reducible first|rfl|exact True.intro|apply AM|apply And.intro|((first|apply AC|apply AK|apply AD|apply AL)<;>intro _))|(apply AB<;>intro _)|apply AJ|refine Ag () ?_ ?_|((first|apply AQ|apply AP|apply AO|apply AN|apply AI|apply AH|apply AG|apply AF|apply AE)<;>try dsimp only)|apply Ag|(refine Prod.forall.2 ?_;intro _;try dsimp only)|(intro _;try dsimp only))
 all_goals first
  |rfl
  |omega
  |exact a8m ‹_›
  |exact a8n ‹_› ‹_› ‹_›
  |exact a8o ‹_› (by omega) ‹_›
  |exact a8p ‹_› ‹_› ‹_› ‹_›
  |exact a8f
  |(rw[HH];omega)
  |skip
 all_goals try(repeat(rename x.1[Int.toNat _]? =some _=>hq;revert hq;rename x.1[Int.toNat _]? =some _=>hr;intro hq;rw[hr] at hq;cases hq))
 all_goals try(repeat(rename(Nd.kids _)[Int.toNat _]? =some _=>hq;revert hq;rename(Nd.kids _)[Int.toNat _]? =some _=>hr;intro hq;rw[hr] at hq;cases hq))
 all_goals try(rename(sds x.1 _)[Int.toNat _]? =some _=>hq;revert hq;rename(sds x.1 _)[Int.toNat _]? =some _=>hr2;intro hq;have hqq:=hr2.symm.trans hq;simp only[Option.some.injEq] at hqq;subst hqq)
 all_goals try(have hke:=a8g ‹_› ‹_› ‹_› ‹_›)
 all_goals try(have hle:=a8h ‹_› ‹_› ‹_›)
 all_goals try(have hve:=a8j ‹_›)
 all_goals try(have hse:=(show eI _ _ _ _ by assumption).2.1)
 all_goals first
  |omega
  |(rw[HH];omega)
  |((try simp only[AS]);omega)
  |exact a8i ‹_› ‹_› ‹_› ‹_› ‹_› (by omega)
  |(rw[←a8k (by omega) ‹_› ‹_› ‹_› ‹_›];simp [*];done)
  |exact a8l (by omega) ‹_› ‹_›
  |(rw[Bz ‹_›];omega)
  |(congr 1;omega)
  |(simp only[Ba,HH,List.length_cons,List.length_nil];omega)
  |skip)
def Lh:Sig:= {X:=List Nd×Int,args:=fun x=>[nds x.1,.int .i64 x.2],pre:=fun x=>Bi x.1∧x.1.length≤2^30,Y:=Unit,post:=fun x y=>True,res:=fun x y=> .int .i64 (Dr x.1 x.2),outs:=fun x y=>[.top,.top],keep:=false}
theorem a8r:Am G Tryz.prog 49 Lh:=
 vcFun_okP [(48,0,CU),(80,0,Lg)] [] false (fun x=>[]) Tryz.func49 rfl (by decide) ⟨KE,a8q,trivial⟩ (fun(x:List Nd×Int)=>(∀(y:Unit),True→True∧True∧True∧True)∧inR IntKind.i64 ((↑(List.length x.1):Int)-(1:Int))∧cA CU [.int .i64 x.2,.int .i64 (0:Int),.int .i64 ((↑(List.length x.1):Int)-(1:Int))] fun x_1 y=>Aa (!inn x_1.1 x_1.2.1 x_1.2.2) (rA Lh x [.int .i64 (0:Int),.top,.top]) (cA Lg [nds x.1,.int .i64 x.2] fun x_2 y=>((0:Int)≤x.2∧x.2<(↑(List.length (sds x_2.1 (Int.toNat x_2.2+(1:Nat)))):Int))∧Int.toNat x.2<List.length (sds x_2.1 (Int.toNat x_2.2+(1:Nat)))∧∀(x_3:Int),(sds x_2.1 (Int.toNat x_2.2+(1:Nat)))[Int.toNat x.2]? =some x_3→rA Lh x [.int .i64 x_3,.top,.top])) (fun x=>by kernel_rfl) fun(x:List Nd×Int) (hx:Bi x.1∧x.1.length≤2^30)=>(by
 dsimp only[cA,Bx,nds,Ab,rA,CU,Lg,Lh,Aw,AR,mvL,lnL,mvE,lnE]
 obtain⟨h1,h2⟩:=hx;have hl:=h1.1
 (repeat' first|(with_reducible first|rfl|exact True.intro|apply AM|apply And.intro|((first|apply AC|apply AK|apply AD|apply AL)<;>intro _))|(apply AB<;>intro _)|apply AJ|refine Ag () ?_ ?_|((first|apply AQ|apply AP|apply AO|apply AN|apply AI|apply AH|apply AG|apply AF|apply AE)<;>try dsimp only)|apply Ag|(refine Prod.forall.2 ?_;intro _;try dsimp only)|(intro _;try dsimp only))
 all_goals first
  |exact h1
  |exact h2
  |((try simp only[AS]);omega)
  |(rw[Ja] at*;exact Zx ‹_›)
  |(have hh:=(show inn x.2 0 (x.1.length-1)=true by assumption);rw[Ja] at hh;have:=CR.1 hh;first|exact hh|omega|exact a8e hh ‹_› |(rw[HH];omega))
  |skip)
theorem ZY{ns:List Nd}{i v:Int}(hv:(cnt ns.length (BR ns))[i.toNat]? =some v)(h0:0≤i):((BR ns).count i:Int)=v:=by
 have h:i.toNat<ns.length:=by have:=(EK hv).1;rwa [GG] at this
 rw[Le h] at hv
 have e2:((i.toNat:Nat):Int)=i:=by omega
 rw[e2] at hv;exact Option.some.inj hv
theorem a8s{ns:List Nd}{i v:Int}(h:tE ns i)(hl:i+1<(ns.length:Int))(hv:(cnt ns.length (BR ns))[i.toNat]? =some v)(h1:v=1):tE ns (i+1):=by
 have:=ZY hv h.1
 refine⟨by have:=h.1;omega,by omega,fun c hc=> ?_⟩
 by_cases e:(c:Int)<i
 ·exact h.2.2 c e
 ·have:=h.1
  obtain rfl:i=(c:Int):=by omega
  omega
theorem UV{ns:List Nd}{i j c:Int}{y:Nd}(h:tI ns)(hy:ns[i.toNat]? =some y)(hc:y.kids[j.toNat]? =some c):0≤c∧c<ns.length:=(Oz h hy).2 c (Cu hc)
theorem a8t{ns:List Nd}{i:Int}{y:Nd}(h:tI ns)(hy:ns[i.toNat]? =some y):y.kids.length≤12:=(Oz h hy).1
theorem a8u{ns:List Nd}{i j c:Int}{y:Nd}(h0:0≤j)(hy:ns[i.toNat]? =some y)(hc:y.kids[j.toNat]? =some c):tk ns i (j+1)=tk ns i j++[c]:=ZB h0 (by rw[Bz hy];exact hc)
theorem a8v{ns:List Nd}{i j:Int}{y:Nd}(h0:0≤i)(hy:ns[i.toNat]? =some y)(hl:¬j<y.kids.length):tk ns i j=BR (ns.take (i+1).toNat):=ZC h0 hy (by rw[Bz hy];exact hl)
def QN(x:List Nd)(o:Int):LS:= {
 ι:=Int,inv:=fun j=>0≤j∧j≤(Aj x o).kids.length,
 regs:=fun j=>[(0,nds x),(3,.int .i64 x.length),(4,Ab (cnt x.length (tk x o j))),(5,.int .i64 o),(6,.int .i64 j)],als:=[],meas:=fun j=>(Aj x o).kids.length-j.toNat}
def QO(x:List Nd):LS:= {
 ι:=Int,inv:=fun i=>0≤i∧i≤x.length,
 regs:=fun i=>[(0,nds x),(3,.int .i64 x.length),(4,Ab (cnt x.length (BR (x.take i.toNat)))),(5,.int .i64 i)],als:=[],meas:=fun i=>x.length-i.toNat,
 sub:=fun i=>[(9,QN x i)]}
def QP(x:List Nd):LS:= {
 ι:=Int,inv:=tE x,
 regs:=fun i=>[(3,.int .i64 x.length),(4,Ab (cnt x.length (BR x))),(7,.int .i64 i)],als:=[],meas:=fun i=>x.length-i.toNat}
def Gf:Sig:= {X:=List Nd,args:=fun x=>[nds x],pre:=fun x=>Bi x∧x.length≤2^30,Y:=Unit,post:=fun x y=>True,res:=fun x y=> .bool (BO x),outs:=fun x y=>[.top],keep:=false}
theorem ZZ:Am G Tryz.prog 26 Gf:=
 vcFun_okP [(48,0,CU),(49,0,Lh)] [(47,⟨Int,Bw⟩)] false (fun x=>[(6,QO x),(13,QP x)]) Tryz.func26 rfl (by decide) ⟨KE,a8r,trivial⟩ (fun(x:List Nd)=>(∀(y:Unit),True→True∧True∧True)∧cA CU [.int .i64 (↑(List.length x):Int),.int .i64 (1:Int),.int .i64 (300:Int)] fun x_1 y=>Aa (!inn x_1.1 x_1.2.1 x_1.2.2) (rA Gf x [.bool false,.top]) (inR IntKind.i64 ((↑(List.length x):Int)-(1:Int))∧((0:Int)≤(↑(List.length x):Int)-(1:Int)∧(↑(List.length x):Int)-(1:Int)<(↑(List.length x):Int))∧∀(e:Nd),x[Int.toNat ((↑(List.length x):Int)-(1:Int))]? =some e→Aa (e.kind != (22:Int)) (rA Gf x [.bool false,.top]) (inR IntKind.i64 ((↑(List.length x):Int)-(1:Int))∧cA Lh [nds x,.int .i64 ((↑(List.length x):Int)-(1:Int))] fun x_2 y=>Aa (Dr x_2.1 x_2.2==(0:Int)) (rA Gf x [.bool false,.top]) (((0:Int)≤(↑(List.length x):Int)∧(↑(List.length x):Int)≤(↑(List.length x):Int)∧(↑(8:Nat):Int)*(↑(List.length x):Int)≤(2:Int)^(46:Nat)∧(↑(List.length x):Int)≤(2:Int)^(46:Nat))∧∃(x_3:Int),(0:Int)=x_3∧eA (QO x) [nds x,.int .i64 (↑(List.length x):Int),Ab (List.replicate (Int.toNat (↑(List.length x):Int)) x_3),.int .i64 (0:Int)]∧∀(i:Int),(0:Int)≤i∧i≤(↑(List.length x):Int)→Aa (decide (i<(↑(List.length x):Int))) (eA (QN x i) [nds x,.int .i64 (↑(List.length x):Int),Ab (cnt (List.length x) (BR (List.take (Int.toNat i) x))),.int .i64 i,.int .i64 (0:Int)]∧∀(i_1:Int),(0:Int)≤i_1∧i_1≤(↑(List.length (Aj x i).kids):Int)→((0:Int)≤i∧i<(↑(List.length x):Int))∧∀(e:Nd),x[Int.toNat i]? =some e→Aa (decide (i_1<(↑(List.length e.kids):Int))) (((0:Int)≤i∧i<(↑(List.length x):Int))∧∀(e:Nd),x[Int.toNat i]? =some e→((0:Int)≤i_1∧i_1<(↑(List.length e.kids):Int))∧∀(e_1:Int),e.kids[Int.toNat i_1]? =some e_1→((0:Int)≤e_1∧e_1<(↑(List.length (cnt (List.length x) (tk x i i_1))):Int))∧Int.toNat e_1<List.length (cnt (List.length x) (tk x i i_1))∧∀(x_4:Int),(cnt (List.length x) (tk x i i_1))[Int.toNat e_1]? =some x_4→inR IntKind.i64 (x_4+(1:Int))∧((0:Int)≤e_1∧e_1<(↑(List.length (cnt (List.length x) (tk x i i_1))):Int))∧Int.toNat e_1<List.length (cnt (List.length x) (tk x i i_1))∧∀(x_5:Int),(cnt (List.length x) (tk x i i_1))[Int.toNat e_1]? =some x_5→∃(x':Int),((@List.nil AV)=[]∧(@List.nil AV)=[])∧x_4+(1:Int)=x'∧inR IntKind.i64 (i_1+(1:Int))∧eN (QN x i) i_1 [nds x,.int .i64 (↑(List.length x):Int),Ab (List.set (cnt (List.length x) (tk x i i_1)) (Int.toNat e_1) x'),.int .i64 i,.int .i64 (i_1+(1:Int))]) (inR IntKind.i64 (i+(1:Int))∧eN (QO x) i [nds x,.int .i64 (↑(List.length x):Int),Ab (cnt (List.length x) (tk x i i_1)),.int .i64 (i+(1:Int))])) (eA (QP x) [.int .i64 (↑(List.length x):Int),Ab (cnt (List.length x) (BR (List.take (Int.toNat i) x))),.int .i64 (0:Int)]∧∀(i:Int),tE x i→inR IntKind.i64 (i+(1:Int))∧Aa (decide (i+(1:Int)<(↑(List.length x):Int))) (((0:Int)≤i∧i<(↑(List.length (cnt (List.length x) (BR x))):Int))∧Int.toNat i<List.length (cnt (List.length x) (BR x))∧∀(x_4:Int),(cnt (List.length x) (BR x))[Int.toNat i]? =some x_4→Aa (x_4 != (1:Int)) (rA Gf x [.bool false,.top]) (inR IntKind.i64 (i+(1:Int))∧eN (QP x) i [.int .i64 (↑(List.length x):Int),Ab (cnt (List.length x) (BR x)),.int .i64 (i+(1:Int))])) (rA Gf x [.bool true,.top])))))) (fun x=>by kernel_rfl) fun(x:List Nd) (hx:Bi x∧x.length≤2^30)=>(by
 dsimp only[cA,eA,eN,QO,QN,QP,Bx,nds,Ab,rA,CU,Lh,Gf,Aw,AR,mvL,lnL,mvE,lnE,Br]
 obtain⟨h1,h2⟩:=hx;have hl:=h1.1
 (repeat' first|(with_reducible first|rfl|exact True.intro|apply AM|apply And.intro|((first|apply AC|apply AK|apply AD|apply AL)<;>intro _))|(apply AB<;>intro _)|apply AJ|refine Ag () ?_ ?_|((first|apply AQ|apply AP|apply AO|apply AN|apply AI|apply AH|apply AG|apply AF|apply AE)<;>try dsimp only)|apply Ag|(refine Prod.forall.2 ?_;intro _;try dsimp only)|(intro _;try dsimp only))
 all_goals try(have t1:=Iq.1 (show inn x.length 1 300=true by assumption))
 all_goals try(have t0:=ZI ‹_› ‹_› ‹_› ‹_›)
 all_goals try(repeat(rename x[Int.toNat _]? =some _=>hq;revert hq;rename x[Int.toNat _]? =some _=>hr;intro hq;rw[hr] at hq;cases hq))
 all_goals try(repeat(rename(Nd.kids _)[Int.toNat _]? =some _=>hq;revert hq;rename(Nd.kids _)[Int.toNat _]? =some _=>hr;intro hq;rw[hr] at hq;cases hq))
 all_goals try(simp only[Bz (show x[Int.toNat _]? =some _ by assumption)] at*)
 all_goals first
  |rfl
  |exact MN (ZJ ‹_›)
  |exact MN (ZK ‹_› ‹_›)
  |exact MN (fun h=>h.2.2.2 ‹_›)
  |exact Zy
  |(rw[ZA];done)
  |(have:=UV ‹_› ‹_› (show(Nd.kids _)[Int.toNat _]? =some _ by assumption);(try rw[GG]);omega)
  |(rw[a8u (by omega) ‹_› ‹_›];exact Zz (UV ‹_› ‹_› ‹_›).1 (UV ‹_› ‹_› ‹_›).2 ‹_›)
  |(rw[a8v (by omega) ‹_› ‹_›];done)
  |(rw[ZL ‹_›];done)
  |(have:=ZH ‹_› ‹_› ‹_›;omega)
  |exact ZE ‹_› ‹_› (by omega)
  |exact ZF (ZY ‹_› (‹tE _ _›.1)) (‹tE _ _›.1) (by omega) ‹_›
  |exact a8s ‹_› ‹_› ‹_› ‹_›
  |exact⟨by omega,by omega,fun c hc=>by omega⟩
  |((try simp only[AS,Ba,List.length_replicate,GG] at*);omega)
  |(have:=a8t ‹_› ‹_›;(try simp only[AS] at*);omega)
  |(have hte:=(show tE x _ by assumption);have:=hte.1;have:=hte.2.1;(try rw[GG]);(try simp only[AS] at*);omega)
  |skip)
end Go.My
end
section
namespace Go.My
open Go.Eng
def Iv(ns:List Nd)(k:Int):Prop:=BF ns k=true∧∀i:Nat,(i:Int)≤k→Cb ns i=true
theorem a8w{ns:List Nd}{k:Int}(h:Dr ns k≠0):Iv ns k:=⟨(Ql h).1,(Ql h).2.2⟩
theorem MQ{ns:List Nd}{k:Int}(h:Iv ns k):Cb ns k=true:=by
 have:=CR.1 h.1
 have h2:=h.2 k.toNat (by omega)
 rwa [show((k.toNat:Nat):Int)=k by omega] at h2
theorem QQ{ns:List Nd}{k c:Int}(h:Iv ns k)(hc:c∈(Aj ns k).kids):Iv ns c∧0≤c∧c<k:=by
 have h1:=(FG (MQ h)).2.2.2.1 c hc
 have h2:=CR.1 h.1
 exact⟨⟨CR.2 (by omega),fun i hi=>h.2 i (by omega)⟩,h1⟩
def Fh(ns:List Nd)(k:Int):List Int:=(Aj ns k).kids
def vis(ns:List Nd):Nat→Int→List Int
 |0,_=>[]
 |n+1,k=>k::(Fh ns k).flatMap (vis ns n)
def WL(ns:List Nd):Nat→List Int→List Int
 |0,_=>[]
 |n+1,l=>l++WL ns n (l.flatMap (Fh ns))
theorem a0a{ns:List Nd}:∀ {n:Nat} {l:List Int},(l.flatMap (vis ns n)).length=(WL ns n l).length
 |0,l=>by
  have:l.flatMap (vis ns 0)=[]:=by simp [vis]
  rw[this];rfl
 |n+1,l=>by
  rw[WL,List.length_append,←a0a (l:=l.flatMap (Fh ns)),List.flatMap_assoc]
  have:∀l:List Int,(l.flatMap (vis ns (n+1))).length=l.length+(l.flatMap fun x=>(Fh ns x).flatMap (vis ns n)).length:=by
   intro l
   induction l with
   |nil=>rfl
   |cons k l ih=>
    rw[List.flatMap_cons,List.flatMap_cons,List.length_append,List.length_append,ih,vis,List.length_cons,List.length_cons];omega
  rw[this]
theorem a0b{ns:List Nd}:∀ {n:Nat} {l:List Int},WL ns n (l.flatMap (Fh ns))=(WL ns n l).flatMap (Fh ns)
 |0,l=>rfl
 |n+1,l=>by rw[WL,WL,List.flatMap_append,a0b (l:=l.flatMap (Fh ns))]
theorem a8x{ns:List Nd}{n:Nat}{l:List Int}:WL ns (n+1) l=l++(WL ns n l).flatMap (Fh ns):=by rw[WL,a0b]
theorem QR(f:Int→Nat):∀(n:Nat) (V:List Int),V.Nodup→(∀p∈V,0≤p∧p<n)→(V.map f).sum≤((List.range n).map fun i:Nat=>f i).sum
 |0,V,_,h=>by
  have:V=[]:=by
   cases V with
   |nil=>rfl
   |cons p V=>have:=h p (by simp);omega
  subst this;simp
 |n+1,V,hn,h=>by
  rw[List.range_succ,List.map_append,List.sum_append]
  by_cases hm:(n:Int)∈V
  ·have hp:=List.perm_cons_erase hm
   have e:(V.map f).sum=f n+((V.erase n).map f).sum:=by
    have:=(hp.map f).sum_nat
    rw[this];simp
   have h2:=QR f n (V.erase n) (hn.erase _) (fun p hp=>by
    have h3:=(List.Nodup.mem_erase_iff hn).1 hp
    have:=h p h3.2
    have h4:=h3.1
    omega)
   rw[e];simp;omega
  ·have h2:=QR f n V hn (fun p hp=>by
    have:=h p hp
    have:p≠n:=fun e=>hm (e▸hp)
    omega)
   simp;omega
theorem a8y{V:List Int}{n:Nat}(hn:V.Nodup)(h:∀p∈V,0≤p∧p<n):V.length≤n:=by
 have:=QR (fun _=>1) n V hn h
 have e1:∀l:List Int,(l.map fun _=>1).sum=l.length:=by
  intro l;induction l with
  |nil=>rfl
  |cons a l ih=>simp only[List.map_cons,List.sum_cons,ih,List.length_cons];omega
 have e2:∀l:List Nat,(l.map fun _=>1).sum=l.length:=by
  intro l;induction l with
  |nil=>rfl
  |cons a l ih=>simp only[List.map_cons,List.sum_cons,ih,List.length_cons];omega
 rw[e1,e2,List.length_range] at this;exact this
theorem a8z{ns:List Nd}:ns=(List.range ns.length).map fun i:Nat=>Aj ns i:=by
 apply List.ext_getElem?
 intro i
 by_cases h:i<ns.length
 ·have:ns[i]? =some ns[i]:=by simp
  rw[List.getElem?_map,List.getElem?_range h,this]
  simp only[Option.map_some]
  congr 1
  exact(Bz (c:=(i:Int)) (by simp)).symm
 ·rw[List.getElem?_eq_none (by omega),List.getElem?_eq_none (by simp;omega)]
theorem a8A{ns:List Nd}{j:Int}:(BR ns).count j=((List.range ns.length).map fun i:Nat=>(Fh ns i).count j).sum:=by
 have h:BR ns=((List.range ns.length).map fun i:Nat=>Aj ns i).flatMap (·.kids):=by rw[←a8z];rfl
 rw[h,List.count_flatMap,List.map_map];rfl
theorem a0c:∀ {l:List Nat},(∀m∈l,m=0)→l.sum=0
 |[],_=>rfl
 |m::l,h=>by rw[List.sum_cons,h m (by simp),a0c fun n hn=>h n (by simp [hn])]
def a0d(ns:List Nd):Prop:=(∀i:Nat,i<ns.length→Cb ns i=true)∧∀i:Nat,i<ns.length-1→(BR ns).count (i:Int)=1
theorem a0e{ns:List Nd}(h:a0d ns)(h0:1≤ns.length):∀n:Nat,(WL ns n [(ns.length:Int)-1]).Nodup∧∀p∈WL ns n [(ns.length:Int)-1],0≤p∧p<ns.length
 |0=>⟨List.nodup_nil,fun p hp=>by cases hp⟩
 |n+1=>by
  obtain⟨ih1,ih2⟩:=a0e h h0 n
  rw[a8x]
  have hk:∀p∈WL ns n [(ns.length:Int)-1],∀c∈Fh ns p,0≤c∧c<p:=by
   intro p hp c hc
   have h2:=ih2 p hp
   have h3:=h.1 p.toNat (by omega)
   have e:((p.toNat:Nat):Int)=p:=by omega
   rw[e] at h3
   exact(FG h3).2.2.2.1 c hc
  refine⟨?_,?_⟩
  ·rw[List.nodup_iff_count]
   intro j
   rw[List.count_append,List.count_flatMap]
   by_cases hj:j=(ns.length:Int)-1
   ·subst hj
    have:((WL ns n [(ns.length:Int)-1]).map (List.count ((ns.length:Int)-1)∘Fh ns)).sum=0:=by
     refine a0c fun m hm=> ?_
     obtain⟨p,hp,rfl⟩:=List.mem_map.1 hm
     simp only[Function.comp]
     rw[List.count_eq_zero]
     intro hc
     have:=hk p hp _ hc
     have:=ih2 p hp
     omega
    rw[this];simp
   ·have h1:List.count j [(ns.length:Int)-1]=0:=by
     rw[List.count_eq_zero];simpa using hj
    have h2:=QR (fun p=>(Fh ns p).count j) ns.length _ ih1 ih2
    rw[←a8A] at h2
    have h3:(BR ns).count j≤1:=by
     by_cases hr:0≤j∧j<ns.length
     ·have:=h.2 j.toNat (by omega)
      rw[show((j.toNat:Nat):Int)=j by omega] at this;omega
     ·have:(BR ns).count j=0:=by
       rw[List.count_eq_zero]
       intro hm
       obtain⟨y,hy,hc⟩:=List.mem_flatMap.1 hm
       obtain⟨i,hi⟩:=List.mem_iff_getElem?.1 hy
       have hlt:=(EK hi).1
       have:=(FG (h.1 i hlt)).2.2.2.1 j
       rw[Bz (c:=(i:Int)) (by simpa using hi)] at this
       have:=this hc
       omega
      omega
    rw[h1]
    have e:(List.count j∘Fh ns)=fun p=>(Fh ns p).count j:=rfl
    rw[e];omega
  ·intro p hp
   rcases List.mem_append.1 hp with hp|hp
   ·simp at hp;omega
   ·obtain⟨q,hq,hc⟩:=List.mem_flatMap.1 hp
    have:=hk q hq p hc
    have:=ih2 q hq
    omega
theorem JU{ns:List Nd}(h:BO ns=true):a0d ns∧1≤ns.length∧ns.length≤300∧Iv ns ((ns.length:Int)-1):=by
 simp only[BO,Bool.and_eq_true,decide_eq_true_eq,Bool.not_eq_true',decide_eq_false_iff_not,List.all_eq_true,List.mem_range] at h
 have hu:=a8w h.2.2.1
 refine⟨⟨fun i hi=>hu.2 i (by omega),fun i hi=> ?_⟩,h.1.1,h.1.2,hu⟩
 exact h.2.2.2 i hi
theorem a8B{ns:List Nd}{n:Nat}(h:BO ns=true):(vis ns n ((ns.length:Int)-1)).length≤300:=by
 obtain⟨h1,h2,h3,_⟩:=JU h
 have e:= @a0a ns n [(ns.length:Int)-1]
 simp only[List.flatMap_cons,List.flatMap_nil,List.append_nil] at e
 rw[e]
 have:=a0e h1 h2 n
 have:=a8y this.1 this.2
 omega
def Li(ns:List Nd)(n:Nat)(l:List Int):Nat:=(l.flatMap (vis ns n)).length
theorem a0f{ns:List Nd}{n:Nat}{k:Int}:(vis ns (n+1) k).length=1+Li ns n (Fh ns k):=by rw[vis,List.length_cons,Li];omega
theorem a0g{ns:List Nd}{n:Nat}{c:Int}{l:List Int}:Li ns n (c::l)=(vis ns n c).length+Li ns n l:=by simp [Li]
structure Sg where
 kind:Int
 text:List UInt8
 pos:Int
 blank:Bool
def sgA:Sg→List AV:=fun s=>[.int .i64 s.kind,.str s.text,.int .i64 s.pos,.bool s.blank]
theorem Bv(s:Sg):sgA s=[.int .i64 s.kind,.str s.text,.int .i64 s.pos,.bool s.blank]:=rfl
def sgs(l:List Sg):AV:= .sl false 0 4 Sg sgA l
def Ad(l:List Sg):AV:= .sl true 0 4 Sg sgA l
def sg0(k:Int)(t:List UInt8):Sg:=⟨k,t,0,false⟩
def mkS(t:List UInt8):Sg:=sg0 4 t
def wdS(t:List UInt8):Sg:=sg0 1 t
def Bb(f:Int→List Sg)(m:List UInt8):List Int→List Sg
 |[]=>[]
 |c::l=>f c++l.flatMap fun d=>mkS m::f d
def kd(x:Nd)(i:Nat):Int:=x.kids.getD i 0
def Bo(f:Int→List Sg)(x:Nd):List Sg:=
 if x.kind=1 then [wdS x.text]
 else if x.kind=2 then [sg0 2 x.text]
 else if x.kind=3 then [sg0 3 x.text]
 else if x.kind=4 then [mkS [91]]++Bb f [44] x.kids++[mkS [93]]
 else if x.kind=5 then f (kd x 0)++[mkS [40]]++Bb f [44] (x.kids.drop 1)++[mkS [41]]
 else if x.kind=6 then f (kd x 0)++[mkS [46]]++[wdS x.text]
 else if x.kind=7 then Bb f x.text x.kids
 else if x.kind=8 then f (kd x 0)++[mkS [63]]++f (kd x 1)++[mkS [58]]++f (kd x 2)
 else if x.kind=9 then [mkS [40]]++Bb f [44] (x.kids.take (x.kids.length-1))++[mkS [41],mkS [61,62]]++f (kd x (x.kids.length-1))
 else if x.kind=10 then Bb f [46,46] x.kids
 else if x.kind=11 then [mkS [40]]++f (kd x 0)++[mkS [41]]
 else if x.kind=12 then [wdS [118,97,114]]++[wdS x.text]++(if 0<x.kids.length then [mkS [61]] else [])++x.kids.flatMap f++[mkS [59]]
 else if x.kind=13 then [wdS x.text]++(if 0<x.kids.length then [mkS [61]] else [])++x.kids.flatMap f++[mkS [59]]
 else if x.kind=14 then x.kids.flatMap f++[mkS [59]]
 else if x.kind=15 then [wdS [114,101,116,117,114,110]]++x.kids.flatMap f++[mkS [59]]
 else if x.kind=16 then [wdS [105,102]]++[mkS [40]]++f (kd x 0)++[mkS [41]]++f (kd x 1)++(if x.kids.length=3 then [wdS [101,108,115,101]]++f (kd x 2) else [])
 else if x.kind=17 then [wdS [119,104,105,108,101]]++[mkS [40]]++f (kd x 0)++[mkS [41]]++f (kd x 1)
 else if x.kind=18 then [mkS [123]]++x.kids.flatMap f++[mkS [125]]
 else if x.kind=19 then [sg0 5 x.text]
 else if x.kind=20 then [wdS x.text]++[mkS [40]]++Bb f [44] (x.kids.take (x.kids.length-1))++[mkS [41]]++f (kd x (x.kids.length-1))
 else if x.kind=21 then [wdS [99,108,97,115,115]]++[wdS x.text]++[mkS [123]]++x.kids.flatMap f++[mkS [125]]
 else x.kids.flatMap f
def Az(ns:List Nd):Nat→Int→List Sg
 |0,_=>[]
 |n+1,k=>Bo (Az ns n) (Aj ns k)
def fl(f:Int→List Sg)(l:List Int):Nat:=(l.flatMap f).length
theorem OE{f:Int→List Sg}{c:Int}{l:List Int}:fl f (c::l)=(f c).length+fl f l:=by simp [fl]
theorem a8C{f:Int→List Sg}{l m:List Int}:fl f (l++m)=fl f l+fl f m:=by simp [fl]
theorem UW{f:Int→List Sg}{m:List UInt8}{l:List Int}:(Bb f m l).length≤fl f l+l.length:=by
 cases l with
 |nil=>simp [Bb,fl]
 |cons c l=>
  have:∀l:List Int,(l.flatMap fun d=>mkS m::f d).length=fl f l+l.length:=by
   intro l
   induction l with
   |nil=>rfl
   |cons d l ih=>rw[List.flatMap_cons,List.length_append,ih,OE];simp;omega
  rw[Bb,List.length_append,this,OE];simp;omega
theorem MR{x:Nd}{i:Nat}{c:Int}(h:x.kids[i]? =some c):kd x i=c:=by simp [kd,List.getD,h]
theorem JV{ns:List Nd}{k:Int}(h:Iv ns k):(1≤(Aj ns k).kind∧(Aj ns k).kind≤22)∧(CM (Aj ns k).kind).1≤(Aj ns k).kids.length∧(Aj ns k).kids.length≤(CM (Aj ns k).kind).2:=by
 have h1:=FG (MQ h)
 have hk:=h1.2.2.2.2.2.1
 have hin:inn (Aj ns k).kind 1 22=true:=by
  cases hh:inn (Aj ns k).kind 1 22
  ·rw[Zg hh] at hk;cases hk
  ·rfl
 have h2:=Iq.1 hin
 have hb:=Zf (l:=(Aj ns k).kids.map (BQ ns)) h2.1 h2.2
 rw[hk] at hb
 have hl:decide (((Aj ns k).kids.map (BQ ns)).length≤12)=true:=decide_eq_true (by rw[List.length_map];exact h1.2.1)
 rw[hl] at hb
 simp only[Bool.and_true,Bool.and_eq_true,List.length_map] at hb
 exact⟨h2,Iq.1 hb.1⟩
theorem UX{f:Int→List Sg}{b:Nat}:∀ {l:List Int},(∀c∈l,(f c).length≤b)→fl f l≤l.length*b
 |[],_=>by simp [fl]
 |c::l,h=>by
  have h1:=h c (by simp)
  have h2:=UX (l:=l) fun d hd=>h d (by simp [hd])
  rw[OE,List.length_cons,Nat.succ_mul];omega
set_option maxHeartbeats 2000000 in
theorem a8D{f:Int→List Sg}{x:Nd}(hl:(CM x.kind).1≤x.kids.length∧x.kids.length≤(CM x.kind).2):(Bo f x).length≤5+x.kids.length+fl f x.kids:=by
 have hs:∀m l,(Bb f m l).length≤fl f l+l.length:=fun m l=>UW
 have hlast:∀l:List Int,1≤l.length→fl f (l.take (l.length-1))+(f (l.getD (l.length-1) 0)).length=fl f l:=by
  intro l h
  have e:l.drop (l.length-1)=[l.getD (l.length-1) 0]:=by
   have hi:l.length-1<l.length:=by omega
   rw[List.drop_eq_getElem_cons hi,List.drop_of_length_le (by omega)]
   simp [List.getD,List.getElem?_eq_getElem hi]
  have:=a8C (f:=f) (l:=l.take (l.length-1)) (m:=l.drop (l.length-1))
  rw[List.take_append_drop,e] at this
  rw[this];simp [fl]
 obtain⟨k,t,ks,b⟩:=x
 have hfm:(ks.flatMap f).length=fl f ks:=rfl
 have hc0:∀c l,fl f (c::l)=(f c).length+fl f l:=fun c l=>OE
 have hk1:∀a:Sg,[a].length=1:=fun _=>rfl
 have key:∀(m:List Sg),(m.length≤5+ks.length+fl f ks)→m.length≤5+(Nd.mk k t ks b).kids.length+fl f (Nd.mk k t ks b).kids:=fun m h=>h
 unfold Bo
 simp only[kd]
 refine key _ ?_
 have hcase:k=1∨k=2∨k=3∨k=4∨k=5∨k=6∨k=7∨k=8∨k=9∨k=10∨k=11∨k=12∨k=13∨k=14∨k=15∨k=16∨k=17∨k=18∨k=19∨k=20∨k=21∨(k≠1∧k≠2∧k≠3∧k≠4∧k≠5∧k≠6∧k≠7∧k≠8∧k≠9∧k≠10∧k≠11∧k≠12∧k≠13∧k≠14∧k≠15∧k≠16∧k≠17∧k≠18∧k≠19∧k≠20∧k≠21):=by omega
 have hite:∀p:Prop,[Decidable p]→∀a:Sg,(if p then [a] else []).length≤1:=fun p _ a=>by split<;>simp
 have h12:=hite (0<ks.length) (mkS [61])
 rcases hcase with rfl|rfl|rfl|rfl|rfl|rfl|rfl|rfl|rfl|rfl|rfl|rfl|rfl|rfl|rfl|rfl|rfl|rfl|rfl|rfl|rfl|ho
 all_goals try simp only[ho]
 all_goals simp only[CM,Int.reduceEq,or_self,or_false,false_or,or_true,true_or,if_true,if_false,reduceIte] at hl ⊢
 all_goals first
  |(simp only[List.length_append,List.length_cons,List.length_nil,hfm];omega)
  |(have h7:=hs t ks;have h10:=hs [46,46] ks;omega)
  |(by_cases h3:ks.length=3
    ·match ks,h3 with
     |[a,b,c],_=>have:=hc0 a [b,c];have:=hc0 b [c];have:=hc0 c [];simp only[List.length_append,List.length_cons,List.length_nil,List.getD_cons_zero,List.getD_cons_succ,if_true,reduceIte];omega
    ·rw[if_neg h3]
     match ks,hl with
     |[],hl=>simp at hl
     |[a],hl=>simp at hl
     |a::b::l,_=>have:=hc0 a (b::l);have:=hc0 b l;simp only[List.length_append,List.length_cons,List.length_nil,List.getD_cons_zero,List.getD_cons_succ];omega)
  |(have h4:=hs [44] ks;have h7:=hs t ks;have h10:=hs [46,46] ks;simp only[List.length_append,List.length_cons,List.length_nil];omega)
  |(match ks,hl with
   |[],hl=>simp at hl
   |c::l,_=>have h5:=hs [44] l;have:=hc0 c l;simp only[List.length_append,List.length_cons,List.length_nil,List.getD_cons_zero,List.drop_succ_cons,List.drop_zero];omega)
  |(match ks,hl with
   |[],hl=>simp at hl
   |[a],hl=>simp at hl
   |a::b::l,_=>have:=hc0 a (b::l);have:=hc0 b l;simp only[List.length_append,List.length_cons,List.length_nil,List.getD_cons_zero,List.getD_cons_succ];omega)
  |(match ks,hl with
   |[],hl=>simp at hl
   |[a],hl=>simp at hl
   |[a,b],hl=>first|(simp at hl;done)|(exfalso;simp at*;done)|(have:=hc0 a [b];have:=hc0 b [];simp only[List.length_append,List.length_cons,List.length_nil,List.getD_cons_zero,List.getD_cons_succ];omega)
   |a::b::c::l,_=>have:=hc0 a (b::c::l);have:=hc0 b (c::l);have:=hc0 c l;simp only[List.length_append,List.length_cons,List.length_nil,List.getD_cons_zero,List.getD_cons_succ];omega)
  |(have h1:1≤ks.length:=by omega
    have h9:=hs [44] (ks.take (ks.length-1));have:=hlast ks h1
    have ht:(ks.take (ks.length-1)).length≤ks.length:=by rw[List.length_take];omega
    simp only[List.length_append,List.length_cons,List.length_nil];omega)
  |skip
theorem a0h{ns:List Nd}:∀ {n:Nat} {k:Int},Iv ns k→k<n→(Az ns n k).length≤18*(vis ns n k).length
 |0,k,h,hk=>by have:=CR.1 h.1;omega
 |n+1,k,h,hk=>by
  rw[Az,a0f]
  have h1:=a8D (f:=Az ns n) (JV h).2
  have h2:=(FG (MQ h)).2.1
  have h3:∀l:List Int,(∀c∈l,c∈(Aj ns k).kids)→fl (Az ns n) l≤18*Li ns n l:=by
   intro l
   induction l with
   |nil=>intro _;simp [fl]
   |cons c l ih=>
    intro hl
    have hm:=QQ h (hl c (by simp))
    have h4:=a0h (n:=n) (k:=c) hm.1 (by omega)
    have h5:=ih fun d hd=>hl d (by simp [hd])
    rw[OE,a0g];omega
  have h4:=h3 _ (fun c hc=>hc)
  simp only[Fh];omega
def Dn(t:List UInt8):Nat→Int→Int→Option (List Sg)
 |0,_,_=>none
 |n+1,at_,br=>match t[at_.toNat]? with
  |none=>some []
  |some c=>if c.toNat=32 then Dn t n (at_+1) br
   else if c.toNat=10 then Dn t n (at_+1) (br+1)
   else if(Be (t.drop at_.toNat)).ok then(Dn t n (at_+(Be (t.drop at_.toNat)).size) 0).map (⟨(Be (t.drop at_.toNat)).kind,(Be (t.drop at_.toNat)).text,at_,decide (br>1)⟩:: ·)
   else none
def Cj(t:List UInt8):Option (List Sg):=if 3000<t.length then none else Dn t (t.length+1) 0 0
structure Ps where
 pos:Int
 deep:Int
 nodes:List Nd
abbrev PR:=Option (Int×Ps)
abbrev PL:=Option (List Int×Ps)
def Es:Sg:=⟨0,[],0,false⟩
def sgO(sg:List Sg)(i:Int):Sg:=sg.getD i.toNat Es
def isT(sg:List Sg)(s:Ps)(k:Int)(t:List UInt8):Bool:=decide ((sgO sg s.pos).kind=k)&&((sgO sg s.pos).text==t)
def isM(sg:List Sg)(s:Ps)(t:List UInt8):Bool:=isT sg s 4 t
def isW(sg:List Sg)(s:Ps)(t:List UInt8):Bool:=isT sg s 1 t
def Cv(sg:List Sg)(i:Int):Bool:=decide ((sgO sg i).kind=1)&& !kw (sgO sg i).text
def adv(s:Ps):Ps:=⟨s.pos+1,s.deep,s.nodes⟩
def dp(s:Ps)(d:Int):Ps:=⟨s.pos,s.deep+d,s.nodes⟩
def BB(sg:List Sg)(t:List UInt8)(s:Ps):Option Ps:=if isM sg s t then some (adv s) else none
def Bc(x:Nd)(s:Ps):PR:=if 300≤s.nodes.length then none else some (s.nodes.length,⟨s.pos,s.deep,s.nodes++[x]⟩)
def Eb(r:PR):PR:=r.map fun p=>(p.1,adv p.2)
def Et(sg:List Sg)(k:Int)(b:Bool)(s:Ps):PR:=Eb (Bc ⟨k,(sgO sg s.pos).text,[],b⟩ s)
def BN(sg:List Sg)(s:Ps):PR:=if Cv sg s.pos then Et sg 1 false s else none
def Eu(sg:List Sg)(s:Ps):Option (List UInt8×Ps):=if Cv sg s.pos then some ((sgO sg s.pos).text,adv s) else none
def Bm(sg:List Sg)(m:List UInt8)(x:Nd)(s:Ps):PR:=if isM sg s m then Eb (Bc x s) else none
def Bs(sg:List Sg)(one:Ps→PR)(m:List UInt8):Nat→List Int→Ps→PL
 |0,_,_=>none
 |n+1,ks,s=>if isM sg s m then some (ks,s) else(one s).bind fun p=>if isM sg p.2 [44] then Bs sg one m n (ks++[p.1]) (adv p.2) else some (ks++[p.1],p.2)
def Da(sg:List Sg):Nat→Int→Int
 |0,i=>i
 |n+1,i=>if Cv sg i then(if(sgO sg (i+1)).text=[44] then Da sg n (i+2) else i+1) else i
def Gg(sg:List Sg)(s:Ps):Bool:=((sgO sg (Da sg (sg.length+1) (s.pos+1))).text==[41])&&((sgO sg (Da sg (sg.length+1) (s.pos+1)+1)).text==[61,62])
def BI(l:Nat):List (List UInt8):=match l with
 |0=>[[124,124]]
 |1=>[[38,38]]
 |2=>[[61,61]]
 |3=>[[60]]
 |4=>[[43],[45]]
 |_=>[[42]]
def Ec(sg:List Sg)(l:Nat)(s:Ps):List UInt8:=((BI l).find? fun m=>isM sg s m).getD []
def EM(sg:List Sg)(l:Nat)(one:Ps→PR):Nat→List UInt8→List Int→Ps→PR
 |0,_,_,_=>none
 |n+1,t,ks,s=>
  if t≠[]∧Ec sg l s≠t then(Bc ⟨7,t,ks,false⟩ s).bind fun p=>EM sg l one n [] [p.1] p.2
  else if Ec sg l s=[] then some (ks.headD 0,s)
  else(one (adv s)).bind fun p=>EM sg l one n (Ec sg l s) (ks++[p.1]) p.2
def Cy(sg:List Sg)(val:Ps→PR)(k:Int)(s:Ps):PR:=(BB sg [40] s).bind fun s=>(Bs sg val [41] (sg.length+1) [k] s).bind fun p=>Bm sg [41] ⟨5,[],p.1,false⟩ p.2
def Ed(sg:List Sg)(val:Ps→PR):Nat→Int→Ps→PR
 |0,_,_=>none
 |n+1,k,s=>
  if isM sg s [40] then(Cy sg val k s).bind fun p=>Ed sg val n p.1 p.2
  else if isM sg s [46] then(if Cv sg (s.pos+1) then(Eb (Bc ⟨6,(sgO sg (s.pos+1)).text,[k],false⟩ (adv s))).bind fun p=>Ed sg val n p.1 p.2 else none)
  else some (k,s)
def Ee(sg:List Sg)(val:Ps→PR):Nat→List Int→Ps→PL
 |0,_,_=>none
 |n+1,ks,s=>if isM sg s [46,46] then(BN sg (adv s)).bind fun p=>(Cy sg val p.1 p.2).bind fun q=>Ee sg val n (ks++[q.1]) q.2 else some (ks,s)
inductive NT where
 |value|pick|chain (l:Nat)|fin|base
def pE(sg:List Sg):Nat→NT→Ps→PR
 |0,_,_=>none
 |n+1,.value,s=>(pE sg n .pick s).bind fun p=>if isM sg p.2 [46,46] then(Ee sg (pE sg n .value) (sg.length+1) [p.1] p.2).bind fun q=>Bc ⟨10,[],q.1,false⟩ q.2 else some p
 |n+1,.pick,s=>if 20≤s.deep then none else(pE sg n (.chain 0) (dp s 1)).bind fun p=>
   if isM sg p.2 [63] then(pE sg n .pick (adv p.2)).bind fun a=>(BB sg [58] a.2).bind fun s1=>(pE sg n .pick s1).bind fun b=>(Bc ⟨8,[],[p.1,a.1,b.1],false⟩ b.2).map fun q=>(q.1,dp q.2 (-1))
   else some (p.1,dp p.2 (-1))
 |n+1,.chain l,s=>if l=6 then pE sg n .fin s else(pE sg n (.chain (l+1)) s).bind fun p=>EM sg l (pE sg n (.chain (l+1))) (2*sg.length+4) [] [p.1] p.2
 |n+1,.fin,s=>(pE sg n .base s).bind fun p=>Ed sg (pE sg n .value) (sg.length+1) p.1 p.2
 |n+1,.base,s=>
  if(sgO sg s.pos).kind=1 then BN sg s
  else if(sgO sg s.pos).kind=2 then Et sg 2 false s
  else if(sgO sg s.pos).kind=3 then Et sg 3 false s
  else if isM sg s [91] then(Bs sg (pE sg n .value) [93] (sg.length+1) [] (adv s)).bind fun p=>Bm sg [93] ⟨4,[],p.1,false⟩ p.2
  else if isM sg s [40]&&Gg sg s then(Bs sg (BN sg) [41] (sg.length+1) [] (adv s)).bind fun p=>(BB sg [41] p.2).bind fun s1=>(BB sg [61,62] s1).bind fun s2=>(pE sg n .pick s2).bind fun q=>Bc ⟨9,[],p.1++[q.1],false⟩ q.2
  else if isM sg s [40] then(pE sg n .value (adv s)).bind fun p=>Bm sg [41] ⟨11,[],[p.1],false⟩ p.2
  else none
def peN:Nat:=40000
def Cg(sg:List Sg):Ps→PR:=pE sg peN .value
def CW(sg:List Sg)(b:Bool)(s:Ps):PR:=(Eu sg s).bind fun p=>
 if isM sg p.2 [61] then(Cg sg (adv p.2)).bind fun q=>Bm sg [59] ⟨12,p.1,[q.1],b⟩ q.2 else Bm sg [59] ⟨12,p.1,[],b⟩ p.2
def Db(sg:List Sg)(s:Ps):PR:=(BB sg [40] s).bind fun s1=>(Cg sg s1).bind fun p=>(BB sg [41] p.2).map fun s2=>(p.1,s2)
def Cz(sg:List Sg)(one:Bool→Ps→PR)(m:List UInt8):Nat→List Int→Ps→PL
 |0,_,_=>none
 |n+1,ks,s=>if isM sg s m then some (ks,s) else(one ((sgO sg s.pos).blank&&decide (0<ks.length)) s).bind fun p=>Cz sg one m n (ks++[p.1]) p.2
def BC(sg:List Sg)(one:Bool→Ps→PR)(s:Ps):PR:=if 20≤s.deep then none else(BB sg [123] (dp s 1)).bind fun s1=>(Cz sg one [125] (sg.length+1) [] s1).bind fun p=>(Bm sg [125] ⟨18,[],p.1,false⟩ p.2).map fun q=>(q.1,dp q.2 (-1))
def stR(sg:List Sg):Nat→Bool→Ps→PR
 |0,_,_=>none
 |n+1,b,s=>
  if(sgO sg s.pos).kind=5 then Et sg 19 b s
  else if isW sg s [118,97,114] then CW sg b (adv s)
  else if isW sg s [114,101,116,117,114,110] then(if isM sg (adv s) [59] then Bm sg [59] ⟨15,[],[],b⟩ (adv s) else(Cg sg (adv s)).bind fun p=>Bm sg [59] ⟨15,[],[p.1],b⟩ p.2)
  else if isW sg s [105,102] then(Db sg (adv s)).bind fun p=>(BC sg (stR sg n) p.2).bind fun q=>
   if isW sg q.2 [101,108,115,101] then(BC sg (stR sg n) (adv q.2)).bind fun r=>Bc ⟨16,[],[p.1,q.1,r.1],b⟩ r.2 else Bc ⟨16,[],[p.1,q.1],b⟩ q.2
  else if isW sg s [119,104,105,108,101] then(Db sg (adv s)).bind fun p=>(BC sg (stR sg n) p.2).bind fun q=>Bc ⟨17,[],[p.1,q.1],b⟩ q.2
  else if Cv sg s.pos&&isM sg (adv s) [61] then(Cg sg (adv (adv s))).bind fun p=>Bm sg [59] ⟨13,(sgO sg s.pos).text,[p.1],b⟩ p.2
  else(Cg sg s).bind fun p=>Bm sg [59] ⟨14,[],[p.1],b⟩ p.2
def stN:Nat:=30
def EN(sg:List Sg):Ps→PR:=BC sg (stR sg stN)
def Ef(sg:List Sg)(b:Bool)(s:Ps):PR:=(Eu sg s).bind fun p=>(BB sg [40] p.2).bind fun s1=>(Bs sg (BN sg) [41] (sg.length+1) [] s1).bind fun q=>(BB sg [41] q.2).bind fun s2=>(EN sg s2).bind fun r=>Bc ⟨20,p.1,q.1++[r.1],b⟩ r.2
def CJ(sg:List Sg)(b:Bool)(s:Ps):PR:=
 if(sgO sg s.pos).kind=5 then Et sg 19 b s else if isW sg s [118,97,114] then CW sg b (adv s) else Ef sg b s
def Gh(sg:List Sg)(b:Bool)(s:Ps):PR:=(Eu sg s).bind fun p=>(BB sg [123] p.2).bind fun s1=>(Cz sg (CJ sg) [125] (sg.length+1) [] s1).bind fun q=>Bm sg [125] ⟨21,p.1,q.1,b⟩ q.2
def CN(sg:List Sg)(b:Bool)(s:Ps):PR:=
 if(sgO sg s.pos).kind=5 then Et sg 19 b s else if isW sg s [118,97,114] then CW sg b (adv s) else if isW sg s [99,108,97,115,115] then Gh sg b (adv s) else Ef sg b s
def Hh(sg:List Sg):Nat→List Int→List (Int×Int)→Ps→Option ((List Int×List (Int×Int))×Ps)
 |0,_,_,_=>none
 |n+1,ks,ms,s=>if s.pos<sg.length then(CN sg ((sgO sg s.pos).blank&&decide (0<ks.length)) s).bind fun p=>Hh sg n (ks++[p.1]) (ms++[(s.pos,p.2.pos)]) p.2 else some ((ks,ms),s)
def ps0:Ps:=⟨0,0,[]⟩
def FM(sg:List Sg):Option (List (Int×Int)×List Nd):=(Hh sg (sg.length+1) [] [] ps0).bind fun p=>(Bc ⟨22,[],p.1.1,false⟩ p.2).bind fun q=>if BO q.2.nodes then some (p.1.2,q.2.nodes) else none
def Cp(t:List UInt8):Option (List Nd):=(Cj t).bind fun sg=>(FM sg).map (·.2)
abbrev KT:=Int×List UInt8
def kt(x:Sg):KT:=(x.kind,x.text)
def cmK:KT:=(4,[44])
def Cx(x:KT):Bool:=x==(4,[41])||x==(4,[93])
def Lj:List KT→Bool
 |[]=>false
 |y::_=>Cx y
def Cc:List KT→List KT
 |[]=>[]
 |x::l=>if(x==cmK&&Lj l)=true then Cc l else x::Cc l
theorem UY{x:KT}:Cc [x]=[x]:=by simp [Cc,Lj]
theorem a0i{x:KT}{l:List KT}(h:x≠cmK):Cc (x::l)=x::Cc l:=by
 rw[Cc,if_neg (by simp [h])]
theorem QS:∀ {u v:List KT},u.getLast? ≠some cmK→Cc (u++v)=Cc u++Cc v
 |[],v,_=>rfl
 |[x],v,h=>by
  have hx:x≠cmK:=fun e=>h (by rw[e];rfl)
  rw[List.cons_append,List.nil_append,a0i hx,UY];rfl
 |x::y::u,v,h=>by
  have ih:=QS (u:=y::u) (v:=v) (by rw[List.getLast?_cons_cons] at h;exact h)
  have e1:∀l,Cc (x::y::l)=if(x==cmK&&Cx y)=true then Cc (y::l) else x::Cc (y::l):=fun l=>by rw[Cc];rfl
  rw[List.cons_append] at ih
  rw[List.cons_append,List.cons_append,e1,e1,ih]
  split<;>rfl
theorem a8E{v:List KT}(h:∀y l,v=y::l→Cx y=false):Cc (cmK::v)=cmK::Cc v:=by
 rw[Cc]
 cases v with
 |nil=>simp [Lj]
 |cons y l=>rw[Lj,h y l rfl];simp
theorem a8F{y:KT}{v:List KT}(h:Cx y=true):Cc (cmK::y::v)=Cc (y::v):=by
 rw[Cc,Lj,h];simp
def nCC:List KT→Prop
 |[]=>True
 |x::l=>¬(x=cmK∧l.head? =some cmK)∧nCC l
theorem QT:∀ {u v:List KT},nCC u→nCC v→u.getLast? ≠some cmK→nCC (u++v)
 |[],v,_,hv,_=>hv
 |[x],v,_,hv,h=>by
  refine⟨fun hx=>h (by rw[hx.1];rfl),hv⟩
 |x::y::u,v,hu,hv,h=>by
  have ih:=QT (u:=y::u) (v:=v) hu.2 hv (by rw[List.getLast?_cons_cons] at h;exact h)
  exact⟨fun hx=>hu.1 ⟨hx.1,by simpa using hx.2⟩,ih⟩
def DN(sg:List Sg)(a b:Int):List KT:=((sg.map kt).drop a.toNat).take (b-a).toNat
theorem Iw{sg:List Sg}{a b c:Int}(h0:0≤a)(h1:a≤b)(h2:b≤c):DN sg a b++DN sg b c=DN sg a c:=by
 unfold DN
 rw[show(c-a).toNat=(b-a).toNat+(c-b).toNat by omega,List.take_add,List.drop_drop,show a.toNat+(b-a).toNat=b.toNat by omega]
theorem UZ{sg:List Sg}{a:Int}:DN sg a a=[]:=by simp [DN]
def tkK(sg:List Sg)(i:Int):KT:=kt (sgO sg i)
theorem OF{sg:List Sg}{a:Int}(h0:0≤a)(h:a<sg.length):DN sg a (a+1)=[tkK sg a]:=by
 have hlt:a.toNat<sg.length:=by omega
 unfold DN tkK sgO
 rw[show(a+1-a).toNat=1 by omega,List.drop_eq_getElem_cons (by simpa using hlt)]
 simp [List.getD,List.getElem?_eq_getElem hlt]
theorem Hi{sg:List Sg}{a:Int}(h:(tkK sg a).1≠0)(h0:0≤a):a<sg.length:=by
 rcases Int.lt_or_le a sg.length with hh|hh
 ·exact hh
 ·exfalso;apply h
  unfold tkK kt sgO
  rw[List.getD,List.getElem?_eq_none (by omega)];rfl
theorem MS{sg:List Sg}{a b:Int}(h0:0≤a)(h1:a<b)(h2:b≤sg.length):DN sg a b=tkK sg a::DN sg (a+1) b:=by
 rw[←Iw (b:=a+1) h0 (by omega) (by omega),OF h0 (by omega)];rfl
structure Sgm (sg:List Sg) (a b:Int) (w:List KT):Prop where
 h0:0≤a
 hab:a≤b
 hb:b≤sg.length
 hw:Cc (DN sg a b)=w
 hl:(DN sg a b).getLast?≠some cmK
 hc:nCC (DN sg a b)
theorem Sgm.nil{sg:List Sg}{a:Int}(h0:0≤a)(h:a≤sg.length):Sgm sg a a []:=⟨h0,Int.le_refl a,h,by rw[UZ];rfl,by rw[UZ];simp,by rw[UZ];trivial⟩
theorem Sgm.app{sg:List Sg}{a b c:Int}{w v:List KT}(h:Sgm sg a b w)(g:Sgm sg b c v):Sgm sg a c (w++v):=by
 refine⟨h.h0,by have:=h.hab;have:=g.hab;omega,g.hb,?_,?_,by rw[←Iw h.h0 h.hab g.hab];exact QT h.hc g.hc h.hl⟩
 ·rw[←Iw h.h0 h.hab g.hab,QS h.hl,h.hw,g.hw]
 ·rw[←Iw h.h0 h.hab g.hab,List.getLast?_append]
  cases hh:(DN sg b c).getLast? with
  |none=>simpa using h.hl
  |some x=>have:=g.hl;rw[hh] at this;simpa using this
theorem Sgm.tok{sg:List Sg}{a:Int}{t:KT}(h0:0≤a)(ht:tkK sg a=t)(h1:t.1≠0)(h2:t≠cmK):Sgm sg a (a+1) [t]:=by
 have hl:=Hi (by rw[ht];exact h1) h0
 refine⟨h0,by omega,by omega,?_,?_,by rw[OF h0 hl,ht];exact⟨by simp,trivial⟩⟩
 ·rw[OF h0 hl,ht,UY]
 ·rw[OF h0 hl,ht];simpa using h2
theorem Sgm.cons{sg:List Sg}{a b:Int}{t:KT}{v:List KT}(h0:0≤a)(ht:tkK sg a=t)(h1:t.1≠0)(h2:t≠cmK)(g:Sgm sg (a+1) b v):Sgm sg a b (t::v):=(Sgm.tok h0 ht h1 h2).app g
theorem Sgm.snoc{sg:List Sg}{a b:Int}{t:KT}{w:List KT}(h:Sgm sg a b w)(ht:tkK sg b=t)(h1:t.1≠0)(h2:t≠cmK):Sgm sg a (b+1) (w++[t]):=h.app (Sgm.tok (by have:=h.h0;have:=h.hab;omega) ht h1 h2)
theorem Sgm.comma{sg:List Sg}{a b c:Int}{w v:List KT}(h:Sgm sg a b w)(ht:tkK sg b=cmK)(g:Sgm sg (b+1) c v)(hlt:b+1<c)(hn:Cx (tkK sg (b+1))=false)(hn2:tkK sg (b+1)≠cmK):Sgm sg a c (w++cmK::v):=by
 have h0:=h.h0;have h1:=h.hab;have g1:=g.hab;have g2:=g.hb
 have e:DN sg b c=cmK::DN sg (b+1) c:=by rw[MS (by omega) (by omega) g2,ht]
 refine⟨h0,by omega,g2,?_,?_,?_⟩
 ·rw[←Iw h0 h1 (by omega:b≤c),QS h.hl,h.hw,e,a8E ?_,g.hw]
  intro y l hy
  rw[MS (by omega) hlt g2] at hy
  cases hy;exact hn
 ·rw[←Iw h0 h1 (by omega:b≤c),e,List.getLast?_append]
  have:(cmK::DN sg (b+1) c).getLast?=(DN sg (b+1) c).getLast?:=by
   rw[MS (by omega) hlt g2,List.getLast?_cons_cons]
  rw[this]
  cases hh:(DN sg (b+1) c).getLast? with
  |none=>rw[MS (by omega) hlt g2] at hh;simp at hh
  |some x=>have:=g.hl;rw[hh] at this;simpa using this
 ·rw[←Iw h0 h1 (by omega:b≤c),e]
  refine QT h.hc ⟨?_,g.hc⟩ h.hl
  rw[MS (by omega) hlt g2]
  rintro⟨_,h2⟩
  exact hn2 (by simpa using h2)
theorem Sgm.spare{sg:List Sg}{a b:Int}{w:List KT}{t:KT}(h:Sgm sg a b w)(ht:tkK sg b=cmK)(hc:tkK sg (b+1)=t)(hn:Cx t=true):Sgm sg a (b+1+1) (w++[t]):=by
 have h0:=h.h0;have h1:=h.hab
 have ht1:t.1≠0∧t≠cmK:=by
  simp only[Cx,Bool.or_eq_true,beq_iff_eq] at hn
  rcases hn with rfl|rfl<;>exact⟨by decide,by decide⟩
 have hl:=Hi (sg:=sg) (a:=b+1) (by rw[hc];exact ht1.1) (by omega)
 have e:DN sg b (b+1+1)=[cmK,t]:=by rw[MS (by omega) (by omega) (by omega),OF (by omega) hl,ht,hc]
 refine⟨h0,by omega,by omega,?_,?_,by rw[←Iw h0 h1 (by omega:b≤b+1+1),e];exact QT h.hc ⟨by simpa using ht1.2,by simp,trivial⟩ h.hl⟩
 ·rw[←Iw h0 h1 (by omega:b≤b+1+1),QS h.hl,h.hw,e,a8F hn,UY]
 ·rw[←Iw h0 h1 (by omega:b≤b+1+1),e,List.getLast?_append]
  simpa using ht1.2
def flS(ns:List Nd):List (List Sg):=ns.foldl (fun fs x=>fs++[Bo (fun c=>fs.getD c.toNat []) x]) []
def flG(ns:List Nd)(c:Int):List Sg:=(flS ns).getD c.toNat []
theorem a0j(ns:List Nd)(x:Nd):flS (ns++[x])=flS ns++[Bo (flG ns) x]:=by
 unfold flS;rw[List.foldl_append];rfl
theorem a0k(ns:List Nd):(flS ns).length=ns.length:=by
 have:∀(l:List Nd) (o:List (List Sg)),(l.foldl (fun fs x=>fs++[Bo (fun c=>fs.getD c.toNat []) x]) o).length=o.length+l.length:=by
  intro l
  induction l with
  |nil=>intro o;simp
  |cons x l ih=>intro o;rw[List.foldl_cons,ih];simp;omega
 simpa [flS] using this ns []
theorem QU{ns:List Nd}{x:Nd}:flG (ns++[x]) ns.length=Bo (flG ns) x:=by
 unfold flG
 rw[a0j,List.getD,show((ns.length:Nat):Int).toNat=(flS ns).length by rw[a0k];omega]
 rw[List.getElem?_append_right (Nat.le_refl _)];simp;rfl
theorem a8G{ns:List Nd}{x:Nd}{c:Int}(h:0≤c∧c<ns.length):flG (ns++[x]) c=flG ns c:=by
 unfold flG
 rw[a0j,List.getD,List.getElem?_append_left (by rw[a0k];omega)];rfl
def Ds(ns ns':List Nd):Prop:=∃e,ns'=ns++e
theorem MT{ns:List Nd}:Ds ns ns:=⟨[],by simp⟩
theorem CA{a b c:List Nd}(h:Ds a b)(g:Ds b c):Ds a c:=by
 obtain⟨e,rfl⟩:=h;obtain⟨f,rfl⟩:=g;exact⟨e++f,by simp⟩
theorem a8H{a b:List Nd}(h:Ds a b):a.length≤b.length:=by obtain⟨e,rfl⟩:=h;simp
theorem a0l:∀(e:List Nd) {ns:List Nd} {c:Int},0≤c∧c<ns.length→flG (ns++e) c=flG ns c
 |[],ns,c,h=>by simp
 |x::e,ns,c,h=>by
  have:=a0l e (ns:=ns++[x]) (c:=c) (by rw[List.length_append];simp;omega)
  rw[List.append_assoc] at this
  simp only[List.singleton_append] at this
  rw[this,a8G h]
theorem Lk{ns ns':List Nd}{c:Int}(h:Ds ns ns')(hc:0≤c∧c<ns.length):flG ns' c=flG ns c:=by
 obtain⟨e,rfl⟩:=h;exact a0l e hc
def inN(ns:List Nd)(c:Int):Prop:=0≤c∧c<ns.length
theorem OG{a b:List Nd}{c:Int}(h:Ds a b)(hc:inN a c):inN b c:=by have:=a8H h;exact⟨hc.1,by have:=hc.2;omega⟩
theorem QV{f g:Int→List Sg}{m:List UInt8}{l:List Int}(h:∀c∈l,f c=g c):Bb f m l=Bb g m l:=by
 cases l with
 |nil=>rfl
 |cons c l=>
  rw[Bb,Bb,h c (by simp)]
  congr 1
  have:∀l:List Int,(∀c∈l,f c=g c)→(l.flatMap fun d=>mkS m::f d)=l.flatMap fun d=>mkS m::g d:=by
   intro l hl
   induction l with
   |nil=>rfl
   |cons d l ih=>rw[List.flatMap_cons,List.flatMap_cons,hl d (by simp),ih fun c hc=>hl c (by simp [hc])]
  exact this l fun d hd=>h d (by simp [hd])
theorem a0m{f:Int→List Sg}{m:List UInt8}{l:List Int}{c:Int}(h:l≠[]):Bb f m (l++[c])=Bb f m l++mkS m::f c:=by
 cases l with
 |nil=>exact(h rfl).elim
 |cons d l=>simp [Bb]
theorem JW{f:Int→List Sg}{m:List UInt8}{c:Int}:Bb f m [c]=f c:=by simp [Bb]
theorem a8I{f:Int→List Sg}{m:List UInt8}{c:Int}{l:List Int}(h:l≠[]):Bb f m (c::l)=f c++mkS m::Bb f m l:=by
 cases l with
 |nil=>exact(h rfl).elim
 |cons d l=>simp [Bb]
def txN(ns:List Nd)(k:Int):List KT:=(flG ns k).map kt
structure RV (sg:List Sg) (s:Ps) (p:Int×Ps):Prop where
 lt:s.pos<p.2.pos
 sm:Sgm sg s.pos p.2.pos (txN p.2.nodes p.1)
 hd:Cx (tkK sg s.pos)=false∧tkK sg s.pos≠cmK
 ex:Ds s.nodes p.2.nodes
 kn:inN p.2.nodes p.1
def OV(sg:List Sg)(one:Ps→PR):Prop:=∀s p,0≤s.pos→one s=some p→RV sg s p
theorem a0n{sg:List Sg}{s:Ps}{k:Int}{t:List UInt8}(h:isT sg s k t=true):tkK sg s.pos=(k,t):=by
 simp only[isT,Bool.and_eq_true,decide_eq_true_eq,beq_iff_eq] at h
 unfold tkK kt;rw[h.1,h.2]
theorem Gi{sg:List Sg}{s:Ps}{t:List UInt8}(h:isM sg s t=true):tkK sg s.pos=(4,t):=a0n h
theorem JX{sg:List Sg}{s:Ps}{t:List UInt8}(h:isW sg s t=true):tkK sg s.pos=(1,t):=a0n h
theorem MU{sg:List Sg}{i:Int}(h:Cv sg i=true):tkK sg i=(1,(sgO sg i).text):=by
 simp only[Cv,Bool.and_eq_true,decide_eq_true_eq] at h
 unfold tkK kt;rw[h.1]
theorem EO{sg:List Sg}{t:List UInt8}{s s':Ps}(h:BB sg t s=some s'):tkK sg s.pos=(4,t)∧s'=adv s:=by
 unfold BB at h;split at h
 ·exact⟨Gi ‹_›,(Option.some.inj h).symm⟩
 ·cases h
theorem Ft{x:Nd}{s:Ps}{p:Int×Ps}(h:Bc x s=some p):p=((s.nodes.length:Int),⟨s.pos,s.deep,s.nodes++[x]⟩):=by
 unfold Bc at h;split at h
 ·cases h
 ·exact(Option.some.inj h).symm
theorem OH{r:PR}{p:Int×Ps}(h:Eb r=some p):∃q,r=some q∧p=(q.1,adv q.2):=by
 unfold Eb at h;rw[Option.map_eq_some_iff] at h
 obtain⟨q,h1,h2⟩:=h;exact⟨q,h1,h2.symm⟩
theorem Fu{sg:List Sg}{m:List UInt8}{x:Nd}{s:Ps}{p:Int×Ps}(h:Bm sg m x s=some p):tkK sg s.pos=(4,m)∧p=((s.nodes.length:Int),⟨s.pos+1,s.deep,s.nodes++[x]⟩):=by
 unfold Bm at h;split at h
 ·obtain⟨q,h1,h2⟩:=OH h
  rw[Ft h1] at h2
  exact⟨Gi ‹_›,h2⟩
 ·cases h
theorem Eg{ns:List Nd}{x:Nd}:txN (ns++[x]) ns.length=(Bo (flG ns) x).map kt:=by unfold txN;rw[QU]
theorem Ix{ns ns':List Nd}{c:Int}(h:Ds ns ns')(hc:inN ns c):txN ns' c=txN ns c:=by unfold txN;rw[Lk h hc]
theorem DP{ns:List Nd}{x:Nd}:inN (ns++[x]) ns.length:=⟨by omega,by rw[List.length_append];simp;omega⟩
theorem DQ{ns:List Nd}{x:Nd}:Ds ns (ns++[x]):=⟨[x],rfl⟩
theorem MV{sg:List Sg}{k:Int}{b:Bool}{s:Ps}{p:Int×Ps}(kk:Int)(h0:0≤s.pos)(hk:(k=1∧kk=1)∨(k=2∧kk=2)∨(k=3∧kk=3)∨(k=19∧kk=5))(ht:(sgO sg s.pos).kind=kk)(h:Et sg k b s=some p):RV sg s p:=by
 obtain⟨q,h1,rfl⟩:=OH h
 rw[Ft h1]
 have e:tkK sg s.pos=(kk,(sgO sg s.pos).text):=by unfold tkK kt;rw[ht]
 have hkk:kk=1∨kk=2∨kk=3∨kk=5:=by omega
 refine⟨by show s.pos<s.pos+1;omega,?_,?_,DQ,DP⟩
 ·show Sgm sg s.pos (s.pos+1) (txN (s.nodes++[_]) s.nodes.length)
  rw[Eg]
  have:(Bo (flG s.nodes) ⟨k,(sgO sg s.pos).text,[],b⟩).map kt=[(kk,(sgO sg s.pos).text)]:=by
   rcases hk with⟨rfl,rfl⟩|⟨rfl,rfl⟩|⟨rfl,rfl⟩|⟨rfl,rfl⟩<;>simp [Bo,wdS,sg0,kt]
  rw[this]
  exact Sgm.tok h0 e (by show kk≠0;omega) (by intro hc;have:=congrArg Prod.fst hc;simp only[cmK] at this;omega)
 ·rw[e];rcases hkk with rfl|rfl|rfl|rfl<;>simp [Cx,cmK]
theorem Jb(sg:List Sg):OV sg (BN sg):=fun s p h0 h=>by
 unfold BN at h;split at h
 ·rename_i hn
  simp only[Cv,Bool.and_eq_true,decide_eq_true_eq] at hn
  exact MV 1 h0 (.inl ⟨rfl,rfl⟩) hn.1 h
 ·cases h
def LK(sg:List Sg)(m:List UInt8)(s s':Ps)(l:List Int):Prop:=
 (l=[]→s'=s)∧Ds s.nodes s'.nodes∧(∀c∈l,inN s'.nodes c)∧s.pos≤s'.pos∧Sgm sg s.pos (s'.pos+1) ((Bb (flG s'.nodes) [44] l).map kt++[(4,m)])∧(l≠[]→Cx (tkK sg s.pos)=false∧tkK sg s.pos≠cmK)
theorem Iy{sg:List Sg}{one:Ps→PR}(ho:OV sg one){m:List UInt8}(hm:Cx (4,m)=true):∀(n:Nat) (ks:List Int) (s:Ps) (ks':List Int) (s':Ps),0≤s.pos→Bs sg one m n ks s=some (ks',s')→tkK sg s'.pos=(4,m)→∃l,ks'=ks++l∧LK sg m s s' l
 |0,ks,s,ks',s',_,h,_=>by cases h
 |n+1,ks,s,ks',s',h0,h,ht=>by
  have hm1:(4,m)≠cmK:=by
   intro e;rw[e] at hm;simp [Cx,cmK] at hm
  unfold Bs at h
  split at h
  ·rename_i hc
   simp only[Option.some.injEq,Prod.mk.injEq] at h
   obtain⟨rfl,rfl⟩:=h
   exact⟨[],by simp,fun _=>rfl,MT,by simp,by omega,Sgm.tok h0 ht (by show(4:Int)≠0;decide) hm1,fun h=>(h rfl).elim⟩
  ·rename_i hc
   obtain⟨p,hp,h⟩:=Option.bind_eq_some_iff.1 h
   have hr:=ho s p h0 hp
   split at h
   ·rename_i hcm
    have hcm:=Gi hcm
    obtain⟨l,hl,k1,k2,k3,k4,k5,k6⟩:=Iy ho hm n (ks++[p.1]) (adv p.2) ks' s' (by show 0≤p.2.pos+1;have:=hr.lt;omega) h ht
    have kp:inN s'.nodes p.1:=OG k2 hr.kn
    have ep:txN p.2.nodes p.1=(flG s'.nodes p.1).map kt:=(Ix k2 hr.kn).symm
    have hsm:=hr.sm
    rw[ep] at hsm
    refine⟨p.1::l,by rw[hl];simp,by simp,CA hr.ex k2,?_,by have:=hr.lt;have:p.2.pos+1≤s'.pos:=k4;omega,?_,fun _=>hr.hd⟩
    ·intro c hc
     rcases List.mem_cons.1 hc with rfl|hc
     ·exact kp
     ·exact k3 c hc
    ·by_cases hn:l=[]
     ·subst hn
      have e:=k1 rfl
      subst e
      rw[JW]
      exact hsm.spare hcm ht hm
     ·rw[a8I hn,List.map_append,List.append_assoc]
      exact hsm.comma hcm k5 (by show p.2.pos+1<s'.pos+1;have:p.2.pos+1≤s'.pos:=k4;omega) (k6 hn).1 (k6 hn).2
   ·simp only[Option.some.injEq,Prod.mk.injEq] at h
    obtain⟨rfl,rfl⟩:=h
    refine⟨[p.1],rfl,by simp,hr.ex,by simpa using hr.kn,by have:=hr.lt;omega,?_,fun _=>hr.hd⟩
    rw[JW]
    exact hr.sm.snoc ht (by show(4:Int)≠0;decide) hm1
structure CV (sg:List Sg) (a:Int) (s:Ps) (p:Int×Ps):Prop where
 le:s.pos≤p.2.pos
 sm:Sgm sg a p.2.pos (txN p.2.nodes p.1)
 ex:Ds s.nodes p.2.nodes
 kn:inN p.2.nodes p.1
theorem Iz:Cx (4,[41])=true:=by decide
theorem Va:Cx (4,[93])=true:=by decide
theorem a0o{sg:List Sg}{val:Ps→PR}(ho:OV sg val){k a:Int}{s:Ps}{p:Int×Ps}(hs:Sgm sg a s.pos (txN s.nodes k))(hk:inN s.nodes k)(h:Cy sg val k s=some p):CV sg a s p:=by
 unfold Cy at h
 obtain⟨s1,h1,h3⟩:=Option.bind_eq_some_iff.1 h
 obtain⟨⟨ks,s2⟩,h2,h4⟩:=Option.bind_eq_some_iff.1 h3
 obtain⟨t1,rfl⟩:=EO h1
 obtain⟨t2,rfl⟩:=Fu h4
 have h0:0≤s.pos:=by have:=hs.h0;have:=hs.hab;omega
 obtain⟨l,rfl,k1,k2,k3,k4,k5,k6⟩:=Iy ho Iz _ _ _ _ _ (by show 0≤s.pos+1;omega) h2 t2
 simp only[adv] at k2 k4 k5
 refine⟨by show s.pos≤s2.pos+1;omega,?_,CA k2 DQ,DP⟩
 show Sgm sg a (s2.pos+1) (txN (s2.nodes++[_]) s2.nodes.length)
 rw[Eg]
 have e:(Bo (flG s2.nodes) ⟨5,[],[k]++l,false⟩).map kt=txN s.nodes k++((4,[40])::((Bb (flG s2.nodes) [44] l).map kt++[(4,[41])])):=by
  rw[←Ix k2 hk]
  simp [Bo,kd,txN,kt,mkS,sg0]
 rw[e]
 exact hs.app (Sgm.cons h0 t1 (by decide) (by decide) k5)
theorem Vb{sg:List Sg}{val:Ps→PR}(ho:OV sg val):∀(n:Nat) {k a:Int} {s:Ps} {p:Int×Ps},Sgm sg a s.pos (txN s.nodes k)→inN s.nodes k→Ed sg val n k s=some p→CV sg a s p
 |0,_,_,_,_,_,_,h=>by cases h
 |n+1,k,a,s,p,hs,hk,h=>by
  have h0:0≤s.pos:=by have:=hs.h0;have:=hs.hab;omega
  unfold Ed at h
  split at h
  ·obtain⟨q,h1,h⟩:=Option.bind_eq_some_iff.1 h
   have c1:=a0o ho hs hk h1
   have c2:=Vb ho n c1.sm c1.kn h
   exact⟨by have:=c1.le;have:=c2.le;omega,c2.sm,CA c1.ex c2.ex,c2.kn⟩
  ·split at h
   ·rename_i hm
    split at h
    ·rename_i hn
     obtain⟨q,h1,h⟩:=Option.bind_eq_some_iff.1 h
     obtain⟨r,h2,rfl⟩:=OH h1
     rw[Ft h2] at h
     have t1:=Gi hm;have t2:=MU hn
     have hs2:Sgm sg a (s.pos+1+1) (txN (s.nodes++[⟨6,(sgO sg (s.pos+1)).text,[k],false⟩]) s.nodes.length):=by
      rw[Eg]
      have e:(Bo (flG s.nodes) ⟨6,(sgO sg (s.pos+1)).text,[k],false⟩).map kt=txN s.nodes k++[(4,[46])]++[(1,(sgO sg (s.pos+1)).text)]:=by
       simp [Bo,kd,txN,kt,mkS,wdS,sg0]
      rw[e]
      exact(hs.snoc t1 (by decide) (by decide)).snoc t2 (by show(1:Int)≠0;decide) (by simp [cmK])
     have h':Ed sg val n (s.nodes.length:Int) ⟨s.pos+1+1,s.deep,s.nodes++[⟨6,(sgO sg (s.pos+1)).text,[k],false⟩]⟩=some p:=h
     have c2:=Vb ho n (s:=⟨s.pos+1+1,s.deep,s.nodes++[⟨6,(sgO sg (s.pos+1)).text,[k],false⟩]⟩) hs2 DP h'
     exact⟨by have:s.pos+1+1≤p.2.pos:=c2.le;omega,c2.sm,CA DQ c2.ex,c2.kn⟩
    ·cases h
   ·simp only[Option.some.injEq] at h
    subst h
    exact⟨Int.le_refl _,hs,MT,hk⟩
theorem a0p{sg:List Sg}{val:Ps→PR}(ho:OV sg val):∀(n:Nat) {ks:List Int} {a:Int} {s:Ps} {q:List Int×Ps},Sgm sg a s.pos ((Bb (flG s.nodes) [46,46] ks).map kt)→ks≠[]→(∀c∈ks,inN s.nodes c)→Ee sg val n ks s=some q→
 Sgm sg a q.2.pos ((Bb (flG q.2.nodes) [46,46] q.1).map kt)∧s.pos≤q.2.pos∧Ds s.nodes q.2.nodes
 |0,_,_,_,_,_,_,_,h=>by cases h
 |n+1,ks,a,s,q,hs,hn,hk,h=>by
  have h0:0≤s.pos:=by have:=hs.h0;have:=hs.hab;omega
  unfold Ee at h
  split at h
  ·rename_i hm
   have t1:=Gi hm
   obtain⟨p,h1,h⟩:=Option.bind_eq_some_iff.1 h
   obtain⟨r,h2,h⟩:=Option.bind_eq_some_iff.1 h
   have r1:=Jb sg (adv s) p (by show 0≤s.pos+1;omega) h1
   have c1:=a0o ho r1.sm r1.kn h2
   have hx:Ds s.nodes r.2.nodes:=CA r1.ex c1.ex
   have hs2:Sgm sg a r.2.pos ((Bb (flG r.2.nodes) [46,46] (ks++[r.1])).map kt):=by
    rw[a0m hn,QV fun c hc=>Lk hx (hk c hc),List.map_append]
    exact hs.app (Sgm.cons h0 t1 (by decide) (by decide) c1.sm)
   have hz:=a0p ho n hs2 (by simp) (fun c hc=>by
    rcases List.mem_append.1 hc with hc|hc
    ·exact OG hx (hk c hc)
    ·simp at hc;subst hc;exact c1.kn) h
   exact⟨hz.1,by have a1:s.pos+1<p.2.pos:=r1.lt;have a2:=c1.le;have a3:=hz.2.1;omega,CA hx hz.2.2⟩
  ·simp only[Option.some.injEq] at h
   subst h
   exact⟨hs,Int.le_refl _,MT⟩
theorem a0q{sg:List Sg}{l:Nat}{s:Ps}(h:Ec sg l s≠[]):tkK sg s.pos=(4,Ec sg l s)∧Ec sg l s≠[44]:=by
 unfold Ec at h ⊢
 cases hf:(BI l).find? fun m=>isM sg s m with
 |none=>rw[hf] at h;exact(h rfl).elim
 |some m=>
  simp only[Option.getD_some]
  refine⟨Gi (List.find?_some hf),?_⟩
  have:=List.mem_of_find?_eq_some hf
  intro e;subst e
  unfold BI at this
  split at this<;>simp at this
theorem Vc{sg:List Sg}{l:Nat}{one:Ps→PR}(ho:OV sg one):∀(n:Nat) {t:List UInt8} {ks:List Int} {a:Int} {s:Ps} {p:Int×Ps},Sgm sg a s.pos ((Bb (flG s.nodes) t ks).map kt)→ks≠[]→(t=[]→∃k,ks=[k])→(∀c∈ks,inN s.nodes c)→EM sg l one n t ks s=some p→CV sg a s p
 |0,_,_,_,_,_,_,_,_,_,h=>by cases h
 |n+1,t,ks,a,s,p,hs,hn,ht,hk,h=>by
  have h0:0≤s.pos:=by have:=hs.h0;have:=hs.hab;omega
  unfold EM at h
  split at h
  ·obtain⟨q,h1,h⟩:=Option.bind_eq_some_iff.1 h
   rw[Ft h1] at h
   have hs2:Sgm sg a s.pos ((Bb (flG (s.nodes++[⟨7,t,ks,false⟩])) [] [(s.nodes.length:Int)]).map kt):=by
    rw[JW,QU]
    have:Bo (flG s.nodes) ⟨7,t,ks,false⟩=Bb (flG s.nodes) t ks:=by simp [Bo]
    rw[this];exact hs
   have c:=Vc ho n (s:=⟨s.pos,s.deep,s.nodes++[⟨7,t,ks,false⟩]⟩) hs2 (by simp) (fun _=>⟨_,rfl⟩) (by simpa using DP) h
   exact⟨c.le,c.sm,CA DQ c.ex,c.kn⟩
  ·rename_i h7
   split at h
   ·rename_i hc
    simp only[Option.some.injEq] at h
    subst h
    have ht0:t=[]:=by
     by_cases e:t=[]
     ·exact e
     ·exfalso;apply h7;exact⟨e,by rw[hc];exact Ne.symm e⟩
    obtain⟨k,rfl⟩:=ht ht0
    rw[JW] at hs
    exact⟨Int.le_refl _,hs,MT,hk k (by simp)⟩
   ·rename_i hc
    obtain⟨q,h1,h⟩:=Option.bind_eq_some_iff.1 h
    obtain⟨t1,t2⟩:=a0q hc
    have r:=ho (adv s) q (by show 0≤s.pos+1;omega) h1
    have hx:Ds s.nodes q.2.nodes:=r.ex
    have hs2:Sgm sg a q.2.pos ((Bb (flG q.2.nodes) (Ec sg l s) (ks++[q.1])).map kt):=by
     rw[a0m hn,QV fun c hc=>Lk hx (hk c hc),List.map_append]
     have e:(Bb (flG s.nodes) (Ec sg l s) ks).map kt=(Bb (flG s.nodes) t ks).map kt:=by
      by_cases e:t=[]
      ·obtain⟨k,rfl⟩:=ht e
       rw[JW,JW]
      ·have:Ec sg l s=t:=by
        by_cases e2:Ec sg l s=t
        ·exact e2
        ·exact(h7 ⟨e,e2⟩).elim
       rw[this]
     rw[e]
     exact hs.app (Sgm.cons h0 t1 (by show(4:Int)≠0;decide) (by intro e;have:=congrArg Prod.snd e;exact t2 this) r.sm)
    have c:=Vc ho n hs2 (by simp) (fun e=>(hc e).elim) (fun c hcm=>by
     rcases List.mem_append.1 hcm with hcm|hcm
     ·exact OG hx (hk c hcm)
     ·simp at hcm;subst hcm;exact r.kn) h
    exact⟨by have a1:s.pos+1<q.2.pos:=r.lt;have:=c.le;omega,c.sm,CA hx c.ex,c.kn⟩
theorem CV.rv{sg:List Sg}{s s1:Ps}{p q:Int×Ps}(r:RV sg s q)(c:CV sg s.pos q.2 p):RV sg s p:=⟨by have:=r.lt;have:=c.le;omega,c.sm,r.hd,CA r.ex c.ex,c.kn⟩
theorem a8J{sg:List Sg}{s:Ps}{d e:Int}{p:Int×Ps}(h:RV sg (dp s d) p):RV sg s (p.1,dp p.2 e):=⟨h.lt,h.sm,h.hd,h.ex,h.kn⟩
theorem Vd{sg:List Sg}{s:Ps}{k:Int}{t:List UInt8}(h:isM sg s t=true)(h1:Cx (4,t)=false∧((4,t):KT)≠cmK):Cx (tkK sg s.pos)=false∧tkK sg s.pos≠cmK:=by rw[Gi h];exact h1
theorem Dp(sg:List Sg):∀(n:Nat) (nt:NT),OV sg (pE sg n nt)
 |0,_=>fun s p _ h=>by cases h
 |n+1,.value=>fun s p h0 h=>by
  unfold pE at h
  obtain⟨q,h1,h⟩:=Option.bind_eq_some_iff.1 h
  have r:=Dp sg n .pick s q h0 h1
  split at h
  ·obtain⟨⟨ks,s2⟩,h2,h3⟩:=Option.bind_eq_some_iff.1 h
   have c:=a0p (Dp sg n .value) _ (ks:=[q.1]) (a:=s.pos) (s:=q.2) (by rw[JW];exact r.sm) (by simp) (by simpa using r.kn) h2
   rw[Ft h3]
   refine⟨by have:=r.lt;have:=c.2.1;simp only at this ⊢;omega,?_,r.hd,CA r.ex (CA c.2.2 DQ),DP⟩
   show Sgm sg s.pos s2.pos (txN (s2.nodes++[_]) s2.nodes.length)
   rw[Eg]
   have:Bo (flG s2.nodes) ⟨10,[],ks,false⟩=Bb (flG s2.nodes) [46,46] ks:=by simp [Bo]
   rw[this];exact c.1
  ·simp only[Option.some.injEq] at h;subst h;exact r
 |n+1,.pick=>fun s p h0 h=>by
  unfold pE at h
  split at h
  ·cases h
  obtain⟨q,h1,h⟩:=Option.bind_eq_some_iff.1 h
  have r:=Dp sg n (.chain 0) (dp s 1) q h0 h1
  split at h
  ·rename_i hm
   obtain⟨a,h2,h⟩:=Option.bind_eq_some_iff.1 h
   obtain⟨s1,h3,h⟩:=Option.bind_eq_some_iff.1 h
   obtain⟨b,h4,h⟩:=Option.bind_eq_some_iff.1 h
   rw[Option.map_eq_some_iff] at h
   obtain⟨u,h5,rfl⟩:=h
   obtain⟨t3,rfl⟩:=EO h3
   rw[Ft h5]
   have hq:0≤q.2.pos:=by have:=r.sm.h0;have:=r.sm.hab;omega
   have ra:=Dp sg n .pick (adv q.2) a (by show 0≤q.2.pos+1;omega) h2
   have ha:0≤a.2.pos:=by have:=ra.sm.h0;have:=ra.sm.hab;omega
   have rb:=Dp sg n .pick (adv a.2) b (by show 0≤a.2.pos+1;omega) h4
   have e1:Ds q.2.nodes b.2.nodes:=CA ra.ex rb.ex
   have e2:Ds a.2.nodes b.2.nodes:=rb.ex
   refine⟨?_,?_,r.hd,CA r.ex (CA e1 DQ),DP⟩
   ·have l1:s.pos<q.2.pos:=r.lt;have l2:q.2.pos+1<a.2.pos:=ra.lt;have l3:a.2.pos+1<b.2.pos:=rb.lt
    show s.pos<b.2.pos;omega
   ·show Sgm sg s.pos b.2.pos (txN (b.2.nodes++[_]) b.2.nodes.length)
    rw[Eg]
    have e:(Bo (flG b.2.nodes) ⟨8,[],[q.1,a.1,b.1],false⟩).map kt=txN q.2.nodes q.1++((4,[63])::(txN a.2.nodes a.1++((4,[58])::txN b.2.nodes b.1))):=by
     rw[←Ix e1 r.kn,←Ix e2 ra.kn]
     simp [Bo,kd,txN,kt,mkS,sg0]
    rw[e]
    exact r.sm.app (Sgm.cons hq (Gi hm) (by decide) (by decide) (ra.sm.app (Sgm.cons ha t3 (by decide) (by decide) rb.sm)))
  ·simp only[Option.some.injEq] at h;subst h;exact a8J r
 |n+1,.chain l=>fun s p h0 h=>by
  unfold pE at h
  split at h
  ·exact Dp sg n .fin s p h0 h
  ·obtain⟨q,h1,h⟩:=Option.bind_eq_some_iff.1 h
   have r:=Dp sg n (.chain (l+1)) s q h0 h1
   exact CV.rv (s1:=s) r (Vc (Dp sg n (.chain (l+1))) _ (by rw[JW];exact r.sm) (by simp) (fun _=>⟨_,rfl⟩) (by simpa using r.kn) h)
 |n+1,.fin=>fun s p h0 h=>by
  unfold pE at h
  obtain⟨q,h1,h⟩:=Option.bind_eq_some_iff.1 h
  have r:=Dp sg n .base s q h0 h1
  exact CV.rv (s1:=s) r (Vb (Dp sg n .value) _ r.sm r.kn h)
 |n+1,.base=>fun s p h0 h=>by
  unfold pE at h
  split at h
  ·exact Jb sg s p h0 h
  split at h
  ·exact MV 2 h0 (.inr (.inl ⟨rfl,rfl⟩)) ‹_› h
  split at h
  ·exact MV 3 h0 (.inr (.inr (.inl ⟨rfl,rfl⟩))) ‹_› h
  split at h
  ·rename_i hm
   obtain⟨⟨ks,s2⟩,h2,h3⟩:=Option.bind_eq_some_iff.1 h
   obtain⟨t2,rfl⟩:=Fu h3
   obtain⟨l,rfl,k1,k2,k3,k4,k5,k6⟩:=Iy (Dp sg n .value) Va _ _ _ _ _ (by show 0≤s.pos+1;omega) h2 t2
   simp only[adv] at k2 k4 k5
   refine⟨by show s.pos<s2.pos+1;omega,?_,Vd (k:=0) hm (by decide),CA k2 DQ,DP⟩
   show Sgm sg s.pos (s2.pos+1) (txN (s2.nodes++[_]) s2.nodes.length)
   rw[Eg]
   have e:(Bo (flG s2.nodes) ⟨4,[],ks,false⟩).map kt=(4,[91])::((Bb (flG s2.nodes) [44] ks).map kt++[(4,[93])]):=by simp [Bo,kt,mkS,sg0]
   rw[e]
   exact Sgm.cons h0 (Gi hm) (by decide) (by decide) k5
  split at h
  ·rename_i hm
   have hm:=(Bool.and_eq_true _ _▸hm:_∧_).1
   obtain⟨⟨ks,s2⟩,h2,h3⟩:=Option.bind_eq_some_iff.1 h
   obtain⟨s3,h4,h5⟩:=Option.bind_eq_some_iff.1 h3
   obtain⟨s4,h6,h7⟩:=Option.bind_eq_some_iff.1 h5
   obtain⟨q,h8,h9⟩:=Option.bind_eq_some_iff.1 h7
   obtain⟨t2,rfl⟩:=EO h4
   obtain⟨t3,rfl⟩:=EO h6
   rw[Ft h9]
   simp only at t2
   obtain⟨l,rfl,k1,k2,k3,k4,k5,k6⟩:=Iy (Jb sg) Iz _ _ _ _ _ (by show 0≤s.pos+1;omega) h2 t2
   simp only[adv] at k2 k4 k5 t3
   have hp2:0≤s2.pos:=by omega
   have r:=Dp sg n .pick (adv (adv s2)) q (by show 0≤s2.pos+1+1;omega) h8
   have hx:Ds s2.nodes q.2.nodes:=r.ex
   refine⟨?_,?_,Vd (k:=0) hm (by decide),CA k2 (CA hx DQ),DP⟩
   ·have l1:s2.pos+1+1<q.2.pos:=r.lt
    show s.pos<q.2.pos;omega
   ·show Sgm sg s.pos q.2.pos (txN (q.2.nodes++[_]) q.2.nodes.length)
    rw[Eg]
    have e:(Bo (flG q.2.nodes) ⟨9,[],ks++[q.1],false⟩).map kt=(4,[40])::(((Bb (flG s2.nodes) [44] ks).map kt++[(4,[41])])++((4,[61,62])::txN q.2.nodes q.1)):=by
     rw[←QV (fun c hc=>Lk hx (k3 c hc))]
     unfold Bo
     simp [kd,txN,kt,mkS,sg0]
    rw[e]
    exact Sgm.cons h0 (Gi hm) (by decide) (by decide) (k5.app (Sgm.cons (by omega) t3 (by decide) (by decide) r.sm))
  split at h
  ·rename_i hm
   obtain⟨q,h2,h3⟩:=Option.bind_eq_some_iff.1 h
   obtain⟨t2,rfl⟩:=Fu h3
   have r:=Dp sg n .value (adv s) q (by show 0≤s.pos+1;omega) h2
   refine⟨?_,?_,Vd (k:=0) hm (by decide),CA r.ex DQ,DP⟩
   ·have l1:s.pos+1<q.2.pos:=r.lt
    show s.pos<q.2.pos+1;omega
   ·show Sgm sg s.pos (q.2.pos+1) (txN (q.2.nodes++[_]) q.2.nodes.length)
    rw[Eg]
    have e:(Bo (flG q.2.nodes) ⟨11,[],[q.1],false⟩).map kt=(4,[40])::(txN q.2.nodes q.1++[(4,[41])]):=by simp [Bo,kd,txN,kt,mkS,sg0]
    rw[e]
    exact Sgm.cons h0 (Gi hm) (by decide) (by decide) (r.sm.snoc t2 (by decide) (by decide))
  ·cases h
structure RS (sg:List Sg) (s:Ps) (p:Int×Ps):Prop where
 lt:s.pos<p.2.pos
 sm:Sgm sg s.pos p.2.pos (txN p.2.nodes p.1)
 ex:Ds s.nodes p.2.nodes
 kn:inN p.2.nodes p.1
def OS(sg:List Sg)(one:Ps→PR):Prop:=∀s p,0≤s.pos→one s=some p→RS sg s p
theorem RV.rs{sg:List Sg}{s:Ps}{p:Int×Ps}(h:RV sg s p):RS sg s p:=⟨h.lt,h.sm,h.ex,h.kn⟩
theorem HI(sg:List Sg):OV sg (Cg sg):=Dp sg peN .value
theorem OI{sg:List Sg}{s:Ps}{q:List UInt8×Ps}(h:Eu sg s=some q):tkK sg s.pos=(1,q.1)∧q.2=adv s:=by
 unfold Eu at h;split at h
 ·simp only[Option.some.injEq] at h;subst h;exact⟨MU ‹_›,rfl⟩
 ·cases h
theorem d1:(1:Int)≠0:=by decide
theorem d4:(4:Int)≠0:=by decide
theorem nc1{t:List UInt8}:((1,t):KT)≠cmK:=by simp [cmK]
theorem Ve{sg:List Sg}{b:Bool}{a:Int}{s:Ps}{p:Int×Ps}(hs:Sgm sg a s.pos [(1,[118,97,114])])(h:CW sg b s=some p):CV sg a s p:=by
 unfold CW at h
 obtain⟨⟨nm,s1⟩,h1,h2⟩:=Option.bind_eq_some_iff.1 h
 obtain⟨t1,e1⟩:=OI h1
 simp only at e1;subst e1
 have h0:0≤s.pos:=by have:=hs.h0;have:=hs.hab;omega
 have hs1:=hs.snoc t1 d1 nc1
 simp only at h2
 split at h2
 ·rename_i hm
  obtain⟨q,h3,h4⟩:=Option.bind_eq_some_iff.1 h2
  obtain⟨t4,rfl⟩:=Fu h4
  have r:=HI sg (adv (adv s)) q (by show 0≤s.pos+1+1;omega) h3
  refine⟨?_,?_,CA r.ex DQ,DP⟩
  ·have l1:s.pos+1+1<q.2.pos:=r.lt
   show s.pos≤q.2.pos+1;omega
  ·show Sgm sg a (q.2.pos+1) (txN (q.2.nodes++[_]) q.2.nodes.length)
   rw[Eg]
   have e:(Bo (flG q.2.nodes) ⟨12,nm,[q.1],b⟩).map kt=([(1,[118,97,114])]++[(1,nm)])++((4,[61])::(txN q.2.nodes q.1++[(4,[59])])):=by simp [Bo,txN,kt,mkS,wdS,sg0]
   rw[e]
   exact hs1.app (Sgm.cons (by omega) (Gi (s:=adv s) hm) (by decide) (by decide) (r.sm.snoc t4 (by decide) (by decide)))
 ·obtain⟨t4,rfl⟩:=Fu h2
  refine⟨by show s.pos≤s.pos+1+1;omega,?_,DQ,DP⟩
  show Sgm sg a (s.pos+1+1) (txN (s.nodes++[_]) s.nodes.length)
  rw[Eg]
  have e:(Bo (flG s.nodes) ⟨12,nm,[],b⟩).map kt=([(1,[118,97,114])]++[(1,nm)])++[(4,[59])]:=by simp [Bo,txN,kt,mkS,wdS,sg0]
  rw[e]
  exact hs1.snoc t4 (by decide) (by decide)
theorem QW{sg:List Sg}{s:Ps}{p:Int×Ps}(h0:0≤s.pos)(h:Db sg s=some p):Sgm sg s.pos p.2.pos ((4,[40])::(txN p.2.nodes p.1++[(4,[41])]))∧s.pos<p.2.pos∧Ds s.nodes p.2.nodes∧inN p.2.nodes p.1:=by
 unfold Db at h
 obtain⟨s1,h1,h2⟩:=Option.bind_eq_some_iff.1 h
 obtain⟨q,h3,h4⟩:=Option.bind_eq_some_iff.1 h2
 rw[Option.map_eq_some_iff] at h4
 obtain⟨s2,h5,rfl⟩:=h4
 obtain⟨t1,rfl⟩:=EO h1
 obtain⟨t2,rfl⟩:=EO h5
 have r:=HI sg (adv s) q (by show 0≤s.pos+1;omega) h3
 refine⟨Sgm.cons h0 t1 (by decide) (by decide) (r.sm.snoc t2 (by decide) (by decide)),?_,r.ex,r.kn⟩
 have l1:s.pos+1<q.2.pos:=r.lt
 show s.pos<q.2.pos+1;omega
theorem OJ{sg:List Sg}{one:Bool→Ps→PR}(ho:∀b,OS sg (one b)){m:List UInt8}:∀(n:Nat) (ks:List Int) (s:Ps) (ks':List Int) (s':Ps),0≤s.pos→Cz sg one m n ks s=some (ks',s')→
 ∃l,ks'=ks++l∧Ds s.nodes s'.nodes∧(∀c∈l,inN s'.nodes c)∧s.pos≤s'.pos∧Sgm sg s.pos s'.pos ((l.flatMap (flG s'.nodes)).map kt)
 |0,ks,s,ks',s',_,h=>by cases h
 |n+1,ks,s,ks',s',h0,h=>by
  unfold Cz at h
  split at h
  ·rename_i hm
   simp only[Option.some.injEq,Prod.mk.injEq] at h
   obtain⟨rfl,rfl⟩:=h
   have hl:=Hi (sg:=sg) (a:=s.pos) (by rw[Gi hm];exact d4) h0
   exact⟨[],by simp,MT,by simp,Int.le_refl _,by simpa using Sgm.nil h0 (by omega)⟩
  ·obtain⟨p,h1,h2⟩:=Option.bind_eq_some_iff.1 h
   have r:=ho _ s p h0 h1
   obtain⟨l,rfl,k2,k3,k4,k5⟩:=OJ ho n (ks++[p.1]) p.2 ks' s' (by have:=r.lt;omega) h2
   refine⟨p.1::l,by simp,CA r.ex k2,?_,by have:=r.lt;omega,?_⟩
   ·intro c hc
    rcases List.mem_cons.1 hc with rfl|hc
    ·exact OG k2 r.kn
    ·exact k3 c hc
   ·rw[List.flatMap_cons,List.map_append]
    have e:(flG s'.nodes p.1).map kt=txN p.2.nodes p.1:=Ix k2 r.kn
    rw[e];exact r.sm.app k5
theorem Vf{sg:List Sg}{one:Bool→Ps→PR}(ho:∀b,OS sg (one b)):OS sg (BC sg one):=fun s p h0 h=>by
 unfold BC at h
 split at h
 ·cases h
 obtain⟨s1,h1,h2⟩:=Option.bind_eq_some_iff.1 h
 obtain⟨⟨ks,s2⟩,h3,h4⟩:=Option.bind_eq_some_iff.1 h2
 rw[Option.map_eq_some_iff] at h4
 obtain⟨q,h5,rfl⟩:=h4
 obtain⟨t1,rfl⟩:=EO h1
 obtain⟨t2,rfl⟩:=Fu h5
 obtain⟨l,e,k2,k3,k4,k5⟩:=OJ ho _ _ _ _ _ (by show 0≤s.pos+1;omega) h3
 simp only[List.nil_append] at e;subst e
 simp only[adv,dp] at k2 k4 k5 t1
 refine⟨by show s.pos<s2.pos+1;omega,?_,CA k2 DQ,DP⟩
 show Sgm sg s.pos (s2.pos+1) (txN (s2.nodes++[_]) s2.nodes.length)
 rw[Eg]
 have e:(Bo (flG s2.nodes) ⟨18,[],ks,false⟩).map kt=(4,[123])::((ks.flatMap (flG s2.nodes)).map kt++[(4,[125])]):=by simp [Bo,kt,mkS,sg0]
 rw[e]
 exact Sgm.cons h0 t1 (by decide) (by decide) (k5.snoc t2 (by decide) (by decide))
theorem CV.rs{sg:List Sg}{s s1:Ps}{p:Int×Ps}(hl:s.pos<s1.pos)(he:s1.nodes=s.nodes)(c:CV sg s.pos s1 p):RS sg s p:=⟨by have:=c.le;omega,c.sm,by have:=c.ex;rwa [he] at this,c.kn⟩
theorem OK(sg:List Sg):∀(n:Nat) (b:Bool),OS sg (stR sg n b)
 |0,_=>fun s p _ h=>by cases h
 |n+1,b=>fun s p h0 h=>by
  have hone:OS sg (BC sg (stR sg n)):=Vf fun b=>OK sg n b
  unfold stR at h
  split at h
  ·exact(MV 5 h0 (.inr (.inr (.inr ⟨rfl,rfl⟩))) ‹_› h).rs
  split at h
  ·rename_i hw
   exact CV.rs (s1:=adv s) (by show s.pos<s.pos+1;omega) rfl (Ve (Sgm.tok h0 (JX hw) d1 nc1) h)
  split at h
  ·rename_i hw
   have hs:=Sgm.tok h0 (JX hw) d1 nc1
   split at h
   ·obtain⟨t2,rfl⟩:=Fu h
    refine⟨by show s.pos<s.pos+1+1;omega,?_,DQ,DP⟩
    show Sgm sg s.pos (s.pos+1+1) (txN (s.nodes++[_]) s.nodes.length)
    rw[Eg]
    have e:(Bo (flG s.nodes) ⟨15,[],[],b⟩).map kt=[(1,[114,101,116,117,114,110])]++[(4,[59])]:=by simp [Bo,kt,mkS,wdS,sg0]
    rw[e];exact hs.snoc t2 (by decide) (by decide)
   ·obtain⟨q,h2,h3⟩:=Option.bind_eq_some_iff.1 h
    obtain⟨t2,rfl⟩:=Fu h3
    have r:=HI sg (adv s) q (by show 0≤s.pos+1;omega) h2
    refine⟨?_,?_,CA r.ex DQ,DP⟩
    ·have l1:s.pos+1<q.2.pos:=r.lt
     show s.pos<q.2.pos+1;omega
    ·show Sgm sg s.pos (q.2.pos+1) (txN (q.2.nodes++[_]) q.2.nodes.length)
     rw[Eg]
     have e:(Bo (flG q.2.nodes) ⟨15,[],[q.1],b⟩).map kt=[(1,[114,101,116,117,114,110])]++(txN q.2.nodes q.1++[(4,[59])]):=by simp [Bo,txN,kt,mkS,wdS,sg0]
     rw[e];exact hs.app (r.sm.snoc t2 (by decide) (by decide))
  split at h
  ·rename_i hw
   have hs:=Sgm.tok h0 (JX hw) d1 nc1
   obtain⟨q,h2,h3⟩:=Option.bind_eq_some_iff.1 h
   obtain⟨u,h4,h5⟩:=Option.bind_eq_some_iff.1 h3
   obtain⟨c1,c2,c3,c4⟩:=QW (by show 0≤s.pos+1;omega) h2
   have c2:s.pos+1<q.2.pos:=c2
   have r:=hone q.2 u (by omega) h4
   have l2:=r.lt
   have base:=(hs.app c1).app r.sm
   split at h5
   ·rename_i he
    obtain⟨v,h6,h7⟩:=Option.bind_eq_some_iff.1 h5
    rw[Ft h7]
    have rv:=hone (adv u.2) v (by show 0≤u.2.pos+1;omega) h6
    have e1:Ds q.2.nodes v.2.nodes:=CA r.ex rv.ex
    have e2:Ds u.2.nodes v.2.nodes:=rv.ex
    refine⟨?_,?_,CA c3 (CA e1 DQ),DP⟩
    ·have l1:u.2.pos+1<v.2.pos:=rv.lt
     show s.pos<v.2.pos;omega
    ·show Sgm sg s.pos v.2.pos (txN (v.2.nodes++[_]) v.2.nodes.length)
     rw[Eg]
     have e:(Bo (flG v.2.nodes) ⟨16,[],[q.1,u.1,v.1],b⟩).map kt=(([(1,[105,102])]++((4,[40])::(txN q.2.nodes q.1++[(4,[41])])))++txN u.2.nodes u.1)++((1,[101,108,115,101])::txN v.2.nodes v.1):=by
      rw[←Ix e1 c4,←Ix e2 r.kn]
      simp [Bo,kd,txN,kt,mkS,wdS,sg0]
     rw[e]
     exact base.app (Sgm.cons (by omega) (JX he) d1 nc1 rv.sm)
   ·rw[Ft h5]
    refine⟨by show s.pos<u.2.pos;omega,?_,CA c3 (CA r.ex DQ),DP⟩
    show Sgm sg s.pos u.2.pos (txN (u.2.nodes++[_]) u.2.nodes.length)
    rw[Eg]
    have e:(Bo (flG u.2.nodes) ⟨16,[],[q.1,u.1],b⟩).map kt=([(1,[105,102])]++((4,[40])::(txN q.2.nodes q.1++[(4,[41])])))++txN u.2.nodes u.1:=by
     rw[←Ix r.ex c4]
     simp [Bo,kd,txN,kt,mkS,wdS,sg0]
    rw[e];exact base
  split at h
  ·rename_i hw
   have hs:=Sgm.tok h0 (JX hw) d1 nc1
   obtain⟨q,h2,h3⟩:=Option.bind_eq_some_iff.1 h
   obtain⟨u,h4,h5⟩:=Option.bind_eq_some_iff.1 h3
   obtain⟨c1,c2,c3,c4⟩:=QW (by show 0≤s.pos+1;omega) h2
   have c2:s.pos+1<q.2.pos:=c2
   have r:=hone q.2 u (by omega) h4
   have l2:=r.lt
   have base:=(hs.app c1).app r.sm
   rw[Ft h5]
   refine⟨by show s.pos<u.2.pos;omega,?_,CA c3 (CA r.ex DQ),DP⟩
   show Sgm sg s.pos u.2.pos (txN (u.2.nodes++[_]) u.2.nodes.length)
   rw[Eg]
   have e:(Bo (flG u.2.nodes) ⟨17,[],[q.1,u.1],b⟩).map kt=([(1,[119,104,105,108,101])]++((4,[40])::(txN q.2.nodes q.1++[(4,[41])])))++txN u.2.nodes u.1:=by
    rw[←Ix r.ex c4]
    simp [Bo,kd,txN,kt,mkS,wdS,sg0]
   rw[e];exact base
  split at h
  ·rename_i hn
   have hn:=(Bool.and_eq_true _ _▸hn:_∧_)
   obtain⟨q,h2,h3⟩:=Option.bind_eq_some_iff.1 h
   obtain⟨t2,rfl⟩:=Fu h3
   have r:=HI sg (adv (adv s)) q (by show 0≤s.pos+1+1;omega) h2
   refine⟨?_,?_,CA r.ex DQ,DP⟩
   ·have l1:s.pos+1+1<q.2.pos:=r.lt
    show s.pos<q.2.pos+1;omega
   ·show Sgm sg s.pos (q.2.pos+1) (txN (q.2.nodes++[_]) q.2.nodes.length)
    rw[Eg]
    have e:(Bo (flG q.2.nodes) ⟨13,(sgO sg s.pos).text,[q.1],b⟩).map kt=(1,(sgO sg s.pos).text)::((4,[61])::(txN q.2.nodes q.1++[(4,[59])])):=by simp [Bo,txN,kt,mkS,wdS,sg0]
    rw[e]
    exact Sgm.cons h0 (MU hn.1) d1 nc1 (Sgm.cons (by omega) (Gi (s:=adv s) hn.2) (by decide) (by decide) (r.sm.snoc t2 (by decide) (by decide)))
  ·obtain⟨q,h2,h3⟩:=Option.bind_eq_some_iff.1 h
   obtain⟨t2,rfl⟩:=Fu h3
   have r:=HI sg s q h0 h2
   refine⟨by have:=r.lt;show s.pos<q.2.pos+1;omega,?_,CA r.ex DQ,DP⟩
   show Sgm sg s.pos (q.2.pos+1) (txN (q.2.nodes++[_]) q.2.nodes.length)
   rw[Eg]
   have e:(Bo (flG q.2.nodes) ⟨14,[],[q.1],b⟩).map kt=txN q.2.nodes q.1++[(4,[59])]:=by simp [Bo,txN,kt,mkS,wdS,sg0]
   rw[e];exact r.sm.snoc t2 (by decide) (by decide)
theorem a0r(sg:List Sg)(b:Bool):OS sg (Ef sg b):=fun s p h0 h=>by
 unfold Ef at h
 obtain⟨⟨nm,s1⟩,h1,h2⟩:=Option.bind_eq_some_iff.1 h
 obtain⟨s2,h3,h4⟩:=Option.bind_eq_some_iff.1 h2
 obtain⟨⟨ks,s3⟩,h5,h6⟩:=Option.bind_eq_some_iff.1 h4
 obtain⟨s4,h7,h8⟩:=Option.bind_eq_some_iff.1 h6
 obtain⟨r,h9,h10⟩:=Option.bind_eq_some_iff.1 h8
 obtain⟨t1,e1⟩:=OI h1
 simp only at e1;subst e1
 obtain⟨t3,rfl⟩:=EO h3
 obtain⟨t7,rfl⟩:=EO h7
 rw[Ft h10]
 simp only at t7
 obtain⟨l,e,k1,k2,k3,k4,k5,k6⟩:=Iy (Jb sg) Iz _ _ _ _ _ (by show 0≤s.pos+1+1;omega) h5 t7
 simp only[List.nil_append] at e;subst e
 simp only[adv] at k2 k4 k5 t3
 have rr:=Vf (fun b=>OK sg stN b) (adv s3) r (by show 0≤s3.pos+1;omega) h9
 have hx:Ds s3.nodes r.2.nodes:=rr.ex
 refine⟨?_,?_,CA k2 (CA hx DQ),DP⟩
 ·have l1:s3.pos+1<r.2.pos:=rr.lt
  show s.pos<r.2.pos;omega
 ·show Sgm sg s.pos r.2.pos (txN (r.2.nodes++[_]) r.2.nodes.length)
  rw[Eg]
  have e:(Bo (flG r.2.nodes) ⟨20,nm,ks++[r.1],b⟩).map kt=(1,nm)::((4,[40])::(((Bb (flG s3.nodes) [44] ks).map kt++[(4,[41])])++txN r.2.nodes r.1)):=by
   rw[←QV (fun c hc=>Lk hx (k3 c hc))]
   simp [Bo,kd,txN,kt,mkS,wdS,sg0]
  rw[e]
  exact Sgm.cons h0 t1 d1 nc1 (Sgm.cons (by omega) t3 (by decide) (by decide) (k5.app rr.sm))
theorem Vg(sg:List Sg)(b:Bool):OS sg (CJ sg b):=fun s p h0 h=>by
 unfold CJ at h
 split at h
 ·exact(MV 5 h0 (.inr (.inr (.inr ⟨rfl,rfl⟩))) ‹_› h).rs
 split at h
 ·rename_i hw
  exact CV.rs (s1:=adv s) (by show s.pos<s.pos+1;omega) rfl (Ve (Sgm.tok h0 (JX hw) d1 nc1) h)
 ·exact a0r sg b s p h0 h
theorem a0s(sg:List Sg)(b:Bool):OS sg (CN sg b):=fun s p h0 h=>by
 unfold CN at h
 split at h
 ·exact(MV 5 h0 (.inr (.inr (.inr ⟨rfl,rfl⟩))) ‹_› h).rs
 split at h
 ·rename_i hw
  exact CV.rs (s1:=adv s) (by show s.pos<s.pos+1;omega) rfl (Ve (Sgm.tok h0 (JX hw) d1 nc1) h)
 split at h
 ·rename_i hw
  have hs:=Sgm.tok h0 (JX hw) d1 nc1
  unfold Gh at h
  obtain⟨⟨nm,s1⟩,h1,h2⟩:=Option.bind_eq_some_iff.1 h
  obtain⟨s2,h3,h4⟩:=Option.bind_eq_some_iff.1 h2
  obtain⟨⟨ks,s3⟩,h5,h6⟩:=Option.bind_eq_some_iff.1 h4
  obtain⟨t1,e1⟩:=OI h1
  simp only at e1;subst e1
  obtain⟨t3,rfl⟩:=EO h3
  obtain⟨t6,rfl⟩:=Fu h6
  obtain⟨l,e,k2,k3,k4,k5⟩:=OJ (fun b=>Vg sg b) _ _ _ _ _ (by show 0≤s.pos+1+1+1;omega) h5
  simp only[List.nil_append] at e;subst e
  simp only[adv] at k2 k4 k5 t3 t1
  refine⟨by show s.pos<s3.pos+1;omega,?_,CA k2 DQ,DP⟩
  show Sgm sg s.pos (s3.pos+1) (txN (s3.nodes++[_]) s3.nodes.length)
  rw[Eg]
  have e:(Bo (flG s3.nodes) ⟨21,nm,ks,b⟩).map kt=[(1,[99,108,97,115,115])]++((1,nm)::((4,[123])::((ks.flatMap (flG s3.nodes)).map kt++[(4,[125])]))):=by simp [Bo,kt,mkS,wdS,sg0]
  rw[e]
  exact hs.app (Sgm.cons (by omega) t1 d1 nc1 (Sgm.cons (by omega) t3 (by decide) (by decide) (k5.snoc t6 (by decide) (by decide))))
 ·exact a0r sg b s p h0 h
theorem a0t{sg:List Sg}:∀(n:Nat) (ks:List Int) (ms:List (Int×Int)) (s:Ps) (r:(List Int×List (Int×Int))×Ps),0≤s.pos→s.pos≤sg.length→Hh sg n ks ms s=some r→
 ∃l,r.1.1=ks++l∧Ds s.nodes r.2.nodes∧(∀c∈l,inN r.2.nodes c)∧r.2.pos=sg.length∧Sgm sg s.pos r.2.pos ((l.flatMap (flG r.2.nodes)).map kt)
 |0,ks,ms,s,r,_,_,h=>by cases h
 |n+1,ks,ms,s,r,h0,hl,h=>by
  unfold Hh at h
  split at h
  ·obtain⟨p,h1,h2⟩:=Option.bind_eq_some_iff.1 h
   have q:=a0s sg _ s p h0 h1
   obtain⟨l,e,k2,k3,k4,k5⟩:=a0t n (ks++[p.1]) _ p.2 r (by have:=q.lt;omega) q.sm.hb h2
   refine⟨p.1::l,by rw[e];simp,CA q.ex k2,?_,k4,?_⟩
   ·intro c hc
    rcases List.mem_cons.1 hc with rfl|hc
    ·exact OG k2 q.kn
    ·exact k3 c hc
   ·rw[List.flatMap_cons,List.map_append]
    have e:(flG r.2.nodes p.1).map kt=txN p.2.nodes p.1:=Ix k2 q.kn
    rw[e];exact q.sm.app k5
  ·simp only[Option.some.injEq] at h
   subst h
   have:s.pos=sg.length:=by omega
   exact⟨[],by simp,MT,by simp,this,by simpa using Sgm.nil h0 hl⟩
theorem a0u{sg:List Sg}{ms:List (Int×Int)}{L:List Nd}(h:FM sg=some (ms,L)):(BO L=true∧nCC (sg.map kt))∧Cc (sg.map kt)=(flG L ((L.length:Int)-1)).map kt:=by
 unfold FM at h
 obtain⟨r,h1,h2⟩:=Option.bind_eq_some_iff.1 h
 obtain⟨q,h3,h4⟩:=Option.bind_eq_some_iff.1 h2
 split at h4
 ·rename_i ht
  simp only[Option.some.injEq,Prod.mk.injEq] at h4
  obtain⟨rfl,rfl⟩:=h4
  rw[Ft h3] at ht ⊢
  obtain⟨l,e,k2,k3,k4,k5⟩:=a0t _ _ _ _ _ (by decide) (by show(0:Int)≤_;omega) h1
  have es:DN sg 0 (sg.length:Int)=sg.map kt:=by
   show((sg.map kt).drop 0).take ((sg.length:Int)-0).toNat=_
   rw[List.drop_zero,List.take_of_length_le (by simp)]
  have hcc:=k5.hc
  rw[k4] at hcc
  refine⟨⟨ht,by rw[←es];exact hcc⟩,?_⟩
  simp only at e ⊢
  have e1:((r.2.nodes++[(⟨22,[],r.1.1,false⟩:Nd)]).length:Int)-1=r.2.nodes.length:=by rw[List.length_append];simp
  rw[e1,QU]
  have e2:(Bo (flG r.2.nodes) ⟨22,[],r.1.1,false⟩).map kt=(l.flatMap (flG r.2.nodes)).map kt:=by rw[e];simp [Bo,ps0]
  rw[e2,←k5.hw,k4]
  congr 1
  exact es.symm
 ·cases h4
structure Gs where
 pos:Int
 deep:Int
 bad:Bool
 nodes:List Nd
def Df(x:Nd):Prop:=x.text.length≤3000∧x.kids.length≤4000
def sgB(sg:List Sg):Prop:=sg.length≤3000∧∀e∈sg,e.text.length≤3000
def gsOk(sg:List Sg)(g:Gs):Prop:=(0≤g.pos∧g.pos≤sg.length)∧(0≤g.deep∧g.deep≤21)∧g.nodes.length≤300∧∀x∈g.nodes,Df x
def pur(g:Gs):Option Ps:=if g.bad then none else some ⟨g.pos,g.deep,g.nodes⟩
theorem DR{g:Gs}(h:g.bad=true):pur g=none:=by simp [pur,h]
theorem Dg{g:Gs}(h:g.bad=false):pur g=some ⟨g.pos,g.deep,g.nodes⟩:=by simp [pur,h]
theorem a0v{g:Gs}:pur g=none↔g.bad=true:=by
 cases h:g.bad<;>simp [pur,h]
theorem EP{g:Gs}{s:Ps}:pur g=some s↔g.bad=false∧s=⟨g.pos,g.deep,g.nodes⟩:=by
 cases h:g.bad<;>simp [pur,h,eq_comm]
def Vh(sg:List Sg)(x:Gs)(f:Ps→Option Ps)(y:Gs):Prop:=gsOk sg y∧y.deep=x.deep∧x.pos≤y.pos∧pur y=(pur x).bind f
def BG{α:Type}(sg:List Sg)(x:Gs)(f:Ps→Option (α×Ps))(y:α×Gs):Prop:=
 gsOk sg y.2∧y.2.deep=x.deep∧x.pos≤y.2.pos∧pur y.2=((pur x).bind f).map (·.2)∧∀p,(pur x).bind f=some p→y.1=p.1
def Ah{α:Type}(sg:List Sg)(x:Gs)(f:Ps→Option (α×Ps))(y:α×Gs):Prop:=BG sg x f y∧(y.2.bad=false→x.pos<y.2.pos)
def pkG(sg:List Sg)(g:Gs)(n:Int):Sg:=if g.bad=true∨(sg.length:Int)≤g.pos+n then Es else sgO sg (g.pos+n)
theorem a8K{sg:List Sg}{i:Int}(h:(sg.length:Int)≤i):sgO sg i=Es:=by
 unfold sgO;rw[List.getD_eq_getElem?_getD,List.getElem?_eq_none (by omega)];rfl
theorem FO{sg:List Sg}{i:Int}{e:Sg}(h:sg[i.toNat]? =some e):sgO sg i=e:=by simp [sgO,List.getD,h]
theorem Jc{sg:List Sg}{g:Gs}{n:Int}(h:g.bad=false):pkG sg g n=sgO sg (g.pos+n):=by
 unfold pkG
 split
 ·rename_i hh
  rcases hh with hh|hh
  ·rw[h] at hh;cases hh
  ·exact(a8K hh).symm
 ·rfl
theorem a8L{sg:List Sg}{g:Gs}{n:Int}(h:g.bad=true):pkG sg g n=Es:=by unfold pkG;rw[if_pos (.inl h)]
def isG(sg:List Sg)(g:Gs)(k:Int)(t:List UInt8):Bool:=decide ((pkG sg g 0).kind=k)&&((pkG sg g 0).text==t)
def nmG(sg:List Sg)(g:Gs)(n:Int):Bool:=decide ((pkG sg g n).kind=1)&& !kw (pkG sg g n).text
theorem QX{sg:List Sg}{g:Gs}{s:Ps}{k:Int}{t:List UInt8}(h:pur g=some s):isG sg g k t=isT sg s k t:=by
 obtain⟨h1,rfl⟩:=EP.1 h
 simp [isG,isT,Jc h1]
theorem a0w{sg:List Sg}{g:Gs}{k:Int}{t:List UInt8}(h:pur g=none)(hk:k≠0):isG sg g k t=false:=by
 simp [isG,a8L (a0v.1 h),Es,Ne.symm hk]
theorem Ll{sg:List Sg}{g:Gs}{s:Ps}{n:Int}(h:pur g=some s):nmG sg g n=Cv sg (s.pos+n):=by
 obtain⟨h1,rfl⟩:=EP.1 h
 simp [nmG,Cv,Jc h1]
theorem Dh{sg:List Sg}{g:Gs}{k:Int}{t:List UInt8}(h:isG sg g k t=true)(hk:k≠0):g.bad=false∧g.pos<sg.length:=by
 unfold isG pkG at h
 split at h
 ·simp [Es,Ne.symm hk] at h
 ·rename_i hh
  simp only[Int.add_zero] at hh
  exact⟨by cases hb:g.bad<;>simp_all,by omega⟩
theorem QY{sg:List Sg}{g:Gs}{n:Int}(h:nmG sg g n=true):g.bad=false∧g.pos+n<sg.length:=by
 unfold nmG pkG at h
 split at h
 ·simp [Es] at h
 ·rename_i hh;exact⟨by cases hb:g.bad<;>simp_all,by omega⟩
def Au(g:Gs):Gs:=⟨g.pos+1,g.deep,g.bad,g.nodes⟩
def Bt(g:Gs):Gs:=⟨g.pos,g.deep,true,g.nodes⟩
def gDp(g:Gs)(d:Int):Gs:=⟨g.pos,g.deep+d,g.bad,g.nodes⟩
def Ax(sg:List Sg)(g:Gs)(m:List UInt8):Gs:=if isG sg g 4 m then Au g else g
def Av(sg:List Sg)(g:Gs)(m:List UInt8):Gs:=if isG sg g 4 m then Au g else Bt g
def Di(g:Gs):Gs:=if g.bad then g else Au g
def DB(g:Gs):Bool:=g.bad||decide (g.nodes.length=300)
def As(g:Gs)(x:Nd):Gs:=if DB g then Bt g else⟨g.pos,g.deep,g.bad,g.nodes++[x]⟩
def AX(g:Gs):Int:=if DB g then 0 else g.nodes.length
def CK(sg:List Sg)(g:Gs)(m:List UInt8)(x:Nd):Gs:=if isG sg g 4 m then Di (As g x) else Bt g
def CL(sg:List Sg)(g:Gs)(m:List UInt8):Int:=if isG sg g 4 m then AX g else 0
def Ev(sg:List Sg)(g:Gs)(k:Int)(b:Bool):Gs:=Di (As g ⟨k,(pkG sg g 0).text,[],b⟩)
def DS(sg:List Sg)(g:Gs):Gs:=if nmG sg g 0 then Ev sg g 1 false else Bt g
def Eh(sg:List Sg)(g:Gs):Int:=if nmG sg g 0 then AX g else 0
def CO(sg:List Sg)(g:Gs):Gs:=if nmG sg g 0 then Au g else Bt g
def Dc(sg:List Sg)(g:Gs):List UInt8:=if nmG sg g 0 then(pkG sg g 0).text else []
theorem Gj{sg:List Sg}{g:Gs}(h:gsOk sg g)(hl:g.pos<sg.length):gsOk sg (Au g):=by
 obtain⟨h1,h2⟩:=h
 exact⟨by simp only[Au];omega,h2⟩
theorem Lm{sg:List Sg}{g:Gs}(h:gsOk sg g):gsOk sg (Bt g):=h
theorem Vi{g:Gs}:pur (Au g)=(pur g).map adv:=by
 cases h:g.bad<;>simp [pur,Au,h,adv]
theorem Jd{g:Gs}:pur (Bt g)=none:=by simp [pur,Bt]
theorem a0x{sg:List Sg}{g:Gs}{k:Int}{m:List UInt8}(h:gsOk sg g)(hk:k≠0)(hm:isG sg g k m=true):Vh sg g (fun s=>if isT sg s k m then some (adv s) else none) (Au g)∧(Au g).bad=false∧g.pos<(Au g).pos:=by
 obtain⟨h1,h2⟩:=Dh hm hk
 refine⟨⟨Gj h h2,rfl,by simp only[Au];omega,?_⟩,h1,by simp only[Au];omega⟩
 rw[Vi,Dg h1]
 have:isT sg ⟨g.pos,g.deep,g.nodes⟩ k m=true:=by rw[←QX (Dg h1)];exact hm
 simp [this]
theorem QZ{sg:List Sg}{g:Gs}{s:Ps}{k:Int}{m:List UInt8}(hm:isG sg g k m=false)(hs:pur g=some s):isT sg s k m=false:=by rw[←QX hs];exact hm
theorem Vj{sg:List Sg}{g:Gs}{s:Ps}{k:Int}{m:List UInt8}(hm:isG sg g k m=true)(hs:pur g=some s):isT sg s k m=true:=by rw[←QX hs];exact hm
theorem OL{sg:List Sg}{g:Gs}{m:List UInt8}(h:gsOk sg g):Vh sg g (BB sg m) (Av sg g m)∧((Av sg g m).bad=false→g.pos<(Av sg g m).pos):=by
 unfold Av
 cases hm:isG sg g 4 m with
 |true=>
  obtain⟨h1,h2,h3⟩:=a0x h (by omega) hm
  simp only[if_true]
  exact⟨h1,fun _=>h3⟩
 |false=>
  simp only[Bool.false_eq_true,if_false]
  refine⟨⟨Lm h,rfl,Int.le_refl _,?_⟩,fun hb=>by simp [Bt] at hb⟩
  rw[Jd]
  cases hs:pur g with
  |none=>rfl
  |some s=>
   simp only[Option.bind_some,BB,isM,QZ hm hs];rfl
theorem Ra{g:Gs}(h:DB g=false):g.bad=false∧g.nodes.length≠300:=by
 simpa [DB] using h
theorem OM{sg:List Sg}{g:Gs}{x:Nd}(h:gsOk sg g)(hx:Df x):gsOk sg (As g x):=by
 unfold As
 cases hf:DB g with
 |true=>exact Lm h
 |false=>
  obtain⟨h1,h2⟩:=Ra hf
  obtain⟨a,b,c,d⟩:=h
  refine⟨a,b,?_,?_⟩
  ·simp;omega
  ·simp only[Bool.false_eq_true,if_false]
   intro y hy
   rcases List.mem_append.1 hy with hy|hy
   ·exact d y hy
   ·simp at hy;subst hy;exact hx
theorem a0y{sg:List Sg}{g:Gs}{x:Nd}(h:gsOk sg g):pur (As g x)=((pur g).bind (Bc x)).map (·.2)∧∀p,(pur g).bind (Bc x)=some p→AX g=p.1:=by
 unfold As AX
 cases hf:DB g with
 |true=>
  simp only[if_true,Jd]
  have:(pur g).bind (Bc x)=none:=by
   cases hs:pur g with
   |none=>rfl
   |some s=>
    obtain⟨h1,rfl⟩:=EP.1 hs
    have h3:g.nodes.length=300:=by simpa [DB,h1] using hf
    simp [Bc,h3]
  rw[this];exact⟨rfl,fun p hp=>by cases hp⟩
 |false=>
  obtain⟨h1,h2⟩:=Ra hf
  have h3:g.nodes.length≤300:=h.2.2.1
  have h4:¬300≤g.nodes.length:=by omega
  simp [pur,h1,Bc,h4]
theorem Rb{sg:List Sg}{g:Gs}{x:Nd}(h:gsOk sg g)(hx:Df x):BG sg g (Bc x) (AX g,As g x):=by
 refine⟨OM h hx,?_,?_,(a0y h).1,(a0y h).2⟩
 ·simp only[As];split<;>rfl
 ·simp only[As];split<;>exact Int.le_refl _
theorem Vk{sg:List Sg}{g:Gs}{x:Nd}(h:gsOk sg g)(hx:Df x)(hl:g.bad=false→g.pos<sg.length):Ah sg g (fun s=>Eb (Bc x s)) (AX g,Di (As g x)):=by
 obtain⟨h1,h2,h3,h4,h5⟩:=Rb h hx
 simp only at h1 h2 h3 h4 h5
 have hp:pur (Di (As g x))=(pur (As g x)).map adv:=by
  unfold Di
  cases hb:(As g x).bad with
  |true=>rw[DR hb];simp [DR hb]
  |false=>simp only[Bool.false_eq_true,if_false];exact Vi
 have hpos:(As g x).pos=g.pos:=by simp only[As];split<;>rfl
 have hbad:(As g x).bad=false→g.bad=false:=by
  intro hb;simp only[As] at hb;split at hb
  ·simp [Bt] at hb
  ·exact hb
 refine⟨⟨?_,?_,?_,?_,?_⟩,?_⟩
 ·simp only[Di];split
  ·exact h1
  ·rename_i hb
   exact Gj h1 (by rw[hpos];exact hl (hbad (by simpa using hb)))
 ·simp only[Di];split<;>simpa [Au] using h2
 ·simp only[Di];split
  ·exact h3
  ·simp only[Au];omega
 ·simp only;rw[hp,h4]
  cases hs:pur g with
  |none=>rfl
  |some s=>simp only[Option.bind_some,Eb];cases Bc x s<;>rfl
 ·intro p hp2
  simp only
  cases hs:pur g with
  |none=>rw[hs] at hp2;cases hp2
  |some s=>
   rw[hs] at hp2 h5
   simp only[Option.bind_some,Eb,Option.map_eq_some_iff] at hp2
   obtain⟨q,hq,rfl⟩:=hp2
   exact h5 q (by simpa using hq)
 ·simp only[Di]
  split
  ·rename_i hb;intro hh;rw[hb] at hh;cases hh
  ·intro _;simp only[Au];omega
theorem MW{sg:List Sg}{g:Gs}{m:List UInt8}{x:Nd}(h:gsOk sg g)(hx:Df x):Ah sg g (Bm sg m x) (CL sg g m,CK sg g m x):=by
 unfold CK CL
 cases hm:isG sg g 4 m with
 |true=>
  obtain⟨hb,hl⟩:=Dh hm (by omega)
  have:=Vk h hx (fun _=>hl)
  simp only[if_true]
  have e:(pur g).bind (Bm sg m x)=(pur g).bind fun s=>Eb (Bc x s):=by
   rw[Dg hb]
   have:isM sg ⟨g.pos,g.deep,g.nodes⟩ m=true:=Vj hm (Dg hb)
   simp [Bm,this]
  obtain⟨⟨a1,a2,a3,a4,a5⟩,a6⟩:=this
  exact⟨⟨a1,a2,a3,by rw[e];exact a4,by rw[e];exact a5⟩,a6⟩
 |false=>
  simp only[Bool.false_eq_true,if_false]
  have e:(pur g).bind (Bm sg m x)=none:=by
   cases hs:pur g with
   |none=>rfl
   |some s=>
    have:isM sg s m=false:=QZ hm hs
    simp [Bm,this]
  refine⟨⟨Lm h,rfl,Int.le_refl _,by rw[e];exact Jd,fun p hp=>by rw[e] at hp;cases hp⟩,fun hb=>by simp [Bt] at hb⟩
theorem a8M{sg:List Sg}(h:sgB sg){i:Int}:(sgO sg i).text.length≤3000:=by
 unfold sgO;rw[List.getD]
 cases hx:sg[i.toNat]? with
 |none=>simp [Es]
 |some e=>exact h.2 e (Cu hx)
theorem ON{sg:List Sg}(h:sgB sg){g:Gs}{n:Int}:(pkG sg g n).text.length≤3000:=by
 unfold pkG;split
 ·simp [Es]
 ·exact a8M h
theorem OO{sg:List Sg}{g:Gs}{k:Int}{b:Bool}(hs:sgB sg)(h:gsOk sg g)(hl:g.bad=false→g.pos<sg.length):Ah sg g (Et sg k b) (AX g,Ev sg g k b):=by
 have hx:Df ⟨k,(pkG sg g 0).text,[],b⟩:=⟨ON hs,by simp⟩
 have:=Vk (x:=⟨k,(pkG sg g 0).text,[],b⟩) h hx hl
 have e:(pur g).bind (Et sg k b)=(pur g).bind fun s=>Eb (Bc ⟨k,(pkG sg g 0).text,[],b⟩ s):=by
  cases hs:pur g with
  |none=>rfl
  |some s=>
   obtain⟨h1,rfl⟩:=EP.1 hs
   simp [Et,Jc h1]
 obtain⟨⟨a1,a2,a3,a4,a5⟩,a6⟩:=this
 exact⟨⟨a1,a2,a3,by rw[e];exact a4,by rw[e];exact a5⟩,a6⟩
theorem Rc{sg:List Sg}{g:Gs}(hs:sgB sg)(h:gsOk sg g):Ah sg g (BN sg) (Eh sg g,DS sg g):=by
 unfold DS Eh
 cases hm:nmG sg g 0 with
 |true=>
  obtain⟨hb,hl⟩:=QY hm
  simp only[if_true]
  obtain⟨⟨a1,a2,a3,a4,a5⟩,a6⟩:=OO (k:=1) (b:=false) hs h (fun _=>by omega)
  have e:(pur g).bind (BN sg)=(pur g).bind (Et sg 1 false):=by
   rw[Dg hb]
   have:Cv sg g.pos=true:=by have:=Ll (sg:=sg) (n:=0) (Dg hb);rw[hm] at this;simpa using this.symm
   simp [BN,this]
  exact⟨⟨a1,a2,a3,by rw[e];exact a4,by rw[e];exact a5⟩,a6⟩
 |false=>
  simp only[Bool.false_eq_true,if_false]
  have e:(pur g).bind (BN sg)=none:=by
   cases hs:pur g with
   |none=>rfl
   |some s=>
    have:Cv sg s.pos=false:=by have:=Ll (sg:=sg) (n:=0) hs;rw[hm] at this;simpa using this.symm
    simp [BN,this]
  refine⟨⟨Lm h,rfl,Int.le_refl _,by rw[e];exact Jd,fun p hp=>by rw[e] at hp;cases hp⟩,fun hb=>by simp [Bt] at hb⟩
theorem MX{sg:List Sg}{g:Gs}(h:gsOk sg g):Ah sg g (Eu sg) (Dc sg g,CO sg g):=by
 unfold CO Dc
 cases hm:nmG sg g 0 with
 |true=>
  obtain⟨hb,hl⟩:=QY hm
  simp only[if_true]
  have hn:Cv sg g.pos=true:=by have:=Ll (sg:=sg) (n:=0) (Dg hb);rw[hm] at this;simpa using this.symm
  refine⟨⟨Gj h (by omega),rfl,by simp only[Au];omega,?_,?_⟩,fun _=>by simp only[Au];omega⟩
  ·simp only;rw[Vi,Dg hb];simp [Eu,hn]
  ·intro p hp;rw[Dg hb] at hp
   simp [Eu,hn] at hp
   rw[←hp,Jc hb];simp
 |false=>
  simp only[Bool.false_eq_true,if_false]
  have e:(pur g).bind (Eu sg)=none:=by
   cases hs:pur g with
   |none=>rfl
   |some s=>
    have:Cv sg s.pos=false:=by have:=Ll (sg:=sg) (n:=0) hs;rw[hm] at this;simpa using this.symm
    simp [Eu,this]
  refine⟨⟨Lm h,rfl,Int.le_refl _,by rw[e];exact Jd,fun p hp=>by rw[e] at hp;cases hp⟩,fun hb=>by simp [Bt] at hb⟩
end Go.My
end
section
namespace Go.My
open Go.Eng Go.Proofs
variable {G:GInv}
theorem a8N{a:Int}{b:List UInt8}{c:List Int}{d:Bool}{o:Bool}{i:Nat}{q:Nd→Prop}(h:q ⟨a,b,c,d⟩):∃x:Nd,a=x.kind∧b=x.text∧AV.sl o i 1 Int Bw c=AV.sl o i 1 Int Bw x.kids∧d=x.blank∧q x:=⟨⟨a,b,c,d⟩,rfl,rfl,rfl,rfl,h⟩
theorem AN{α β γ δ ε ζ η:Type}{p q:α×β×γ×δ×ε×ζ×η→Prop}(a:α)(b:β)(c:γ)(d:δ)(e:ε)(f:ζ)(g:η)(h2:q (a,b,c,d,e,f,g))(h1:p (a,b,c,d,e,f,g)):∃x,p x∧q x:=⟨_,h1,h2⟩
theorem AO{α β γ δ ε ζ η θ:Type}{p q:α×β×γ×δ×ε×ζ×η×θ→Prop}(a:α)(b:β)(c:γ)(d:δ)(e:ε)(f:ζ)(g:η)(h:θ)(h2:q (a,b,c,d,e,f,g,h))(h1:p (a,b,c,d,e,f,g,h)):∃x,p x∧q x:=⟨_,h1,h2⟩
theorem AP{α β γ δ ε ζ η θ ι:Type}{p q:α×β×γ×δ×ε×ζ×η×θ×ι→Prop}(a:α)(b:β)(c:γ)(d:δ)(e:ε)(f:ζ)(g:η)(h:θ)(i:ι)(h2:q (a,b,c,d,e,f,g,h,i))(h1:p (a,b,c,d,e,f,g,h,i)):∃x,p x∧q x:=⟨_,h1,h2⟩
theorem AQ{α β γ δ ε ζ η θ ι κ:Type}{p q:α×β×γ×δ×ε×ζ×η×θ×ι×κ→Prop}(a:α)(b:β)(c:γ)(d:δ)(e:ε)(f:ζ)(g:η)(h:θ)(i:ι)(j:κ)(h2:q (a,b,c,d,e,f,g,h,i,j))(h1:p (a,b,c,d,e,f,g,h,i,j)):∃x,p x∧q x:=⟨_,h1,h2⟩
structure ST where
 sg:List Sg
 z:Int
 ms:List (Int×Int)
abbrev xg (x:ST×Int×Int×Bool×List Nd):Gs:=⟨x.2.1,x.2.2.1,x.2.2.2.1,x.2.2.2.2⟩
abbrev xh {α:Type} (x:ST×Int×Int×Bool×List Nd×α):Gs:=⟨x.2.1,x.2.2.1,x.2.2.2.1,x.2.2.2.2.1⟩
abbrev yG (y:Int×Int×Bool×List Nd):Gs:=⟨y.1,y.2.1,y.2.2.1,y.2.2.2⟩
abbrev yS {α:Type} (y:α×Int×Int×Bool×List Nd):α×Gs:=(y.1,⟨y.2.1,y.2.2.1,y.2.2.2.1,y.2.2.2.2⟩)
def rOk(s:ST)(g:Gs):Prop:=sgB s.sg∧gsOk s.sg g
theorem GH{s:ST}{g:Gs}(h:rOk s g):((0≤g.pos∧g.pos≤s.sg.length)∧(0≤g.deep∧g.deep≤21))∧g.nodes.length≤300∧s.sg.length≤3000:=⟨⟨h.2.1,h.2.2.1⟩,h.2.2.2.1,h.1.1⟩
theorem a8O{sg:List Sg}{g:Gs}{n:Int}(h:g.bad=true∨(sg.length:Int)≤g.pos+n):pkG sg g n=Es:=if_pos h
theorem a8P{sg:List Sg}{g:Gs}{n:Int}{e:Sg}(he:sg[(g.pos+n).toNat]? =some e)(hb:g.bad=false)(hl:¬(sg.length:Int)≤g.pos+n):pkG sg g n=e:=by
 rw[pkG,if_neg (by simp [hb];omega),FO he]
end Go.My
end
section
namespace Go.My
open Go.Eng
def restP{α:Type}(sg:List Sg)(x:Gs)(f:Ps→Option (α×Ps))(y:Gs)(g:Ps→Option (α×Ps))(d:Int):Prop:=
 gsOk sg y∧y.deep=x.deep+d∧x.pos≤y.pos∧(pur y).bind g=(pur x).bind f
theorem Dj{α:Type}{sg:List Sg}{x:Gs}{f:Ps→Option (α×Ps)}(h:gsOk sg x):restP sg x f x f 0:=⟨h,by omega,Int.le_refl _,rfl⟩
theorem DT{α:Type}{sg:List Sg}{x y:Gs}{f g g':Ps→Option (α×Ps)}{d:Int}(h:restP sg x f y g d)(e:∀s,pur y=some s→g s=g' s):restP sg x f y g' d:=by
 refine⟨h.1,h.2.1,h.2.2.1,?_⟩
 rw[←h.2.2.2]
 cases hs:pur y with
 |none=>rfl
 |some s=>exact(e s hs).symm
theorem a0z{α:Type}{sg:List Sg}{x y z:Gs}{f g g':Ps→Option (α×Ps)}{h:Ps→Option Ps}{d:Int}(h1:restP sg x f y g d)(h2:Vh sg y h z)(e:∀s,pur y=some s→g s=(h s).bind g'):restP sg x f z g' d:=by
 obtain⟨a1,a2,a3,a4⟩:=h1;obtain⟨b1,b2,b3,b4⟩:=h2
 refine⟨b1,by omega,by omega,?_⟩
 rw[b4,←a4]
 cases hs:pur y with
 |none=>rfl
 |some s=>simp only[Option.bind_some];rw[e s hs]
theorem BS{α β:Type}{sg:List Sg}{x y:Gs}{z:β×Gs}{f g:Ps→Option (α×Ps)}{k:β→Ps→Option (α×Ps)}{h:Ps→Option (β×Ps)}{d:Int}(h1:restP sg x f y g d)(h2:BG sg y h z)
 (e:∀s,pur y=some s→g s=(h s).bind fun p=>k p.1 p.2):restP sg x f z.2 (k z.1) d:=by
 obtain⟨a1,a2,a3,a4⟩:=h1;obtain⟨b1,b2,b3,b4,b5⟩:=h2
 refine⟨b1,by omega,by omega,?_⟩
 rw[b4,←a4]
 cases hs:pur y with
 |none=>rfl
 |some s=>
  simp only[Option.bind_some];rw[e s hs]
  rw[hs] at b5
  simp only[Option.bind_some] at b5
  cases hp:h s with
  |none=>rfl
  |some p=>simp only[Option.map_some,Option.bind_some];rw[b5 p hp]
theorem GI{α:Type}{sg:List Sg}{x y:Gs}{f:Ps→Option (α×Ps)}{a:α}(h:restP sg x f y (fun s=>some (a,s)) 0):BG sg x f (a,y):=by
 obtain⟨a1,a2,a3,a4⟩:=h
 refine⟨a1,by simp only;omega,a3,?_,?_⟩
 ·rw[←a4];cases pur y<;>rfl
 ·intro p hp;rw[←a4] at hp
  cases hs:pur y with
  |none=>rw[hs] at hp;cases hp
  |some s=>rw[hs] at hp;simp only[Option.bind_some,Option.some.injEq] at hp;rw[←hp]
theorem OP{α:Type}{sg:List Sg}{x y:Gs}{f g:Ps→Option (α×Ps)}{a:α}(h:restP sg x f y g 0)(hb:y.bad=true):BG sg x f (a,y):=by
 obtain⟨a1,a2,a3,a4⟩:=h
 rw[DR hb] at a4
 have hn:(pur x).bind f=none:=a4.symm
 refine⟨a1,by simp only;omega,a3,?_,fun p hp=>by rw[hn] at hp;cases hp⟩
 rw[hn,DR hb];rfl
theorem a0A{α:Type}{sg:List Sg}{x y:Gs}{f g:Ps→Option (α×Ps)}{d:Int}(h:restP sg x f y g d)(e:∀s,pur y=some s→g s=none):(pur x).bind f=none:=by
 rw[←h.2.2.2]
 cases hs:pur y with
 |none=>rfl
 |some s=>exact e s hs
theorem a0B{α:Type}{sg:List Sg}{x y:Gs}{f g:Ps→Option (α×Ps)}{a:α}(h:restP sg x f y g 0)(e:∀s,pur y=some s→g s=none):BG sg x f (a,Bt y):=by
 have hn:=a0A h e
 refine⟨Lm h.1,by simp only[Bt];have:=h.2.1;omega,h.2.2.1,?_,fun p hp=>by rw[hn] at hp;cases hp⟩
 rw[hn,Jd];rfl
theorem Ln{α:Type}{sg:List Sg}{x y:Gs}{f g g':Ps→Option (α×Ps)}{d e:Int}(h:restP sg x f y g d)(hd:0≤y.deep+e∧y.deep+e≤21)(hg:∀s,pur y=some s→g s=g' (dp s e)):restP sg x f (gDp y e) g' (d+e):=by
 obtain⟨a1,a2,a3,a4⟩:=h
 refine⟨⟨a1.1,hd,a1.2.2⟩,by simp only[gDp];omega,a3,?_⟩
 rw[←a4]
 cases hb:y.bad with
 |true=>rw[DR hb,DR (by simpa [gDp] using hb)];rfl
 |false=>
  rw[Dg hb,Dg (g:=gDp y e) (by simpa [gDp] using hb)]
  simp only[Option.bind_some]
  rw[hg _ (Dg hb)];rfl
theorem a0C{α:Type}{sg:List Sg}{x y:Gs}{f g g':Ps→Option (α×Ps)}{d:Int}(h:restP sg x f y g d)(hg:∀s,pur y=some s→g s=none):restP sg x f (Bt y) g' d:=by
 have hn:=a0A h hg
 refine⟨Lm h.1,h.2.1,h.2.2.1,?_⟩
 rw[Jd,hn];rfl
theorem Je{sg:List Sg}{g:Gs}{s:Ps}{m:List UInt8}(hs:pur g=some s)(hm:isG sg g 4 m=true):isM sg s m=true:=Vj hm hs
theorem EQ{sg:List Sg}{g:Gs}{s:Ps}{m:List UInt8}(hs:pur g=some s)(hm:isG sg g 4 m=false):isM sg s m=false:=QZ hm hs
theorem Ew{sg:List Sg}{g:Gs}{s:Ps}{m:List UInt8}(hs:pur g=some s)(hm:isG sg g 1 m=false):isW sg s m=false:=QZ hm hs
theorem GJ{α:Type}{sg:List Sg}{x y:Gs}{f g g':Ps→Option (α×Ps)}{d:Int}{m:List UInt8}{k:Int}(h:restP sg x f y g d)(hk:k≠0)(hm:isG sg y k m=true)(hg:∀s,pur y=some s→isT sg s k m=true→g s=g' (adv s)):
 restP sg x f (Au y) g' d:=by
 obtain⟨h1,h2,h3⟩:=a0x h.1 hk hm
 refine a0z h h1 fun s hs=> ?_
 have ht:=Vj hm hs
 rw[hg s hs ht,ht];rfl
theorem Hj{α:Type}{sg:List Sg}{x y:Gs}{f g g':Ps→Option (α×Ps)}{d:Int}{m:List UInt8}(h:restP sg x f y g d)(hg:∀s,pur y=some s→g s=(BB sg m s).bind g'):restP sg x f (Av sg y m) g' d:=
 a0z h (OL h.1).1 hg
theorem a8Q{α:Type}{sg:List Sg}{x:Gs}{y:α×Gs}{f:Ps→Option (α×Ps)}(h:BG sg x f y):restP sg x f y.2 (fun s=>some (y.1,s)) 0:=by
 obtain⟨a1,a2,a3,a4,a5⟩:=h
 refine⟨a1,by omega,a3,?_⟩
 cases hp:(pur x).bind f with
 |none=>rw[a4,hp];rfl
 |some p=>rw[a4,hp,a5 p hp];rfl
theorem a8R{sg:List Sg}{one:Ps→PR}{m:List UInt8}{n:Nat}{ks:List Int}{s:Ps}(h:isM sg s m=true):Bs sg one m (n+1) ks s=some (ks,s):=by rw[Bs,if_pos h]
theorem a8S{sg:List Sg}{one:Ps→PR}{m:List UInt8}{n:Nat}{ks:List Int}{s:Ps}(h:isM sg s m=false):Bs sg one m (n+1) ks s=(one s).bind fun p=>if isM sg p.2 [44] then Bs sg one m n (ks++[p.1]) (adv p.2) else some (ks++[p.1],p.2):=by
 rw[Bs,if_neg (by simp [h])]
end Go.My
end
