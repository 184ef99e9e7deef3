/- joined -/
import Derived.Test.YtglbamflbnldhaaGreatDoorQF
set_option linter.unusedSimpArgs false
set_option linter.unusedVariables false
section
namespace Go.My
open Go.Eng Go.Proofs
variable {G:GInv}
def sdp(ns:List Nd)(i:Nat)(ds:List Int):Int:=
 if Ci ns i=true∧(i=0∨ds.getD (i-1) 0≠0) then(if 14≤mx ds (Af ns i).kids 0 then 0 else mx ds (Af ns i).kids 0+1) else 0
def sds(ns:List Nd):Nat→List Int
 |0=>[]
 |n+1=>sds ns n++[sdp ns n (sds ns n)]
theorem HX{ns:List Nd}:∀ {n:Nat},(sds ns n).length=n
 |0=>rfl
 |n+1=>by rw[sds,List.length_append,HX];rfl
theorem a1b{ns:List Nd}:∀ {n:Nat},(match CS ns n with|some ds=>sds ns n=ds|none=>0<n∧(sds ns n).getD (n-1) 0=0)
 |0=>by simp [CS,sds]
 |n+1=>by
  have ih:= @a1b ns n
  unfold CS
  cases hd:CS ns n with
  |none=>
   rw[hd] at ih
   simp only
   refine⟨by omega,?_⟩
   have hz:sdp ns n (sds ns n)=0:=by
    unfold sdp;rw[if_neg];rintro⟨_,h|h⟩
    ·omega
    ·exact h ih.2
   rw[sds,hz,List.getD,List.getElem?_append_right (by rw[HX];omega),HX];simp
  |some ds=>
   rw[hd] at ih
   simp only at ih ⊢
   by_cases hn:Ci ns n=true
   ·rw[if_pos hn]
    have hprev:n=0∨(sds ns n).getD (n-1) 0≠0:=by
     by_cases e:n=0
     ·exact .inl e
     ·right
      rw[ih,List.getD]
      have hl:=Kp hd
      have:ds[n-1]? =some ds[n-1]:=by simp
      rw[this];have:=Pc hd ds[n-1] (by simp);simp;omega
    have hs:sdp ns n (sds ns n)=if 14≤mx ds (Af ns n).kids 0 then 0 else mx ds (Af ns n).kids 0+1:=by
     unfold sdp;rw[if_pos ⟨hn,hprev⟩,ih]
    by_cases hm:14≤mx ds (Af ns n).kids 0
    ·rw[if_pos hm];simp only
     refine⟨by omega,?_⟩
     rw[sds,hs,if_pos hm,List.getD,List.getElem?_append_right (by rw[HX];omega),HX];simp
    ·rw[if_neg hm];simp only
     rw[sds,hs,if_neg hm,ih]
   ·rw[if_neg hn];simp only
    refine⟨by omega,?_⟩
    have hz:sdp ns n (sds ns n)=0:=by unfold sdp;rw[if_neg (fun h=>hn h.1)]
    rw[sds,hz,List.getD,List.getElem?_append_right (by rw[HX];omega),HX];simp
theorem a9R{ns:List Nd}{k:Int}{v:Int}(h:BM ns k=true)(hv:(sds ns (k.toNat+1))[k.toNat]? =some v):v=BE ns k:=by
 have ih:= @a1b ns (k.toNat+1)
 unfold BE;rw[if_pos h]
 cases hd:CS ns (k.toNat+1) with
 |none=>rw[hd] at ih;simp only at ih ⊢;have:=ih.2;rw[List.getD] at this;simp [hv] at this;exact this
 |some ds=>rw[hd] at ih;simp only at ih ⊢;rw[←ih,List.getD,hv];rfl
theorem VH{ns:List Nd}:∀ {n:Nat},∀d∈sds ns n,0≤d∧d≤14
 |0,d,h=>by simp [sds] at h
 |n+1,d,h=>by
  rw[sds] at h
  rcases List.mem_append.1 h with h|h
  ·exact VH d h
  ·simp at h;subst h
   have:=QQ (sds ns n) (Af ns n).kids 0
   unfold sdp;split
   ·split<;>omega
   ·omega
def okB(ns:List Nd)(i:Int):Bool:=Ci ns i&&(decide (i=0)|| !decide ((sds ns i.toNat).getD (i.toNat-1) 0=0))
theorem a1c{ns:List Nd}{i:Int}(h:0≤i):sdp ns i.toNat (sds ns i.toNat)=if okB ns i then(if 14≤mx (sds ns i.toNat) (Af ns i).kids 0 then 0 else mx (sds ns i.toNat) (Af ns i).kids 0+1) else 0:=by
 have e:((i.toNat:Nat):Int)=i:=by omega
 unfold sdp;rw[e]
 have hb:okB ns i=true↔Ci ns i=true∧(i.toNat=0∨(sds ns i.toNat).getD (i.toNat-1) 0≠0):=by
  unfold okB
  simp only[Bool.and_eq_true,Bool.or_eq_true,decide_eq_true_eq,Bool.not_eq_true',decide_eq_false_iff_not]
  constructor
  ·rintro⟨h1,h2⟩;exact⟨h1,h2.imp (fun h=>by omega) id⟩
  ·rintro⟨h1,h2⟩;exact⟨h1,h2.imp (fun h=>by omega) id⟩
 by_cases h1:okB ns i=true
 ·rw[if_pos h1,if_pos (hb.1 h1)]
 ·rw[if_neg h1,if_neg (fun h2=>h1 (hb.2 h2))]
def eI(ns:List Nd)(i j d:Int):Prop:=(okB ns i=true→j≤(Af ns i).kids.length∧1≤d∧d≤15∧mx (sds ns i.toNat) ((Af ns i).kids.drop j.toNat) (d-1)=mx (sds ns i.toNat) (Af ns i).kids 0)∧0≤j∧(okB ns i=false→d=0)
theorem a9S{ns:List Nd}{i:Int}:eI ns i 0 (if okB ns i then 1 else 0):=by
 refine⟨fun h=> ?_,by omega,fun h=> ?_⟩
 ·rw[if_pos h];refine⟨by omega,by omega,by omega,by simp⟩
 ·rw[h];rfl
theorem Ro{ns:List Nd}{i j d:Int}(h:eI ns i j d)(hd:d>0):okB ns i=true:=by
 cases hb:okB ns i
 ·have:=h.2.2 hb;omega
 ·rfl
theorem a1d{ns:List Nd}{i:Int}(h:okB ns i=true):Ci ns i=true:=by
 simp only[okB,Bool.and_eq_true] at h;exact h.1
theorem a9T{ns:List Nd}{i j d c:Int}{y:Nd}(h:eI ns i j d)(hd:d>0)(hy:ns[i.toNat]? =some y)(hc:y.kids[j.toNat]? =some c):0≤c∧c<i:=by
 have:=(HR (a1d (Ro h hd))).2.2.2.1
 rw[Bw hy] at this;exact this c (Ca hc)
theorem a9U{ns:List Nd}{i j d:Int}{y:Nd}(h:eI ns i j d)(hd:d>0)(hy:ns[i.toNat]? =some y):y.kids.length≤12:=by
 have:=(HR (a1d (Ro h hd))).2.1
 rwa [Bw hy] at this
theorem a9V{ns:List Nd}{i j d c v d':Int}{y:Nd}(h:eI ns i j d)(hd:d>0)(hy:ns[i.toNat]? =some y)(hc:y.kids[j.toNat]? =some c)(hv:(sds ns i.toNat)[c.toNat]? =some v)(hd':d'-1=max (d-1) v):eI ns i (j+1) d':=by
 have hb:=Ro h hd
 obtain⟨h1,h2,h3,h4⟩:=h.1 hb
 have h0:=h.2.1
 have hr:=VH v (Ca hv)
 rw[Bw hy] at h4 h1
 have:=(Fz hc).1
 refine⟨fun _=> ?_,by omega,fun hh=>by rw[hb] at hh;cases hh⟩
 rw[Bw hy]
 refine⟨by omega,by omega,by omega,?_⟩
 rw[←h4,Nj hc,DX h0,mx,List.getD,hv,Option.getD_some,hd']
theorem a9W{ns:List Nd}{i:Int}{c:Nat}{v:Int}(hv:(sds ns i.toNat)[c]? =some v):0≤v∧v≤14:=VH v (Ca hv)
theorem a9X{ns:List Nd}{i j d:Int}{y:Nd}(hi:0≤i)(h:eI ns i j d)(hd:d>0)(hy:ns[i.toNat]? =some y)(hl:¬j<y.kids.length):sds ns i.toNat++[if d>14 then 0 else d]=sds ns (i+1).toNat:=by
 have hb:=Ro h hd
 obtain⟨h1,h2,h3,h4⟩:=h.1 hb
 rw[Bw hy,List.drop_eq_nil_of_le (by omega),mx] at h4
 rw[DX hi,sds,a1c hi,if_pos hb,Bw hy,←h4]
 congr 2
 by_cases h5:d>14
 ·rw[if_pos h5,if_pos (by omega)]
 ·rw[if_neg h5,if_neg (by omega)];omega
theorem a9Y{ns:List Nd}{i j d:Int}(hi:0≤i)(h:eI ns i j d)(hd:¬d>0):sds ns i.toNat++[d]=sds ns (i+1).toNat:=by
 have hb:okB ns i=false:=by
  cases hb:okB ns i
  ·rfl
  ·have:=(h.1 hb).2.1;omega
 rw[DX hi,sds,a1c hi,hb,h.2.2 hb];rfl
theorem a9Z{ns:List Nd}{i:Int}(h:Ci ns i=false):0=if okB ns i=true then(1:Int) else 0:=by simp [okB,h]
theorem b0a{ns:List Nd}{i v:Int}(h:i>0)(hv:(sds ns i.toNat)[(i-1).toNat]? =some v)(h0:v=0):0=if okB ns i=true then(1:Int) else 0:=by
 have e:(i-1).toNat=i.toNat-1:=by omega
 rw[e] at hv;subst h0
 have:(sds ns i.toNat).getD (i.toNat-1) 0=0:=by rw[List.getD,hv];rfl
 simp only[okB,this,decide_true,Bool.not_true,Bool.or_false]
 rw[decide_eq_false (by omega)];simp
theorem b0b{ns:List Nd}{i:Int}(h:Ci ns i=true)(h0:0≤i)(h1:¬i>0):1=if okB ns i=true then(1:Int) else 0:=by
 obtain rfl:i=0:=by omega
 simp [okB,h]
theorem b0c{ns:List Nd}{i v:Int}(h:Ci ns i=true)(h0:i>0)(hv:(sds ns i.toNat)[(i-1).toNat]? =some v)(h1:v≠0):1=if okB ns i=true then(1:Int) else 0:=by
 have e:(i-1).toNat=i.toNat-1:=by omega
 rw[e] at hv
 have:(sds ns i.toNat).getD (i.toNat-1) 0≠0:=by rw[List.getD,hv];exact h1
 simp only[okB,h,this,decide_false,Bool.not_false,Bool.or_true,Bool.and_true,if_true]
def Pm(x:List Nd×Int)(o:Int):LS:= {
 ι:=Int×Int,inv:=fun i=>eI x.1 o i.1 i.2,
 regs:=fun i=>[(0,nds x.1),(1,.int .i64 x.2),(5,Ab (sds x.1 o.toNat)),(6,.int .i64 o),(7,.int .i64 i.2),(8,.int .i64 i.1)],als:=[],meas:=fun i=>(Af x.1 o).kids.length-i.1.toNat}
def Ny(x:List Nd×Int)(o:Int):LS:= {
 ι:=Unit,inv:=fun _=>True,
 regs:=fun i=>[(0,nds x.1),(1,.int .i64 x.2),(5,Ab (sds x.1 o.toNat)),(6,.int .i64 o),(7,.int .i64 (if okB x.1 o then 1 else 0))],als:=[],meas:=fun i=>0}
def lDs(x:List Nd×Int):LS:= {
 ι:=Int,inv:=fun i=>0≤i∧i≤x.2+1,
 regs:=fun i=>[(0,nds x.1),(1,.int .i64 x.2),(5,Ab (sds x.1 i.toNat)),(6,.int .i64 i)],als:=[],meas:=fun i=>(x.2+1-i).toNat,sub:=fun i=>[(9,Pm x i),(200008,Ny x i)]}
def LO:Sig:= {X:=List Nd×Int,args:=fun x=>[nds x.1,.int .i64 x.2],pre:=fun x=>Cy x.1∧x.1.length≤2^30∧BM x.1 x.2=true,Y:=Unit,post:=fun x y=>True,res:=fun x y=>Ab (sds x.1 (x.2.toNat+1)),outs:=fun x y=>[.top,.top],keep:=false}
theorem b0d:Ai G Tryz.prog 78 LO:=
 vcFun_okP [(101,0,Fa)] [(25,⟨Int,AZ⟩)] false (fun x=>[(3,lDs x)]) Tryz.func78 rfl (by decide) ⟨a9Q,trivial⟩ (fun(x:List Nd×Int)=>(∀(y:Unit),True→(∀(x:Int),True∧True)∧True∧True∧True)∧eA (lDs x) [nds x.1,.int .i64 x.2,Ab [],.int .i64 (0:Int)]∧∀(i:Int),(0:Int)≤i∧i≤x.2+(1:Int)→Aa (decide (i≤x.2)) (Aa (decide (i<(↑(List.length x.1):Int))) ((cA Fa [nds x.1,.int .i64 i] fun x_1 y=>Aa (!Ci x_1.1 x_1.2) (eA (Ny x i) [nds x.1,.int .i64 x.2,Ab (sds x.1 (Int.toNat i)),.int .i64 i,.int .i64 (0:Int)]) (Aa (decide (i>(0:Int))) (inR IntKind.i64 (i-(1:Int))∧((0:Int)≤i-(1:Int)∧i-(1:Int)<(↑(List.length (sds x.1 (Int.toNat i))):Int))∧Int.toNat (i-(1:Int))<List.length (sds x.1 (Int.toNat i))∧∀(x_2:Int),(sds x.1 (Int.toNat i))[Int.toNat (i-(1:Int))]? =some x_2→Aa (x_2==(0:Int)) (eA (Ny x i) [nds x.1,.int .i64 x.2,Ab (sds x.1 (Int.toNat i)),.int .i64 i,.int .i64 (0:Int)]) (eA (Ny x i) [nds x.1,.int .i64 x.2,Ab (sds x.1 (Int.toNat i)),.int .i64 i,.int .i64 (1:Int)])) (eA (Ny x i) [nds x.1,.int .i64 x.2,Ab (sds x.1 (Int.toNat i)),.int .i64 i,.int .i64 (1:Int)])))∧∀(i_1:Unit),True→eA (Pm x i) [nds x.1,.int .i64 x.2,Ab (sds x.1 (Int.toNat i)),.int .i64 i,.int .i64 (if okB x.1 i=true then(1:Int) else(0:Int)),.int .i64 (0:Int)]∧∀(i_2:Int×Int),eI x.1 i i_2.1 i_2.2→Aa (decide (i_2.2>(0:Int))) (((0:Int)≤i∧i<(↑(List.length x.1):Int))∧∀(e:Nd),x.1[Int.toNat i]? =some e→Aa (decide (i_2.1<(↑(List.length e.kids):Int))) (((0:Int)≤i∧i<(↑(List.length x.1):Int))∧∀(e:Nd),x.1[Int.toNat i]? =some e→((0:Int)≤i_2.1∧i_2.1<(↑(List.length e.kids):Int))∧∀(e_1:Int),e.kids[Int.toNat i_2.1]? =some e_1→((0:Int)≤e_1∧e_1<(↑(List.length (sds x.1 (Int.toNat i))):Int))∧Int.toNat e_1<List.length (sds x.1 (Int.toNat i))∧∀(x_1:Int),(sds x.1 (Int.toNat i))[Int.toNat e_1]? =some x_1→inR IntKind.i64 (x_1+(1:Int))∧Aa (decide (x_1+(1:Int)>i_2.2)) (((0:Int)≤i∧i<(↑(List.length x.1):Int))∧∀(e:Nd),x.1[Int.toNat i]? =some e→((0:Int)≤i_2.1∧i_2.1<(↑(List.length e.kids):Int))∧∀(e_2:Int),e.kids[Int.toNat i_2.1]? =some e_2→((0:Int)≤e_2∧e_2<(↑(List.length (sds x.1 (Int.toNat i))):Int))∧Int.toNat e_2<List.length (sds x.1 (Int.toNat i))∧∀(x_2:Int),(sds x.1 (Int.toNat i))[Int.toNat e_2]? =some x_2→inR IntKind.i64 (x_2+(1:Int))∧inR IntKind.i64 (i_2.1+(1:Int))∧eN (Pm x i) i_2 [nds x.1,.int .i64 x.2,Ab (sds x.1 (Int.toNat i)),.int .i64 i,.int .i64 (x_2+(1:Int)),.int .i64 (i_2.1+(1:Int))]) (inR IntKind.i64 (i_2.1+(1:Int))∧eN (Pm x i) i_2 [nds x.1,.int .i64 x.2,Ab (sds x.1 (Int.toNat i)),.int .i64 i,.int .i64 i_2.2,.int .i64 (i_2.1+(1:Int))])) (Aa (decide (i_2.2>(14:Int))) (∃(x_1:Int),(0:Int)=x_1∧∃(zs:List Int),Ab [x_1]=Ab zs∧Bj AZ∧AW (List.length (sds x.1 (Int.toNat i))+List.length zs) (8:Nat)∧inR IntKind.i64 (i+(1:Int))∧eN (lDs x) i [nds x.1,.int .i64 x.2,Ab (sds x.1 (Int.toNat i)++zs),.int .i64 (i+(1:Int))]) (∃(x_1:Int),i_2.2=x_1∧∃(zs:List Int),Ab [x_1]=Ab zs∧Bj AZ∧AW (List.length (sds x.1 (Int.toNat i))+List.length zs) (8:Nat)∧inR IntKind.i64 (i+(1:Int))∧eN (lDs x) i [nds x.1,.int .i64 x.2,Ab (sds x.1 (Int.toNat i)++zs),.int .i64 (i+(1:Int))]))) (Aa (decide (i_2.2>(14:Int))) (∃(x_1:Int),(0:Int)=x_1∧∃(zs:List Int),Ab [x_1]=Ab zs∧Bj AZ∧AW (List.length (sds x.1 (Int.toNat i))+List.length zs) (8:Nat)∧inR IntKind.i64 (i+(1:Int))∧eN (lDs x) i [nds x.1,.int .i64 x.2,Ab (sds x.1 (Int.toNat i)++zs),.int .i64 (i+(1:Int))]) (∃(x_1:Int),i_2.2=x_1∧∃(zs:List Int),Ab [x_1]=Ab zs∧Bj AZ∧AW (List.length (sds x.1 (Int.toNat i))+List.length zs) (8:Nat)∧inR IntKind.i64 (i+(1:Int))∧eN (lDs x) i [nds x.1,.int .i64 x.2,Ab (sds x.1 (Int.toNat i)++zs),.int .i64 (i+(1:Int))]))) (rA LO x [Ab (sds x.1 (Int.toNat i)),.top,.top])) (rA LO x [Ab (sds x.1 (Int.toNat i)),.top,.top])) (fun x=>by kernel_rfl) fun(x:List Nd×Int) (hx:Cy x.1∧x.1.length≤2^30∧BM x.1 x.2=true)=>(by
 dsimp only[cA,eA,eN,lDs,Pm,Ny,Bc,nds,Ab,rA,LO,Fa,Au,Az,mvL,lnL,mvE,lnE,Bq]
 obtain⟨h1,h2,h3⟩:=hx;have hl:=h1.1;have hn:=DS.1 h3
 (repeat' first|(with_reducible first|rfl|exact True.intro|apply AK|apply And.intro|((first|apply AA|apply AI|apply AB|apply AJ)<;>intro _))|(apply Ax<;>intro _)|apply AH|refine Ae () ?_ ?_|((first|apply AO|apply AN|apply AM|apply AL|apply AG|apply AF|apply AE|apply AD|apply AC)<;>try dsimp only)|apply Ae|(refine Prod.forall.2 ?_;intro _;try dsimp only)|(intro _;try dsimp only))
 all_goals first
  |rfl
  |omega
  |exact a9Z ‹_›
  |exact b0a ‹_› ‹_› ‹_›
  |exact b0b ‹_› (by omega) ‹_›
  |exact b0c ‹_› ‹_› ‹_› ‹_›
  |exact a9S
  |(rw[HX];omega)
  |skip
 all_goals try(repeat(rename x.1[Int.toNat _]? =some _=>hq;revert hq;rename x.1[Int.toNat _]? =some _=>hr;intro hq;rw[hr] at hq;cases hq))
 all_goals try(repeat(rename(Nd.kids _)[Int.toNat _]? =some _=>hq;revert hq;rename(Nd.kids _)[Int.toNat _]? =some _=>hr;intro hq;rw[hr] at hq;cases hq))
 all_goals try(rename(sds x.1 _)[Int.toNat _]? =some _=>hq;revert hq;rename(sds x.1 _)[Int.toNat _]? =some _=>hr2;intro hq;have hqq:=hr2.symm.trans hq;simp only[Option.some.injEq] at hqq;subst hqq)
 all_goals try(have hke:=a9T ‹_› ‹_› ‹_› ‹_›)
 all_goals try(have hle:=a9U ‹_› ‹_› ‹_›)
 all_goals try(have hve:=a9W ‹_›)
 all_goals try(have hse:=(show eI _ _ _ _ by assumption).2.1)
 all_goals first
  |omega
  |(rw[HX];omega)
  |((try simp only[AR]);omega)
  |exact a9V ‹_› ‹_› ‹_› ‹_› ‹_› (by omega)
  |(rw[←a9X (by omega) ‹_› ‹_› ‹_› ‹_›];simp [*];done)
  |exact a9Y (by omega) ‹_› ‹_›
  |(rw[Bw ‹_›];omega)
  |(congr 1;omega)
  |(simp only[AW,HX,List.length_cons,List.length_nil];omega)
  |skip)
def LP:Sig:= {X:=List Nd×Int,args:=fun x=>[nds x.1,.int .i64 x.2],pre:=fun x=>Cy x.1∧x.1.length≤2^30,Y:=Unit,post:=fun x y=>True,res:=fun x y=> .int .i64 (BE x.1 x.2),outs:=fun x y=>[.top,.top],keep:=false}
theorem b0e:Ai G Tryz.prog 47 LP:=
 vcFun_okP [(46,0,Db),(78,0,LO)] [] false (fun x=>[]) Tryz.func47 rfl (by decide) ⟨Lo,b0d,trivial⟩ (fun(x:List Nd×Int)=>(∀(y:Unit),True→True∧True∧True∧True)∧inR IntKind.i64 ((↑(List.length x.1):Int)-(1:Int))∧cA Db [.int .i64 x.2,.int .i64 (0:Int),.int .i64 ((↑(List.length x.1):Int)-(1:Int))] fun x_1 y=>Aa (!inn x_1.1 x_1.2.1 x_1.2.2) (rA LP x [.int .i64 (0:Int),.top,.top]) (cA LO [nds x.1,.int .i64 x.2] fun x_2 y=>((0:Int)≤x.2∧x.2<(↑(List.length (sds x_2.1 (Int.toNat x_2.2+(1:Nat)))):Int))∧Int.toNat x.2<List.length (sds x_2.1 (Int.toNat x_2.2+(1:Nat)))∧∀(x_3:Int),(sds x_2.1 (Int.toNat x_2.2+(1:Nat)))[Int.toNat x.2]? =some x_3→rA LP x [.int .i64 x_3,.top,.top])) (fun x=>by kernel_rfl) fun(x:List Nd×Int) (hx:Cy x.1∧x.1.length≤2^30)=>(by
 dsimp only[cA,Bc,nds,Ab,rA,Db,LO,LP,Au,Az,mvL,lnL,mvE,lnE]
 obtain⟨h1,h2⟩:=hx;have hl:=h1.1
 (repeat' first|(with_reducible first|rfl|exact True.intro|apply AK|apply And.intro|((first|apply AA|apply AI|apply AB|apply AJ)<;>intro _))|(apply Ax<;>intro _)|apply AH|refine Ae () ?_ ?_|((first|apply AO|apply AN|apply AM|apply AL|apply AG|apply AF|apply AE|apply AD|apply AC)<;>try dsimp only)|apply Ae|(refine Prod.forall.2 ?_;intro _;try dsimp only)|(intro _;try dsimp only))
 all_goals first
  |exact h1
  |exact h2
  |((try simp only[AR]);omega)
  |(rw[Jq] at*;exact a0C ‹_›)
  |(have hh:=(show inn x.2 0 (x.1.length-1)=true by assumption);rw[Jq] at hh;have:=DS.1 hh;first|exact hh|omega|exact a9R hh ‹_› |(rw[HX];omega))
  |skip)
theorem a1e{ns:List Nd}{i v:Int}(hv:(cnt ns.length (Cq ns))[i.toNat]? =some v)(h0:0≤i):((Cq ns).count i:Int)=v:=by
 have h:i.toNat<ns.length:=by have:=(Fz hv).1;rwa [GP] at this
 rw[LM h] at hv
 have e2:((i.toNat:Nat):Int)=i:=by omega
 rw[e2] at hv;exact Option.some.inj hv
theorem b0f{ns:List Nd}{i v:Int}(h:tE ns i)(hl:i+1<(ns.length:Int))(hv:(cnt ns.length (Cq ns))[i.toNat]? =some v)(h1:v=1):tE ns (i+1):=by
 have:=a1e hv h.1
 refine⟨by have:=h.1;omega,by omega,fun c hc=> ?_⟩
 by_cases e:(c:Int)<i
 ·exact h.2.2 c e
 ·have:=h.1
  obtain rfl:i=(c:Int):=by omega
  omega
theorem VI{ns:List Nd}{i j c:Int}{y:Nd}(h:tI ns)(hy:ns[i.toNat]? =some y)(hc:y.kids[j.toNat]? =some c):0≤c∧c<ns.length:=(Pi h hy).2 c (Ca hc)
theorem b0g{ns:List Nd}{i:Int}{y:Nd}(h:tI ns)(hy:ns[i.toNat]? =some y):y.kids.length≤12:=(Pi h hy).1
theorem b0h{ns:List Nd}{i j c:Int}{y:Nd}(h0:0≤j)(hy:ns[i.toNat]? =some y)(hc:y.kids[j.toNat]? =some c):tk ns i (j+1)=tk ns i j++[c]:=a0G h0 (by rw[Bw hy];exact hc)
theorem b0i{ns:List Nd}{i j:Int}{y:Nd}(h0:0≤i)(hy:ns[i.toNat]? =some y)(hl:¬j<y.kids.length):tk ns i j=Cq (ns.take (i+1).toNat):=a0H h0 hy (by rw[Bw hy];exact hl)
def Rp(x:List Nd)(o:Int):LS:= {
 ι:=Int,inv:=fun j=>0≤j∧j≤(Af x o).kids.length,
 regs:=fun j=>[(0,nds x),(3,.int .i64 x.length),(4,Ab (cnt x.length (tk x o j))),(5,.int .i64 o),(6,.int .i64 j)],als:=[],meas:=fun j=>(Af x o).kids.length-j.toNat}
def Rq(x:List Nd):LS:= {
 ι:=Int,inv:=fun i=>0≤i∧i≤x.length,
 regs:=fun i=>[(0,nds x),(3,.int .i64 x.length),(4,Ab (cnt x.length (Cq (x.take i.toNat)))),(5,.int .i64 i)],als:=[],meas:=fun i=>x.length-i.toNat,
 sub:=fun i=>[(9,Rp x i)]}
def Rr(x:List Nd):LS:= {
 ι:=Int,inv:=tE x,
 regs:=fun i=>[(3,.int .i64 x.length),(4,Ab (cnt x.length (Cq x))),(7,.int .i64 i)],als:=[],meas:=fun i=>x.length-i.toNat}
def HY:Sig:= {X:=List Nd,args:=fun x=>[nds x],pre:=fun x=>Cy x∧x.length≤2^30,Y:=Unit,post:=fun x y=>True,res:=fun x y=> .bool (CB x),outs:=fun x y=>[.top],keep:=false}
theorem b0j:Ai G Tryz.prog 17 HY:=
 vcFun_okP [(46,0,Db),(47,0,LP)] [(25,⟨Int,AZ⟩)] false (fun x=>[(6,Rq x),(13,Rr x)]) Tryz.func17 rfl (by decide) ⟨Lo,b0e,trivial⟩ (fun(x:List Nd)=>(∀(y:Unit),True→True∧True∧True)∧cA Db [.int .i64 (↑(List.length x):Int),.int .i64 (1:Int),.int .i64 (300:Int)] fun x_1 y=>Aa (!inn x_1.1 x_1.2.1 x_1.2.2) (rA HY x [.bool false,.top]) (inR IntKind.i64 ((↑(List.length x):Int)-(1:Int))∧((0:Int)≤(↑(List.length x):Int)-(1:Int)∧(↑(List.length x):Int)-(1:Int)<(↑(List.length x):Int))∧∀(e:Nd),x[Int.toNat ((↑(List.length x):Int)-(1:Int))]? =some e→Aa (e.kind != (22:Int)) (rA HY x [.bool false,.top]) (inR IntKind.i64 ((↑(List.length x):Int)-(1:Int))∧cA LP [nds x,.int .i64 ((↑(List.length x):Int)-(1:Int))] fun x_2 y=>Aa (BE x_2.1 x_2.2==(0:Int)) (rA HY x [.bool false,.top]) (((0:Int)≤(↑(List.length x):Int)∧(↑(List.length x):Int)≤(↑(List.length x):Int)∧(↑(8:Nat):Int)*(↑(List.length x):Int)≤(2:Int)^(46:Nat)∧(↑(List.length x):Int)≤(2:Int)^(46:Nat))∧∃(x_3:Int),(0:Int)=x_3∧eA (Rq x) [nds x,.int .i64 (↑(List.length x):Int),Ab (List.replicate (Int.toNat (↑(List.length x):Int)) x_3),.int .i64 (0:Int)]∧∀(i:Int),(0:Int)≤i∧i≤(↑(List.length x):Int)→Aa (decide (i<(↑(List.length x):Int))) (eA (Rp x i) [nds x,.int .i64 (↑(List.length x):Int),Ab (cnt (List.length x) (Cq (List.take (Int.toNat i) x))),.int .i64 i,.int .i64 (0:Int)]∧∀(i_1:Int),(0:Int)≤i_1∧i_1≤(↑(List.length (Af x i).kids):Int)→((0:Int)≤i∧i<(↑(List.length x):Int))∧∀(e:Nd),x[Int.toNat i]? =some e→Aa (decide (i_1<(↑(List.length e.kids):Int))) (((0:Int)≤i∧i<(↑(List.length x):Int))∧∀(e:Nd),x[Int.toNat i]? =some e→((0:Int)≤i_1∧i_1<(↑(List.length e.kids):Int))∧∀(e_1:Int),e.kids[Int.toNat i_1]? =some e_1→((0:Int)≤e_1∧e_1<(↑(List.length (cnt (List.length x) (tk x i i_1))):Int))∧Int.toNat e_1<List.length (cnt (List.length x) (tk x i i_1))∧∀(x_4:Int),(cnt (List.length x) (tk x i i_1))[Int.toNat e_1]? =some x_4→inR IntKind.i64 (x_4+(1:Int))∧((0:Int)≤e_1∧e_1<(↑(List.length (cnt (List.length x) (tk x i i_1))):Int))∧Int.toNat e_1<List.length (cnt (List.length x) (tk x i i_1))∧∀(x_5:Int),(cnt (List.length x) (tk x i i_1))[Int.toNat e_1]? =some x_5→∃(x':Int),((@List.nil AV)=[]∧(@List.nil AV)=[])∧x_4+(1:Int)=x'∧inR IntKind.i64 (i_1+(1:Int))∧eN (Rp x i) i_1 [nds x,.int .i64 (↑(List.length x):Int),Ab (List.set (cnt (List.length x) (tk x i i_1)) (Int.toNat e_1) x'),.int .i64 i,.int .i64 (i_1+(1:Int))]) (inR IntKind.i64 (i+(1:Int))∧eN (Rq x) i [nds x,.int .i64 (↑(List.length x):Int),Ab (cnt (List.length x) (tk x i i_1)),.int .i64 (i+(1:Int))])) (eA (Rr x) [.int .i64 (↑(List.length x):Int),Ab (cnt (List.length x) (Cq (List.take (Int.toNat i) x))),.int .i64 (0:Int)]∧∀(i:Int),tE x i→inR IntKind.i64 (i+(1:Int))∧Aa (decide (i+(1:Int)<(↑(List.length x):Int))) (((0:Int)≤i∧i<(↑(List.length (cnt (List.length x) (Cq x))):Int))∧Int.toNat i<List.length (cnt (List.length x) (Cq x))∧∀(x_4:Int),(cnt (List.length x) (Cq x))[Int.toNat i]? =some x_4→Aa (x_4 != (1:Int)) (rA HY x [.bool false,.top]) (inR IntKind.i64 (i+(1:Int))∧eN (Rr x) i [.int .i64 (↑(List.length x):Int),Ab (cnt (List.length x) (Cq x)),.int .i64 (i+(1:Int))])) (rA HY x [.bool true,.top])))))) (fun x=>by kernel_rfl) fun(x:List Nd) (hx:Cy x∧x.length≤2^30)=>(by
 dsimp only[cA,eA,eN,Rq,Rp,Rr,Bc,nds,Ab,rA,Db,LP,HY,Au,Az,mvL,lnL,mvE,lnE,Bq]
 obtain⟨h1,h2⟩:=hx;have hl:=h1.1
 (repeat' first|(with_reducible first|rfl|exact True.intro|apply AK|apply And.intro|((first|apply AA|apply AI|apply AB|apply AJ)<;>intro _))|(apply Ax<;>intro _)|apply AH|refine Ae () ?_ ?_|((first|apply AO|apply AN|apply AM|apply AL|apply AG|apply AF|apply AE|apply AD|apply AC)<;>try dsimp only)|apply Ae|(refine Prod.forall.2 ?_;intro _;try dsimp only)|(intro _;try dsimp only))
 all_goals try(have t1:=Ku.1 (show inn x.length 1 300=true by assumption))
 all_goals try(have t0:=a0N ‹_› ‹_› ‹_› ‹_›)
 all_goals try(repeat(rename x[Int.toNat _]? =some _=>hq;revert hq;rename x[Int.toNat _]? =some _=>hr;intro hq;rw[hr] at hq;cases hq))
 all_goals try(repeat(rename(Nd.kids _)[Int.toNat _]? =some _=>hq;revert hq;rename(Nd.kids _)[Int.toNat _]? =some _=>hr;intro hq;rw[hr] at hq;cases hq))
 all_goals try(simp only[Bw (show x[Int.toNat _]? =some _ by assumption)] at*)
 all_goals first
  |rfl
  |exact Nw (a0O ‹_›)
  |exact Nw (a0P ‹_› ‹_›)
  |exact Nw (fun h=>h.2.2.2 ‹_›)
  |exact a0D
  |(rw[a0F];done)
  |(have:=VI ‹_› ‹_› (show(Nd.kids _)[Int.toNat _]? =some _ by assumption);(try rw[GP]);omega)
  |(rw[b0h (by omega) ‹_› ‹_›];exact a0E (VI ‹_› ‹_› ‹_›).1 (VI ‹_› ‹_› ‹_›).2 ‹_›)
  |(rw[b0i (by omega) ‹_› ‹_›];done)
  |(rw[a0Q ‹_›];done)
  |(have:=a0M ‹_› ‹_› ‹_›;omega)
  |exact a0J ‹_› ‹_› (by omega)
  |exact a0K (a1e ‹_› (‹tE _ _›.1)) (‹tE _ _›.1) (by omega) ‹_›
  |exact b0f ‹_› ‹_› ‹_› ‹_›
  |exact⟨by omega,by omega,fun c hc=>by omega⟩
  |((try simp only[AR,AW,List.length_replicate,GP] at*);omega)
  |(have:=b0g ‹_› ‹_›;(try simp only[AR] at*);omega)
  |(have hte:=(show tE x _ by assumption);have:=hte.1;have:=hte.2.1;(try rw[GP]);(try simp only[AR] at*);omega)
  |skip)
end Go.My
end
section
namespace Go.My
open Go.Eng
def DT(s:List UInt8):Int:=s.foldl (fun n c=>n*10+((c.toNat:Int)-48)) 0
def HZ(t:List UInt8)(a b:Int):Int:=if t=[43] then a+b else if t=[45] then a-b else a*b
def Rs(ns:List Nd)(k:Int):Prop:=BM ns k=true∧∀i:Nat,(i:Int)≤k→Ci ns i=true
theorem b0k{ns:List Nd}{k:Int}(h:BE ns k≠0):Rs ns k:=⟨(Pd h).1,(Pd h).2.2⟩
theorem b0l{ns:List Nd}{k:Int}(h:Rs ns k):Ci ns k=true:=by
 have:=DS.1 h.1
 have h2:=h.2 k.toNat (by omega)
 rwa [show((k.toNat:Nat):Int)=k by omega] at h2
theorem b0m{s:List UInt8}(h:Cx s 2=true):s.all Bh=true∧1≤s.length∧s.length≤12:=by
 rw[Vp] at h
 simp only[Bool.and_eq_true,decide_eq_true_eq] at h
 exact⟨h.1,h.2.1,h.2.2⟩
theorem b0n{ns:List Nd}{k:Int}(h:Rs ns k)(hk:(Af ns k).kind=2):(Af ns k).text.all Bh=true∧1≤(Af ns k).text.length∧(Af ns k).text.length≤12:=by
 have:=(HR (b0l h)).2.2.1
 rw[hk] at this
 exact b0m (by simpa [Fj] using this)
theorem a1f{s:List UInt8}{c:UInt8}:DT (s++[c])=DT s*10+((c.toNat:Int)-48):=by simp [DT,List.foldl_append]
theorem b0o{s:List UInt8}{n:Nat}{c:UInt8}(h:s[n]? =some c):DT (s.take (n+1))=DT (s.take n)*10+((c.toNat:Int)-48):=by
 rw[FZ h,a1f]
theorem a1g:∀(n:Nat) {s:List UInt8},s.all Bh=true→s.length=n→0≤DT s∧DT s<10^n
 |0,s,h,hn=>by
  obtain rfl:s=[]:=List.length_eq_zero_iff.1 hn
  simp [DT]
 |n+1,s,h,hn=>by
  have hne:s≠[]:=by intro e;rw[e] at hn;simp at hn
  have e:=(List.dropLast_concat_getLast hne).symm
  generalize hl:s.dropLast=l at e
  generalize s.getLast hne=c at e
  subst e
  simp only[List.all_append,Bool.and_eq_true] at h
  have ih:=a1g n h.1 (by simpa using hn)
  have hc:Bh c=true:=by simpa using h.2
  simp only[Bh,Bool.and_eq_true,decide_eq_true_eq] at hc
  rw[a1f,Int.pow_succ];omega
theorem a1h{s:List UInt8}(h:s.all Bh=true)(h9:s.length≤9):0≤DT s∧DT s<1000000000:=by
 obtain⟨h1,h2⟩:=a1g s.length h rfl
 refine⟨h1,?_⟩
 have:s.length=0∨s.length=1∨s.length=2∨s.length=3∨s.length=4∨s.length=5∨s.length=6∨s.length=7∨s.length=8∨s.length=9:=by omega
 rcases this with e|e|e|e|e|e|e|e|e|e<;>rw[e] at h2<;>simp at h2<;>omega
theorem b0p{a b:Int}(h1: -1000000000≤a)(h2:a≤1000000000)(h3: -1000000000≤b)(h4:b≤1000000000): -1000000000000000000≤a*b∧a*b≤1000000000000000000:=by
 have k1:(a*b).natAbs≤1000000000*1000000000:=by
  rw[Int.natAbs_mul]
  exact Nat.mul_le_mul (by omega) (by omega)
 omega
def bdd(v:Int):Prop:= -1000000000≤v∧v≤1000000000
abbrev Cls:=List (List UInt8×Int)
structure Mc where
 out:List Int
 code:Int
 steps:Int
 deep:Int
structure Fr where
 cells:Cls
 ended:Bool
 ret:Int
def BQ:Cls→List UInt8→Option Int
 |[],_=>none
 |p::l,t=>if p.1=t then some p.2 else BQ l t
def Cd:Cls→List UInt8→Int→Cls
 |[],t,n=>[(t,n)]
 |p::l,t,n=>if p.1=t then(p.1,n)::l else p::Cd l t n
def Run(α:Type):=Int→Mc→Option (α×Mc)
def Dj{α:Type}(a:α):Run α:=fun _ m=>some (a,m)
def Cu{α β:Type}(c:Run α)(k:α→Run β):Run β:=fun L m=>(c L m).bind fun p=>k p.1 L p.2
def CT{α:Type}(a:α)(c:Run α):Run α:=fun L m=>if m.code=0 then c L m else some (a,m)
theorem Dk{α:Type}{a:α}{c:Run α}{L:Int}{m:Mc}:CT a c L m=if m.code=0 then c L m else some (a,m):=rfl
def Bm(m:Mc):Mc:=if m.code=0 then⟨m.out,1,m.steps,m.deep⟩ else m
def Hv:Run Int:=fun _ m=>some (0,Bm m)
def BA(L:Int)(m:Mc):Mc:=if m.code=0 then(if L≤m.steps then⟨m.out,2,m.steps,m.deep⟩ else⟨m.out,0,m.steps+1,m.deep⟩) else m
def LQ:Run Unit:=fun L m=>some ((),BA L m)
def Pn(n:Int):Run Int:=CT 0 fun _ m=>some (0,⟨m.out++[n],m.code,m.steps,m.deep⟩)
def VJ{α:Type}(a:α)(c:Run α):Run α:=CT a fun L m=>(c L ⟨m.out,m.code,m.steps,m.deep+1⟩).map fun p=>(p.1,⟨p.2.out,p.2.code,p.2.steps,p.2.deep-1⟩)
theorem Po{n:Int}{L:Int}{m:Mc}:Pn n L m=if m.code=0 then some (0,⟨m.out++[n],m.code,m.steps,m.deep⟩) else some (0,m):=rfl
theorem Pp{α:Type}{a:α}{c:Run α}{L:Int}{m:Mc}:VJ a c L m=if m.code=0 then(c L ⟨m.out,m.code,m.steps,m.deep+1⟩).map fun p=>(p.1,⟨p.2.out,p.2.code,p.2.steps,p.2.deep-1⟩) else some (a,m):=rfl
def Ge(a b:Mc):Prop:=a.out <+: b.out∧a.steps≤b.steps
def St(a b:Mc):Prop:=a.code=2∧Ge a b
structure Gd {α:Type} (c:Run α):Prop where
 stuck:∀ {L m p},m.code≠0→c L m=some p→p.2=m
 mono:∀ {L m p},c L m=some p→Ge m p.2
 rel:∀ {L M m p q},L≤M→c L m=some p→c M m=some q→p=q∨St p.2 q.2
theorem Nz(m:Mc):Ge m m:=⟨List.prefix_refl _,Int.le_refl _⟩
theorem a1i{a b c:Mc}(h:Ge a b)(g:Ge b c):Ge a c:=⟨h.1.trans g.1,Int.le_trans h.2 g.2⟩
theorem Ej{α:Type}{a:α}:Gd (Dj a):=
 ⟨fun _ h=>by cases h;rfl,fun h=>by cases h;exact Nz _,fun _ h g=>by cases h;cases g;exact .inl rfl⟩
theorem VK{α:Type}:Gd (fun _ _=>none:Run α):=⟨fun _ h=>by(cases h),fun h=>by(cases h),fun _ h _=>by(cases h)⟩
theorem Fo{α β:Type}{c:Run α}{k:α→Run β}(hc:Gd c)(hk:∀a,Gd (k a)):Gd (Cu c k):=by
 refine⟨fun {L m p} hm h=> ?_,fun {L m p} h=> ?_,fun {L M m p q} hl h g=> ?_⟩
 ·obtain⟨r,h1,h2⟩:=Option.bind_eq_some_iff.1 h
  have e:=hc.stuck hm h1
  have e2:=(hk r.1).stuck (by rw[e];exact hm) h2
  rw[e2,e]
 ·obtain⟨r,h1,h2⟩:=Option.bind_eq_some_iff.1 h
  exact a1i (hc.mono h1) ((hk r.1).mono h2)
 ·obtain⟨r,h1,h2⟩:=Option.bind_eq_some_iff.1 h
  obtain⟨s,g1,g2⟩:=Option.bind_eq_some_iff.1 g
  rcases hc.rel hl h1 g1 with e|⟨e1,e2⟩
  ·subst e;exact(hk r.1).rel hl h2 g2
  ·have e3:=(hk r.1).stuck (by rw[e1];omega) h2
   right;rw[e3]
   exact⟨e1,a1i e2 ((hk s.1).mono g2)⟩
theorem Ia{α:Type}{a:α}{c:Run α}(hc:Gd c):Gd (CT a c):=by
 refine⟨fun {L m p} hm h=> ?_,fun {L m p} h=> ?_,fun {L M m p q} hl h g=> ?_⟩
 ·rw[CT,if_neg hm] at h;cases h;rfl
 ·rw[CT] at h;split at h
  ·exact hc.mono h
  ·cases h;exact Nz _
 ·rw[CT] at h g
  split at h
  ·rename_i e;rw[if_pos e] at g;exact hc.rel hl h g
  ·rename_i e;rw[if_neg e] at g;cases h;cases g;exact .inl rfl
theorem Hw:Gd Hv:=by
 refine⟨fun {L m p} hm h=> ?_,fun {L m p} h=> ?_,fun {L M m p q} hl h g=> ?_⟩
 ·cases h;simp only[Bm];rw[if_neg hm]
 ·cases h;simp only[Bm];split
  ·exact⟨List.prefix_refl _,Int.le_refl _⟩
  ·exact Nz _
 ·cases h;cases g;exact .inl rfl
theorem a1j:Gd LQ:=by
 refine⟨fun {L m p} hm h=> ?_,fun {L m p} h=> ?_,fun {L M m p q} hl h g=> ?_⟩
 ·cases h;simp only[BA];rw[if_neg hm]
 ·cases h;simp only[BA];split
  ·split
   ·exact⟨List.prefix_refl _,Int.le_refl _⟩
   ·exact⟨List.prefix_refl _,by simp only;omega⟩
  ·exact Nz _
 ·cases h;cases g;simp only[BA]
  split
  ·by_cases h1:L≤m.steps
   ·rw[if_pos h1]
    right
    refine⟨rfl,?_⟩
    split
    ·exact⟨List.prefix_refl _,Int.le_refl _⟩
    ·exact⟨List.prefix_refl _,by simp only;omega⟩
   ·rw[if_neg h1,if_neg (by omega)];exact .inl rfl
  ·exact .inl rfl
theorem b0q{n:Int}:Gd (Pn n):=by
 refine⟨fun {L m p} hm h=> ?_,fun {L m p} h=> ?_,fun {L M m p q} hl h g=> ?_⟩
 ·rw[Po] at h;rw[if_neg hm] at h;cases h;rfl
 ·rw[Po] at h;split at h
  ·cases h;exact⟨List.prefix_append _ _,Int.le_refl _⟩
  ·cases h;exact Nz _
 ·rw[Po] at h;rw[Po] at g
  split at h
  ·rename_i e;rw[if_pos e] at g;cases h;cases g;exact .inl rfl
  ·rename_i e;rw[if_neg e] at g;cases h;cases g;exact .inl rfl
theorem b0r{α:Type}{a:α}{c:Run α}(hc:Gd c):Gd (VJ a c):=by
 refine⟨fun {L m p} hm h=> ?_,fun {L m p} h=> ?_,fun {L M m p q} hl h g=> ?_⟩
 ·rw[Pp] at h;rw[if_neg hm] at h;cases h;rfl
 ·rw[Pp] at h;split at h
  ·obtain⟨r,h1,rfl⟩:=Option.map_eq_some_iff.1 h
   have:=hc.mono h1;exact⟨this.1,this.2⟩
  ·cases h;exact Nz _
 ·rw[Pp] at h;rw[Pp] at g
  split at h
  ·rename_i e;rw[if_pos e] at g
   obtain⟨r,h1,rfl⟩:=Option.map_eq_some_iff.1 h
   obtain⟨s,g1,rfl⟩:=Option.map_eq_some_iff.1 g
   rcases hc.rel hl h1 g1 with e|e
   ·subst e;exact .inl rfl
   ·exact .inr e
  ·rename_i e;rw[if_neg e] at g;cases h;cases g;exact .inl rfl
theorem Dl{α:Type}{p:Prop}[Decidable p]{c d:Run α}(hc:Gd c)(hd:Gd d):Gd (if p then c else d):=by split<;>assumption
def tr(b:Bool):Int:=if b then 1 else 0
def IR(V:Int→Run Int)(t:List UInt8):List Int→Run Int
 |[]=>Dj (tr (t==[38,38]))
 |k::ks=>Cu (V k) fun n=>CT 0 (if(n != 0)=(t==[124,124]) then Dj (tr ((n != 0))) else IR V t ks)
def GQ(V:Int→Run Int)(t:List UInt8):List Int→Bool→Int→Run Int
 |[],_,s=>Dj s
 |k::ks,b,s=>Cu (V k) fun n=>CT 0 (if b then GQ V t ks false n else if inn (HZ t s n) (-1000000000) 1000000000 then GQ V t ks false (HZ t s n) else Cu Hv (GQ V t ks false))
def Jr(V:Int→Run Int):List Int→List Int→Run (Option (List Int))
 |[],az=>Dj (some az)
 |k::ks,az=>Cu (V k) fun n=>CT none (Jr V ks (az++[n]))
def CU(ns:List Nd)(t:List UInt8):List Int→Int
 |[]=> -1
 |c::l=>if Bt ns c=20∧(Af ns c).text=t then c else CU ns t l
def BT(ns:List Nd):Nd:=Af ns ((ns.length:Int)-1)
def Kv(ns:List Nd):List Int→List Int→Cls→Cls
 |k::ks,a::az,cs=>Kv ns ks az (Cd cs (Af ns k).text a)
 |_,_,cs=>cs
def CV(x:Nd)(i:Nat):Int:=x.kids.getD i 0
def FF(ns:List Nd)(B:Fr→Int→Run Fr)(t:List UInt8)(az:List Int):Run Int:=fun L m=>
 if m.code≠0∨CU ns t (BT ns).kids<0∨20<m.deep then Hv L m
 else if(Af ns (CU ns t (BT ns).kids)).kids.length≠az.length+1 then Hv L m
 else Cu (VJ ⟨[],false,0⟩ (B ⟨Kv ns ((Af ns (CU ns t (BT ns).kids)).kids.take az.length) az [],false,0⟩ (CV (Af ns (CU ns t (BT ns).kids)) az.length))) (fun f=>Dj f.ret) L m
def Kw(ns:List Nd)(V:Int→Run Int)(B:Fr→Int→Run Fr)(x:Nd):Run Int:=
 if Bt ns (CV x 0)≠1 then Hv
 else Cu (Jr V (x.kids.drop 1) []) fun o=>match o with
  |none=>Dj 0
  |some az=>if(Af ns (CV x 0)).text=[112,114,105,110,116]∧az.length=1 then Pn (az.headD 0) else FF ns B (Af ns (CV x 0)).text az
def chG(V:Int→Run Int)(x:Nd):Run Int:=
 if x.text=[38,38]∨x.text=[124,124] then IR V x.text x.kids
 else if x.text=[61,61]∨x.text=[60] then(if x.kids.length≠2 then Hv else Cu (V (CV x 0)) fun a=>CT 0 (Cu (V (CV x 1)) fun b=>CT 0 (Dj (if x.text=[61,61] then tr (a==b) else tr (decide (a<b))))))
 else GQ V x.text x.kids true 0
def GR(ns:List Nd)(cs:Cls)(V:Int→Run Int)(B:Fr→Int→Run Fr)(k:Int):Run Int:=
 if Bt ns k=2 then(if 9<(Af ns k).text.length then Hv else Dj (DT (Af ns k).text))
 else if Bt ns k=1 then(match BQ cs (Af ns k).text with|none=>Hv|some n=>Dj n)
 else if Bt ns k=11 then V (CV (Af ns k) 0)
 else if Bt ns k=7 then chG V (Af ns k)
 else if Bt ns k=8 then Cu (V (CV (Af ns k) 0)) fun n=>CT 0 (if n≠0 then V (CV (Af ns k) 1) else V (CV (Af ns k) 2))
 else if Bt ns k=5 then Kw ns V B (Af ns k)
 else Hv
def Kx(V:Cls→Int→Run Int)(B:Fr→Int→Run Fr)(x:Nd):Nat→Int→Fr→Run Fr
 |0,_,_=>fun _ _=>none
 |N+1,n,f=>if n=0 then Dj f else Cu (B f (CV x 1)) fun f2=>if f2.ended then Dj f2 else Cu LQ fun _=>CT f2 (Cu (V f2.cells (CV x 0)) fun n2=>CT f2 (Kx V B x N n2 f2))
def Gj(V:Cls→Int→Run Int)(B:Fr→Int→Run Fr)(x:Nd)(f:Fr)(n:Int):Run Fr:=
 if x.kind=12 then Dj ⟨Cd f.cells x.text n,f.ended,f.ret⟩
 else if x.kind=13 then(match BQ f.cells x.text with|none=>Cu Hv fun _=>Dj f|some _=>Dj ⟨Cd f.cells x.text n,f.ended,f.ret⟩)
 else if x.kind=15 then Dj ⟨f.cells,true,n⟩
 else if x.kind=16 then(if n≠0 then B f (CV x 1) else if x.kids.length=3 then B f (CV x 2) else Dj f)
 else if x.kind=17 then Kx V B x 1002 n f
 else Dj f
def stG(V:Cls→Int→Run Int)(B:Fr→Int→Run Fr)(x:Nd)(f:Fr):Run Fr:=
 Cu (if 0<x.kids.length then V f.cells (CV x 0) else Dj 0) fun n=>CT f (Gj V B x f n)
def FG(ns:List Nd)(V:Cls→Int→Run Int)(B:Fr→Int→Run Fr):List Int→Fr→Run Fr
 |[],f=>Dj f
 |k::ks,f=>CT f (if f.ended then Dj f else if Bt ns k=19 then FG ns V B ks f else Cu LQ fun _=>Cu (CT f (stG V B (Af ns k) f)) fun f2=>FG ns V B ks f2)
structure Fns where
 val:Cls→Int→Run Int
 blk:Fr→Int→Run Fr
def ev(ns:List Nd):Nat→Fns
 |0=>⟨fun _ _ _ _=>none,fun _ _ _ _=>none⟩
 |n+1=>⟨fun cs k=>GR ns cs ((ev ns n).val cs) (ev ns n).blk k,fun f k=>FG ns (ev ns n).val (ev ns n).blk (Af ns k).kids f⟩
theorem a1k{V:Int→Run Int}{t:List UInt8}(hV:∀k,Gd (V k)):∀ {ks:List Int},Gd (IR V t ks)
 |[]=>Ej
 |k::ks=>Fo (hV k) fun n=>Ia (Dl Ej (a1k hV))
theorem Rt{V:Int→Run Int}{t:List UInt8}(hV:∀k,Gd (V k)):∀ {ks:List Int} {b:Bool} {s:Int},Gd (GQ V t ks b s)
 |[],_,_=>Ej
 |k::ks,b,s=>Fo (hV k) fun n=>Ia (Dl (Rt hV) (Dl (Rt hV) (Fo Hw fun _=>Rt hV)))
theorem a1l{V:Int→Run Int}(hV:∀k,Gd (V k)):∀ {ks az:List Int},Gd (Jr V ks az)
 |[],_=>Ej
 |k::ks,az=>Fo (hV k) fun n=>Ia (a1l hV)
theorem a1m{ns:List Nd}{B:Fr→Int→Run Fr}{t:List UInt8}{az:List Int}(hB:∀f k,Gd (B f k)):Gd (FF ns B t az):=by
 have g:=Fo (b0r (a:=(⟨[],false,0⟩:Fr)) (hB ⟨Kv ns ((Af ns (CU ns t (BT ns).kids)).kids.take az.length) az [],false,0⟩ (CV (Af ns (CU ns t (BT ns).kids)) az.length))) (k:=fun f=>Dj f.ret) (fun f=>Ej)
 have key:∀m:Mc,FF ns B t az=FF ns B t az:=fun _=>rfl
 refine⟨fun {L m p} hm h=> ?_,fun {L m p} h=> ?_,fun {L M m p q} hl h h2=> ?_⟩
 ·rw[FF,if_pos (.inl hm)] at h;exact Hw.stuck hm h
 ·rw[FF] at h;split at h
  ·exact Hw.mono h
  ·split at h
   ·exact Hw.mono h
   ·exact g.mono h
 ·rw[FF] at h h2;split at h
  ·rename_i e;rw[if_pos e] at h2;exact Hw.rel hl h h2
  ·rename_i e;rw[if_neg e] at h2
   split at h
   ·rename_i e;rw[if_pos e] at h2;exact Hw.rel hl h h2
   ·rename_i e;rw[if_neg e] at h2;exact g.rel hl h h2
theorem b0s{ns:List Nd}{V:Int→Run Int}{B:Fr→Int→Run Fr}{x:Nd}(hV:∀k,Gd (V k))(hB:∀f k,Gd (B f k)):Gd (Kw ns V B x):=by
 unfold Kw
 refine Dl Hw (Fo (a1l hV) fun o=> ?_)
 cases o with
 |none=>exact Ej
 |some az=>exact Dl b0q (a1m hB)
theorem b0t{V:Int→Run Int}{x:Nd}(hV:∀k,Gd (V k)):Gd (chG V x):=
 Dl (a1k hV) (Dl (Dl Hw (Fo (hV _) fun _=>Ia (Fo (hV _) fun _=>Ia Ej))) (Rt hV))
theorem b0u{ns:List Nd}{cs:Cls}{V:Int→Run Int}{B:Fr→Int→Run Fr}{k:Int}(hV:∀k,Gd (V k))(hB:∀f k,Gd (B f k)):Gd (GR ns cs V B k):=by
 unfold GR
 refine Dl (Dl Hw Ej) (Dl ?_ (Dl (hV _) (Dl (b0t hV) (Dl (Fo (hV _) fun _=>Ia (Dl (hV _) (hV _))) (Dl (b0s hV hB) Hw)))))
 split
 ·exact Hw
 ·exact Ej
theorem a1n{V:Cls→Int→Run Int}{B:Fr→Int→Run Fr}{x:Nd}(hV:∀c k,Gd (V c k))(hB:∀f k,Gd (B f k)):∀ {N:Nat} {n:Int} {f:Fr},Gd (Kx V B x N n f)
 |0,_,_=>VK
 |N+1,n,f=>Dl Ej (Fo (hB _ _) fun f2=>Dl Ej (Fo a1j fun _=>Ia (Fo (hV _ _) fun _=>Ia (a1n hV hB))))
theorem b0v{V:Cls→Int→Run Int}{B:Fr→Int→Run Fr}{x:Nd}{f:Fr}{n:Int}(hV:∀c k,Gd (V c k))(hB:∀f k,Gd (B f k)):Gd (Gj V B x f n):=by
 unfold Gj
 refine Dl Ej (Dl ?_ (Dl Ej (Dl (Dl (hB _ _) (Dl (hB _ _) Ej)) (Dl (a1n hV hB) Ej))))
 split
 ·exact Fo Hw fun _=>Ej
 ·exact Ej
theorem b0w{V:Cls→Int→Run Int}{B:Fr→Int→Run Fr}{x:Nd}{f:Fr}(hV:∀c k,Gd (V c k))(hB:∀f k,Gd (B f k)):Gd (stG V B x f):=
 Fo (Dl (hV _ _) Ej) fun _=>Ia (b0v hV hB)
theorem VL{ns:List Nd}{V:Cls→Int→Run Int}{B:Fr→Int→Run Fr}(hV:∀c k,Gd (V c k))(hB:∀f k,Gd (B f k)):∀ {ks:List Int} {f:Fr},Gd (FG ns V B ks f)
 |[],_=>Ej
 |k::ks,f=>Ia (Dl Ej (Dl (VL hV hB) (Fo a1j fun _=>Fo (Ia (b0w hV hB)) fun _=>VL hV hB)))
theorem Pq{ns:List Nd}:∀n:Nat,(∀c k,Gd ((ev ns n).val c k))∧(∀f k,Gd ((ev ns n).blk f k))
 |0=>⟨fun _ _=>VK,fun _ _=>VK⟩
 |n+1=>⟨fun c k=>b0u ((Pq n).1 c) (Pq n).2,fun f k=>VL (Pq n).1 (Pq n).2⟩
def b0x(ns:List Nd):Prop:=(∀i:Nat,i<ns.length→Ci ns i=true)∧∀i:Nat,i<ns.length-1→(Cq ns).count (i:Int)=1
theorem Ru{ns:List Nd}(h:CB ns=true):b0x ns∧1≤ns.length∧ns.length≤300∧Rs ns ((ns.length:Int)-1):=by
 simp only[CB,Bool.and_eq_true,decide_eq_true_eq,Bool.not_eq_true',decide_eq_false_iff_not,List.all_eq_true,List.mem_range] at h
 have hu:=b0k h.2.2.1
 refine⟨⟨fun i hi=>hu.2 i (by omega),fun i hi=> ?_⟩,h.1.1,h.1.2,hu⟩
 exact h.2.2.2 i hi
end Go.My
end
section
namespace Go.My
open Go.Eng Go.Proofs
variable {G:GInv}
theorem VM{ns:List Nd}{n:Nat}{ds:List Int}(h:CS ns (n+1)=some ds):∃es,CS ns n=some es∧ds=es++[mx es (Af ns n).kids 0+1]:=by
 rw[CS] at h
 split at h
 ·cases h
 ·rename_i es he
  split at h
  ·split at h
   ·cases h
   ·exact⟨es,he,(Option.some.inj h).symm⟩
  ·cases h
theorem VN{ns:List Nd}:∀ {m n:Nat} {ds:List Int},n≤m→CS ns m=some ds→∃es,CS ns n=some es∧∀i,i<n→ds[i]? =es[i]?
 |0,n,ds,hn,h=>by obtain rfl:n=0:=by omega
                  exact⟨ds,h,fun i hi=>by omega⟩
 |m+1,n,ds,hn,h=>by
  by_cases e:n=m+1
  ·subst e;exact⟨ds,h,fun _ _=>rfl⟩
  ·obtain⟨fs,h1,rfl⟩:=VM h
   obtain⟨es,h2,h3⟩:=VN (n:=n) (by omega) h1
   refine⟨es,h2,fun i hi=> ?_⟩
   rw[List.getElem?_append_left (by rw[Kp h1];omega)]
   exact h3 i hi
theorem a1o{ds:List Int}:∀ {l:List Int} {d c:Int},c∈l→ds.getD c.toNat 0≤mx ds l d
 |[],_,_,h=>by cases h
 |a::l,d,c,h=>by
  rw[mx]
  rcases List.mem_cons.1 h with rfl|h
  ·have:=QQ ds l (max d (ds.getD c.toNat 0));omega
  ·exact a1o h
theorem b0y{ns:List Nd}{k c:Int}(h:BE ns k≠0)(hc:c∈(Af ns k).kids):BE ns c<BE ns k:=by
 obtain⟨h1,⟨ds,h2⟩,h3⟩:=Pd h
 have hk:=DS.1 h1
 have hok:Ci ns k=true:=by have:=h3 k.toNat (by omega);rwa [show((k.toNat:Nat):Int)=k by omega] at this
 have hcb:=(HR hok).2.2.2.1 c hc
 obtain⟨es,h4,h5⟩:=VM h2
 obtain⟨fs,h6,h7⟩:=VN (n:=c.toNat+1) (by omega) h4
 have e1:BE ns k=mx es (Af ns k).kids 0+1:=by
  unfold BE
  rw[if_pos h1,h2,h5]
  have hl:=Kp h4
  simp only[List.getD]
  rw[List.getElem?_append_right (by omega)]
  simp [hl,show((k.toNat:Nat):Int)=k by omega]
 have e2:BE ns c=es.getD c.toNat 0:=by
  unfold BE
  rw[if_pos (DS.2 ⟨hcb.1,by omega⟩),h6]
  simp only[List.getD]
  rw[h7 c.toNat (by omega)]
 rw[e1,e2]
 have:= @a1o es (Af ns k).kids 0 c hc
 omega
end Go.My
end
section
namespace Go.My
open Go.Eng
structure ZS where
 ns:List Nd
 L:Int
def wD(d:Int):Int:=12^(d.toNat-1)
def wK(ns:List Nd)(k:Int):Int:=wD (BE ns k)
def wS(ns:List Nd):List Int→Int
 |[]=>0
 |k::l=>wK ns k+wS ns l
theorem NA{d:Int}:1≤wD d:=by
 unfold wD
 have:(0:Int)<12^(d.toNat-1):=Int.pow_pos (by omega)
 omega
theorem NB{ns:List Nd}:∀ {l:List Int},0≤wS ns l
 |[]=>Int.le_refl _
 |k::l=>by rw[wS];have:= @NB ns l;have:= @NA (BE ns k);unfold wK;omega
theorem VO{ns:List Nd}{q:Int}:∀ {l:List Int},(∀c∈l,wK ns c≤q)→wS ns l≤l.length*q
 |[],_=>by simp [wS]
 |k::l,h=>by
  rw[wS]
  have h1:=h k (by simp);have h2:=VO (l:=l) (fun c hc=>h c (by simp [hc]))
  have:((k::l).length:Int)*q=l.length*q+q:=by rw[List.length_cons,Int.natCast_succ,Int.add_mul,Int.one_mul]
  omega
theorem VP{a b:Int}(h:a≤b):wD a≤wD b:=by
 unfold wD;exact_mod_cast Nat.pow_le_pow_right (n:=12) (by omega) (by omega)
theorem a1p{d:Int}(h:2≤d):wD d=12*wD (d-1):=by
 unfold wD;rw[show d.toNat-1=((d-1).toNat-1)+1 by omega,Int.pow_succ];omega
theorem b0z{d:Int}(h:d≤10):wD d≤5159780352:=by
 have:=VP h;have e:wD 10=5159780352:=by decide
 omega
theorem b0A{ns:List Nd}{l:List Int}{d:Int}(hl:l.length≤12)(h:∀c∈l,1≤BE ns c∧BE ns c<d):wS ns l≤wD d:=by
 cases l with
 |nil=>rw[wS];have:= @NA d;omega
 |cons k l=>
  have h0:=h k (by simp)
  have h1:wS ns (k::l)≤((k::l).length:Int)*wD (d-1):=VO fun c hc=>VP (by have:=h c hc;omega)
  have h2:((k::l).length:Int)*wD (d-1)≤12*wD (d-1):=Int.mul_le_mul_of_nonneg_right (by omega) (by have:= @NA (d-1);omega)
  rw[a1p (by omega)];omega
theorem b0B{ns:List Nd}{l:List Int}{d:Int}(hl:l.length≤12)(h:∀c∈l,1≤BE ns c∧BE ns c<d)(h1:1≤l.length):wS ns (l.drop 1)+1≤wD d:=by
 cases l with
 |nil=>simp at h1
 |cons k l=>
  have h0:=h k (by simp)
  have hp:= @NA (d-1)
  have h1:wS ns l≤(l.length:Int)*wD (d-1):=VO fun c hc=>VP (by have:=h c (by simp [hc]);omega)
  have h2:(l.length:Int)*wD (d-1)≤11*wD (d-1):=Int.mul_le_mul_of_nonneg_right (by simp at hl;omega) (by omega)
  rw[a1p (by omega)];simp only[List.drop_succ_cons,List.drop_zero];omega
theorem Pr{ns:List Nd}:∀ {l:List Int} {c:Int},c∈l→wK ns c≤wS ns l
 |[],_,h=>by cases h
 |k::l,c,h=>by
  rw[wS]
  rcases List.mem_cons.1 h with rfl|h
  ·have:= @NB ns l;omega
  ·have:=Pr (ns:=ns) h;have:= @NA (BE ns k);unfold wK at*;omega
theorem a1q{ns:List Nd}:∀ {n:Nat} {ds:List Int},CS ns n=some ds→∀d∈ds,d≤14
 |0,ds,h=>by cases h;simp
 |n+1,ds,h=>by
  obtain⟨es,h1,h2⟩:=VM h
  intro d hd
  rw[CS,h1] at h
  simp only at h
  split at h
  ·split at h
   ·cases h
   ·rename_i h3
    cases h
    rcases List.mem_append.1 hd with hd|hd
    ·exact a1q h1 d hd
    ·simp at hd;omega
  ·cases h
theorem b0C{ns:List Nd}{k:Int}:BE ns k≤14:=by
 unfold BE
 split
 ·split
  ·omega
  ·rename_i ds hd
   rw[List.getD]
   cases h:ds[k.toNat]? with
   |none=>simp
   |some d=>have:=a1q hd d (List.mem_of_getElem? h);simpa using this
 ·omega
def tOk(ns:List Nd):Prop:=(CB ns=true∧Cy ns)∧(1≤ns.length∧ns.length≤300)
theorem Pt{ns:List Nd}(h:tOk ns){k:Int}(hk:0≤k∧k<ns.length):Ci ns k=true:=by
 have:=(Ru h.1.1).2.2.2.2 k.toNat (by omega)
 rwa [show((k.toNat:Nat):Int)=k by omega] at this
theorem a1r{ns:List Nd}(h:tOk ns){k:Int}(hk:0≤k∧k<ns.length):1≤BE ns k:=by
 have h1:BE ns ((ns.length:Int)-1)≠0:=by
  have:=h.1.1
  simp only[CB,Bool.and_eq_true,decide_eq_true_eq,Bool.not_eq_true',decide_eq_false_iff_not] at this
  exact this.2.2.1
 obtain⟨h2,⟨ds,h3⟩,h4⟩:=Pd h1
 obtain⟨es,h5,h6⟩:=VN (n:=k.toNat+1) (by have:=h.2;omega) h3
 have:=a7h (ns:=ns) (k:=k) (DS.2 hk) h5
 have:= @a7g ns k
 omega
theorem GS{ns:List Nd}(h:tOk ns){k:Int}(hk:0≤k∧k<ns.length):(Af ns k).kids.length≤12∧∀c∈(Af ns k).kids,(0≤c∧c<k)∧1≤BE ns c∧BE ns c<BE ns k:=by
 have p:=HR (Pt h hk)
 refine⟨p.2.1,fun c hc=> ?_⟩
 have hc2:=p.2.2.2.1 c hc
 exact⟨hc2,a1r h (by omega),b0y (by have:=a1r h hk;omega) hc⟩
theorem a1s{ns:List Nd}(h:tOk ns){c:Int}(hc:c∈(BT ns).kids):(0≤c∧c<ns.length)∧BE ns c≤13:=by
 have:=(GS h (k:=(ns.length:Int)-1) (by have:=h.2;omega)).2 c hc
 have:= @b0C ns ((ns.length:Int)-1)
 omega
theorem a1t{ns:List Nd}{t:List UInt8}:∀ {l:List Int},CU ns t l= -1∨CU ns t l∈l∧Bt ns (CU ns t l)=20
 |[]=> .inl rfl
 |c::l=>by
  rw[CU];split
  ·rename_i h;exact .inr ⟨by simp,h.1⟩
  ·rcases @a1t ns t l with h|h
   ·exact .inl h
   ·exact .inr ⟨by simp [h.1],h.2⟩
def pot(m:Mc):Int:=5159780352*m.steps-m.out.length
def mOk(m:Mc):Prop:=((0≤m.steps∧m.steps≤1000)∧(0≤m.deep∧m.deep≤21))∧0≤pot m
def NC(c:Cls)(m:Mc):Prop:=(∀p∈c,bdd p.2)∧(c.length:Int)≤20+m.steps
def fOk(f:Fr)(m:Mc):Prop:=NC f.cells m∧bdd f.ret
def Cv(ns:List Nd)(m:Mc)(n:Nat)(c:Int):Prop:=(21-m.deep)*((ns.length:Int)+1)+c<n
def kOk(ns:List Nd)(m:Mc)(n:Nat)(c:Int):Prop:=((0≤c∧c<ns.length)∧(1≤BE ns c∧BE ns c≤10))∧Cv ns m n c
def DA(m m2:Mc)(e:Int):Prop:=(mOk m2∧m2.deep=m.deep)∧m.steps≤m2.steps∧pot m-e≤pot m2
theorem ND{m:Mc}(h:mOk m):DA m m 0:=⟨⟨h,rfl⟩,Int.le_refl _,by omega⟩
theorem Fp{m m2:Mc}{e e2:Int}(h:DA m m2 e)(he:e≤e2):DA m m2 e2:=⟨h.1,h.2.1,by have:=h.2.2;omega⟩
theorem Gk{m m2 m3:Mc}{e e2:Int}(h:DA m m2 e)(g:DA m2 m3 e2):DA m m3 (e+e2):=
 ⟨⟨g.1.1,by rw[g.1.2,h.1.2]⟩,Int.le_trans h.2.1 g.2.1,by have:=h.2.2;have:=g.2.2;omega⟩
theorem LR{m:Mc}(h:mOk m):DA m (Bm m) 0:=by
 unfold Bm;split
 ·exact⟨⟨h,rfl⟩,Int.le_refl _,by simp only[pot];omega⟩
 ·exact ND h
theorem b0D{ns:List Nd}{m:Mc}{n:Nat}{k c:Int}(h:Cv ns m (n+1) k)(hc:c<k):Cv ns m n c:=by unfold Cv at*;omega
theorem a1u{ns:List Nd}{m m2:Mc}{n:Nat}{c:Int}(h:Cv ns m n c)(e:m2.deep=m.deep):Cv ns m2 n c:=by unfold Cv at*;rw[e];exact h
theorem b0E{ns:List Nd}{m m2:Mc}{n:Nat}{c:Int}(h:(21-m.deep)*((ns.length:Int)+1)≤n)(e:m2.deep=m.deep+1)(hc:c<ns.length):Cv ns m2 n c:=by
 unfold Cv
 rw[e,show 21-(m.deep+1)=(21-m.deep)-1 by omega,Int.sub_mul,Int.one_mul];omega
theorem Ky{ns:List Nd}{m m2:Mc}{n:Nat}{c:Int}(h:kOk ns m n c)(e:m2.deep=m.deep):kOk ns m2 n c:=⟨h.1,a1u h.2 e⟩
theorem a1v{ns:List Nd}{m:Mc}{n:Nat}{k:Int}(ht:tOk ns)(hk:0≤k∧k<ns.length)(hd:BE ns k≤11)(hf:Cv ns m (n+1) k):∀c∈(Af ns k).kids,kOk ns m n c:=by
 intro c hc
 have h:=(GS ht hk).2 c hc
 exact⟨⟨by omega,by omega⟩,b0D hf h.1.2⟩
theorem Rv{ns:List Nd}{m:Mc}{n:Nat}{c:Int}(h:kOk ns m n c):wK ns c≤5159780352:=b0z h.1.2.2
theorem Rw{ns:List Nd}{k:Int}(ht:tOk ns)(hk:0≤k∧k<ns.length):wS ns (Af ns k).kids≤wK ns k:=b0A (GS ht hk).1 fun c hc=>((GS ht hk).2 c hc).2
theorem a1w{ns:List Nd}{k:Int}(ht:tOk ns)(hk:0≤k∧k<ns.length)(h1:1≤(Af ns k).kids.length):wS ns ((Af ns k).kids.drop 1)+1≤wK ns k:=b0B (GS ht hk).1 (fun c hc=>((GS ht hk).2 c hc).2) h1
end Go.My
end
section
namespace Go.My
open Go.Eng Go.Proofs
variable {G:GInv}
def Aw(p:List UInt8×Int):List AV:=[.str p.1,.int .i64 p.2]
def cls(l:Cls):AV:= .sl false 0 2 (List UInt8×Int) Aw l
def Hx(l:Cls):AV:= .sl true 0 2 (List UInt8×Int) Aw l
theorem VQ{a:List UInt8}{b:Int}{q:List UInt8×Int→Prop}(h:q (a,b)):∃x:List UInt8×Int,a=x.1∧b=x.2∧q x:=⟨(a,b),rfl,rfl,h⟩
def IT(l:Cls)(t:List UInt8)(i:Int):Prop:=(0≤i∧i≤l.length)∧BQ l t=BQ (l.drop i.toNat) t
def nOf:Option Int→Int
 |some n=>n
 |none=>0
theorem b0F{α:Type}{l:List α}{i:Int}{e:α}(h:l[i.toNat]? =some e):l.drop i.toNat=e::l.drop (i.toNat+1):=by
 obtain⟨hi,he⟩:=List.getElem?_eq_some_iff.1 h
 rw[List.drop_eq_getElem_cons hi,he]
theorem Gl{α:Type}{l:List α}{i:Int}{e:α}(h0:0≤i)(h:l[i.toNat]? =some e):l.drop i.toNat=e::l.drop (i+1).toNat:=by
 rw[b0F h,show(i+1).toNat=i.toNat+1 by omega]
theorem b0G{l:Cls}{t:List UInt8}:IT l t 0:=⟨by omega,rfl⟩
theorem b0H{l:Cls}{t:List UInt8}{i:Int}(h:IT l t i):0≤i∧i≤l.length:=h.1
theorem a1x{l:Cls}{t:List UInt8}{i:Int}{e:List UInt8×Int}(h:IT l t i)(he:l[i.toNat]? =some e)(hq:e.1=t):BQ l t=some e.2:=by
 rw[h.2,Gl h.1.1 he,BQ,if_pos hq]
theorem b0I{l:Cls}{t:List UInt8}{i:Int}{e:List UInt8×Int}(h:IT l t i)(he:l[i.toNat]? =some e)(hq:¬e.1=t):IT l t (i+1):=by
 have hl:=(List.getElem?_eq_some_iff.1 he).1
 exact⟨by have:=h.1;omega,by rw[h.2,Gl h.1.1 he,BQ,if_neg hq]⟩
theorem a1y{l:Cls}{t:List UInt8}{i:Int}(h:IT l t i)(hl:¬i<(l.length:Int)):BQ l t=none:=by
 rw[h.2,List.drop_eq_nil_of_le (by omega)];rfl
attribute [local irreducible] IT
def Js:Sig:= {X:=Cls×List UInt8,args:=fun x=>[cls x.1,.str x.2],pre:=fun x=>x.1.length<2^62,Y:=Unit,post:=fun x y=>True,res:=fun x y=> .tup [.int .i64 (nOf (BQ x.1 x.2)),.bool (BQ x.1 x.2).isSome],outs:=fun x y=>[.top,.top],keep:=false}
def Rx(x:Cls×List UInt8):LS:= {ι:=Int,inv:=fun i=>IT x.1 x.2 i,regs:=fun i=>[(1,.str x.2),(8,cls x.1),(9,.int .i64 x.1.length),(10,.int .i64 i)],als:=[],meas:=fun i=>x.1.length-i.toNat}
theorem VR:Ai G Tryz.prog 23 Js:=
 vcFun_okP [] [] false (fun x=>[(2,Rx x)]) Tryz.func23 rfl (by decide) trivial (fun(x:Cls×List UInt8)=>(∀(y:Unit),True→(True∧True∧True)∧True∧True∧True)∧eA (Rx x) [.str x.2,AV.sl false 0 2 (List UInt8×Int) Aw x.1,.int .i64 (↑(List.length x.1):Int),.int .i64 (0:Int)]∧∀(i:Int),IT x.1 x.2 i→Aa (decide (i<(↑(List.length x.1):Int))) (((0:Int)≤i∧i<(↑(List.length x.1):Int))∧∀(e:List UInt8×Int),x.1[Int.toNat i]? =some e→Aa (e.1==x.2) (rA Js x [.tup [.int .i64 e.2,.bool true],.top,.top]) (inR IntKind.i64 (i+(1:Int))∧eN (Rx x) i [.str x.2,AV.sl false 0 2 (List UInt8×Int) Aw x.1,.int .i64 (↑(List.length x.1):Int),.int .i64 (i+(1:Int))])) (rA Js x [.tup [.int .i64 (0:Int),.bool false],.top,.top])) (fun x=>by kernel_rfl) fun(x:Cls×List UInt8) (hx:x.1.length<2^62)=>(by
 dsimp only[Aw,cls,eA,eN,Rx,rA,Js,Au,Az,Bq]
 obtain⟨l,t⟩:=x;dsimp only at hx ⊢
 have hx:l.length<2^62:=hx
 (repeat' first|(with_reducible first|rfl|exact True.intro|apply AK|apply And.intro|((first|apply AA|apply AI|apply AB|apply AJ)<;>intro _))|(apply Ax<;>intro _)|apply AH|refine Ae () ?_ ?_|((first|apply AO|apply AN|apply AM|apply AL|apply AG|apply AF|apply AE|apply AD|apply AC)<;>try dsimp only)|apply Ae|(refine Prod.forall.2 ?_;intro _;try dsimp only)|(intro _;try dsimp only))
 all_goals first
  |rfl
  |exact b0G
  |(rw[a1x ‹_› ‹_› ‹_›];rfl)
  |(rw[a1x ‹_› ‹_› ‹_›];done)
  |exact b0I ‹_› ‹_› ‹_›
  |(rw[a1y ‹_› ‹_›];rfl)
  |(rw[a1y ‹_› ‹_›];done)
  |(have hq:=b0H (show IT _ _ _ by assumption);(try simp only[AR]);omega)
  |skip)
def LT:Sig:= {X:=Cls,args:=fun x=>[cls x],pre:=fun x=>x.length≤2^30,Y:=Unit,post:=fun x y=>True,res:=fun x y=>Hx x,outs:=fun x y=>[.top],keep:=false}
theorem b0J:Ai G Tryz.prog 52 LT:=
 vcFun_okP [] [(42,⟨List UInt8×Int,Aw⟩)] false (fun x=>[]) Tryz.func52 rfl (by decide) trivial (fun(x:Cls)=>(∀(y:Unit),True→(∀(x:List UInt8×Int),True∧True∧True)∧True∧True)∧∀(b:Bool),(b=true→x=[])→Aa b (rA LT x [.nil,.top]) (∃(zs:List (List UInt8×Int)),AV.sl false 0 2 (List UInt8×Int) Aw x=AV.sl false 0 2 (List UInt8×Int) Aw zs∧Bj Aw∧AW ((0:Nat)+List.length zs) (24:Nat)∧rA LT x [AV.sl true 0 2 (List UInt8×Int) Aw ([]++zs),.top])) (fun x=>by kernel_rfl) fun(x:Cls) (hx:x.length≤2^30)=>(by
 dsimp only[Aw,cls,Hx,rA,LT,Au,Az]
 have hx:x.length≤2^30:=hx
 (repeat' first|(with_reducible first|rfl|exact True.intro|apply AK|apply And.intro|((first|apply AA|apply AI|apply AB|apply AJ)<;>intro _))|(apply Ax<;>intro _)|apply AH|refine Ae () ?_ ?_|((first|apply AO|apply AN|apply AM|apply AL|apply AG|apply AF|apply AE|apply AD|apply AC)<;>try dsimp only)|apply Ae|(refine Prod.forall.2 ?_;intro _;try dsimp only)|(intro _;try dsimp only))
 all_goals first
  |rfl
  |(rename_i h0 hb;rw[h0 hb];done)
  |((try simp only[AW,List.length_nil]);omega)
  |skip)
def cpI(l:Cls)(t:List UInt8)(n i:Int):Prop:=((0≤i∧i≤l.length)∧l.length≤2^30)∧Cd l t n=l.take i.toNat++Cd (l.drop i.toNat) t n
theorem a1z{l:Cls}{t:List UInt8}{n:Int}(h:l.length≤2^30):cpI l t n 0:=⟨⟨by omega,h⟩,by simp⟩
theorem a1A{l:Cls}{t:List UInt8}{n i:Int}(h:cpI l t n i):(0≤i∧i≤l.length)∧l.length≤2^30:=h.1
theorem a1B{l:Cls}{t:List UInt8}{n i:Int}{e:List UInt8×Int}(h:cpI l t n i)(he:l[i.toNat]? =some e)(hq:¬e.1=t):cpI l t n (i+1):=by
 have hl:=(List.getElem?_eq_some_iff.1 he).1
 refine⟨⟨by have:=h.1;omega,h.1.2⟩,?_⟩
 rw[h.2,Gl h.1.1.1 he,Cd,if_neg hq,DX h.1.1.1,FZ he];simp
theorem a1C{l:Cls}{t:List UInt8}{n i:Int}{e z:List UInt8×Int}(h:cpI l t n i)(he:l[i.toNat]? =some e)(hq:e.1=t)(hz:z=(e.1,n)):l.set i.toNat z=Cd l t n:=by
 have hl:=(List.getElem?_eq_some_iff.1 he).1
 rw[h.2,Gl h.1.1.1 he,Cd,if_pos hq,List.set_eq_take_append_cons_drop,if_pos hl,hz,DX h.1.1.1]
theorem a1D{l:Cls}{t:List UInt8}{n i:Int}(h:cpI l t n i)(hl:¬i<(l.length:Int)):l++[(t,n)]=Cd l t n:=by
 rw[h.2,List.drop_eq_nil_of_le (by omega),List.take_of_length_le (by omega)];rfl
attribute [local irreducible] cpI
def Fb:Sig:= {X:=Cls×List UInt8×Int,args:=fun x=>[cls x.1,.str x.2.1,.int .i64 x.2.2],pre:=fun x=>x.1.length≤2^30,Y:=Unit,post:=fun x y=>True,res:=fun x y=>cls (Cd x.1 x.2.1 x.2.2),outs:=fun x y=>[.top,.top,.top],keep:=true}
def b0K(x:Cls×List UInt8×Int):LS:= {ι:=Int,inv:=fun i=>cpI x.1 x.2.1 x.2.2 i,regs:=fun i=>[(1,.str x.2.1),(2,.int .i64 x.2.2),(7,Hx x.1),(13,.int .i64 x.1.length),(14,.int .i64 i)],als:=[(12,7)],meas:=fun i=>x.1.length-i.toNat}
theorem VS:Ai G Tryz.prog 22 Fb:=
 vcFun_okP [(52,0,LT)] [(42,⟨List UInt8×Int,Aw⟩)] false (fun x=>[(3,b0K x)]) Tryz.func22 rfl (by decide) ⟨b0J,trivial⟩ (fun(x:Cls×List UInt8×Int)=>True∧cA LT [AV.sl false 0 2 (List UInt8×Int) Aw x.1] fun x_1 y=>(∃(i:Int),cpI x.1 x.2.1 x.2.2 i∧(x.2.1=x.2.1∧x.2.2=x.2.2∧AV.sl true 0 2 (List UInt8×Int) Aw x_1=AV.sl true 0 2 (List UInt8×Int) Aw x.1∧(↑(List.length x_1):Int)=(↑(List.length x.1):Int)∧(0:Int)=i∧True)∧True∧True)∧∀(i:Int),cpI x.1 x.2.1 x.2.2 i→Aa (decide (i<(↑(List.length x.1):Int))) (((0:Int)≤i∧i<(↑(List.length x.1):Int))∧Int.toNat i<List.length x.1∧∀(x_2:List UInt8×Int),x.1[Int.toNat i]? =some x_2→Aa (x_2.1==x.2.1) (((0:Int)≤i∧i<(↑(List.length x.1):Int))∧Int.toNat i<List.length x.1∧∀(x_3:List UInt8×Int),x.1[Int.toNat i]? =some x_3→∃(x':List UInt8×Int),([AV.str x'.1]=[.str x_3.1]∧(@List.nil AV)=[])∧x.2.2=x'.2∧rA Fb x [AV.sl true 0 2 (List UInt8×Int) Aw (List.set x.1 (Int.toNat i) x'),.top,.top,.top]) (inR IntKind.i64 (i+(1:Int))∧∃(i':Int),cpI x.1 x.2.1 x.2.2 i'∧List.length x.1-Int.toNat i'<List.length x.1-Int.toNat i∧(x.2.1=x.2.1∧x.2.2=x.2.2∧AV.sl true 0 2 (List UInt8×Int) Aw x.1=AV.sl true 0 2 (List UInt8×Int) Aw x.1∧(↑(List.length x.1):Int)=(↑(List.length x.1):Int)∧i+(1:Int)=i'∧True)∧True∧True)) (∃(x_2:List UInt8×Int),x.2.1=x_2.1∧x.2.2=x_2.2∧∃(zs:List (List UInt8×Int)),AV.sl true 0 2 (List UInt8×Int) Aw [x_2]=AV.sl true 0 2 (List UInt8×Int) Aw zs∧Bj Aw∧AW (List.length x.1+List.length zs) (24:Nat)∧rA Fb x [AV.sl true 0 2 (List UInt8×Int) Aw (x.1++zs),.top,.top,.top])) (fun x=>by kernel_rfl) fun(x:Cls×List UInt8×Int) (hx:x.1.length≤2^30)=>(by
 dsimp only[cA,Aw,cls,Hx,rA,Fb,LT,Au,Az,mvL,lnL,mvE,lnE]
 obtain⟨l,t,n⟩:=x;dsimp only at hx ⊢
 have hx:l.length≤2^30:=hx
 (repeat' first|refine VQ ?_|(with_reducible first|rfl|exact True.intro|apply AK|apply And.intro|((first|apply AA|apply AI|apply AB|apply AJ)<;>intro _))|(apply Ax<;>intro _)|apply AH|refine Ae () ?_ ?_|((first|apply AO|apply AN|apply AM|apply AL|apply AG|apply AF|apply AE|apply AD|apply AC)<;>try dsimp only)|apply Ae|(refine Prod.forall.2 ?_;intro _;try dsimp only)|(intro _;try dsimp only))
 all_goals(try(have hB:=a1A (show cpI _ _ _ _ by assumption)))
 all_goals(try(repeat(rename(_:List (List UInt8×Int))[_]? =some _=>hq;revert hq;rename(_:List (List UInt8×Int))[_]? =some _=>hr;intro hq;rw[hr] at hq;cases hq)))
 all_goals first
  |rfl
  |exact hx
  |exact a1C ‹_› ‹_› ‹_› rfl
  |exact a1z hx
  |exact a1B ‹_› ‹_› ‹_›
  |exact a1D ‹_› ‹_›
  |((try simp only[AR,AW,List.length_append,List.length_cons,List.length_nil]);omega)
  |skip)
def Kz:Sig:= {X:=Cls×List UInt8×Int,args:=fun x=>[cls x.1,.str x.2.1,.int .i64 x.2.2],pre:=fun x=>x.1.length≤2^30,Y:=Unit,post:=fun x y=>True,res:=fun x y=>cls (Cd x.1 x.2.1 x.2.2),outs:=fun x y=>[.top,.top,.top],keep:=true}
def Ry(x:Cls×List UInt8×Int):LS:= {ι:=Int,inv:=fun i=>cpI x.1 x.2.1 x.2.2 i,regs:=fun i=>[(1,.str x.2.1),(2,.int .i64 x.2.2),(7,Hx x.1),(8,.int .i64 i)],als:=[],meas:=fun i=>x.1.length-i.toNat}
theorem b0L:Ai G Tryz.prog 26 Kz:=
 vcFun_okP [] [(42,⟨List UInt8×Int,Aw⟩)] false (fun x=>[(3,Ry x)]) Tryz.func26 rfl (by decide) trivial (fun(x:Cls×List UInt8×Int)=>True∧∃(zs:List (List UInt8×Int)),AV.sl false 0 2 (List UInt8×Int) Aw x.1=AV.sl false 0 2 (List UInt8×Int) Aw zs∧Bj Aw∧AW ((0:Nat)+List.length zs) (24:Nat)∧eA (Ry x) [.str x.2.1,.int .i64 x.2.2,AV.sl true 0 2 (List UInt8×Int) Aw ([]++zs),.int .i64 (0:Int)]∧∀(i:Int),cpI x.1 x.2.1 x.2.2 i→Aa (decide (i<(↑(List.length x.1):Int))) (((0:Int)≤i∧i<(↑(List.length x.1):Int))∧Int.toNat i<List.length x.1∧∀(x_1:List UInt8×Int),x.1[Int.toNat i]? =some x_1→Aa (x_1.1==x.2.1) (((0:Int)≤i∧i<(↑(List.length x.1):Int))∧Int.toNat i<List.length x.1∧∀(x_2:List UInt8×Int),x.1[Int.toNat i]? =some x_2→∃(x':List UInt8×Int),([AV.str x'.1]=[.str x_2.1]∧(@List.nil AV)=[])∧x.2.2=x'.2∧rA Kz x [AV.sl true 0 2 (List UInt8×Int) Aw (List.set x.1 (Int.toNat i) x'),.top,.top,.top]) (inR IntKind.i64 (i+(1:Int))∧eN (Ry x) i [.str x.2.1,.int .i64 x.2.2,AV.sl true 0 2 (List UInt8×Int) Aw x.1,.int .i64 (i+(1:Int))])) (∃(x_1:List UInt8×Int),x.2.1=x_1.1∧x.2.2=x_1.2∧∃(zs:List (List UInt8×Int)),AV.sl true 0 2 (List UInt8×Int) Aw [x_1]=AV.sl true 0 2 (List UInt8×Int) Aw zs∧Bj Aw∧AW (List.length x.1+List.length zs) (24:Nat)∧rA Kz x [AV.sl true 0 2 (List UInt8×Int) Aw (x.1++zs),.top,.top,.top])) (fun x=>by kernel_rfl) fun(x:Cls×List UInt8×Int) (hx:x.1.length≤2^30)=>(by
 dsimp only[Aw,cls,eA,eN,Ry,Hx,rA,Kz,Au,Az,Bq]
 obtain⟨l,t,n⟩:=x;dsimp only at hx ⊢
 have hx:l.length≤2^30:=hx
 (repeat' first|refine VQ ?_|(with_reducible first|rfl|exact True.intro|apply AK|apply And.intro|((first|apply AA|apply AI|apply AB|apply AJ)<;>intro _))|(apply Ax<;>intro _)|apply AH|refine Ae () ?_ ?_|((first|apply AO|apply AN|apply AM|apply AL|apply AG|apply AF|apply AE|apply AD|apply AC)<;>try dsimp only)|apply Ae|(refine Prod.forall.2 ?_;intro _;try dsimp only)|(intro _;try dsimp only))
 all_goals(try(have hB:=a1A (show cpI _ _ _ _ by assumption)))
 all_goals(try(repeat(rename(_:List (List UInt8×Int))[_]? =some _=>hq;revert hq;rename(_:List (List UInt8×Int))[_]? =some _=>hr;intro hq;rw[hr] at hq;cases hq)))
 all_goals first
  |rfl
  |exact hx
  |exact a1C ‹_› ‹_› ‹_› rfl
  |exact a1z hx
  |exact a1B ‹_› ‹_› ‹_›
  |exact a1D ‹_› ‹_›
  |((try simp only[AR,AW,List.length_append,List.length_cons,List.length_nil]);omega)
  |skip)
def Jt:Sig:= {X:=Cls×Unit,args:=fun x=>[cls x.1,cls x.1],pre:=fun x=>x.1.length<2^62,Y:=Unit,post:=fun x y=>True,res:=fun x y=> .bool true,outs:=fun x y=>[.top,.top],keep:=false}
def Rz(x:Cls×Unit):LS:= {ι:=Int,inv:=fun i=>0≤i∧i≤x.1.length,regs:=fun i=>[(0,cls x.1),(1,cls x.1),(5,.int .i64 i)],als:=[],meas:=fun i=>x.1.length-i.toNat}
theorem b0M:Ai G Tryz.prog 25 Jt:=
 vcFun_okP [] [] false (fun x=>[(4,Rz x)]) Tryz.func25 rfl (by decide) trivial (fun(x:Cls×Unit)=>(∀(y:Unit),True→True∧True∧True∧True)∧Aa ((↑(List.length x.1):Int) != (↑(List.length x.1):Int)) (rA Jt x [.bool false,.top,.top]) (eA (Rz x) [AV.sl false 0 2 (List UInt8×Int) Aw x.1,AV.sl false 0 2 (List UInt8×Int) Aw x.1,.int .i64 (0:Int)]∧∀(i:Int),(0:Int)≤i∧i≤(↑(List.length x.1):Int)→Aa (decide (i<(↑(List.length x.1):Int))) (true=true∧true=true∧((0:Int)≤i∧i<(↑(List.length x.1):Int))∧∀(e:List UInt8×Int),x.1[Int.toNat i]? =some e→((0:Int)≤i∧i<(↑(List.length x.1):Int))∧∀(e_1:List UInt8×Int),x.1[Int.toNat i]? =some e_1→Aa (!(true&&e.1==e_1.1&&e.2==e_1.2)) (rA Jt x [.bool false,.top,.top]) (inR IntKind.i64 (i+(1:Int))∧eN (Rz x) i [AV.sl false 0 2 (List UInt8×Int) Aw x.1,AV.sl false 0 2 (List UInt8×Int) Aw x.1,.int .i64 (i+(1:Int))])) (rA Jt x [.bool true,.top,.top]))) (fun x=>by kernel_rfl) fun(x:Cls×Unit) (hx:x.1.length<2^62)=>(by
 dsimp only[Aw,cls,eA,eN,Rz,rA,Jt,Au,Az,Bq]
 obtain⟨x,_⟩:=x;dsimp only at hx ⊢
 have hx:x.length<2^62:=hx
 (repeat' first|(with_reducible first|rfl|exact True.intro|apply AK|apply And.intro|((first|apply AA|apply AI|apply AB|apply AJ)<;>intro _))|(apply Ax<;>intro _)|apply AH|refine Ae () ?_ ?_|((first|apply AO|apply AN|apply AM|apply AL|apply AG|apply AF|apply AE|apply AD|apply AC)<;>try dsimp only)|apply Ae|(refine Prod.forall.2 ?_;intro _;try dsimp only)|(intro _;try dsimp only))
 all_goals(try(repeat(rename(_:List (List UInt8×Int))[_]? =some _=>hq;revert hq;rename(_:List (List UInt8×Int))[_]? =some _=>hr;intro hq;rw[hr] at hq;cases hq)))
 all_goals first
  |rfl
  |omega
  |(exfalso;rename(_&&_)=false=>hq;simp at hq;done)
  |((try simp only[AR]);omega)
  |skip)
def mtI(ns:List Nd)(t:List UInt8)(i:Int):Prop:=(0≤i∧i≤(BT ns).kids.length)∧(BT ns).kids.length≤12∧CU ns t (BT ns).kids=CU ns t ((BT ns).kids.drop i.toNat)
theorem b0N{ns:List Nd}(h:tOk ns):(BT ns).kids.length≤12:=(GS h (k:=(ns.length:Int)-1) (by have:=h.2;omega)).1
theorem b0O{ns:List Nd}{t:List UInt8}(h:tOk ns):mtI ns t 0:=⟨by omega,b0N h,rfl⟩
theorem b0P{ns:List Nd}{t:List UInt8}{i:Int}(h:mtI ns t i):(0≤i∧i≤(BT ns).kids.length)∧(BT ns).kids.length≤12:=⟨h.1,h.2.1⟩
theorem VT{ns:List Nd}{i c:Int}(h:tOk ns)(hc:(BT ns).kids[i.toNat]? =some c):0≤c∧c<ns.length:=(a1s h (Ca hc)).1
theorem a1E{ns:List Nd}{t:List UInt8}{i c:Int}{e:Nd}(h:mtI ns t i)(hc:(BT ns).kids[i.toNat]? =some c)(he:ns[c.toNat]? =some e)(hk:e.kind=20)(ht:e.text=t):CU ns t (BT ns).kids=c:=by
 rw[h.2.2,Gl h.1.1 hc,CU,if_pos ⟨by rw[Bt,Bw he];exact hk,by rw[Bw he];exact ht⟩]
theorem a1F{ns:List Nd}{t:List UInt8}{i c:Int}{e:Nd}(h:mtI ns t i)(hc:(BT ns).kids[i.toNat]? =some c)(he:ns[c.toNat]? =some e)(hn:¬(e.kind=20∧e.text=t)):mtI ns t (i+1):=by
 have hl:=(List.getElem?_eq_some_iff.1 hc).1
 exact⟨by have:=h.1;omega,h.2.1,by rw[h.2.2,Gl h.1.1 hc,CU,if_neg (by rw[Bt,Bw he];exact hn)]⟩
theorem b0Q{ns:List Nd}{t:List UInt8}{i:Int}(h:mtI ns t i)(hl:¬i<((BT ns).kids.length:Int)):CU ns t (BT ns).kids= -1:=by
 rw[h.2.2,List.drop_eq_nil_of_le (by omega)];rfl
attribute [local irreducible] mtI CU
def LU:Sig:= {X:=List Nd×List UInt8,args:=fun x=>[nds x.1,.str x.2],pre:=fun x=>tOk x.1,Y:=Unit,post:=fun x y=>True,res:=fun x y=> .int .i64 (CU x.1 x.2 (BT x.1).kids),outs:=fun x y=>[.top,.top],keep:=false}
def Pu(x:List Nd×List UInt8):LS:= {ι:=Int,inv:=fun i=>mtI x.1 x.2 i,regs:=fun i=>[(0,nds x.1),(1,.str x.2),(13,Aj (BT x.1).kids),(14,.int .i64 (BT x.1).kids.length),(15,.int .i64 i)],als:=[],meas:=fun i=>(BT x.1).kids.length-i.toNat}
theorem b0R:Ai G Tryz.prog 105 LU:=
 vcFun_okP [] [] false (fun x=>[(2,Pu x)]) Tryz.func105 rfl (by decide) trivial (fun(x:List Nd×List UInt8)=>(∀(y:Unit),True→True∧True∧True∧True)∧inR IntKind.i64 ((↑(List.length x.1):Int)-(1:Int))∧((0:Int)≤(↑(List.length x.1):Int)-(1:Int)∧(↑(List.length x.1):Int)-(1:Int)<(↑(List.length x.1):Int))∧∀(e:Nd),x.1[Int.toNat ((↑(List.length x.1):Int)-(1:Int))]? =some e→eA (Pu x) [nds x.1,.str x.2,Aj e.kids,.int .i64 (↑(List.length e.kids):Int),.int .i64 (0:Int)]∧∀(i:Int),mtI x.1 x.2 i→Aa (decide (i<(↑(List.length (BT x.1).kids):Int))) (((0:Int)≤i∧i<(↑(List.length (BT x.1).kids):Int))∧∀(e:Int),(BT x.1).kids[Int.toNat i]? =some e→((0:Int)≤e∧e<(↑(List.length x.1):Int))∧∀(e_1:Nd),x.1[Int.toNat e]? =some e_1→Aa (e_1.kind==(20:Int)) (((0:Int)≤e∧e<(↑(List.length x.1):Int))∧∀(e_2:Nd),x.1[Int.toNat e]? =some e_2→Aa (e_2.text==x.2) (rA LU x [.int .i64 e,.top,.top]) (inR IntKind.i64 (i+(1:Int))∧eN (Pu x) i [nds x.1,.str x.2,Aj (BT x.1).kids,.int .i64 (↑(List.length (BT x.1).kids):Int),.int .i64 (i+(1:Int))])) (inR IntKind.i64 (i+(1:Int))∧eN (Pu x) i [nds x.1,.str x.2,Aj (BT x.1).kids,.int .i64 (↑(List.length (BT x.1).kids):Int),.int .i64 (i+(1:Int))])) (rA LU x [.int .i64 (-1:Int),.top,.top])) (fun x=>by kernel_rfl) fun(x:List Nd×List UInt8) (hx:tOk x.1)=>(by
 dsimp only[eA,eN,Pu,Aj,Bc,nds,rA,LU,Au,Az,Bq]
 obtain⟨ns,t⟩:=x;dsimp only at hx ⊢
 have hx:tOk ns:=hx
 have hl:=hx.2
 have hz:∃z,ns[((ns.length:Int)-1).toNat]? =some z:=⟨_,List.getElem?_eq_getElem (by omega)⟩
 obtain⟨z,hz⟩:=hz
 have hr:BT ns=z:=Bw hz
 (repeat' first|(with_reducible first|rfl|exact True.intro|apply AK|apply And.intro|((first|apply AA|apply AI|apply AB|apply AJ)<;>intro _))|(apply Ax<;>intro _)|apply AH|refine Ae () ?_ ?_|((first|apply AO|apply AN|apply AM|apply AL|apply AG|apply AF|apply AE|apply AD|apply AC)<;>try dsimp only)|apply Ae|(refine Prod.forall.2 ?_;intro _;try dsimp only)|(intro _;try dsimp only))
 all_goals(try(have hB:=b0P (show mtI _ _ _ by assumption)))
 all_goals(try(repeat(rename(_:List Nd)[_]? =some _=>hq;revert hq;rename(_:List Nd)[_]? =some _=>hr;intro hq;rw[hr] at hq;cases hq)))
 all_goals first
  |rfl
  |exact b0O hx
  |exact a1E ‹_› ‹_› ‹_› ‹_› ‹_›
  |exact(a1E ‹_› ‹_› ‹_› ‹_› ‹_›).symm
  |exact a1F ‹_› ‹_› ‹_› (fun h=>absurd h.1 ‹_›)
  |exact a1F ‹_› ‹_› ‹_› (fun h=>absurd h.2 ‹_›)
  |exact(b0Q ‹_› ‹_›).symm
  |exact(VT hx ‹_›).1
  |exact(VT hx ‹_›).2
  |(have hq:=VT hx (show(BT ns).kids[_]? =some _ by assumption);omega)
  |(rename ns[_]? =some _=>hq;rw[hz] at hq;cases hq;rw[hr];done)
  |((try simp only[AR]);omega)
  |skip)
end Go.My
end
section
namespace Go.My
open Go.Eng Go.Proofs
variable {G:GInv}
def mcA(s:ZS)(m:Mc):AV:= .box 0 [nds s.ns,.int .i64 s.L,Ab m.out,.int .i64 0,.int .i64 m.code,.int .i64 m.steps,.int .i64 m.deep]
def frA(f:Fr):AV:= .box 0 [cls f.cells,.bool f.ended,.int .i64 f.ret]
abbrev zg (x:ZS×List Int×Int×Int×Int):Mc:=⟨x.2.1,x.2.2.1,x.2.2.2.1,x.2.2.2.2⟩
abbrev zh {α:Type} (x:ZS×List Int×Int×Int×Int×α):Mc:=⟨x.2.1,x.2.2.1,x.2.2.2.1,x.2.2.2.2.1⟩
abbrev yM (y:List Int×Int×Int×Int):Mc:=⟨y.1,y.2.1,y.2.2.1,y.2.2.2⟩
abbrev yV {α:Type} (y:α×List Int×Int×Int×Int):α×Mc:=(y.1,⟨y.2.1,y.2.2.1,y.2.2.2.1,y.2.2.2.2⟩)
theorem b0S{s:List UInt8}{n:Nat}{c:UInt8}(h:s.all Bh=true)(hc:s[n]? =some c):48≤c.toNat∧c.toNat≤57:=by
 have:=List.all_eq_true.1 h c (Ca hc)
 simpa [Bh] using this
theorem b0T{n:Int}(h1:0≤n)(h2:n≤255):inR IntKind.u8 n:=⟨by simp [IntKind.min,IntKind.signed];omega,by simp [IntKind.max,IntKind.bits,IntKind.signed];omega⟩
def NE:Sig:= {X:=List UInt8,args:=fun x=>[.str x],pre:=fun x=>x.all Bh=true∧x.length≤9,Y:=Unit,post:=fun x y=>True,res:=fun x y=> .int .i64 (DT x),outs:=fun x y=>[.top],keep:=false}
def RA(x:List UInt8):LS:= {ι:=Int,inv:=fun i=>0≤i∧i≤x.length,regs:=fun i=>[(0,.str x),(3,.int .i64 (DT (x.take i.toNat))),(4,.int .i64 i)],als:=[],meas:=fun i=>x.length-i.toNat}
theorem b0U:Ai G Tryz.prog 98 NE:=
 vcFun_okP [] [] false (fun x=>[(3,RA x)]) Tryz.func98 rfl (by decide) trivial (fun(x:List UInt8)=>(∀(y:Unit),True→True∧True∧True)∧eA (RA x) [.str x,.int .i64 (0:Int),.int .i64 (0:Int)]∧∀(i:Int),(0:Int)≤i∧i≤(↑(List.length x):Int)→Aa (decide (i<(↑(List.length x):Int))) (inR IntKind.i64 (DT (List.take (Int.toNat i) x)*(10:Int))∧((0:Int)≤i∧i<(↑(List.length x):Int))∧∀(c:UInt8),x[Int.toNat i]? =some c→inR IntKind.u8 ((↑(UInt8.toNat c):Int)-(48:Int))∧inR IntKind.i64 ((↑(UInt8.toNat c):Int)-(48:Int))∧inR IntKind.i64 (DT (List.take (Int.toNat i) x)*(10:Int)+((↑(UInt8.toNat c):Int)-(48:Int)))∧inR IntKind.i64 (i+(1:Int))∧eN (RA x) i [.str x,.int .i64 (DT (List.take (Int.toNat i) x)*(10:Int)+((↑(UInt8.toNat c):Int)-(48:Int))),.int .i64 (i+(1:Int))]) (rA NE x [.int .i64 (DT (List.take (Int.toNat i) x)),.top])) (fun x=>by kernel_rfl) fun(x:List UInt8) (hx:x.all Bh=true∧x.length≤9)=>(by
 dsimp only[eA,eN,RA,rA,NE,Au,Az,Bq]
 obtain⟨h1,h2⟩:=hx
 have hb:∀i:Int,0≤DT (x.take i.toNat)∧DT (x.take i.toNat)<1000000000:=fun i=>a1h (List.all_eq_true.2 fun c hc=>List.all_eq_true.1 h1 c (List.mem_of_mem_take hc)) (by simp;omega)
 (repeat' first|(with_reducible first|rfl|exact True.intro|apply AK|apply And.intro|((first|apply AA|apply AI|apply AB|apply AJ)<;>intro _))|(apply Ax<;>intro _)|apply AH|refine Ae () ?_ ?_|((first|apply AO|apply AN|apply AM|apply AL|apply AG|apply AF|apply AE|apply AD|apply AC)<;>try dsimp only)|apply Ae|(refine Prod.forall.2 ?_;intro _;try dsimp only)|(intro _;try dsimp only))
 all_goals try(have hf:=b0S h1 (show x[Int.toNat _]? =some _ by assumption))
 all_goals try(have hbb:=hb ‹_›)
 all_goals first
  |rfl
  |omega
  |exact b0T (by omega) (by omega)
  |((try simp only[AR]);omega)
  |(rw[DX (by omega),b0o ‹_›];done)
  |(rw[List.take_of_length_le (by omega)];done)
  |skip)
def KA:Sig:= {X:=List UInt8×Int×Int,args:=fun x=>[.str x.1,.int .i64 x.2.1,.int .i64 x.2.2],pre:=fun x=>bdd x.2.1∧bdd x.2.2,Y:=Unit,post:=fun x y=>True,res:=fun x y=> .int .i64 (HZ x.1 x.2.1 x.2.2),outs:=fun x y=>[.top,.top,.top],keep:=false}
theorem b0V:Ai G Tryz.prog 125 KA:=
 vcFun_okP [] [] false (fun x=>[]) Tryz.func125 rfl (by decide) trivial (fun(x:List UInt8×Int×Int)=>(∀(y:Unit),True→True∧True∧True∧True∧True)∧Aa (x.1== #[(43:UInt8)].toList) (inR IntKind.i64 (x.2.1+x.2.2)∧rA KA x [.int .i64 (x.2.1+x.2.2),.top,.top,.top]) (Aa (x.1== #[(45:UInt8)].toList) (inR IntKind.i64 (x.2.1-x.2.2)∧rA KA x [.int .i64 (x.2.1-x.2.2),.top,.top,.top]) (inR IntKind.i64 (x.2.1*x.2.2)∧rA KA x [.int .i64 (x.2.1*x.2.2),.top,.top,.top]))) (fun x=>by kernel_rfl) fun(x:List UInt8×Int×Int) (hx:bdd x.2.1∧bdd x.2.2)=>(by
 dsimp only[rA,KA,Au,Az]
 obtain⟨h1,h2⟩:=hx
 have hm:=b0p h1.1 h1.2 h2.1 h2.2
 unfold bdd at h1 h2
 (repeat' first|(with_reducible first|rfl|exact True.intro|apply AK|apply And.intro|((first|apply AA|apply AI|apply AB|apply AJ)<;>intro _))|(apply Ax<;>intro _)|apply AH|refine Ae () ?_ ?_|((first|apply AO|apply AN|apply AM|apply AL|apply AG|apply AF|apply AE|apply AD|apply AC)<;>try dsimp only)|apply Ae|(refine Prod.forall.2 ?_;intro _;try dsimp only)|(intro _;try dsimp only))
 all_goals first
  |(simp [HZ, *];done)
  |((try simp only[AR]);omega)
  |skip)
def Gm:Sig:= {X:=Bool,args:=fun x=>[.bool x],pre:=fun x=>True,Y:=Unit,post:=fun x y=>True,res:=fun x y=> .int .i64 (tr x),outs:=fun x y=>[.top],keep:=false}
theorem a1G:Ai G Tryz.prog 224 Gm:=
 vcFun_okP [] [] false (fun x=>[]) Tryz.func224 rfl (by decide) trivial (fun(x:Bool)=>(∀(y:Unit),True→True∧True∧True)∧Aa x (rA Gm x [.int .i64 (1:Int),.top]) (rA Gm x [.int .i64 (0:Int),.top])) (fun x=>by kernel_rfl) fun(x:Bool) (hx:True)=>(by
 dsimp only[rA,Gm,Au,Az]
 (repeat' first|(with_reducible first|rfl|exact True.intro|apply AK|apply And.intro|((first|apply AA|apply AI|apply AB|apply AJ)<;>intro _))|(apply Ax<;>intro _)|apply AH|refine Ae () ?_ ?_|((first|apply AO|apply AN|apply AM|apply AL|apply AG|apply AF|apply AE|apply AD|apply AC)<;>try dsimp only)|apply Ae|(refine Prod.forall.2 ?_;intro _;try dsimp only)|(intro _;try dsimp only))
 all_goals first
  |rfl
  |(simp [tr, *];done)
  |skip)
theorem b0W{m:Mc}(h:m.code=0):Bm m=⟨m.out,1,m.steps,m.deep⟩:=by rw[Bm,if_pos h]
theorem b0X{m:Mc}(h:¬m.code=0):Bm m=m:=by rw[Bm,if_neg h]
theorem a1H{L:Int}{m:Mc}(h:m.code=0)(h2:L≤m.steps):BA L m=⟨m.out,2,m.steps,m.deep⟩:=by rw[BA,if_pos h,if_pos h2]
theorem VU{L:Int}{m:Mc}(h:m.code=0)(h2:¬L≤m.steps):BA L m=⟨m.out,0,m.steps+1,m.deep⟩:=by rw[BA,if_pos h,if_neg h2]
theorem a1I{L:Int}{m:Mc}(h:¬m.code=0):BA L m=m:=by rw[BA,if_neg h]
def Dm:Sig:= {X:=ZS×List Int×Int×Int×Int,args:=fun x=>[mcA x.1 (zg x)],pre:=fun x=>True,Y:=Unit,post:=fun x y=>True,res:=fun x y=> .int .i64 0,outs:=fun x y=>[mcA x.1 (Bm (zg x))],keep:=true}
theorem NF:Ai G Tryz.prog 104 Dm:=
 vcFun_okP [] [] false (fun x=>[]) Tryz.func104 rfl (by decide) trivial (fun(x:ZS×List Int×Int×Int×Int)=>True∧Aa ((zg x).code==(0:Int)) (rA Dm x [.int .i64 (0:Int),.box 0 [nds x.1.ns,.int .i64 x.1.L,Ab (zg x).out,.int .i64 (0:Int),.int .i64 (1:Int),.int .i64 (zg x).steps,.int .i64 (zg x).deep]]) (rA Dm x [.int .i64 (0:Int),.box 0 [nds x.1.ns,.int .i64 x.1.L,Ab (zg x).out,.int .i64 (0:Int),.int .i64 (zg x).code,.int .i64 (zg x).steps,.int .i64 (zg x).deep]])) (fun x=>by kernel_rfl) fun(x:ZS×List Int×Int×Int×Int) (hx:True)=>(by
 dsimp only[mcA,Bc,nds,Ab,rA,Dm,Au,Az]
 obtain⟨s,o,c,t,d⟩:=x;dsimp only[zg] at hx ⊢
 (repeat' first|(with_reducible first|rfl|exact True.intro|apply AK|apply And.intro|((first|apply AA|apply AI|apply AB|apply AJ)<;>intro _))|(apply Ax<;>intro _)|apply AH|refine Ae () ?_ ?_|((first|apply AO|apply AN|apply AM|apply AL|apply AG|apply AF|apply AE|apply AD|apply AC)<;>try dsimp only)|apply Ae|(refine Prod.forall.2 ?_;intro _;try dsimp only)|(intro _;try dsimp only))
 all_goals first
  |rfl
  |(rw[b0W ‹_›];done)
  |(rw[b0X ‹_›];done)
  |skip
 all_goals trace_state)
def GT:Sig:= {X:=ZS×List Int×Int×Int×Int,args:=fun x=>[mcA x.1 (zg x)],pre:=fun x=>0≤x.2.2.2.1∧x.2.2.2.1≤2^40,Y:=Unit,post:=fun x y=>True,res:=fun x y=> .bool (decide ((BA x.1.L (zg x)).code=0)),outs:=fun x y=>[mcA x.1 (BA x.1.L (zg x))],keep:=true}
theorem a1J:Ai G Tryz.prog 135 GT:=
 vcFun_okP [] [] false (fun x=>[]) Tryz.func135 rfl (by decide) trivial (fun(x:ZS×List Int×Int×Int×Int)=>True∧true=true∧true=true∧Aa ((zg x).code==(0:Int)) (Aa (decide ((zg x).steps≥x.1.L)) (rA GT x [.bool false,.box 0 [nds x.1.ns,.int .i64 x.1.L,Ab (zg x).out,.int .i64 (0:Int),.int .i64 (2:Int),.int .i64 (zg x).steps,.int .i64 (zg x).deep]]) (Aa ((zg x).code != (0:Int)) (rA GT x [.bool false,.box 0 [nds x.1.ns,.int .i64 x.1.L,Ab (zg x).out,.int .i64 (0:Int),.int .i64 (zg x).code,.int .i64 (zg x).steps,.int .i64 (zg x).deep]]) (inR IntKind.i64 ((zg x).steps+(1:Int))∧rA GT x [.bool true,.box 0 [nds x.1.ns,.int .i64 x.1.L,Ab (zg x).out,.int .i64 (0:Int),.int .i64 (zg x).code,.int .i64 ((zg x).steps+(1:Int)),.int .i64 (zg x).deep]]))) (Aa ((zg x).code != (0:Int)) (rA GT x [.bool false,.box 0 [nds x.1.ns,.int .i64 x.1.L,Ab (zg x).out,.int .i64 (0:Int),.int .i64 (zg x).code,.int .i64 (zg x).steps,.int .i64 (zg x).deep]]) (inR IntKind.i64 ((zg x).steps+(1:Int))∧rA GT x [.bool true,.box 0 [nds x.1.ns,.int .i64 x.1.L,Ab (zg x).out,.int .i64 (0:Int),.int .i64 (zg x).code,.int .i64 ((zg x).steps+(1:Int)),.int .i64 (zg x).deep]]))) (fun x=>by kernel_rfl) fun(x:ZS×List Int×Int×Int×Int) (hx:0≤x.2.2.2.1∧x.2.2.2.1≤2^40)=>(by
 dsimp only[mcA,Bc,nds,Ab,rA,GT,Au,Az]
 obtain⟨s,o,c,t,d⟩:=x;dsimp only[zg] at hx ⊢
 have hx:0≤t∧t≤2^40:=hx
 (repeat' first|(with_reducible first|rfl|exact True.intro|apply AK|apply And.intro|((first|apply AA|apply AI|apply AB|apply AJ)<;>intro _))|(apply Ax<;>intro _)|apply AH|refine Ae () ?_ ?_|((first|apply AO|apply AN|apply AM|apply AL|apply AG|apply AF|apply AE|apply AD|apply AC)<;>try dsimp only)|apply Ae|(refine Prod.forall.2 ?_;intro _;try dsimp only)|(intro _;try dsimp only))
 all_goals first
  |rfl
  |(rw[a1H ‹_› ‹_›];done)
  |(rw[a1H ‹_› ‹_›];rfl)
  |(rw[VU ‹_› (by omega)];done)
  |(rw[VU ‹_› (by omega)];rfl)
  |(rw[VU ‹_› (by omega)];assumption)
  |(rw[a1I ‹_›];done)
  |(rw[a1I ‹_›];simp [*];done)
  |((try simp only[AR]);omega)
  |skip
 all_goals trace_state)
def LV(n:Int):Int:=if inn n (-1000000000) 1000000000 then n else 0
def FH(n:Int)(m:Mc):Mc:=if inn n (-1000000000) 1000000000 then m else Bm m
def IU:Sig:= {X:=ZS×List Int×Int×Int×Int×Int,args:=fun x=>[mcA x.1 (zh x),.int .i64 x.2.2.2.2.2],pre:=fun x=>True,Y:=Unit,post:=fun x y=>True,res:=fun x y=> .int .i64 (LV x.2.2.2.2.2),outs:=fun x y=>[mcA x.1 (FH x.2.2.2.2.2 (zh x)),.top],keep:=true}
theorem a1K:Ai G Tryz.prog 80 IU:=
 vcFun_okP [(66,0,Er),(104,0,Dm)] [] false (fun x=>[]) Tryz.func80 rfl (by decide) ⟨Pe,NF,trivial⟩ (fun(x:ZS×List Int×Int×Int×Int×Int)=>True∧cA Er [.int .i64 x.2.2.2.2.2,.int .i64 (-1000000000:Int),.int .i64 (1000000000:Int)] fun x_1 y=>Aa (!inn x_1.1 x_1.2.1 x_1.2.2) (cA Dm [.box 0 [nds x.1.ns,.int .i64 x.1.L,Ab (zh x).out,.int .i64 (0:Int),.int .i64 (zh x).code,.int .i64 (zh x).steps,.int .i64 (zh x).deep]] fun x_2 y=>rA IU x [.int .i64 (0:Int),.box 0 [nds x_2.1.ns,.int .i64 x_2.1.L,Ab (Bm (zg x_2)).out,.int .i64 (0:Int),.int .i64 (Bm (zg x_2)).code,.int .i64 (Bm (zg x_2)).steps,.int .i64 (Bm (zg x_2)).deep],.top]) (rA IU x [.int .i64 x.2.2.2.2.2,.box 0 [nds x.1.ns,.int .i64 x.1.L,Ab (zh x).out,.int .i64 (0:Int),.int .i64 (zh x).code,.int .i64 (zh x).steps,.int .i64 (zh x).deep],.top])) (fun x=>by kernel_rfl) fun(x:ZS×List Int×Int×Int×Int×Int) (hx:True)=>(by
 dsimp only[cA,mcA,Bc,nds,Ab,rA,Er,IU,Dm,Au,Az,mvL,lnL,mvE,lnE]
 obtain⟨s,o,c,t,d,n⟩:=x;dsimp only[zh] at hx ⊢
 (repeat' first|(with_reducible first|rfl|exact True.intro|apply AK|apply And.intro|((first|apply AA|apply AI|apply AB|apply AJ)<;>intro _))|(apply Ax<;>intro _)|apply AH|refine Ae () ?_ ?_|((first|apply AO|apply AN|apply AM|apply AL|apply AG|apply AF|apply AE|apply AD|apply AC)<;>try dsimp only)|apply Ae|(refine Prod.forall.2 ?_;intro _;try dsimp only)|(intro _;try dsimp only))
 all_goals first
  |rfl
  |(simp [LV,FH, *];done)
  |skip
 all_goals trace_state)
end Go.My
end
section
namespace Go.My
open Go.Eng
structure Sg where
 kind:Int
 text:List UInt8
 pos:Int
 blank:Bool
def sgA:Sg→List AV:=fun s=>[.int .i64 s.kind,.str s.text,.int .i64 s.pos,.bool s.blank]
theorem Bu(s:Sg):sgA s=[.int .i64 s.kind,.str s.text,.int .i64 s.pos,.bool s.blank]:=rfl
def sgs(l:List Sg):AV:= .sl false 0 4 Sg sgA l
def Ed(l:List Sg):AV:= .sl true 0 4 Sg sgA l
def Fq(t:List UInt8):Nat→Int→Int→Option (List Sg)
 |0,_,_=>none
 |n+1,at_,br=>match t[at_.toNat]? with
  |none=>some []
  |some c=>if c.toNat=32 then Fq t n (at_+1) br
   else if c.toNat=10 then Fq t n (at_+1) (br+1)
   else if(Bb (t.drop at_.toNat)).ok then(Fq t n (at_+(Bb (t.drop at_.toNat)).size) 0).map (⟨(Bb (t.drop at_.toNat)).kind,(Bb (t.drop at_.toNat)).text,at_,decide (br>1)⟩:: ·)
   else none
def Cj(t:List UInt8):Option (List Sg):=if 3000<t.length then none else Fq t (t.length+1) 0 0
structure Ps where
 pos:Int
 deep:Int
 nodes:List Nd
abbrev PR:=Option (Int×Ps)
abbrev PL:=Option (List Int×Ps)
def EL:Sg:=⟨0,[],0,false⟩
def sgO(sg:List Sg)(i:Int):Sg:=sg.getD i.toNat EL
def isT(sg:List Sg)(s:Ps)(k:Int)(t:List UInt8):Bool:=decide ((sgO sg s.pos).kind=k)&&((sgO sg s.pos).text==t)
def isM(sg:List Sg)(s:Ps)(t:List UInt8):Bool:=isT sg s 4 t
def isW(sg:List Sg)(s:Ps)(t:List UInt8):Bool:=isT sg s 1 t
def DB(sg:List Sg)(i:Int):Bool:=decide ((sgO sg i).kind=1)&& !kw (sgO sg i).text
def adv(s:Ps):Ps:=⟨s.pos+1,s.deep,s.nodes⟩
def dp(s:Ps)(d:Int):Ps:=⟨s.pos,s.deep+d,s.nodes⟩
def BG(sg:List Sg)(t:List UInt8)(s:Ps):Option Ps:=if isM sg s t then some (adv s) else none
def Ba(x:Nd)(s:Ps):PR:=if 300≤s.nodes.length then none else some (s.nodes.length,⟨s.pos,s.deep,s.nodes++[x]⟩)
def Gn(r:PR):PR:=r.map fun p=>(p.1,adv p.2)
def FI(sg:List Sg)(k:Int)(b:Bool)(s:Ps):PR:=Gn (Ba ⟨k,(sgO sg s.pos).text,[],b⟩ s)
def BB(sg:List Sg)(s:Ps):PR:=if DB sg s.pos then FI sg 1 false s else none
def GU(sg:List Sg)(s:Ps):Option (List UInt8×Ps):=if DB sg s.pos then some ((sgO sg s.pos).text,adv s) else none
def Br(sg:List Sg)(m:List UInt8)(x:Nd)(s:Ps):PR:=if isM sg s m then Gn (Ba x s) else none
def Bn(sg:List Sg)(one:Ps→PR)(m:List UInt8):Nat→List Int→Ps→PL
 |0,_,_=>none
 |n+1,ks,s=>if isM sg s m then some (ks,s) else(one s).bind fun p=>if isM sg p.2 [44] then Bn sg one m n (ks++[p.1]) (adv p.2) else some (ks++[p.1],p.2)
def Dr(sg:List Sg):Nat→Int→Int
 |0,i=>i
 |n+1,i=>if DB sg i then(if(sgO sg (i+1)).text=[44] then Dr sg n (i+2) else i+1) else i
def Et(sg:List Sg)(s:Ps):Bool:=((sgO sg (Dr sg (sg.length+1) (s.pos+1))).text==[41])&&((sgO sg (Dr sg (sg.length+1) (s.pos+1)+1)).text==[61,62])
def Bv(l:Nat):List (List UInt8):=match l with
 |0=>[[124,124]]
 |1=>[[38,38]]
 |2=>[[61,61]]
 |3=>[[60]]
 |4=>[[43],[45]]
 |_=>[[42]]
def Ju(sg:List Sg)(l:Nat)(s:Ps):List UInt8:=((Bv l).find? fun m=>isM sg s m).getD []
def EM(sg:List Sg)(l:Nat)(one:Ps→PR):Nat→List UInt8→List Int→Ps→PR
 |0,_,_,_=>none
 |n+1,t,ks,s=>
  if t≠[]∧Ju sg l s≠t then(Ba ⟨7,t,ks,false⟩ s).bind fun p=>EM sg l one n [] [p.1] p.2
  else if Ju sg l s=[] then some (ks.headD 0,s)
  else(one (adv s)).bind fun p=>EM sg l one n (Ju sg l s) (ks++[p.1]) p.2
def Dc(sg:List Sg)(val:Ps→PR)(k:Int)(s:Ps):PR:=(BG sg [40] s).bind fun s=>(Bn sg val [41] (sg.length+1) [k] s).bind fun p=>Br sg [41] ⟨5,[],p.1,false⟩ p.2
def Gp(sg:List Sg)(val:Ps→PR):Nat→Int→Ps→PR
 |0,_,_=>none
 |n+1,k,s=>
  if isM sg s [40] then(Dc sg val k s).bind fun p=>Gp sg val n p.1 p.2
  else if isM sg s [46] then(if DB sg (s.pos+1) then(Gn (Ba ⟨6,(sgO sg (s.pos+1)).text,[k],false⟩ (adv s))).bind fun p=>Gp sg val n p.1 p.2 else none)
  else some (k,s)
def FJ(sg:List Sg)(val:Ps→PR):Nat→List Int→Ps→PL
 |0,_,_=>none
 |n+1,ks,s=>if isM sg s [46,46] then(BB sg (adv s)).bind fun p=>(Dc sg val p.1 p.2).bind fun q=>FJ sg val n (ks++[q.1]) q.2 else some (ks,s)
inductive NT where
 |value|pick|chain (l:Nat)|fin|base
def pE(sg:List Sg):Nat→NT→Ps→PR
 |0,_,_=>none
 |n+1,.value,s=>(pE sg n .pick s).bind fun p=>if isM sg p.2 [46,46] then(FJ sg (pE sg n .value) (sg.length+1) [p.1] p.2).bind fun q=>Ba ⟨10,[],q.1,false⟩ q.2 else some p
 |n+1,.pick,s=>if 20≤s.deep then none else(pE sg n (.chain 0) (dp s 1)).bind fun p=>
   if isM sg p.2 [63] then(pE sg n .pick (adv p.2)).bind fun a=>(BG sg [58] a.2).bind fun s1=>(pE sg n .pick s1).bind fun b=>(Ba ⟨8,[],[p.1,a.1,b.1],false⟩ b.2).map fun q=>(q.1,dp q.2 (-1))
   else some (p.1,dp p.2 (-1))
 |n+1,.chain l,s=>if l=6 then pE sg n .fin s else(pE sg n (.chain (l+1)) s).bind fun p=>EM sg l (pE sg n (.chain (l+1))) (2*sg.length+4) [] [p.1] p.2
 |n+1,.fin,s=>(pE sg n .base s).bind fun p=>Gp sg (pE sg n .value) (sg.length+1) p.1 p.2
 |n+1,.base,s=>
  if(sgO sg s.pos).kind=1 then BB sg s
  else if(sgO sg s.pos).kind=2 then FI sg 2 false s
  else if(sgO sg s.pos).kind=3 then FI sg 3 false s
  else if isM sg s [91] then(Bn sg (pE sg n .value) [93] (sg.length+1) [] (adv s)).bind fun p=>Br sg [93] ⟨4,[],p.1,false⟩ p.2
  else if isM sg s [40]&&Et sg s then(Bn sg (BB sg) [41] (sg.length+1) [] (adv s)).bind fun p=>(BG sg [41] p.2).bind fun s1=>(BG sg [61,62] s1).bind fun s2=>(pE sg n .pick s2).bind fun q=>Ba ⟨9,[],p.1++[q.1],false⟩ q.2
  else if isM sg s [40] then(pE sg n .value (adv s)).bind fun p=>Br sg [41] ⟨11,[],[p.1],false⟩ p.2
  else none
def peN:Nat:=40000
def Ce(sg:List Sg):Ps→PR:=pE sg peN .value
def DC(sg:List Sg)(b:Bool)(s:Ps):PR:=(GU sg s).bind fun p=>
 if isM sg p.2 [61] then(Ce sg (adv p.2)).bind fun q=>Br sg [59] ⟨12,p.1,[q.1],b⟩ q.2 else Br sg [59] ⟨12,p.1,[],b⟩ p.2
def Dx(sg:List Sg)(s:Ps):PR:=(BG sg [40] s).bind fun s1=>(Ce sg s1).bind fun p=>(BG sg [41] p.2).map fun s2=>(p.1,s2)
def CW(sg:List Sg)(one:Bool→Ps→PR)(m:List UInt8):Nat→List Int→Ps→PL
 |0,_,_=>none
 |n+1,ks,s=>if isM sg s m then some (ks,s) else(one ((sgO sg s.pos).blank&&decide (0<ks.length)) s).bind fun p=>CW sg one m n (ks++[p.1]) p.2
def BH(sg:List Sg)(one:Bool→Ps→PR)(s:Ps):PR:=if 20≤s.deep then none else(BG sg [123] (dp s 1)).bind fun s1=>(CW sg one [125] (sg.length+1) [] s1).bind fun p=>(Br sg [125] ⟨18,[],p.1,false⟩ p.2).map fun q=>(q.1,dp q.2 (-1))
def stR(sg:List Sg):Nat→Bool→Ps→PR
 |0,_,_=>none
 |n+1,b,s=>
  if(sgO sg s.pos).kind=5 then FI sg 19 b s
  else if isW sg s [118,97,114] then DC sg b (adv s)
  else if isW sg s [114,101,116,117,114,110] then(if isM sg (adv s) [59] then Br sg [59] ⟨15,[],[],b⟩ (adv s) else(Ce sg (adv s)).bind fun p=>Br sg [59] ⟨15,[],[p.1],b⟩ p.2)
  else if isW sg s [105,102] then(Dx sg (adv s)).bind fun p=>(BH sg (stR sg n) p.2).bind fun q=>
   if isW sg q.2 [101,108,115,101] then(BH sg (stR sg n) (adv q.2)).bind fun r=>Ba ⟨16,[],[p.1,q.1,r.1],b⟩ r.2 else Ba ⟨16,[],[p.1,q.1],b⟩ q.2
  else if isW sg s [119,104,105,108,101] then(Dx sg (adv s)).bind fun p=>(BH sg (stR sg n) p.2).bind fun q=>Ba ⟨17,[],[p.1,q.1],b⟩ q.2
  else if DB sg s.pos&&isM sg (adv s) [61] then(Ce sg (adv (adv s))).bind fun p=>Br sg [59] ⟨13,(sgO sg s.pos).text,[p.1],b⟩ p.2
  else(Ce sg s).bind fun p=>Br sg [59] ⟨14,[],[p.1],b⟩ p.2
def stN:Nat:=30
def EN(sg:List Sg):Ps→PR:=BH sg (stR sg stN)
def Gq(sg:List Sg)(b:Bool)(s:Ps):PR:=(GU sg s).bind fun p=>(BG sg [40] p.2).bind fun s1=>(Bn sg (BB sg) [41] (sg.length+1) [] s1).bind fun q=>(BG sg [41] q.2).bind fun s2=>(EN sg s2).bind fun r=>Ba ⟨20,p.1,q.1++[r.1],b⟩ r.2
def Dn(sg:List Sg)(b:Bool)(s:Ps):PR:=
 if(sgO sg s.pos).kind=5 then FI sg 19 b s else if isW sg s [118,97,114] then DC sg b (adv s) else Gq sg b s
def Gr(sg:List Sg)(b:Bool)(s:Ps):PR:=(GU sg s).bind fun p=>(BG sg [123] p.2).bind fun s1=>(CW sg (Dn sg) [125] (sg.length+1) [] s1).bind fun q=>Br sg [125] ⟨21,p.1,q.1,b⟩ q.2
def DD(sg:List Sg)(b:Bool)(s:Ps):PR:=
 if(sgO sg s.pos).kind=5 then FI sg 19 b s else if isW sg s [118,97,114] then DC sg b (adv s) else if isW sg s [99,108,97,115,115] then Gr sg b (adv s) else Gq sg b s
def LW(sg:List Sg):Nat→List Int→List (Int×Int)→Ps→Option ((List Int×List (Int×Int))×Ps)
 |0,_,_,_=>none
 |n+1,ks,ms,s=>if s.pos<sg.length then(DD sg ((sgO sg s.pos).blank&&decide (0<ks.length)) s).bind fun p=>LW sg n (ks++[p.1]) (ms++[(s.pos,p.2.pos)]) p.2 else some ((ks,ms),s)
def ps0:Ps:=⟨0,0,[]⟩
def KB(sg:List Sg):Option (List (Int×Int)×List Nd):=(LW sg (sg.length+1) [] [] ps0).bind fun p=>(Ba ⟨22,[],p.1.1,false⟩ p.2).bind fun q=>if CB q.2.nodes then some (p.1.2,q.2.nodes) else none
def CN(t:List UInt8):Option (List Nd):=(Cj t).bind fun sg=>(KB sg).map (·.2)
structure Gs where
 pos:Int
 deep:Int
 bad:Bool
 nodes:List Nd
def Cz(x:Nd):Prop:=x.text.length≤3000∧x.kids.length≤4000
def sgB(sg:List Sg):Prop:=sg.length≤3000∧∀e∈sg,e.text.length≤3000
def gsOk(sg:List Sg)(g:Gs):Prop:=(0≤g.pos∧g.pos≤sg.length)∧(0≤g.deep∧g.deep≤21)∧g.nodes.length≤300∧∀x∈g.nodes,Cz x
def pur(g:Gs):Option Ps:=if g.bad then none else some ⟨g.pos,g.deep,g.nodes⟩
theorem DU{g:Gs}(h:g.bad=true):pur g=none:=by simp [pur,h]
theorem Dd{g:Gs}(h:g.bad=false):pur g=some ⟨g.pos,g.deep,g.nodes⟩:=by simp [pur,h]
theorem a1L{g:Gs}:pur g=none↔g.bad=true:=by
 cases h:g.bad<;>simp [pur,h]
theorem Eu{g:Gs}{s:Ps}:pur g=some s↔g.bad=false∧s=⟨g.pos,g.deep,g.nodes⟩:=by
 cases h:g.bad<;>simp [pur,h,eq_comm]
def VV(sg:List Sg)(x:Gs)(f:Ps→Option Ps)(y:Gs):Prop:=gsOk sg y∧y.deep=x.deep∧x.pos≤y.pos∧pur y=(pur x).bind f
def Bl{α:Type}(sg:List Sg)(x:Gs)(f:Ps→Option (α×Ps))(y:α×Gs):Prop:=
 gsOk sg y.2∧y.2.deep=x.deep∧x.pos≤y.2.pos∧pur y.2=((pur x).bind f).map (·.2)∧∀p,(pur x).bind f=some p→y.1=p.1
def Ag{α:Type}(sg:List Sg)(x:Gs)(f:Ps→Option (α×Ps))(y:α×Gs):Prop:=Bl sg x f y∧(y.2.bad=false→x.pos<y.2.pos)
def pkG(sg:List Sg)(g:Gs)(n:Int):Sg:=if g.bad=true∨(sg.length:Int)≤g.pos+n then EL else sgO sg (g.pos+n)
theorem b0Y{sg:List Sg}{i:Int}(h:(sg.length:Int)≤i):sgO sg i=EL:=by
 unfold sgO;rw[List.getD_eq_getElem?_getD,List.getElem?_eq_none (by omega)];rfl
theorem Jv{sg:List Sg}{i:Int}{e:Sg}(h:sg[i.toNat]? =some e):sgO sg i=e:=by simp [sgO,List.getD,h]
theorem GV{sg:List Sg}{g:Gs}{n:Int}(h:g.bad=false):pkG sg g n=sgO sg (g.pos+n):=by
 unfold pkG
 split
 ·rename_i hh
  rcases hh with hh|hh
  ·rw[h] at hh;cases hh
  ·exact(b0Y hh).symm
 ·rfl
theorem b0Z{sg:List Sg}{g:Gs}{n:Int}(h:g.bad=true):pkG sg g n=EL:=by unfold pkG;rw[if_pos (.inl h)]
def isG(sg:List Sg)(g:Gs)(k:Int)(t:List UInt8):Bool:=decide ((pkG sg g 0).kind=k)&&((pkG sg g 0).text==t)
def nmG(sg:List Sg)(g:Gs)(n:Int):Bool:=decide ((pkG sg g n).kind=1)&& !kw (pkG sg g n).text
theorem RB{sg:List Sg}{g:Gs}{s:Ps}{k:Int}{t:List UInt8}(h:pur g=some s):isG sg g k t=isT sg s k t:=by
 obtain⟨h1,rfl⟩:=Eu.1 h
 simp [isG,isT,GV h1]
theorem a1M{sg:List Sg}{g:Gs}{k:Int}{t:List UInt8}(h:pur g=none)(hk:k≠0):isG sg g k t=false:=by
 simp [isG,b0Z (a1L.1 h),EL,Ne.symm hk]
theorem KC{sg:List Sg}{g:Gs}{s:Ps}{n:Int}(h:pur g=some s):nmG sg g n=DB sg (s.pos+n):=by
 obtain⟨h1,rfl⟩:=Eu.1 h
 simp [nmG,DB,GV h1]
theorem CC{sg:List Sg}{g:Gs}{k:Int}{t:List UInt8}(h:isG sg g k t=true)(hk:k≠0):g.bad=false∧g.pos<sg.length:=by
 unfold isG pkG at h
 split at h
 ·simp [EL,Ne.symm hk] at h
 ·rename_i hh
  simp only[Int.add_zero] at hh
  exact⟨by cases hb:g.bad<;>simp_all,by omega⟩
theorem IV{sg:List Sg}{g:Gs}{n:Int}(h:nmG sg g n=true):g.bad=false∧g.pos+n<sg.length:=by
 unfold nmG pkG at h
 split at h
 ·simp [EL] at h
 ·rename_i hh;exact⟨by cases hb:g.bad<;>simp_all,by omega⟩
def An(g:Gs):Gs:=⟨g.pos+1,g.deep,g.bad,g.nodes⟩
def Bd(g:Gs):Gs:=⟨g.pos,g.deep,true,g.nodes⟩
def gDp(g:Gs)(d:Int):Gs:=⟨g.pos,g.deep+d,g.bad,g.nodes⟩
def Al(sg:List Sg)(g:Gs)(m:List UInt8):Gs:=if isG sg g 4 m then An g else g
def Aq(sg:List Sg)(g:Gs)(m:List UInt8):Gs:=if isG sg g 4 m then An g else Bd g
def BX(g:Gs):Gs:=if g.bad then g else An g
def CX(g:Gs):Bool:=g.bad||decide (g.nodes.length=300)
def Ah(g:Gs)(x:Nd):Gs:=if CX g then Bd g else⟨g.pos,g.deep,g.bad,g.nodes++[x]⟩
def AQ(g:Gs):Int:=if CX g then 0 else g.nodes.length
def Bs(sg:List Sg)(g:Gs)(m:List UInt8)(x:Nd):Gs:=if isG sg g 4 m then BX (Ah g x) else Bd g
def BC(sg:List Sg)(g:Gs)(m:List UInt8):Int:=if isG sg g 4 m then AQ g else 0
def De(sg:List Sg)(g:Gs)(k:Int)(b:Bool):Gs:=BX (Ah g ⟨k,(pkG sg g 0).text,[],b⟩)
def CD(sg:List Sg)(g:Gs):Gs:=if nmG sg g 0 then De sg g 1 false else Bd g
def Dp(sg:List Sg)(g:Gs):Int:=if nmG sg g 0 then AQ g else 0
def BR(sg:List Sg)(g:Gs):Gs:=if nmG sg g 0 then An g else Bd g
def BS(sg:List Sg)(g:Gs):List UInt8:=if nmG sg g 0 then(pkG sg g 0).text else []
theorem Fc{sg:List Sg}{g:Gs}(h:gsOk sg g)(hl:g.pos<sg.length):gsOk sg (An g):=by
 obtain⟨h1,h2⟩:=h
 exact⟨by simp only[An];omega,h2⟩
theorem LX{sg:List Sg}{g:Gs}(h:gsOk sg g):gsOk sg (Bd g):=h
theorem VW{g:Gs}:pur (An g)=(pur g).map adv:=by
 cases h:g.bad<;>simp [pur,An,h,adv]
theorem Jw{g:Gs}:pur (Bd g)=none:=by simp [pur,Bd]
theorem a1N{sg:List Sg}{g:Gs}{k:Int}{m:List UInt8}(h:gsOk sg g)(hk:k≠0)(hm:isG sg g k m=true):VV sg g (fun s=>if isT sg s k m then some (adv s) else none) (An g)∧(An g).bad=false∧g.pos<(An g).pos:=by
 obtain⟨h1,h2⟩:=CC hm hk
 refine⟨⟨Fc h h2,rfl,by simp only[An];omega,?_⟩,h1,by simp only[An];omega⟩
 rw[VW,Dd h1]
 have:isT sg ⟨g.pos,g.deep,g.nodes⟩ k m=true:=by rw[←RB (Dd h1)];exact hm
 simp [this]
theorem RC{sg:List Sg}{g:Gs}{s:Ps}{k:Int}{m:List UInt8}(hm:isG sg g k m=false)(hs:pur g=some s):isT sg s k m=false:=by rw[←RB hs];exact hm
theorem VX{sg:List Sg}{g:Gs}{s:Ps}{k:Int}{m:List UInt8}(hm:isG sg g k m=true)(hs:pur g=some s):isT sg s k m=true:=by rw[←RB hs];exact hm
theorem NG{sg:List Sg}{g:Gs}{m:List UInt8}(h:gsOk sg g):VV sg g (BG sg m) (Aq sg g m)∧((Aq sg g m).bad=false→g.pos<(Aq sg g m).pos):=by
 unfold Aq
 cases hm:isG sg g 4 m with
 |true=>
  obtain⟨h1,h2,h3⟩:=a1N h (by omega) hm
  simp only[if_true]
  exact⟨h1,fun _=>h3⟩
 |false=>
  simp only[Bool.false_eq_true,if_false]
  refine⟨⟨LX h,rfl,Int.le_refl _,?_⟩,fun hb=>by simp [Bd] at hb⟩
  rw[Jw]
  cases hs:pur g with
  |none=>rfl
  |some s=>
   simp only[Option.bind_some,BG,isM,RC hm hs];rfl
theorem RD{g:Gs}(h:CX g=false):g.bad=false∧g.nodes.length≠300:=by
 simpa [CX] using h
theorem IW{sg:List Sg}{g:Gs}{x:Nd}(h:gsOk sg g)(hx:Cz x):gsOk sg (Ah g x):=by
 unfold Ah
 cases hf:CX g with
 |true=>exact LX h
 |false=>
  obtain⟨h1,h2⟩:=RD hf
  obtain⟨a,b,c,d⟩:=h
  refine⟨a,b,?_,?_⟩
  ·simp;omega
  ·simp only[Bool.false_eq_true,if_false]
   intro y hy
   rcases List.mem_append.1 hy with hy|hy
   ·exact d y hy
   ·simp at hy;subst hy;exact hx
theorem a1O{sg:List Sg}{g:Gs}{x:Nd}(h:gsOk sg g):pur (Ah g x)=((pur g).bind (Ba x)).map (·.2)∧∀p,(pur g).bind (Ba x)=some p→AQ g=p.1:=by
 unfold Ah AQ
 cases hf:CX g with
 |true=>
  simp only[if_true,Jw]
  have:(pur g).bind (Ba x)=none:=by
   cases hs:pur g with
   |none=>rfl
   |some s=>
    obtain⟨h1,rfl⟩:=Eu.1 hs
    have h3:g.nodes.length=300:=by simpa [CX,h1] using hf
    simp [Ba,h3]
  rw[this];exact⟨rfl,fun p hp=>by cases hp⟩
 |false=>
  obtain⟨h1,h2⟩:=RD hf
  have h3:g.nodes.length≤300:=h.2.2.1
  have h4:¬300≤g.nodes.length:=by omega
  simp [pur,h1,Ba,h4]
theorem Pv{sg:List Sg}{g:Gs}{x:Nd}(h:gsOk sg g)(hx:Cz x):Bl sg g (Ba x) (AQ g,Ah g x):=by
 refine⟨IW h hx,?_,?_,(a1O h).1,(a1O h).2⟩
 ·simp only[Ah];split<;>rfl
 ·simp only[Ah];split<;>exact Int.le_refl _
theorem VY{sg:List Sg}{g:Gs}{x:Nd}(h:gsOk sg g)(hx:Cz x)(hl:g.bad=false→g.pos<sg.length):Ag sg g (fun s=>Gn (Ba x s)) (AQ g,BX (Ah g x)):=by
 obtain⟨h1,h2,h3,h4,h5⟩:=Pv h hx
 simp only at h1 h2 h3 h4 h5
 have hp:pur (BX (Ah g x))=(pur (Ah g x)).map adv:=by
  unfold BX
  cases hb:(Ah g x).bad with
  |true=>rw[DU hb];simp [DU hb]
  |false=>simp only[Bool.false_eq_true,if_false];exact VW
 have hpos:(Ah g x).pos=g.pos:=by simp only[Ah];split<;>rfl
 have hbad:(Ah g x).bad=false→g.bad=false:=by
  intro hb;simp only[Ah] at hb;split at hb
  ·simp [Bd] at hb
  ·exact hb
 refine⟨⟨?_,?_,?_,?_,?_⟩,?_⟩
 ·simp only[BX];split
  ·exact h1
  ·rename_i hb
   exact Fc h1 (by rw[hpos];exact hl (hbad (by simpa using hb)))
 ·simp only[BX];split<;>simpa [An] using h2
 ·simp only[BX];split
  ·exact h3
  ·simp only[An];omega
 ·simp only;rw[hp,h4]
  cases hs:pur g with
  |none=>rfl
  |some s=>simp only[Option.bind_some,Gn];cases Ba x s<;>rfl
 ·intro p hp2
  simp only
  cases hs:pur g with
  |none=>rw[hs] at hp2;cases hp2
  |some s=>
   rw[hs] at hp2 h5
   simp only[Option.bind_some,Gn,Option.map_eq_some_iff] at hp2
   obtain⟨q,hq,rfl⟩:=hp2
   exact h5 q (by simpa using hq)
 ·simp only[BX]
  split
  ·rename_i hb;intro hh;rw[hb] at hh;cases hh
  ·intro _;simp only[An];omega
theorem KD{sg:List Sg}{g:Gs}{m:List UInt8}{x:Nd}(h:gsOk sg g)(hx:Cz x):Ag sg g (Br sg m x) (BC sg g m,Bs sg g m x):=by
 unfold Bs BC
 cases hm:isG sg g 4 m with
 |true=>
  obtain⟨hb,hl⟩:=CC hm (by omega)
  have:=VY h hx (fun _=>hl)
  simp only[if_true]
  have e:(pur g).bind (Br sg m x)=(pur g).bind fun s=>Gn (Ba x s):=by
   rw[Dd hb]
   have:isM sg ⟨g.pos,g.deep,g.nodes⟩ m=true:=VX hm (Dd hb)
   simp [Br,this]
  obtain⟨⟨a1,a2,a3,a4,a5⟩,a6⟩:=this
  exact⟨⟨a1,a2,a3,by rw[e];exact a4,by rw[e];exact a5⟩,a6⟩
 |false=>
  simp only[Bool.false_eq_true,if_false]
  have e:(pur g).bind (Br sg m x)=none:=by
   cases hs:pur g with
   |none=>rfl
   |some s=>
    have:isM sg s m=false:=RC hm hs
    simp [Br,this]
  refine⟨⟨LX h,rfl,Int.le_refl _,by rw[e];exact Jw,fun p hp=>by rw[e] at hp;cases hp⟩,fun hb=>by simp [Bd] at hb⟩
theorem b1a{sg:List Sg}(h:sgB sg){i:Int}:(sgO sg i).text.length≤3000:=by
 unfold sgO;rw[List.getD]
 cases hx:sg[i.toNat]? with
 |none=>simp [EL]
 |some e=>exact h.2 e (Ca hx)
theorem KE{sg:List Sg}(h:sgB sg){g:Gs}{n:Int}:(pkG sg g n).text.length≤3000:=by
 unfold pkG;split
 ·simp [EL]
 ·exact b1a h
theorem Pw{sg:List Sg}{g:Gs}{k:Int}{b:Bool}(hs:sgB sg)(h:gsOk sg g)(hl:g.bad=false→g.pos<sg.length):Ag sg g (FI sg k b) (AQ g,De sg g k b):=by
 have hx:Cz ⟨k,(pkG sg g 0).text,[],b⟩:=⟨KE hs,by simp⟩
 have:=VY (x:=⟨k,(pkG sg g 0).text,[],b⟩) h hx hl
 have e:(pur g).bind (FI sg k b)=(pur g).bind fun s=>Gn (Ba ⟨k,(pkG sg g 0).text,[],b⟩ s):=by
  cases hs:pur g with
  |none=>rfl
  |some s=>
   obtain⟨h1,rfl⟩:=Eu.1 hs
   simp [FI,GV h1]
 obtain⟨⟨a1,a2,a3,a4,a5⟩,a6⟩:=this
 exact⟨⟨a1,a2,a3,by rw[e];exact a4,by rw[e];exact a5⟩,a6⟩
theorem Jx{sg:List Sg}{g:Gs}(hs:sgB sg)(h:gsOk sg g):Ag sg g (BB sg) (Dp sg g,CD sg g):=by
 unfold CD Dp
 cases hm:nmG sg g 0 with
 |true=>
  obtain⟨hb,hl⟩:=IV hm
  simp only[if_true]
  obtain⟨⟨a1,a2,a3,a4,a5⟩,a6⟩:=Pw (k:=1) (b:=false) hs h (fun _=>by omega)
  have e:(pur g).bind (BB sg)=(pur g).bind (FI sg 1 false):=by
   rw[Dd hb]
   have:DB sg g.pos=true:=by have:=KC (sg:=sg) (n:=0) (Dd hb);rw[hm] at this;simpa using this.symm
   simp [BB,this]
  exact⟨⟨a1,a2,a3,by rw[e];exact a4,by rw[e];exact a5⟩,a6⟩
 |false=>
  simp only[Bool.false_eq_true,if_false]
  have e:(pur g).bind (BB sg)=none:=by
   cases hs:pur g with
   |none=>rfl
   |some s=>
    have:DB sg s.pos=false:=by have:=KC (sg:=sg) (n:=0) hs;rw[hm] at this;simpa using this.symm
    simp [BB,this]
  refine⟨⟨LX h,rfl,Int.le_refl _,by rw[e];exact Jw,fun p hp=>by rw[e] at hp;cases hp⟩,fun hb=>by simp [Bd] at hb⟩
theorem NH{sg:List Sg}{g:Gs}(h:gsOk sg g):Ag sg g (GU sg) (BS sg g,BR sg g):=by
 unfold BR BS
 cases hm:nmG sg g 0 with
 |true=>
  obtain⟨hb,hl⟩:=IV hm
  simp only[if_true]
  have hn:DB sg g.pos=true:=by have:=KC (sg:=sg) (n:=0) (Dd hb);rw[hm] at this;simpa using this.symm
  refine⟨⟨Fc h (by omega),rfl,by simp only[An];omega,?_,?_⟩,fun _=>by simp only[An];omega⟩
  ·simp only;rw[VW,Dd hb];simp [GU,hn]
  ·intro p hp;rw[Dd hb] at hp
   simp [GU,hn] at hp
   rw[←hp,GV hb];simp
 |false=>
  simp only[Bool.false_eq_true,if_false]
  have e:(pur g).bind (GU sg)=none:=by
   cases hs:pur g with
   |none=>rfl
   |some s=>
    have:DB sg s.pos=false:=by have:=KC (sg:=sg) (n:=0) hs;rw[hm] at this;simpa using this.symm
    simp [GU,this]
  refine⟨⟨LX h,rfl,Int.le_refl _,by rw[e];exact Jw,fun p hp=>by rw[e] at hp;cases hp⟩,fun hb=>by simp [Bd] at hb⟩
end Go.My
end
