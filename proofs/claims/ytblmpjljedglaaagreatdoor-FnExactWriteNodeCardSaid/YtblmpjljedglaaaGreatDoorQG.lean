/- joined -/
import Derived.Test.YtblmpjljedglaaaGreatDoorQF
import Derived.Shelf.Strings.Builder1
import Derived.Shelf.Strings.OnBuilder
import Derived.Shelf.Strings.Repeat
import Derived.Test.YtblmpjljedglaaaGreatDoorProg
set_option linter.unusedSimpArgs false
set_option linter.unusedVariables false
section
namespace Go.My
open Go.Eng Go.Proofs
variable {G:GInv}
def sdp(ns:List Nd)(i:Nat)(ds:List Int):Int:=
 if Cc ns i=true∧(i=0∨ds.getD (i-1) 0≠0) then(if 14≤mx ds (Aa ns i).kids 0 then 0 else mx ds (Aa ns i).kids 0+1) else 0
def sds(ns:List Nd):Nat→List Int
 |0=>[]
 |n+1=>sds ns n++[sdp ns n (sds ns n)]
theorem GT{ns:List Nd}:∀ {n:Nat},(sds ns n).length=n
 |0=>rfl
 |n+1=>by rw[sds,List.length_append,GT];rfl
theorem a0S{ns:List Nd}:∀ {n:Nat},(match BW ns n with|some ds=>sds ns n=ds|none=>0<n∧(sds ns n).getD (n-1) 0=0)
 |0=>by simp [BW,sds]
 |n+1=>by
  have ih:= @a0S ns n
  unfold BW
  cases hd:BW ns n with
  |none=>
   rw[hd] at ih
   simp only
   refine⟨by omega,?_⟩
   have hz:sdp ns n (sds ns n)=0:=by
    unfold sdp;rw[if_neg];rintro⟨_,h|h⟩
    ·omega
    ·exact h ih.2
   rw[sds,hz,List.getD,List.getElem?_append_right (by rw[GT];omega),GT];simp
  |some ds=>
   rw[hd] at ih
   simp only at ih ⊢
   by_cases hn:Cc ns n=true
   ·rw[if_pos hn]
    have hprev:n=0∨(sds ns n).getD (n-1) 0≠0:=by
     by_cases e:n=0
     ·exact .inl e
     ·right
      rw[ih,List.getD]
      have hl:=IX hd
      have:ds[n-1]? =some ds[n-1]:=by simp
      rw[this];have:=LR hd ds[n-1] (by simp);simp;omega
    have hs:sdp ns n (sds ns n)=if 14≤mx ds (Aa ns n).kids 0 then 0 else mx ds (Aa ns n).kids 0+1:=by
     unfold sdp;rw[if_pos ⟨hn,hprev⟩,ih]
    by_cases hm:14≤mx ds (Aa ns n).kids 0
    ·rw[if_pos hm];simp only
     refine⟨by omega,?_⟩
     rw[sds,hs,if_pos hm,List.getD,List.getElem?_append_right (by rw[GT];omega),GT];simp
    ·rw[if_neg hm];simp only
     rw[sds,hs,if_neg hm,ih]
   ·rw[if_neg hn];simp only
    refine⟨by omega,?_⟩
    have hz:sdp ns n (sds ns n)=0:=by unfold sdp;rw[if_neg (fun h=>hn h.1)]
    rw[sds,hz,List.getD,List.getElem?_append_right (by rw[GT];omega),GT];simp
theorem b1r{ns:List Nd}{k:Int}{v:Int}(h:Bf ns k=true)(hv:(sds ns (k.toNat+1))[k.toNat]? =some v):v=BM ns k:=by
 have ih:= @a0S ns (k.toNat+1)
 unfold BM;rw[if_pos h]
 cases hd:BW ns (k.toNat+1) with
 |none=>rw[hd] at ih;simp only at ih ⊢;have:=ih.2;rw[List.getD] at this;simp [hv] at this;exact this
 |some ds=>rw[hd] at ih;simp only at ih ⊢;rw[←ih,List.getD,hv];rfl
theorem Vp{ns:List Nd}:∀ {n:Nat},∀d∈sds ns n,0≤d∧d≤14
 |0,d,h=>by simp [sds] at h
 |n+1,d,h=>by
  rw[sds] at h
  rcases List.mem_append.1 h with h|h
  ·exact Vp d h
  ·simp at h;subst h
   have:=PW (sds ns n) (Aa ns n).kids 0
   unfold sdp;split
   ·split<;>omega
   ·omega
def okB(ns:List Nd)(i:Int):Bool:=Cc ns i&&(decide (i=0)|| !decide ((sds ns i.toNat).getD (i.toNat-1) 0=0))
theorem a0T{ns:List Nd}{i:Int}(h:0≤i):sdp ns i.toNat (sds ns i.toNat)=if okB ns i then(if 14≤mx (sds ns i.toNat) (Aa ns i).kids 0 then 0 else mx (sds ns i.toNat) (Aa ns i).kids 0+1) else 0:=by
 have e:((i.toNat:Nat):Int)=i:=by omega
 unfold sdp;rw[e]
 have hb:okB ns i=true↔Cc ns i=true∧(i.toNat=0∨(sds ns i.toNat).getD (i.toNat-1) 0≠0):=by
  unfold okB
  simp only[Bool.and_eq_true,Bool.or_eq_true,decide_eq_true_eq,Bool.not_eq_true',decide_eq_false_iff_not]
  constructor
  ·rintro⟨h1,h2⟩;exact⟨h1,h2.imp (fun h=>by omega) id⟩
  ·rintro⟨h1,h2⟩;exact⟨h1,h2.imp (fun h=>by omega) id⟩
 by_cases h1:okB ns i=true
 ·rw[if_pos h1,if_pos (hb.1 h1)]
 ·rw[if_neg h1,if_neg (fun h2=>h1 (hb.2 h2))]
def eI(ns:List Nd)(i j d:Int):Prop:=(okB ns i=true→j≤(Aa ns i).kids.length∧1≤d∧d≤15∧mx (sds ns i.toNat) ((Aa ns i).kids.drop j.toNat) (d-1)=mx (sds ns i.toNat) (Aa ns i).kids 0)∧0≤j∧(okB ns i=false→d=0)
theorem b1s{ns:List Nd}{i:Int}:eI ns i 0 (if okB ns i then 1 else 0):=by
 refine⟨fun h=> ?_,by omega,fun h=> ?_⟩
 ·rw[if_pos h];refine⟨by omega,by omega,by omega,by simp⟩
 ·rw[h];rfl
theorem Qv{ns:List Nd}{i j d:Int}(h:eI ns i j d)(hd:d>0):okB ns i=true:=by
 cases hb:okB ns i
 ·have:=h.2.2 hb;omega
 ·rfl
theorem a0U{ns:List Nd}{i:Int}(h:okB ns i=true):Cc ns i=true:=by
 simp only[okB,Bool.and_eq_true] at h;exact h.1
theorem b1t{ns:List Nd}{i j d c:Int}{y:Nd}(h:eI ns i j d)(hd:d>0)(hy:ns[i.toNat]? =some y)(hc:y.kids[j.toNat]? =some c):0≤c∧c<i:=by
 have:=(Dj (a0U (Qv h hd))).2.2.2.1
 rw[Br hy] at this;exact this c (AZ hc)
theorem b1u{ns:List Nd}{i j d:Int}{y:Nd}(h:eI ns i j d)(hd:d>0)(hy:ns[i.toNat]? =some y):y.kids.length≤12:=by
 have:=(Dj (a0U (Qv h hd))).2.1
 rwa [Br hy] at this
theorem b1v{ns:List Nd}{i j d c v d':Int}{y:Nd}(h:eI ns i j d)(hd:d>0)(hy:ns[i.toNat]? =some y)(hc:y.kids[j.toNat]? =some c)(hv:(sds ns i.toNat)[c.toNat]? =some v)(hd':d'-1=max (d-1) v):eI ns i (j+1) d':=by
 have hb:=Qv h hd
 obtain⟨h1,h2,h3,h4⟩:=h.1 hb
 have h0:=h.2.1
 have hr:=Vp v (AZ hv)
 rw[Br hy] at h4 h1
 have:=(Cx hc).1
 refine⟨fun _=> ?_,by omega,fun hh=>by rw[hb] at hh;cases hh⟩
 rw[Br hy]
 refine⟨by omega,by omega,by omega,?_⟩
 rw[←h4,Dm hc,BG h0,mx,List.getD,hv,Option.getD_some,hd']
theorem b1w{ns:List Nd}{i:Int}{c:Nat}{v:Int}(hv:(sds ns i.toNat)[c]? =some v):0≤v∧v≤14:=Vp v (AZ hv)
theorem b1x{ns:List Nd}{i j d:Int}{y:Nd}(hi:0≤i)(h:eI ns i j d)(hd:d>0)(hy:ns[i.toNat]? =some y)(hl:¬j<y.kids.length):sds ns i.toNat++[if d>14 then 0 else d]=sds ns (i+1).toNat:=by
 have hb:=Qv h hd
 obtain⟨h1,h2,h3,h4⟩:=h.1 hb
 rw[Br hy,List.drop_eq_nil_of_le (by omega),mx] at h4
 rw[BG hi,sds,a0T hi,if_pos hb,Br hy,←h4]
 congr 2
 by_cases h5:d>14
 ·rw[if_pos h5,if_pos (by omega)]
 ·rw[if_neg h5,if_neg (by omega)];omega
theorem b1y{ns:List Nd}{i j d:Int}(hi:0≤i)(h:eI ns i j d)(hd:¬d>0):sds ns i.toNat++[d]=sds ns (i+1).toNat:=by
 have hb:okB ns i=false:=by
  cases hb:okB ns i
  ·rfl
  ·have:=(h.1 hb).2.1;omega
 rw[BG hi,sds,a0T hi,hb,h.2.2 hb];rfl
theorem b1z{ns:List Nd}{i:Int}(h:Cc ns i=false):0=if okB ns i=true then(1:Int) else 0:=by simp [okB,h]
theorem b1A{ns:List Nd}{i v:Int}(h:i>0)(hv:(sds ns i.toNat)[(i-1).toNat]? =some v)(h0:v=0):0=if okB ns i=true then(1:Int) else 0:=by
 have e:(i-1).toNat=i.toNat-1:=by omega
 rw[e] at hv;subst h0
 have:(sds ns i.toNat).getD (i.toNat-1) 0=0:=by rw[List.getD,hv];rfl
 simp only[okB,this,decide_true,Bool.not_true,Bool.or_false]
 rw[decide_eq_false (by omega)];simp
theorem b1B{ns:List Nd}{i:Int}(h:Cc ns i=true)(h0:0≤i)(h1:¬i>0):1=if okB ns i=true then(1:Int) else 0:=by
 obtain rfl:i=0:=by omega
 simp [okB,h]
theorem b1C{ns:List Nd}{i v:Int}(h:Cc ns i=true)(h0:i>0)(hv:(sds ns i.toNat)[(i-1).toNat]? =some v)(h1:v≠0):1=if okB ns i=true then(1:Int) else 0:=by
 have e:(i-1).toNat=i.toNat-1:=by omega
 rw[e] at hv
 have:(sds ns i.toNat).getD (i.toNat-1) 0≠0:=by rw[List.getD,hv];exact h1
 simp only[okB,h,this,decide_false,Bool.not_false,Bool.or_true,Bool.and_true,if_true]
def NX(x:List Nd×Int)(o:Int):LS:= {
 ι:=Int×Int,inv:=fun i=>eI x.1 o i.1 i.2,
 regs:=fun i=>[(0,nds x.1),(1,.int .i64 x.2),(5,AW (sds x.1 o.toNat)),(6,.int .i64 o),(7,.int .i64 i.2),(8,.int .i64 i.1)],als:=[],meas:=fun i=>(Aa x.1 o).kids.length-i.1.toNat}
def Mg(x:List Nd×Int)(o:Int):LS:= {
 ι:=Unit,inv:=fun _=>True,
 regs:=fun i=>[(0,nds x.1),(1,.int .i64 x.2),(5,AW (sds x.1 o.toNat)),(6,.int .i64 o),(7,.int .i64 (if okB x.1 o then 1 else 0))],als:=[],meas:=fun i=>0}
def lDs(x:List Nd×Int):LS:= {
 ι:=Int,inv:=fun i=>0≤i∧i≤x.2+1,
 regs:=fun i=>[(0,nds x.1),(1,.int .i64 x.2),(5,AW (sds x.1 i.toNat)),(6,.int .i64 i)],als:=[],meas:=fun i=>(x.2+1-i).toNat,sub:=fun i=>[(9,NX x i),(200008,Mg x i)]}
def Ky:Sig:= {X:=List Nd×Int,args:=fun x=>[nds x.1,.int .i64 x.2],pre:=fun x=>CZ x.1∧x.1.length≤2^30∧Bf x.1 x.2=true,Y:=Unit,post:=fun x y=>True,res:=fun x y=>AW (sds x.1 (x.2.toNat+1)),outs:=fun x y=>[.top,.top],keep:=false}
theorem b1D:Ah G Tryz.prog 84 Ky:=
 vcFun_okP [(119,0,EE)] [(38,⟨Int,Cw⟩)] false (fun x=>[(3,lDs x)]) Tryz.func84 rfl (by decide) ⟨b1q,trivial⟩ (fun(x:List Nd×Int)=>(∀(y:Unit),True→(∀(x:Int),True∧True)∧True∧True∧True)∧eA (lDs x) [nds x.1,.int .i64 x.2,AW [],.int .i64 (0:Int)]∧∀(i:Int),(0:Int)≤i∧i≤x.2+(1:Int)→Ab (decide (i≤x.2)) (Ab (decide (i<(↑(List.length x.1):Int))) ((cA EE [nds x.1,.int .i64 i] fun x_1 y=>Ab (!Cc x_1.1 x_1.2) (eA (Mg x i) [nds x.1,.int .i64 x.2,AW (sds x.1 (Int.toNat i)),.int .i64 i,.int .i64 (0:Int)]) (Ab (decide (i>(0:Int))) (inR IntKind.i64 (i-(1:Int))∧((0:Int)≤i-(1:Int)∧i-(1:Int)<(↑(List.length (sds x.1 (Int.toNat i))):Int))∧Int.toNat (i-(1:Int))<List.length (sds x.1 (Int.toNat i))∧∀(x_2:Int),(sds x.1 (Int.toNat i))[Int.toNat (i-(1:Int))]? =some x_2→Ab (x_2==(0:Int)) (eA (Mg x i) [nds x.1,.int .i64 x.2,AW (sds x.1 (Int.toNat i)),.int .i64 i,.int .i64 (0:Int)]) (eA (Mg x i) [nds x.1,.int .i64 x.2,AW (sds x.1 (Int.toNat i)),.int .i64 i,.int .i64 (1:Int)])) (eA (Mg x i) [nds x.1,.int .i64 x.2,AW (sds x.1 (Int.toNat i)),.int .i64 i,.int .i64 (1:Int)])))∧∀(i_1:Unit),True→eA (NX x i) [nds x.1,.int .i64 x.2,AW (sds x.1 (Int.toNat i)),.int .i64 i,.int .i64 (if okB x.1 i=true then(1:Int) else(0:Int)),.int .i64 (0:Int)]∧∀(i_2:Int×Int),eI x.1 i i_2.1 i_2.2→Ab (decide (i_2.2>(0:Int))) (((0:Int)≤i∧i<(↑(List.length x.1):Int))∧∀(e:Nd),x.1[Int.toNat i]? =some e→Ab (decide (i_2.1<(↑(List.length e.kids):Int))) (((0:Int)≤i∧i<(↑(List.length x.1):Int))∧∀(e:Nd),x.1[Int.toNat i]? =some e→((0:Int)≤i_2.1∧i_2.1<(↑(List.length e.kids):Int))∧∀(e_1:Int),e.kids[Int.toNat i_2.1]? =some e_1→((0:Int)≤e_1∧e_1<(↑(List.length (sds x.1 (Int.toNat i))):Int))∧Int.toNat e_1<List.length (sds x.1 (Int.toNat i))∧∀(x_1:Int),(sds x.1 (Int.toNat i))[Int.toNat e_1]? =some x_1→inR IntKind.i64 (x_1+(1:Int))∧Ab (decide (x_1+(1:Int)>i_2.2)) (((0:Int)≤i∧i<(↑(List.length x.1):Int))∧∀(e:Nd),x.1[Int.toNat i]? =some e→((0:Int)≤i_2.1∧i_2.1<(↑(List.length e.kids):Int))∧∀(e_2:Int),e.kids[Int.toNat i_2.1]? =some e_2→((0:Int)≤e_2∧e_2<(↑(List.length (sds x.1 (Int.toNat i))):Int))∧Int.toNat e_2<List.length (sds x.1 (Int.toNat i))∧∀(x_2:Int),(sds x.1 (Int.toNat i))[Int.toNat e_2]? =some x_2→inR IntKind.i64 (x_2+(1:Int))∧inR IntKind.i64 (i_2.1+(1:Int))∧eN (NX x i) i_2 [nds x.1,.int .i64 x.2,AW (sds x.1 (Int.toNat i)),.int .i64 i,.int .i64 (x_2+(1:Int)),.int .i64 (i_2.1+(1:Int))]) (inR IntKind.i64 (i_2.1+(1:Int))∧eN (NX x i) i_2 [nds x.1,.int .i64 x.2,AW (sds x.1 (Int.toNat i)),.int .i64 i,.int .i64 i_2.2,.int .i64 (i_2.1+(1:Int))])) (Ab (decide (i_2.2>(14:Int))) (∃(x_1:Int),(0:Int)=x_1∧(∃(zs:List Int),AW [x_1]=AW zs∧(Bg Cw∧(AY (List.length (sds x.1 (Int.toNat i))+List.length zs) (8:Nat)∧inR IntKind.i64 (i+(1:Int))∧(eN (lDs x) i [nds x.1,.int .i64 x.2,AW (sds x.1 (Int.toNat i)++zs),.int .i64 (i+(1:Int))]))))) (∃(x_1:Int),i_2.2=x_1∧(∃(zs:List Int),AW [x_1]=AW zs∧(Bg Cw∧(AY (List.length (sds x.1 (Int.toNat i))+List.length zs) (8:Nat)∧inR IntKind.i64 (i+(1:Int))∧(eN (lDs x) i [nds x.1,.int .i64 x.2,AW (sds x.1 (Int.toNat i)++zs),.int .i64 (i+(1:Int))]))))))) (Ab (decide (i_2.2>(14:Int))) (∃(x_1:Int),(0:Int)=x_1∧(∃(zs:List Int),AW [x_1]=AW zs∧(Bg Cw∧(AY (List.length (sds x.1 (Int.toNat i))+List.length zs) (8:Nat)∧inR IntKind.i64 (i+(1:Int))∧(eN (lDs x) i [nds x.1,.int .i64 x.2,AW (sds x.1 (Int.toNat i)++zs),.int .i64 (i+(1:Int))]))))) (∃(x_1:Int),i_2.2=x_1∧(∃(zs:List Int),AW [x_1]=AW zs∧(Bg Cw∧(AY (List.length (sds x.1 (Int.toNat i))+List.length zs) (8:Nat)∧inR IntKind.i64 (i+(1:Int))∧(eN (lDs x) i [nds x.1,.int .i64 x.2,AW (sds x.1 (Int.toNat i)++zs),.int .i64 (i+(1:Int))]))))))) (rA Ky x [AW (sds x.1 (Int.toNat i)),.top,.top])) (rA Ky x [AW (sds x.1 (Int.toNat i)),.top,.top])) (fun x=>by kernel_rfl) fun(x:List Nd×Int) (hx:CZ x.1∧x.1.length≤2^30∧Bf x.1 x.2=true)=>(by
 dsimp only[cA,eA,eN,lDs,NX,Mg,Bi,nds,AW,rA,Ky,EE,Aq,Aw,mvL,lnL,mvE,lnE,mvG,mvH,lnG,lnH,Ba]
 obtain⟨h1,h2,h3⟩:=hx;have hl:=h1.1;have hn:=Bc.1 h3
 (repeat' first|(with_reducible first|rfl|exact True.intro|apply AG|apply And.intro|((first|apply Au|apply AE|apply Av|apply AF)<;>intro _))|(apply As<;>intro _)|apply AD|refine Af () ?_ ?_|((first|apply AK|apply AJ|apply AI|apply AH|apply AC|apply AB|apply AA|apply Az|apply Ax)<;>try dsimp only)|apply Af|(refine Prod.forall.2 ?_;intro _;try dsimp only)|(intro _;try dsimp only))
 all_goals first
  |rfl
  |omega
  |exact b1z ‹_›
  |exact b1A ‹_› ‹_› ‹_›
  |exact b1B ‹_› (by omega) ‹_›
  |exact b1C ‹_› ‹_› ‹_› ‹_›
  |exact b1s
  |(rw[GT];omega)
  |skip
 all_goals try(repeat(rename x.1[Int.toNat _]? =some _=>hq;revert hq;rename x.1[Int.toNat _]? =some _=>hr;intro hq;rw[hr] at hq;cases hq))
 all_goals try(repeat(rename(Nd.kids _)[Int.toNat _]? =some _=>hq;revert hq;rename(Nd.kids _)[Int.toNat _]? =some _=>hr;intro hq;rw[hr] at hq;cases hq))
 all_goals try(rename(sds x.1 _)[Int.toNat _]? =some _=>hq;revert hq;rename(sds x.1 _)[Int.toNat _]? =some _=>hr2;intro hq;have hqq:=hr2.symm.trans hq;simp only[Option.some.injEq] at hqq;subst hqq)
 all_goals try(have hke:=b1t ‹_› ‹_› ‹_› ‹_›)
 all_goals try(have hle:=b1u ‹_› ‹_› ‹_›)
 all_goals try(have hve:=b1w ‹_›)
 all_goals try(have hse:=(show eI _ _ _ _ by assumption).2.1)
 all_goals first
  |omega
  |(rw[GT];omega)
  |((try simp only[Aj]);omega)
  |exact b1v ‹_› ‹_› ‹_› ‹_› ‹_› (by omega)
  |(rw[←b1x (by omega) ‹_› ‹_› ‹_› ‹_›];simp [*];done)
  |exact b1y (by omega) ‹_› ‹_›
  |(rw[Br ‹_›];omega)
  |(congr 1;omega)
  |(simp only[AY,GT,List.length_cons,List.length_nil];omega)
  |skip)
def FL:Sig:= {X:=List Nd×Int,args:=fun x=>[nds x.1,.int .i64 x.2],pre:=fun x=>CZ x.1∧x.1.length≤2^30,Y:=Unit,post:=fun x y=>True,res:=fun x y=> .int .i64 (BM x.1 x.2),outs:=fun x y=>[.top,.top],keep:=false}
theorem Vq:Ah G Tryz.prog 44 FL:=
 vcFun_okP [(45,0,Bz),(84,0,Ky)] [] false (fun x=>[]) Tryz.func44 rfl (by decide) ⟨GN,b1D,trivial⟩ (fun(x:List Nd×Int)=>(∀(y:Unit),True→True∧True∧True∧True)∧inR IntKind.i64 ((↑(List.length x.1):Int)-(1:Int))∧cA Bz [.int .i64 x.2,.int .i64 (0:Int),.int .i64 ((↑(List.length x.1):Int)-(1:Int))] fun x_1 y=>Ab (!inn x_1.1 x_1.2.1 x_1.2.2) (rA FL x [.int .i64 (0:Int),.top,.top]) (cA Ky [nds x.1,.int .i64 x.2] fun x_2 y=>((0:Int)≤x.2∧x.2<(↑(List.length (sds x_2.1 (Int.toNat x_2.2+(1:Nat)))):Int))∧Int.toNat x.2<List.length (sds x_2.1 (Int.toNat x_2.2+(1:Nat)))∧∀(x_3:Int),(sds x_2.1 (Int.toNat x_2.2+(1:Nat)))[Int.toNat x.2]? =some x_3→rA FL x [.int .i64 x_3,.top,.top])) (fun x=>by kernel_rfl) fun(x:List Nd×Int) (hx:CZ x.1∧x.1.length≤2^30)=>(by
 dsimp only[cA,Bi,nds,AW,rA,Bz,Ky,FL,Aq,Aw,mvL,lnL,mvE,lnE,mvG,mvH,lnG,lnH]
 obtain⟨h1,h2⟩:=hx;have hl:=h1.1
 (repeat' first|(with_reducible first|rfl|exact True.intro|apply AG|apply And.intro|((first|apply Au|apply AE|apply Av|apply AF)<;>intro _))|(apply As<;>intro _)|apply AD|refine Af () ?_ ?_|((first|apply AK|apply AJ|apply AI|apply AH|apply AC|apply AB|apply AA|apply Az|apply Ax)<;>try dsimp only)|apply Af|(refine Prod.forall.2 ?_;intro _;try dsimp only)|(intro _;try dsimp only))
 all_goals first
  |exact h1
  |exact h2
  |((try simp only[Aj]);omega)
  |(rw[HW] at*;exact a0H ‹_›)
  |(have hh:=(show inn x.2 0 (x.1.length-1)=true by assumption);rw[HW] at hh;have:=Bc.1 hh;first|exact hh|omega|exact b1r hh ‹_› |(rw[GT];omega))
  |skip)
end Go.My
end
section
namespace Go.My
open Go.Eng
def BB(ns:List Nd)(k:Int):Prop:=Bf ns k=true∧∀i:Nat,(i:Int)≤k→Cc ns i=true
theorem HX{ns:List Nd}{k:Int}(h:BM ns k≠0):BB ns k:=⟨(UT h).1,(UT h).2.2⟩
theorem Eo{ns:List Nd}{k:Int}(h:BB ns k):Cc ns k=true:=by
 have:=Bc.1 h.1
 have h2:=h.2 k.toNat (by omega)
 rwa [show((k.toNat:Nat):Int)=k by omega] at h2
theorem CG{ns:List Nd}{k c:Int}(h:BB ns k)(hc:c∈(Aa ns k).kids):BB ns c∧0≤c∧c<k:=by
 have h1:=(Dj (Eo h)).2.2.2.1 c hc
 have h2:=Bc.1 h.1
 exact⟨⟨Bc.2 (by omega),fun i hi=>h.2 i (by omega)⟩,h1⟩
theorem Vr(f:Int→Nat):∀(n:Nat) (V:List Int),V.Nodup→(∀p∈V,0≤p∧p<n)→(V.map f).sum≤((List.range n).map fun i:Nat=>f i).sum
 |0,V,_,h=>by
  have:V=[]:=by
   cases V with
   |nil=>rfl
   |cons p V=>have:=h p (by simp);omega
  subst this;simp
 |n+1,V,hn,h=>by
  rw[List.range_succ,List.map_append,List.sum_append]
  by_cases hm:(n:Int)∈V
  ·have hp:=List.perm_cons_erase hm
   have e:(V.map f).sum=f n+((V.erase n).map f).sum:=by
    have:=(hp.map f).sum_nat
    rw[this];simp
   have h2:=Vr f n (V.erase n) (hn.erase _) (fun p hp=>by
    have h3:=(List.Nodup.mem_erase_iff hn).1 hp
    have:=h p h3.2
    have h4:=h3.1
    omega)
   rw[e];simp;omega
  ·have h2:=Vr f n V hn (fun p hp=>by
    have:=h p hp
    have:p≠n:=fun e=>hm (e▸hp)
    omega)
   simp;omega
structure Sg where
 kind:Int
 text:List UInt8
 pos:Int
 blank:Bool
def kd(x:Nd)(i:Nat):Int:=x.kids.getD i 0
theorem Cr{x:Nd}{i:Nat}{c:Int}(h:x.kids[i]? =some c):kd x i=c:=by simp [kd,List.getD,h]
theorem HY{ns:List Nd}{k:Int}(h:BB ns k):(1≤(Aa ns k).kind∧(Aa ns k).kind≤22)∧(CN (Aa ns k).kind).1≤(Aa ns k).kids.length∧(Aa ns k).kids.length≤(CN (Aa ns k).kind).2:=by
 have h1:=Dj (Eo h)
 have hk:=h1.2.2.2.2.2.1
 have hin:inn (Aa ns k).kind 1 22=true:=by
  cases hh:inn (Aa ns k).kind 1 22
  ·rw[a0s hh] at hk;cases hk
  ·rfl
 have h2:=BA.1 hin
 have hb:=a0r (l:=(Aa ns k).kids.map (Al ns)) h2.1 h2.2
 rw[hk] at hb
 have hl:decide (((Aa ns k).kids.map (Al ns)).length≤12)=true:=decide_eq_true (by rw[List.length_map];exact h1.2.1)
 rw[hl] at hb
 simp only[Bool.and_true,Bool.and_eq_true,List.length_map] at hb
 exact⟨h2,BA.1 hb.1⟩
structure Ru where
 vals:Int
 cost:Int
structure Ch where
 text:List UInt8
 rule:Int
 fr:Int
 space:Bool
 nest:Int
structure Sn where
 fr:Int
 tuu:Int
 cost:Int
structure Ti where
 kid:Int
 up:Int
structure Pc where
 ind:Int
 rules:List Ru
 chunks:List Ch
 spans:List Sn
 ties:List Ti
def ruA:Ru→List AV:=fun r=>[.int .i64 r.vals,.int .i64 r.cost]
def chA:Ch→List AV:=fun c=>[.str c.text,.int .i64 c.rule,.int .i64 c.fr,.bool c.space,.int .i64 c.nest]
def snA:Sn→List AV:=fun s=>[.int .i64 s.fr,.int .i64 s.tuu,.int .i64 s.cost]
def tiA:Ti→List AV:=fun t=>[.int .i64 t.kid,.int .i64 t.up]
theorem Bj(r:Ru):ruA r=[.int .i64 r.vals,.int .i64 r.cost]:=rfl
theorem Bl(c:Ch):chA c=[.str c.text,.int .i64 c.rule,.int .i64 c.fr,.bool c.space,.int .i64 c.nest]:=rfl
theorem Bm(s:Sn):snA s=[.int .i64 s.fr,.int .i64 s.tuu,.int .i64 s.cost]:=rfl
theorem Bn(t:Ti):tiA t=[.int .i64 t.kid,.int .i64 t.up]:=rfl
def pcA(o:Bool)(p:Pc):List AV:=[.int .i64 p.ind,.sl o 0 2 Ru ruA p.rules,.sl o 0 5 Ch chA p.chunks,.sl o 0 3 Sn snA p.spans,.sl o 0 2 Ti tiA p.ties]
structure Bs where
 rules:List Ru
 chunks:List Ch
 spans:List Sn
 ties:List Ti
 text:List UInt8
def FM(rd:Bool)(s:Bs):Bool:=rd&&decide (s.rules.length<8)
def Bd(rd:Bool)(v c:Int)(s:Bs):Bs:=if FM rd s then⟨s.rules++[⟨v,c⟩],s.chunks,s.spans,s.ties,s.text⟩ else s
def AM(rd:Bool)(s:Bs):Int:=if FM rd s then s.rules.length else-1
def Am(t:List UInt8)(s:Bs):Bs:=⟨s.rules,s.chunks,s.spans,s.ties,s.text++t⟩
def AU(r fr:Int)(sp:Bool)(nest:Int)(s:Bs):Bs:=
 if 0≤r∧s.chunks.length<79 then⟨s.rules,s.chunks++[⟨s.text,r,fr,sp,min nest 40⟩],s.spans,s.ties,[]⟩
 else if sp then Am [32] s else s
def CH(kid up:Int)(s:Bs):Bs:=if(0≤kid∧0≤up)∧s.ties.length<20 then⟨s.rules,s.chunks,s.spans,s.ties++[⟨kid,up⟩],s.text⟩ else s
def Fe(fr:Int)(s:Bs):Bs:=if fr≤(s.chunks.length:Int)-1∧s.spans.length<40 then⟨s.rules,s.chunks,s.spans++[⟨fr,(s.chunks.length:Int)-1,1⟩],s.ties,s.text⟩ else s
def Dy(n:Nat)(s:Bs):Int:=if n<s.rules.length then n else-1
def up4(a:Int):Int:=min (a+4) 40
def itL(f:Int→Int→Bs→Bs)(r g inner:Int):List Int→Bool→Bs→Bs
 |[],_,s=>s
 |c::l,first,s=>itL f r g inner l false (f c inner (if first then s else AU r g true inner (Am [44] s)))
def Eb(rd:Bool)(f:Int→Int→Bs→Bs)(op:List UInt8)(ks:List Int)(en:List UInt8)(a:Int)(s:Bs):Bs:=
 if ks=[] then Am en (Am op s)
 else Am en (AU (AM rd (Am op s)) 1 false a
  (itL f (AM rd (Am op s)) (min ks.length 2) (up4 a) ks true (AU (AM rd (Am op s)) 1 false (up4 a) (Bd rd (min ks.length 2+1) 1 (Am op s)))))
def HZ(ns:List Nd)(f:Int→Int→Bs→Bs)(r inner:Int)(c:Int)(s:Bs):Bs:=
 (fun s2=>if Al ns c=1∨Al ns c=2∨Al ns c=3 then s2 else Fe s.chunks.length s2)
   (if Al ns c=7 then CH (Dy s.rules.length (f c inner s)) r (f c inner s) else f c inner s)
def chL(ns:List Nd)(f:Int→Int→Bs→Bs)(r inner:Int)(t:List UInt8):List Int→Bool→Bs→Bs
 |[],_,s=>s
 |c::l,first,s=>chL ns f r inner t l false (HZ ns f r inner c (if first then s else AU r 1 true inner (Am (32::t) s)))
def Kz(ns:List Nd)(rd:Bool)(f:Int→Int→Bs→Bs)(x:Nd)(inner:Int)(s:Bs):Bs:=chL ns f (AM rd s) inner x.text x.kids true (Bd rd 2 1 s)
def pkT(i:Int):List UInt8:=if i=0 then [] else if i=1 then [63,32] else [58,32]
def Ia(ns:List Nd)(f:Int→Int→Bs→Bs)(r inner:Int)(c:Int)(s:Bs):Bs:=
 if Al ns c=8 then CH (Dy s.rules.length (f c inner s)) r (f c inner s) else f c inner s
def pkL(ns:List Nd)(f:Int→Int→Bs→Bs)(r inner:Int):List Int→Int→Bs→Bs
 |[],_,s=>s
 |c::l,i,s=>pkL ns f r inner l (i+1) (Ia ns f r inner c (if i=0 then s else Am (pkT i) (AU r 1 true inner s)))
def Mh(ns:List Nd)(rd:Bool)(f:Int→Int→Bs→Bs)(x:Nd)(inner:Int)(s:Bs):Bs:=pkL ns f (AM rd s) inner x.kids 0 (Bd rd 2 1 s)
def Dz(ns:List Nd):List Int→Bool→List UInt8
 |[],_=>[]
 |c::l,first=>(if first then [] else [44,32])++(Aa ns c).text++Dz ns l false
def CS(ns:List Nd)(x:Nd):List UInt8:=40::(Dz ns (x.kids.take (x.kids.length-1)) true++[41])
def bFn(ns:List Nd)(rd:Bool)(f:Int→Int→Bs→Bs)(x:Nd)(inner:Int)(s:Bs):Bs:=
 f (kd x (x.kids.length-1)) inner (AU (AM rd (Am (CS ns x++[32,61,62]) s)) 1 true inner (Bd rd 2 2 (Am (CS ns x++[32,61,62]) s)))
def caL(f:Int→Int→Bs→Bs)(r inner:Int):List Int→Bs→Bs
 |[],s=>s
 |c::l,s=>caL f r inner l (f c inner (Am [46,46] (AU r 1 false inner s)))
def b1E(rd:Bool)(f:Int→Int→Bs→Bs)(x:Nd)(a:Int)(s:Bs):Bs:=caL f (AM rd s) (up4 a) (x.kids.drop 1) (f (kd x 0) a (Bd rd 2 1 s))
def bV1(ns:List Nd)(rd:Bool)(f:Int→Int→Bs→Bs)(x:Nd)(a:Int)(s:Bs):Bs:=
 if x.kind=1∨x.kind=2∨x.kind=3 then Am x.text s
 else if x.kind=11 then Am [41] (f (kd x 0) a (Am [40] s))
 else if x.kind=6 then Am (46::x.text) (f (kd x 0) a s)
 else if x.kind=4 then Eb rd f [91] x.kids [93] a s
 else if x.kind=5 then Eb rd f [40] (x.kids.drop 1) [41] a (f (kd x 0) a s)
 else if x.kind=7 then Kz ns rd f x (up4 a) s
 else if x.kind=8 then Mh ns rd f x (up4 a) s
 else if x.kind=9 then bFn ns rd f x (up4 a) s
 else b1E rd f x a s
def bV(ns:List Nd)(rd:Bool):Nat→Int→Int→Bs→Bs
 |0,_,_,s=>s
 |n+1,k,a,s=>bV1 ns rd (bV ns rd n) (Aa ns k) a s
def Gy(rd:Bool)(x:Nd)(s:Bs):Int:=if x.kind=7∨x.kind=8 then AM rd s else-1
def Ci(l:List Ch):Nat:=(l.map fun c=>c.text.length).sum
def tot(s:Bs):Nat:=Ci s.chunks+s.text.length
structure bLe (rd:Bool) (m:Nat) (s t:Bs):Prop where
 ru:s.rules.length≤t.rules.length
 ch:s.chunks.length≤t.chunks.length
 sp:s.spans.length≤t.spans.length
 ti:s.ties.length≤t.ties.length
 tt:tot t≤tot s+m
 fu:FM rd s=false→t.rules=s.rules
theorem Fs{rd:Bool}{s:Bs}:bLe rd 0 s s:=⟨Nat.le_refl _,Nat.le_refl _,Nat.le_refl _,Nat.le_refl _,by omega,fun _=>rfl⟩
theorem b1F{rd:Bool}{s t:Bs}(h:t.rules=s.rules):FM rd t=FM rd s:=by simp [FM,h]
theorem BP{rd:Bool}{m n:Nat}{s t u:Bs}(h:bLe rd m s t)(g:bLe rd n t u):bLe rd (m+n) s u:=
 ⟨by have:=h.ru;have:=g.ru;omega,by have:=h.ch;have:=g.ch;omega,by have:=h.sp;have:=g.sp;omega,by have:=h.ti;have:=g.ti;omega,by have:=h.tt;have:=g.tt;omega,
   fun hr=>by have h1:=h.fu hr;rw[g.fu (by rw[b1F h1];exact hr),h1]⟩
theorem Ct{rd:Bool}{m n:Nat}{s t:Bs}(h:bLe rd m s t)(hm:m≤n):bLe rd n s t:=⟨h.ru,h.ch,h.sp,h.ti,by have:=h.tt;omega,h.fu⟩
theorem a0V{l m:List Ch}:Ci (l++m)=Ci l+Ci m:=by simp [Ci]
theorem Ec{rd:Bool}{t:List UInt8}{s:Bs}:bLe rd t.length s (Am t s):=
 ⟨Nat.le_refl _,Nat.le_refl _,Nat.le_refl _,Nat.le_refl _,by simp [tot,Am];omega,fun _=>rfl⟩
theorem Mi{rd:Bool}{v c:Int}{s:Bs}:bLe rd 0 s (Bd rd v c s):=by
 unfold Bd
 split
 ·rename_i h
  exact⟨by simp,Nat.le_refl _,Nat.le_refl _,Nat.le_refl _,by simp [tot],fun hf=>by rw[h] at hf;cases hf⟩
 ·exact Fs
theorem Gz{rd:Bool}{r fr nest:Int}{sp:Bool}{s:Bs}:bLe rd 1 s (AU r fr sp nest s):=by
 unfold AU
 split
 ·exact⟨Nat.le_refl _,by simp,Nat.le_refl _,Nat.le_refl _,by simp [tot,a0V,Ci],fun _=>rfl⟩
 ·split
  ·exact Ec (t:=[32])
  ·exact Ct Fs (by omega)
theorem Vs{rd:Bool}{k u:Int}{s:Bs}:bLe rd 0 s (CH k u s):=by
 unfold CH
 split
 ·exact⟨Nat.le_refl _,Nat.le_refl _,Nat.le_refl _,by simp,by simp [tot],fun _=>rfl⟩
 ·exact Fs
theorem b1G{rd:Bool}{f:Int}{s:Bs}:bLe rd 0 s (Fe f s):=by
 unfold Fe
 split
 ·exact⟨Nat.le_refl _,Nat.le_refl _,by simp,Nat.le_refl _,by simp [tot],fun _=>rfl⟩
 ·exact Fs
structure bOk (s:Bs):Prop where
 ru:s.rules.length≤8
 ch:s.chunks.length≤79
 sp:s.spans.length≤40
 ti:s.ties.length≤20
theorem Ed{t:List UInt8}{s:Bs}(h:bOk s):bOk (Am t s):=⟨h.ru,h.ch,h.sp,h.ti⟩
theorem Mj{rd:Bool}{v c:Int}{s:Bs}(h:bOk s):bOk (Bd rd v c s):=by
 unfold Bd;split
 ·rename_i hr
  simp [FM] at hr
  exact⟨by simp;omega,h.ch,h.sp,h.ti⟩
 ·exact h
theorem GA{r fr nest:Int}{sp:Bool}{s:Bs}(h:bOk s):bOk (AU r fr sp nest s):=by
 unfold AU;split
 ·exact⟨h.ru,by simp;omega,h.sp,h.ti⟩
 ·split
  ·exact Ed h
  ·exact h
theorem Vt{k u:Int}{s:Bs}(h:bOk s):bOk (CH k u s):=by
 unfold CH;split
 ·exact⟨h.ru,h.ch,h.sp,by simp;omega⟩
 ·exact h
theorem b1H{f:Int}{s:Bs}(h:bOk s):bOk (Fe f s):=by
 unfold Fe;split
 ·exact⟨h.ru,h.ch,by simp;omega,h.ti⟩
 ·exact h
def stp(rd:Bool)(w:Int→Nat)(f:Int→Int→Bs→Bs)(l:List Int):Prop:=∀c∈l,∀a s,bLe rd (w c) s (f c a s)∧(bOk s→bOk (f c a s))
def wL(w:Int→Nat)(l:List Int):Nat:=(l.map w).sum
theorem Db{w:Int→Nat}{c:Int}{l:List Int}:wL w (c::l)=w c+wL w l:=by simp [wL]
theorem b1I{w:Int→Nat}{l m:List Int}:wL w (l++m)=wL w l+wL w m:=by simp [wL]
theorem Qw{rd:Bool}{w:Int→Nat}{f:Int→Int→Bs→Bs}{c:Int}{l:List Int}(h:stp rd w f (c::l)):stp rd w f l:=fun d hd=>h d (by simp [hd])
theorem a0W{rd:Bool}{w:Int→Nat}{f:Int→Int→Bs→Bs}{r g inner:Int}:∀ {l:List Int} {first:Bool} {s:Bs},stp rd w f l→
 bLe rd (2*l.length+wL w l) s (itL f r g inner l first s)∧(bOk s→bOk (itL f r g inner l first s))
 |[],first,s,h=>⟨Ct Fs (by simp),id⟩
 |c::l,first,s,h=>by
  have h1:bLe rd 2 s (if first then s else AU r g true inner (Am [44] s))∧(bOk s→bOk (if first then s else AU r g true inner (Am [44] s))):=by
   split
   ·exact⟨Ct Fs (by omega),id⟩
   ·exact⟨BP (m:=1) (n:=1) (Ec (t:=[44])) Gz,fun ho=>GA (Ed ho)⟩
  have h2:=h c (by simp) inner (if first then s else AU r g true inner (Am [44] s))
  have h3:=a0W (r:=r) (g:=g) (inner:=inner) (first:=false) (s:=f c inner (if first then s else AU r g true inner (Am [44] s))) (Qw h)
  rw[itL]
  exact⟨Ct (BP (BP h1.1 h2.1) h3.1) (by rw[Db,List.length_cons];omega),fun ho=>h3.2 (h2.2 (h1.2 ho))⟩
theorem a0X{rd:Bool}{w:Int→Nat}{f:Int→Int→Bs→Bs}{op en:List UInt8}{ks:List Int}{a:Int}{s:Bs}(h:stp rd w f ks)(ho:op.length≤1)(he:en.length≤1)(hk:ks.length≤12):
 bLe rd (28+wL w ks) s (Eb rd f op ks en a s)∧(bOk s→bOk (Eb rd f op ks en a s)):=by
 unfold Eb
 split
 ·exact⟨Ct (BP Ec Ec) (by omega),fun h=>Ed (Ed h)⟩
 ·have h3:=a0W (r:=AM rd (Am op s)) (g:=min ks.length 2) (inner:=up4 a) (first:=true) (s:=AU (AM rd (Am op s)) 1 false (up4 a) (Bd rd (min ks.length 2+1) 1 (Am op s))) h
  refine⟨Ct (BP (BP (BP (BP (BP Ec Mi) Gz) h3.1) Gz) Ec) (by omega),fun hh=>Ed (GA (h3.2 (GA (Mj (Ed hh)))))⟩
theorem a0Y{rd:Bool}{w:Int→Nat}{ns:List Nd}{f:Int→Int→Bs→Bs}{r inner c:Int}{s:Bs}(h:∀a s,bLe rd (w c) s (f c a s)∧(bOk s→bOk (f c a s))):
 bLe rd (w c) s (HZ ns f r inner c s)∧(bOk s→bOk (HZ ns f r inner c s)):=by
 have h1:=h inner s
 have h2:bLe rd (w c) s (if Al ns c=7 then CH (Dy s.rules.length (f c inner s)) r (f c inner s) else f c inner s)∧(bOk s→bOk (if Al ns c=7 then CH (Dy s.rules.length (f c inner s)) r (f c inner s) else f c inner s)):=by
  split
  ·exact⟨BP (n:=0) h1.1 Vs,fun ho=>Vt (h1.2 ho)⟩
  ·exact h1
 unfold HZ
 simp only
 split
 ·exact h2
 ·exact⟨BP (n:=0) h2.1 b1G,fun ho=>b1H (h2.2 ho)⟩
theorem Vu{rd:Bool}{w:Int→Nat}{ns:List Nd}{f:Int→Int→Bs→Bs}{r inner:Int}{t:List UInt8}(ht:t.length≤2):∀ {l:List Int} {first:Bool} {s:Bs},stp rd w f l→
 bLe rd (4*l.length+wL w l) s (chL ns f r inner t l first s)∧(bOk s→bOk (chL ns f r inner t l first s))
 |[],first,s,h=>⟨Ct Fs (by simp),id⟩
 |c::l,first,s,h=>by
  have h1:bLe rd 4 s (if first then s else AU r 1 true inner (Am (32::t) s))∧(bOk s→bOk (if first then s else AU r 1 true inner (Am (32::t) s))):=by
   split
   ·exact⟨Ct Fs (by omega),id⟩
   ·exact⟨Ct (BP (n:=1) Ec Gz) (by simp;omega),fun ho=>GA (Ed ho)⟩
  have h2:=a0Y (ns:=ns) (r:=r) (inner:=inner) (s:=if first then s else AU r 1 true inner (Am (32::t) s)) (h c (by simp))
  have h3:=Vu (ns:=ns) (r:=r) (inner:=inner) ht (first:=false) (s:=HZ ns f r inner c (if first then s else AU r 1 true inner (Am (32::t) s))) (Qw h)
  rw[chL]
  exact⟨Ct (BP (BP h1.1 h2.1) h3.1) (by rw[Db,List.length_cons];omega),fun ho=>h3.2 (h2.2 (h1.2 ho))⟩
theorem a0Z{rd:Bool}{w:Int→Nat}{ns:List Nd}{f:Int→Int→Bs→Bs}{r inner c:Int}{s:Bs}(h:∀a s,bLe rd (w c) s (f c a s)∧(bOk s→bOk (f c a s))):
 bLe rd (w c) s (Ia ns f r inner c s)∧(bOk s→bOk (Ia ns f r inner c s)):=by
 have h1:=h inner s
 unfold Ia
 split
 ·exact⟨BP (n:=0) h1.1 Vs,fun ho=>Vt (h1.2 ho)⟩
 ·exact h1
theorem Vv{i:Int}:(pkT i).length≤2:=by
 unfold pkT;split
 ·simp
 ·split<;>simp
theorem Vw{rd:Bool}{w:Int→Nat}{ns:List Nd}{f:Int→Int→Bs→Bs}{r inner:Int}:∀ {l:List Int} {i:Int} {s:Bs},stp rd w f l→
 bLe rd (3*l.length+wL w l) s (pkL ns f r inner l i s)∧(bOk s→bOk (pkL ns f r inner l i s))
 |[],i,s,h=>⟨Ct Fs (by simp),id⟩
 |c::l,i,s,h=>by
  have h1:bLe rd 3 s (if i=0 then s else Am (pkT i) (AU r 1 true inner s))∧(bOk s→bOk (if i=0 then s else Am (pkT i) (AU r 1 true inner s))):=by
   split
   ·exact⟨Ct Fs (by omega),id⟩
   ·exact⟨Ct (BP (m:=1) Gz Ec) (by have:= @Vv i;omega),fun ho=>Ed (GA ho)⟩
  have h2:=a0Z (ns:=ns) (r:=r) (inner:=inner) (s:=if i=0 then s else Am (pkT i) (AU r 1 true inner s)) (h c (by simp))
  have h3:=Vw (ns:=ns) (r:=r) (inner:=inner) (i:=i+1) (s:=Ia ns f r inner c (if i=0 then s else Am (pkT i) (AU r 1 true inner s))) (Qw h)
  rw[pkL]
  exact⟨Ct (BP (BP h1.1 h2.1) h3.1) (by rw[Db,List.length_cons];omega),fun ho=>h3.2 (h2.2 (h1.2 ho))⟩
theorem a1a{rd:Bool}{w:Int→Nat}{f:Int→Int→Bs→Bs}{r inner:Int}:∀ {l:List Int} {s:Bs},stp rd w f l→
 bLe rd (3*l.length+wL w l) s (caL f r inner l s)∧(bOk s→bOk (caL f r inner l s))
 |[],s,h=>⟨Ct Fs (by simp),id⟩
 |c::l,s,h=>by
  have h1:bLe rd 3 s (Am [46,46] (AU r 1 false inner s))∧(bOk s→bOk (Am [46,46] (AU r 1 false inner s))):=
   ⟨Ct (BP (m:=1) Gz Ec) (by simp),fun ho=>Ed (GA ho)⟩
  have h2:=h c (by simp) inner (Am [46,46] (AU r 1 false inner s))
  have h3:=a1a (r:=r) (inner:=inner) (s:=f c inner (Am [46,46] (AU r 1 false inner s))) (Qw h)
  rw[caL]
  exact⟨Ct (BP (BP h1.1 h2.1) h3.1) (by rw[Db,List.length_cons];omega),fun ho=>h3.2 (h2.2 (h1.2 ho))⟩
def tW(ns:List Nd):Nat→Int→Nat
 |0,_=>0
 |n+1,k=>(Aa ns k).text.length+80+wL (tW ns n) (Aa ns k).kids
theorem a1b{ns:List Nd}{n:Nat}{k:Int}:(Aa ns k).text.length≤tW ns (n+1) k:=by rw[tW];omega
theorem KA{ns:List Nd}{w:Int→Nat}:∀ {l:List Int} {first:Bool},(∀c∈l,(Aa ns c).text.length≤w c)→(Dz ns l first).length≤2*l.length+wL w l
 |[],_,_=>by simp [Dz]
 |c::l,first,h=>by
  have h1:=KA (l:=l) (first:=false) fun d hd=>h d (by simp [hd])
  have h2:=h c (by simp)
  rw[Dz,Db,List.length_cons,List.length_append,List.length_append]
  split<;>simp<;>omega
theorem DR{x:Nd}{i:Nat}(h:i<x.kids.length):kd x i∈x.kids:=by
 have e:x.kids[i]? =some x.kids[i]:=List.getElem?_eq_getElem h
 rw[Cr e];exact List.getElem_mem h
theorem NY{w:Int→Nat}{c:Int}:∀ {l:List Int},c∈l→w c≤wL w l
 |[],h=>by cases h
 |d::l,h=>by
  rw[Db]
  rcases List.mem_cons.1 h with rfl|h
  ·omega
  ·have:=NY (w:=w) h;omega
theorem Vx{w:Int→Nat}{x:Nd}(h:0<x.kids.length):w (kd x 0)+wL w (x.kids.drop 1)=wL w x.kids:=by
 obtain⟨k,t,ks,b⟩:=x
 match ks,h with
 |c::l,_=>simp [kd,wL]
theorem Qx{w:Int→Nat}{x:Nd}(h:0<x.kids.length):wL w (x.kids.take (x.kids.length-1))+w (kd x (x.kids.length-1))=wL w x.kids:=by
 have e:x.kids.drop (x.kids.length-1)=[kd x (x.kids.length-1)]:=by
  have hi:x.kids.length-1<x.kids.length:=by omega
  rw[List.drop_eq_getElem_cons hi,List.drop_of_length_le (by omega),Cr (List.getElem?_eq_getElem hi)]
 have:=b1I (w:=w) (l:=x.kids.take (x.kids.length-1)) (m:=x.kids.drop (x.kids.length-1))
 rw[List.take_append_drop,e] at this
 rw[this];simp [wL]
theorem b1J{rd:Bool}{w:Int→Nat}{ns:List Nd}{f:Int→Int→Bs→Bs}{x:Nd}{a:Int}{s:Bs}(h:stp rd w f x.kids)(hk:x.kids.length≤12)(hlo:(CN x.kind).1≤x.kids.length)(hv:AX x.kind=true)
 (hn:∀c∈x.kids,(Aa ns c).text.length≤w c) (h7:x.kind=7→x.text.length≤2):
 bLe rd (x.text.length+80+wL w x.kids) s (bV1 ns rd f x a s)∧(bOk s→bOk (bV1 ns rd f x a s)):=by
 have hv:=BA.1 hv
 have hpos:x.kind≠1→x.kind≠2→x.kind≠3→x.kind≠4→0<x.kids.length:=by
  intro h1 h2 h3 h4
  unfold CN at hlo
  split at hlo
  ·omega
  ·split at hlo
   ·simp only at hlo;omega
   ·split at hlo
    ·simp only at hlo;omega
    ·split at hlo
     ·simp only at hlo;omega
     ·split at hlo
      ·simp only at hlo;omega
      ·omega
 unfold bV1
 split
 ·exact⟨Ct Ec (by omega),Ed⟩
 rename_i n1
 split
 ·rename_i hk
  have hm:=DR (hpos (by omega) (by omega) (by omega) (by omega))
  have h1:=h _ hm a (Am [40] s)
  have:=NY (w:=w) hm
  exact⟨Ct (BP (BP Ec h1.1) Ec) (by simp;omega),fun ho=>Ed (h1.2 (Ed ho))⟩
 split
 ·have hm:=DR (hpos (by omega) (by omega) (by omega) (by omega))
  have h1:=h _ hm a s
  have:=NY (w:=w) hm
  exact⟨Ct (BP h1.1 Ec) (by simp;omega),fun ho=>Ed (h1.2 ho)⟩
 split
 ·have h1:=a0X (op:=[91]) (en:=[93]) (a:=a) (s:=s) h (by simp) (by simp) hk
  exact⟨Ct h1.1 (by omega),h1.2⟩
 split
 ·have hp:=hpos (by omega) (by omega) (by omega) (by omega)
  have h1:=h _ (DR hp) a s
  have h2:=a0X (rd:=rd) (w:=w) (f:=f) (ks:=x.kids.drop 1) (op:=[40]) (en:=[41]) (a:=a) (s:=f (kd x 0) a s) (fun c hc=>h c (List.mem_of_mem_drop hc)) (by simp) (by simp) (by rw[List.length_drop];omega)
  have:=Vx (w:=w) hp
  exact⟨Ct (BP h1.1 h2.1) (by omega),fun ho=>h2.2 (h1.2 ho)⟩
 split
 ·have h1:=Vu (ns:=ns) (r:=AM rd s) (inner:=up4 a) (t:=x.text) (h7 ‹_›) (first:=true) (s:=Bd rd 2 1 s) h
  exact⟨Ct (BP (m:=0) Mi h1.1) (by omega),fun ho=>h1.2 (Mj ho)⟩
 split
 ·have h1:=Vw (ns:=ns) (r:=AM rd s) (inner:=up4 a) (i:=0) (s:=Bd rd 2 1 s) h
  exact⟨Ct (BP (m:=0) Mi h1.1) (by omega),fun ho=>h1.2 (Mj ho)⟩
 split
 ·have hp:=hpos (by omega) (by omega) (by omega) (by omega)
  have h1:=h _ (DR (x:=x) (i:=x.kids.length-1) (by omega)) (up4 a) (AU (AM rd (Am (CS ns x++[32,61,62]) s)) 1 true (up4 a) (Bd rd 2 2 (Am (CS ns x++[32,61,62]) s)))
  have h2:=KA (ns:=ns) (w:=w) (l:=x.kids.take (x.kids.length-1)) (first:=true) fun c hc=>hn c (List.mem_of_mem_take hc)
  have h3:=Qx (w:=w) hp
  have h4:(x.kids.take (x.kids.length-1)).length≤12:=by rw[List.length_take];omega
  refine⟨Ct (BP (BP (BP (n:=0) Ec Mi) Gz) h1.1) ?_,fun ho=>h1.2 (GA (Mj (Ed ho)))⟩
  simp only[CS,List.length_append,List.length_cons,List.length_nil];omega
 ·have hp:=hpos (by omega) (by omega) (by omega) (by omega)
  have h1:=h _ (DR hp) a (Bd rd 2 1 s)
  have h2:=a1a (rd:=rd) (w:=w) (f:=f) (r:=AM rd s) (inner:=up4 a) (l:=x.kids.drop 1) (s:=f (kd x 0) a (Bd rd 2 1 s)) fun c hc=>h c (List.mem_of_mem_drop hc)
  have:=Vx (w:=w) hp
  have h4:(x.kids.drop 1).length≤12:=by rw[List.length_drop];omega
  exact⟨Ct (BP (BP (m:=0) Mi h1.1) h2.1) (by omega),fun ho=>h2.2 (h1.2 (Mj ho))⟩
theorem Vy{ns:List Nd}{l:List Int}(h:(l.map (Al ns)).all AX=true):∀c∈l,AX (Al ns c)=true:=by
 intro c hc
 rw[List.all_eq_true] at h
 exact h _ (List.mem_map.2 ⟨c,hc,rfl⟩)
theorem b1K{k:Int}(h:Dw k=true):AX k=true:=by
 simp [Dw] at h;subst h;rfl
theorem b1L{k:Int}(h:Ez k=true):AX k=true:=by
 simp [Ez] at h;subst h;rfl
theorem b1M{ns:List Nd}{x:Nd}(h:CR x.kind (x.kids.map (Al ns))=true)(hv:AX x.kind=true):∀c∈x.kids,AX (Al ns c)=true:=by
 have hv:=BA.1 hv
 have hc:x.kind=1∨x.kind=2∨x.kind=3∨x.kind=4∨x.kind=5∨x.kind=6∨x.kind=7∨x.kind=8∨x.kind=9∨x.kind=10∨x.kind=11:=by omega
 have h0:∀l:List Int,l.length=0→∀c∈l,AX (Al ns c)=true:=fun l hl c hc=>by
  have:=List.eq_nil_of_length_eq_zero hl;subst this;cases hc
 have ha:∀(p:Bool),(p&&(x.kids.map (Al ns)).all AX)=true→∀c∈x.kids,AX (Al ns c)=true:=fun p hp=>by
  rw[Bool.and_eq_true] at hp;exact Vy hp.2
 have e1:∀k:Int,x.kind=k→CR k (x.kids.map (Al ns))=true:=fun k e=>by rw[←e];exact h
 rcases hc with e|e|e|e|e|e|e|e|e|e|e
 ·have h:=e1 _ e
  simp only[CR,true_or,or_true,if_true,decide_eq_true_eq,List.length_map] at h
  exact h0 _ h
 ·have h:=e1 _ e
  simp only[CR,true_or,or_true,if_true,decide_eq_true_eq,List.length_map] at h
  exact h0 _ h
 ·have h:=e1 _ e
  simp only[CR,true_or,or_true,if_true,decide_eq_true_eq,List.length_map] at h
  exact h0 _ h
 ·exact Vy (e1 _ e)
 ·exact ha _ (e1 _ e)
 ·exact ha _ (e1 _ e)
 ·exact ha _ (e1 _ e)
 ·exact ha _ (e1 _ e)
 ·have h:EA AX (x.kids.map (Al ns))=true:=e1 _ e
  unfold EA at h
  split at h
  ·rename_i k hk
   rw[Bool.and_eq_true,List.all_eq_true] at h
   intro c hc
   have hm:Al ns c∈x.kids.map (Al ns):=List.mem_map.2 ⟨c,hc,rfl⟩
   rw[a0o hk] at hm
   rcases List.mem_append.1 hm with hm|hm
   ·exact b1K (h.2 _ hm)
   ·simp at hm;rw[hm];exact h.1
  ·cases h
 ·have h:(decide (2≤(x.kids.map (Al ns)).length)&&(AX ((x.kids.map (Al ns)).headD 0)&&((x.kids.map (Al ns)).drop 1).all Ez))=true:=e1 _ e
  simp only[Bool.and_eq_true,List.all_eq_true] at h
  intro c hc
  match hx:x.kids with
  |[]=>rw[hx] at hc;cases hc
  |d::l=>
   rw[hx] at h hc
   simp only[List.map_cons,List.headD_cons,List.drop_succ_cons,List.drop_zero] at h
   rcases List.mem_cons.1 hc with rfl|hc
   ·exact h.2.1
   ·exact b1L (h.2.2 _ (List.mem_map.2 ⟨c,hc,rfl⟩))
 ·exact ha _ (e1 _ e)
theorem Mk{ns:List Nd}{k c:Int}(h:BB ns k)(hv:AX (Al ns k)=true)(hc:c∈(Aa ns k).kids):AX (Al ns c)=true:=
 b1M (Dj (Eo h)).2.2.2.2.2.1 hv c hc
theorem a1c{s:List UInt8}(h:HU s=true):s.length≤2:=by
 simp only[HU,Bool.or_eq_true,beq_iff_eq] at h
 rcases h with rfl|rfl|rfl|rfl|rfl|rfl|rfl<;>simp
theorem Vz{ns:List Nd}{k:Int}(h:BB ns k)(hk:(Aa ns k).kind=7):(Aa ns k).text.length≤2:=by
 have:=(Dj (Eo h)).2.2.1
 rw[hk] at this
 exact a1c (by simpa [Dv] using this)
theorem Ml{ns:List Nd}{rd:Bool}:∀ {n:Nat} {k a:Int} {s:Bs},BB ns k→k<n→AX (Al ns k)=true→bLe rd (tW ns n k) s (bV ns rd n k a s)∧(bOk s→bOk (bV ns rd n k a s))
 |0,k,a,s,h,hk,_=>by have:=Bc.1 h.1;omega
 |n+1,k,a,s,h,hk,hv=>by
  rw[bV,tW]
  refine b1J (fun c hc a s=> ?_) (Dj (Eo h)).2.1 (HY h).2.1 hv (fun c hc=> ?_) (Vz h)
  ·have hm:=CG h hc
   exact Ml hm.1 (by omega) (Mk h hv hc)
  ·have hm:=CG h hc
   have hr:=Bc.1 h.1
   have:n=(n-1)+1:=by omega
   rw[this];exact a1b
theorem b1N{ns:List Nd}{rd:Bool}{n:Nat}{k:Int}(h:BB ns k)(hk:k<(n+1:Nat))(hv:AX (Al ns k)=true){l:List Int}(hl:∀c∈l,c∈(Aa ns k).kids):stp rd (tW ns n) (bV ns rd n) l:=by
 intro c hc a s
 have hm:=CG h (hl c hc)
 exact Ml hm.1 (by omega) (Mk h hv (hl c hc))
theorem a1d{ds:List Int}:∀ {l:List Int} {d c:Int},c∈l→ds.getD c.toNat 0≤mx ds l d
 |[],_,_,h=>by cases h
 |e::l,d,c,h=>by
  rw[mx]
  rcases List.mem_cons.1 h with rfl|h
  ·have:=PW ds l (max d (ds.getD c.toNat 0));omega
  ·exact a1d h
theorem VA{l m:List Int}{i:Nat}(h:i<l.length):(l++m).getD i 0=l.getD i 0:=by
 simp [List.getD,List.getElem?_append_left h]
theorem Je{ns:List Nd}:∀ {n:Nat} {ds:List Int},BW ns n=some ds→∀i:Nat,i<n→(1≤ds.getD i 0∧ds.getD i 0≤14)∧∀c∈(Aa ns i).kids,ds.getD c.toNat 0+1≤ds.getD i 0
 |0,_,_,i,hi=>by omega
 |n+1,ds,h,i,hi=>by
  have hall:=LR h
  have hlen:=IX h
  have h0:1≤ds.getD i 0∧ds.getD i 0≤14:=by
   have:ds[i]? =some ds[i]:=by simp
   simp only[List.getD,this,Option.getD_some]
   exact hall _ (by simp)
  refine⟨h0,?_⟩
  unfold BW at h
  split at h
  ·cases h
  ·rename_i ds' hd
   have hl:=IX hd
   split at h
   ·rename_i hok
    split at h
    ·cases h
    ·simp at h
     have hp:=(Dj hok).2.2.2.1
     by_cases e:i=n
     ·subst e
      intro c hc
      have hcr:=hp c hc
      rw[←h,VA (by omega)]
      have:(ds'++[mx ds' (Aa ns i).kids 0+1]).getD i 0=mx ds' (Aa ns i).kids 0+1:=by
       simp [List.getD,List.getElem?_append_right,hl]
      rw[this]
      have:= @a1d ds' (Aa ns i).kids 0 c hc
      omega
     ·intro c hc
      have hi2:i<n:=by omega
      have hcr:=(Dj (UR hd i hi2)).2.2.2.1 c hc
      rw[←h,VA (by omega),VA (by omega)]
      exact(Je hd i hi2).2 c hc
   ·cases h
def txS(ns:List Nd):Nat:=((List.range ns.length).map fun i:Nat=>(Aa ns i).text.length).sum
theorem a1e{ns:List Nd}{V:List Int}(hn:V.Nodup)(h:∀p∈V,0≤p∧p<ns.length):(V.map fun c=>(Aa ns c).text.length).sum≤txS ns:=Vr _ _ V hn h
theorem a1f{ns:List Nd}{k:Int}(h:0≤k∧k<ns.length):(Aa ns k).text.length≤txS ns:=by
 have:=a1e (ns:=ns) (V:=[k]) (by simp) (by simpa using h)
 simpa using this
theorem Qy{s:List UInt8}(h:CX s=true):s.length≤30:=by
 simp only[CX,Bool.and_eq_true] at h
 have:=h.1
 rw[UY] at this
 cases s with
 |nil=>simp
 |cons c t=>
  simp only[Bool.and_eq_true,decide_eq_true_eq] at this
  omega
theorem b1O{ns:List Nd}{k:Int}(h:BB ns k)(hv:AX (Al ns k)=true)(h4:4≤Al ns k):(Aa ns k).text.length≤30:=by
 have ht:=(Dj (Eo h)).2.2.1
 have hv:=BA.1 hv
 unfold Al at hv h4
 unfold Dv at ht
 split at ht
 ·exact Qy ht
 split at ht
 ·omega
 split at ht
 ·omega
 split at ht
 ·omega
 split at ht
 ·have:=a1c ht;omega
 ·simp at ht;simp [ht]
theorem b1P{ns:List Nd}{k:Int}(h:BB ns k)(hv:AX (Al ns k)=true)(h4:¬4≤Al ns k):(Aa ns k).kids=[]:=by
 have hs:=(HY h).2.2
 have hv:=BA.1 hv
 unfold Al at hv h4
 have:(CN (Aa ns k).kind).2=0:=by
  have:(Aa ns k).kind=1∨(Aa ns k).kind=2∨(Aa ns k).kind=3:=by omega
  rcases this with e|e|e<;>rw[e]<;>rfl
 rw[this] at hs
 exact List.eq_nil_of_length_eq_zero (by omega)
theorem Jf{w:Int→Nat}{b:Nat}:∀ {l:List Int},(∀c∈l,w c≤b)→wL w l≤l.length*b
 |[],_=>by simp [wL]
 |c::l,h=>by
  have h1:=h c (by simp)
  have h2:=Jf (w:=w) (l:=l) fun d hd=>h d (by simp [hd])
  rw[Db,List.length_cons,Nat.succ_mul];omega
theorem VB{ns:List Nd}{K:Nat}{ds:List Int}(hd:BW ns K=some ds):∀ {n:Nat} {k:Int} (d:Nat),BB ns k→k<n→k<K→AX (Al ns k)=true→ds.getD k.toNat 0≤d→
 (d≤1→tW ns n k≤(Aa ns k).text.length+80)∧(2≤d→tW ns n k+10≤12^(d-2)*(txS ns+1200))
 |0,k,d,h,hk,_,_,_=>by have:=Bc.1 h.1;omega
 |n+1,k,d,h,hk,hK,hv,hle=>by
  have hr:=Bc.1 h.1
  have hat:=Je hd k.toNat (by omega)
  rw[show((k.toNat:Nat):Int)=k by omega] at hat
  have hkid:∀c∈(Aa ns k).kids,BB ns c∧(0≤c∧c<k)∧AX (Al ns c)=true∧ds.getD c.toNat 0≤(d-1:Nat)∧1≤ds.getD c.toNat 0:=by
   intro c hc
   have hm:=CG h hc
   have h1:=hat.2 c hc
   have h2:=(Je hd c.toNat (by omega)).1
   exact⟨hm.1,hm.2,Mk h hv hc,by omega,by omega⟩
  have hlen:=(Dj (Eo h)).2.1
  have hT:=a1f hr
  refine⟨fun h1=> ?_,fun h2=> ?_⟩
  ·have:(Aa ns k).kids=[]:=by
    match hx:(Aa ns k).kids with
    |[]=>rfl
    |c::l=>
     have:=hkid c (by rw[hx];simp)
     omega
   rw[tW,this];simp [wL]
  ·by_cases h4:4≤Al ns k
   ·have ht:=b1O h hv h4
    by_cases e:d=2
    ·subst e
     have h3:∀l:List Int,(∀c∈l,c∈(Aa ns k).kids)→wL (tW ns n) l≤(l.map fun c=>(Aa ns c).text.length).sum+l.length*80:=by
      intro l
      induction l with
      |nil=>intro _;simp [wL]
      |cons c l ih=>
       intro hl
       have hc:=hkid c (hl c (by simp))
       have h5:=(VB hd (n:=n) (k:=c) 1 hc.1 (by omega) (by omega) hc.2.2.1 (by omega)).1 (by omega)
       have h6:=ih fun e he=>hl e (by simp [he])
       rw[Db,List.map_cons,List.sum_cons,List.length_cons];omega
     have h7:=h3 _ (fun c hc=>hc)
     have h8:=a1e (ns:=ns) (Dj (Eo h)).2.2.2.2.1 (fun c hc=>by have:=(hkid c hc).2.1;omega)
     rw[tW]
     have:12^(2-2)=1:=rfl
     rw[this];omega
    ·have h3:∀c∈(Aa ns k).kids,tW ns n c≤12^(d-1-2)*(txS ns+1200)-10:=by
      intro c hc
      have hc':=hkid c hc
      have h5:=(VB hd (n:=n) (k:=c) (d-1) hc'.1 (by omega) (by omega) hc'.2.2.1 (by omega)).2 (by omega)
      omega
     have h5:=Jf h3
     have h6:(Aa ns k).kids.length*(12^(d-1-2)*(txS ns+1200)-10)≤12*(12^(d-1-2)*(txS ns+1200)-10):=Nat.mul_le_mul_right _ hlen
     have h7:12^(d-2)*(txS ns+1200)=12*(12^(d-1-2)*(txS ns+1200)):=by
      rw[show d-2=(d-1-2)+1 by omega,Nat.pow_succ,Nat.mul_comm (12^(d-1-2)) 12,Nat.mul_assoc]
     have h8:1200≤12^(d-1-2)*(txS ns+1200):=by
      have:1≤12^(d-1-2):=Nat.one_le_pow _ _ (by omega)
      calc 1200≤1*(txS ns+1200):=by omega
       _≤_:=Nat.mul_le_mul_right _ this
     rw[tW,h7];omega
   ·rw[tW,b1P h hv h4]
    have:1≤12^(d-2):=Nat.one_le_pow _ _ (by omega)
    have h9:txS ns+1200≤12^(d-2)*(txS ns+1200):=by
     calc txS ns+1200=1*(txS ns+1200):=by omega
      _≤_:=Nat.mul_le_mul_right _ this
    simp [wL];omega
theorem b1Q{ns:List Nd}{K:Nat}{ds:List Int}(hd:BW ns K=some ds){n:Nat}{k:Int}(h:BB ns k)(hk:k<n)(hK:k<K)(hv:AX (Al ns k)=true)(hle:ds.getD k.toNat 0≤13)(hT:txS ns≤1048576):
 tW ns n k≤1000000000000000000:=by
 have h1:=(VB hd (n:=n) (k:=k) 13 h hk hK hv (by omega)).2 (by omega)
 have h2:12^(13-2)*(txS ns+1200)≤12^(13-2)*(1048576+1200):=Nat.mul_le_mul_left _ (by omega)
 have h3:12^(13-2)*(1048576+1200)≤1000000000000000000:=by decide
 omega
def ru0:Ru:=⟨0,0⟩
def ch0:Ch:=⟨[],0,0,false,0⟩
def CI(p:Pc)(i:Int):Ru:=p.rules.getD i.toNat ru0
def Ep(r:Ru):Bool:=inn r.vals 2 3&&inn r.cost 0 9
def Ee(p:Pc)(c:Ch):Bool:=inn c.rule 0 ((p.rules.length:Int)-1)&&(inn c.fr 1 ((CI p c.rule).vals-1)&&inn c.nest 0 40)
def Be(s:List UInt8):Bool:=s.all Bw
def Er(p:Pc):List Ch→Bool
 |[]=>true
 |[c]=>Be c.text
 |c::d::l=>Be c.text&&(Ee p c&&Er p (d::l))
def NZ(c:Ch):Bool:=decide (c.rule=0)&&(decide (c.fr=0)&&(c.space==false&&decide (c.nest=0)))
def DS(p:Pc)(s:Sn):Bool:=(decide (0≤s.fr)&&decide (s.fr≤s.tuu))&&(decide (s.tuu<(p.chunks.length:Int)-1)&&inn s.cost 0 9)
def FO(p:Pc)(t:Ti):Bool:=inn t.kid 0 ((p.rules.length:Int)-1)&&(inn t.up 0 ((p.rules.length:Int)-1)&& !decide (t.kid=t.up))
def Ft(p:Pc):Bool:=decide (p.rules.length≤8)&&p.rules.all Ep
def EF(p:Pc):Bool:=inn p.chunks.length 1 80&&(Er p p.chunks&&NZ (p.chunks.getLast?.getD ch0))
def Bo(p:Pc):Bool:=
 inn p.ind 0 60&&(Ft p&&(EF p&&((decide (p.spans.length≤40)&&decide (p.ties.length≤20))&&(p.spans.all (DS p)&&p.ties.all (FO p)))))
theorem b1R{p:Pc}{c:Ch}{l:List Ch}:Er p (c::l)=(Be c.text&&((l.isEmpty||Ee p c)&&Er p l)):=by
 cases l<;>simp [Er]
structure pcOk (p:Pc):Prop where
 ind:0≤p.ind∧p.ind≤60
 rl:p.rules.length≤8
 ru:∀r∈p.rules,(2≤r.vals∧r.vals≤3)∧0≤r.cost∧r.cost≤9
 cl:1≤p.chunks.length∧p.chunks.length≤80
 sp:∀(i:Nat) c,p.chunks[i]? =some c→i+1<p.chunks.length→(0≤c.rule∧c.rule<p.rules.length)∧(1≤c.fr∧c.fr<(CI p c.rule).vals)∧0≤c.nest∧c.nest≤40
 snl:p.spans.length≤40
 til:p.ties.length≤20
 sn:∀s∈p.spans,(0≤s.fr∧s.fr≤s.tuu∧s.tuu<(p.chunks.length:Int)-1)∧0≤s.cost∧s.cost≤9
 ti:∀t∈p.ties,(0≤t.kid∧t.kid<p.rules.length)∧0≤t.up∧t.up<p.rules.length
theorem Qz{p:Pc}:∀ {l:List Ch},Er p l=true→∀(i:Nat) c,l[i]? =some c→Be c.text=true∧(i+1<l.length→Ee p c=true)
 |[],_,i,c,hi=>by simp at hi
 |[d],h,i,c,hi=>by
  match i,hi with
  |0,hi=>simp at hi;subst hi;exact⟨h,fun hl=>by simp at hl⟩
 |d::e::l,h,0,c,hi=>by
  simp only[Er,Bool.and_eq_true] at h
  simp at hi;subst hi;exact⟨h.1,fun _=>h.2.1⟩
 |d::e::l,h,i+1,c,hi=>by
  simp only[Er,Bool.and_eq_true] at h
  have:=Qz h.2.2 i c (by simpa using hi)
  exact⟨this.1,fun hl=>this.2 (by simpa using hl)⟩
theorem a1g{p:Pc}:∀ {l:List Ch},Er p l=true↔∀(i:Nat) c,l[i]? =some c→Be c.text=true∧(i+1<l.length→Ee p c=true)
 |[]=>by simp [Er]
 |[d]=>by
  refine⟨Qz,fun h=>(h 0 d rfl).1⟩
 |d::e::l=>by
  refine⟨Qz,fun h=> ?_⟩
  simp only[Er,Bool.and_eq_true]
  have h0:=h 0 d rfl
  refine⟨h0.1,h0.2 (by simp),a1g.2 fun i c hi=> ?_⟩
  have:=h (i+1) c (by simpa using hi)
  exact⟨this.1,fun hl=>this.2 (by simpa using hl)⟩
theorem EQ{p:Pc}(h:Bo p=true):pcOk p:=by
 simp only[Bo,Ft,EF,Bool.and_eq_true,decide_eq_true_eq,List.all_eq_true] at h
 obtain⟨h1,⟨h2,h3⟩,⟨h4,h5,h6⟩,⟨h7,h8⟩,h9,h10⟩:=h
 have h4:=BA.1 h4
 refine⟨BA.1 h1,h2,fun r hr=> ?_,by omega,fun i c hi hl=> ?_,h7,h8,fun s hs=> ?_,fun t ht=> ?_⟩
 ·have:=h3 r hr
  simp only[Ep,Bool.and_eq_true] at this
  exact⟨BA.1 this.1,BA.1 this.2⟩
 ·have:=(Qz h5 i c hi).2 hl
  simp only[Ee,Bool.and_eq_true] at this
  have a:=BA.1 this.1;have b:=BA.1 this.2.1;have c:=BA.1 this.2.2
  exact⟨by omega,by omega,c⟩
 ·have:=h9 s hs
  simp only[DS,Bool.and_eq_true,decide_eq_true_eq] at this
  exact⟨⟨this.1.1,this.1.2,this.2.1⟩,BA.1 this.2.2⟩
 ·have:=h10 t ht
  simp only[FO,Bool.and_eq_true] at this
  have a:=BA.1 this.1;have b:=BA.1 this.2.1
  exact⟨by omega,by omega⟩
def vAt(v:List Int)(i:Int):Int:=v.getD i.toNat 0
def vOk(p:Pc)(v:List Int):Prop:=v.length≤p.rules.length∧∀(i:Nat) n,v[i]? =some n→0≤n∧n<(CI p i).vals
def Ce(v:List Int)(c:Ch):Bool:=decide (c.fr≤vAt v c.rule)
def blk(n:Int):List UInt8:=List.replicate n.toNat 32
def rnL(ind:Int)(v:List Int):List Ch→List UInt8→List (List UInt8)
 |[],s=>[s]
 |[c],s=>[s++c.text]
 |c::d::l,s=>if Ce v c then(s++c.text)::rnL ind v (d::l) (blk (ind+c.nest)) else rnL ind v (d::l) (s++c.text++(if c.space then [32] else []))
def BF(p:Pc)(v:List Int):List (List UInt8):=rnL p.ind v p.chunks (blk p.ind)
def ovL(w:Int)(l:List (List UInt8)):Int:=(l.map fun s=>max ((s.length:Int)-w) 0).sum
def wdF(w:Int):Int:=max 0 (min w 100000)
def Fu(p:Pc)(v:List Int)(c:Ch):Bool:=decide (c.rule<v.length)&&Ce v c
def snS(p:Pc)(v:List Int)(s:Sn):Bool:=((p.chunks.take (s.tuu+1).toNat).drop s.fr.toNat).any (Fu p v)
def ruS(p:Pc)(v:List Int):Int:=(v.zipIdx.map fun q=>q.1*(CI p q.2).cost).sum
def Cj(p:Pc)(v:List Int):Int:=ruS p v+(p.spans.map fun s=>if snS p v s then s.cost else 0).sum
structure Co where
 over:Int
 sum:Int
def Bh(p:Pc)(v:List Int)(w:Int):Co:=⟨ovL (wdF w) (BF p v),Cj p v⟩
def GB(a b:Co):Bool:=decide (a.over<b.over)||(decide (a.over=b.over)&&decide (a.sum<b.sum))
def Cy:List Int→List Int→Int
 |[],[]=>0
 |[],_::_=> -1
 |_::_,[]=>1
 |a::l,b::m=>if a<b then-1 else if b<a then 1 else Cy l m
def Dc(p:Pc):List Int:=p.rules.map fun r=>r.vals-1
def Ff(v:List Int)(t:Ti):Bool:= !((inn t.kid 0 ((v.length:Int)-1)&&inn t.up 0 ((v.length:Int)-1))&&(decide (0<vAt v t.kid)&&decide (vAt v t.up=0)))
def KB(p:Pc)(v:List Int):Bool:=p.ties.all (Ff v)
def lnS(l:List (List UInt8)):Nat:=(l.map List.length).sum
theorem VC{ind:Int}{v:List Int}(h0:0≤ind∧ind≤60):∀ {l:List Ch} {s:List UInt8},(∀(i:Nat) c,l[i]? =some c→i+1<l.length→0≤c.nest∧c.nest≤40)→
 lnS (rnL ind v l s)≤s.length+Ci l+101*l.length∧(rnL ind v l s).length≤l.length+1
 |[],s,_=>by simp [rnL,lnS,Ci]
 |[c],s,_=>by simp [rnL,lnS,Ci]
 |c::d::l,s,h=>by
  have hn:=h 0 c rfl (by simp)
  have h':∀(i:Nat) e,(d::l)[i]? =some e→i+1<(d::l).length→0≤e.nest∧e.nest≤40:=fun i e hi hl=>h (i+1) e (by simpa using hi) (by simpa using hl)
  have hc:Ci (c::d::l)=c.text.length+Ci (d::l):=by simp [Ci]
  rw[rnL]
  split
  ·have h1:=VC (v:=v) h0 (s:=blk (ind+c.nest)) h'
   have hb:(blk (ind+c.nest)).length≤100:=by simp [blk];omega
   have e:lnS ((s++c.text)::rnL ind v (d::l) (blk (ind+c.nest)))=s.length+c.text.length+lnS (rnL ind v (d::l) (blk (ind+c.nest))):=by simp [lnS]
   rw[e,hc]
   simp only[List.length_cons] at*
   omega
  ·have h1:=VC (v:=v) h0 (s:=s++c.text++(if c.space then [32] else [])) h'
   have hb:(if c.space then [(32:UInt8)] else []).length≤1:=by split<;>simp
   rw[hc]
   simp only[List.length_cons,List.length_append] at*
   omega
theorem Oa{p:Pc}{v:List Int}(h:pcOk p):lnS (BF p v)≤Ci p.chunks+8200∧(BF p v).length≤81:=by
 have h1:=VC (v:=v) h.ind (l:=p.chunks) (s:=blk p.ind) fun i c hi hl=>(h.sp i c hi hl).2.2
 have h2:=h.cl
 have h3:(blk p.ind).length≤60:=by simp [blk];have:=h.ind;omega
 unfold BF
 omega
theorem b1S{l:List (List UInt8)}{s:List UInt8}(h:s∈l):s.length≤lnS l:=by
 induction l with
 |nil=>cases h
 |cons t l ih=>
  simp only[lnS,List.map_cons,List.sum_cons]
  rcases List.mem_cons.1 h with rfl|h
  ·omega
  ·have:=ih h;simp only[lnS] at this;omega
theorem VD{w:Int}(hw:0≤w):∀ {l:List (List UInt8)},0≤ovL w l∧ovL w l≤lnS l
 |[]=>by simp [ovL,lnS]
 |s::l=>by
  have:=VD hw (l:=l)
  simp only[ovL,lnS,List.map_cons,List.sum_cons] at this ⊢
  omega
theorem b1T{w:Int}{l m:List (List UInt8)}:ovL w (l++m)=ovL w l+ovL w m:=by simp [ovL]
theorem a1h{l m:List (List UInt8)}:lnS (l++m)=lnS l+lnS m:=by simp [lnS]
structure StW where
 vals:List Int
 sum:Int
def stA:StW→List AV:=fun s=>[Ad s.vals,.int .i64 s.sum]
theorem Ht(s:StW):stA s=[Ad s.vals,.int .i64 s.sum]:=rfl
def Bt(a b:StW):Bool:=decide (a.sum<b.sum)||(decide (a.sum=b.sum)&&decide (Cy a.vals b.vals<0))
def st0:StW:=⟨[],0⟩
def AN(l:List StW)(i:Int):StW:=l.getD i.toNat st0
theorem Ef{l:List StW}{i:Int}{x:StW}(h:l[i.toNat]? =some x):AN l i=x:=by simp [AN,List.getD,h]
theorem KC{l:List StW}{i:Int}(h0:0≤i)(h:i<l.length):l[i.toNat]? =some (AN l i):=by
 have:l[i.toNat]? =some l[i.toNat]:=List.getElem?_eq_getElem (by omega)
 rw[Ef this];exact this
def swp(l:List StW)(i j:Int):List StW:=(l.set i.toNat (AN l j)).set j.toNat (AN l i)
def abv(i:Int):Int:=(i+1).tdiv 2-1
def sUp:Nat→List StW→Int→List StW
 |0,l,_=>l
 |n+1,l,i=>if 0<i∧Bt (AN l i) (AN l (abv i))=true then sUp n (swp l i (abv i)) (abv i) else l
def DA(l:List StW)(x:StW):List StW:=sUp (l.length+1) (l++[x]) l.length
def dnK(l:List StW)(i:Int):Int:=if 2*i+1+1<l.length∧Bt (AN l (2*i+1+1)) (AN l (2*i+1))=true then 2*i+1+1 else 2*i+1
def sDn:Nat→List StW→Int→List StW
 |0,l,_=>l
 |n+1,l,i=>if 2*i+1<l.length∧Bt (AN l (dnK l i)) (AN l i)=true then sDn n (swp l i (dnK l i)) (dnK l i) else l
def Hv(l:List StW):List StW:=(l.set 0 (AN l ((l.length:Int)-1))).take (l.length-1)
def BI(l:List StW):List StW:=sDn l.length (Hv l) 0
def hS(f:StW→Nat)(l:List StW):Nat:=(l.map f).sum
theorem QA{f:StW→Nat}:∀ {l:List StW} {i:Nat} {y x:StW},l[i]? =some x→hS f (l.set i y)+f x=hS f l+f y
 |[],i,y,x,h=>by simp at h
 |a::l,0,y,x,h=>by simp at h;subst h;simp [hS];omega
 |a::l,i+1,y,x,h=>by
  have:=QA (f:=f) (l:=l) (i:=i) (y:=y) (x:=x) (by simpa using h)
  simp only[hS,List.set_cons_succ,List.map_cons,List.sum_cons] at this ⊢;omega
theorem KD{l:List StW}{i j:Int}:(swp l i j).length=l.length:=by simp [swp]
theorem a1i{f:StW→Nat}{l:List StW}{i j:Int}(hi0:0≤i)(hi:i<l.length)(hj0:0≤j)(hj:j<l.length):hS f (swp l i j)=hS f l:=by
 have h1:=QA (f:=f) (y:=AN l j) (KC hi0 hi)
 have h2:(l.set i.toNat (AN l j))[j.toNat]? =some (AN l j):=by
  by_cases e:i.toNat=j.toNat
  ·rw[e,List.getElem?_set_self (by omega)]
  ·rw[List.getElem?_set_ne e];exact KC hj0 hj
 have h3:=QA (f:=f) (y:=AN l i) h2
 unfold swp;omega
theorem QB{l:List StW}{i j:Int}{x:StW}(hi0:0≤i)(hi:i<l.length)(hj0:0≤j)(hj:j<l.length)(h:x∈swp l i j):x∈l:=by
 unfold swp at h
 rcases List.mem_or_eq_of_mem_set h with h|rfl
 ·rcases List.mem_or_eq_of_mem_set h with h|rfl
  ·exact h
  ·exact AZ (KC hj0 hj)
 ·exact AZ (KC hi0 hi)
theorem QC{i:Int}(h:0<i):0≤abv i∧abv i<i:=by
 unfold abv
 rw[Int.tdiv_eq_ediv_of_nonneg (by omega)];omega
theorem Mm{l:List StW}{i:Int}(h0:0≤i)(h:2*i+1<l.length):i<dnK l i∧dnK l i<l.length:=by
 unfold dnK;split<;>omega
theorem a1j{f:StW→Nat}:∀ {n:Nat} {l:List StW} {i:Int},0≤i→i<l.length→hS f (sUp n l i)=hS f l∧(sUp n l i).length=l.length∧∀x∈sUp n l i,x∈l
 |0,l,i,_,_=>⟨rfl,rfl,fun _ h=>h⟩
 |n+1,l,i,h0,h1=>by
  rw[sUp]
  split
  ·rename_i h
   have ha:=QC h.1
   have h2:=a1j (f:=f) (n:=n) (l:=swp l i (abv i)) (i:=abv i) ha.1 (by rw[KD];omega)
   rw[KD,a1i h0 h1 ha.1 (by omega)] at h2
   exact⟨h2.1,h2.2.1,fun x hx=>QB h0 h1 ha.1 (by omega) (h2.2.2 x hx)⟩
  ·exact⟨rfl,rfl,fun _ h=>h⟩
theorem a1k{f:StW→Nat}:∀ {n:Nat} {l:List StW} {i:Int},0≤i→hS f (sDn n l i)=hS f l∧(sDn n l i).length=l.length∧∀x∈sDn n l i,x∈l
 |0,l,i,_=>⟨rfl,rfl,fun _ h=>h⟩
 |n+1,l,i,h0=>by
  rw[sDn]
  split
  ·rename_i h
   have ha:=Mm h0 h.1
   have h2:=a1k (f:=f) (n:=n) (l:=swp l i (dnK l i)) (i:=dnK l i) (by omega)
   rw[KD,a1i h0 (by omega) (by omega) (by omega)] at h2
   exact⟨h2.1,h2.2.1,fun x hx=>QB h0 (by omega) (by omega) (by omega) (h2.2.2 x hx)⟩
  ·exact⟨rfl,rfl,fun _ h=>h⟩
theorem VE{f:StW→Nat}{l:List StW}{x:StW}:hS f (DA l x)=hS f l+f x∧(DA l x).length=l.length+1∧∀y∈DA l x,y∈l∨y=x:=by
 have h:=a1j (f:=f) (n:=l.length+1) (l:=l++[x]) (i:=l.length) (by omega) (by simp;omega)
 refine⟨by rw[DA,h.1];simp [hS],by rw[DA,h.2.1];simp,fun y hy=> ?_⟩
 have:=h.2.2 y hy
 simpa using this
theorem a1l{f:StW→Nat}{l:List StW}(hl:0<l.length):hS f (Hv l)+f (AN l 0)=hS f l∧(Hv l).length=l.length-1∧∀y∈Hv l,y∈l:=by
 have hz:l[(0:Nat)]? =some (AN l 0):=by have:=KC (l:=l) (i:=0) (by omega) (by omega);simpa using this
 have hlast:=KC (l:=l) (i:=(l.length:Int)-1) (by omega) (by omega)
 have h1:=QA (f:=f) (y:=AN l ((l.length:Int)-1)) hz
 refine⟨?_,by rw[Hv,List.length_take,List.length_set];omega,fun y hy=> ?_⟩
 ·have h2:(l.set 0 (AN l ((l.length:Int)-1)))[l.length-1]? =some (AN l ((l.length:Int)-1)):=by
   by_cases e:0=l.length-1
   ·rw[←e,List.getElem?_set_self hl]
   ·rw[List.getElem?_set_ne e]
    rw[show((l.length:Int)-1).toNat=l.length-1 by omega] at hlast;exact hlast
  have h3:=Df h2
  have h4:(l.set 0 (AN l ((l.length:Int)-1))).take (l.length-1+1)=l.set 0 (AN l ((l.length:Int)-1)):=List.take_of_length_le (by rw[List.length_set];omega)
  rw[h4] at h3
  have h5:hS f (l.set 0 (AN l ((l.length:Int)-1)))=hS f (Hv l)+f (AN l ((l.length:Int)-1)):=by
   conv=>lhs;rw[h3]
   simp [hS,Hv]
  omega
 ·have:=List.mem_of_mem_take hy
  rcases List.mem_or_eq_of_mem_set this with h|rfl
  ·exact h
  ·exact AZ hlast
theorem VF{f:StW→Nat}{l:List StW}(hl:0<l.length):hS f (BI l)+f (AN l 0)=hS f l∧(BI l).length=l.length-1∧∀y∈BI l,y∈l:=by
 have h1:=a1l (f:=f) hl
 have h2:=a1k (f:=f) (n:=l.length) (l:=Hv l) (i:=0) (by omega)
 unfold BI
 refine⟨by rw[h2.1];exact h1.1,by rw[h2.2.1];exact h1.2.1,fun y hy=>h1.2.2 y (h2.2.2 y hy)⟩
structure Hu where
 best:List Int
 cost:Co
 heap:List StW
 pops:Int
def Fg(c d:Co)(v b:List Int):Bool:=GB c d||((decide (c.over=d.over)&&decide (c.sum=d.sum))&&decide (Cy v b<0))
def EG(p:Pc)(w:Int)(v:List Int)(h:Hu):Hu:=if Fg (Bh p v w) h.cost v h.best then⟨v,Bh p v w,h.heap,h.pops⟩ else h
def GU(p:Pc)(c:Co)(v:List Int):Bool:= !KB p v||(decide (c.over=0)&&decide (c.sum<Cj p v))
def opN(p:Pc)(c:Co)(x:List Int):Nat→Int→List StW→List StW
 |0,_,l=>l
 |r+1,i,l=>opN p c x r (i+1) (if GU p c (x++[i]) then l else DA l ⟨x++[i],Cj p (x++[i])⟩)
def Jg(p:Pc)(w:Int)(h:Hu):Hu:=
 if(AN h.heap 0).vals.length=p.rules.length then EG p w (AN h.heap 0).vals ⟨h.best,h.cost,BI h.heap,h.pops+1⟩
 else⟨h.best,h.cost,opN p h.cost (AN h.heap 0).vals (CI p (AN h.heap 0).vals.length).vals.toNat 0 (BI h.heap),h.pops+1⟩
def Hw(p:Pc)(w bud:Int):Nat→Hu→Hu×Int
 |0,h=>(h,0)
 |n+1,h=>if h.heap=[] then(h,1) else if bud≤h.pops then(h,2) else Hw p w bud n (Jg p w h)
def hu0(p:Pc)(w:Int):Hu:=⟨Dc p,Bh p (Dc p) w,[st0],0⟩
def srF(p:Pc)(w bud:Int):Hu×Int:=Hw p w bud 9842 (hu0 p w)
def wt:Nat→Nat
 |0=>1
 |n+1=>1+3*wt n
theorem VG:∀ {n:Nat},1≤wt n
 |0=>Nat.le_refl _
 |n+1=>by rw[wt];omega
def wtS(p:Pc)(s:StW):Nat:=wt (p.rules.length-s.vals.length)
def hM(p:Pc)(l:List StW):Nat:=hS (wtS p) l
theorem a1m{p:Pc}:∀ {l:List StW},l.length≤hM p l
 |[]=>Nat.zero_le _
 |s::l=>by
  have:=a1m (p:=p) (l:=l)
  have h1:1≤wtS p s:=VG
  simp only[hM,hS,List.map_cons,List.sum_cons,List.length_cons] at this ⊢;omega
def VH(p:Pc)(s:StW):Prop:=vOk p s.vals∧0≤s.sum∧s.sum≤1000
def GV(p:Pc)(l:List StW):Prop:=∀s∈l,VH p s
theorem a1n{p:Pc}{l:List StW}{x:StW}(h:GV p l)(hx:VH p x):GV p (DA l x):=fun y hy=>by
 rcases(VE (f:=fun _=>0)).2.2 y hy with h1|rfl
 ·exact h y h1
 ·exact hx
theorem a1o{p:Pc}{l:List StW}(h:GV p l)(hl:0<l.length):GV p (BI l):=fun y hy=>h y ((VF (f:=fun _=>0) hl).2.2 y hy)
theorem Ob{α:Type}{f:α→Int}{b:Int}:∀ {l:List α},(∀x∈l,0≤f x∧f x≤b)→0≤(l.map f).sum∧(l.map f).sum≤l.length*b
 |[],_=>by simp
 |x::l,h=>by
  have h1:=h x (by simp)
  have h2:=Ob (l:=l) fun y hy=>h y (by simp [hy])
  simp only[List.map_cons,List.sum_cons,List.length_cons]
  have:(((l.length+1:Nat):Int))*b=l.length*b+b:=by rw[Int.natCast_add,Int.add_mul];simp
  omega
theorem Mn{p:Pc}(h:pcOk p){i:Int}(h0:0≤i)(hi:i<p.rules.length):(2≤(CI p i).vals∧(CI p i).vals≤3)∧0≤(CI p i).cost∧(CI p i).cost≤9:=by
 have e:p.rules[i.toNat]? =some p.rules[i.toNat]:=List.getElem?_eq_getElem (by omega)
 have:CI p i=p.rules[i.toNat]:=by simp [CI,List.getD,e]
 rw[this];exact h.ru _ (List.getElem_mem _)
theorem a1p{p:Pc}{v:List Int}(h:pcOk p)(hv:vOk p v):0≤Cj p v∧Cj p v≤1000:=by
 have h1:∀q∈v.zipIdx,0≤q.1*(CI p q.2).cost∧q.1*(CI p q.2).cost≤27:=by
  intro q hq
  obtain⟨n,i⟩:=q
  have hi:=List.mem_zipIdx_iff_getElem?.1 hq
  have h2:=hv.2 i n hi
  have hlt:=(Cx hi).1
  have h3:=Mn h (i:=(i:Int)) (by omega) (by have:=hv.1;omega)
  simp only at h2 ⊢
  have a:0≤n*(CI p (i:Int)).cost:=Int.mul_nonneg h2.1 h3.2.1
  have b:n*(CI p (i:Int)).cost≤3*9:=Int.mul_le_mul (by omega) h3.2.2 h3.2.1 (by omega)
  exact⟨a,by omega⟩
 have h2:∀s∈p.spans,0≤(if snS p v s then s.cost else 0)∧(if snS p v s then s.cost else 0)≤9:=by
  intro s hs
  have:=(h.sn s hs).2
  split<;>omega
 have h3:=Ob h1
 have h4:=Ob h2
 have h5:=hv.1;have h6:=h.rl;have h7:=h.snl
 simp only[List.length_zipIdx] at h3
 unfold Cj ruS
 omega
theorem b1U{p:Pc}:vOk p []:=⟨by simp,fun i n h=>by simp at h⟩
theorem VI{p:Pc}{v:List Int}{i:Int}(h:vOk p v)(hl:v.length<p.rules.length)(h0:0≤i)(hi:i<(CI p v.length).vals):vOk p (v++[i]):=by
 refine⟨by simp;omega,fun j n hj=> ?_⟩
 by_cases e:j<v.length
 ·rw[List.getElem?_append_left e] at hj;exact h.2 j n hj
 ·rw[List.getElem?_append_right (by omega)] at hj
  have hj2:j-v.length=0:=by
   rcases Nat.eq_zero_or_pos (j-v.length) with h|h
   ·exact h
   ·rw[List.getElem?_eq_none (by simp;omega)] at hj;cases hj
  rw[hj2] at hj
  simp at hj;subst hj
  rw[show j=v.length by omega];exact⟨h0,hi⟩
theorem Oc{p:Pc}(h:pcOk p):vOk p (Dc p)∧(Dc p).length=p.rules.length:=by
 refine⟨⟨by simp [Dc],fun i n hi=> ?_⟩,by simp [Dc]⟩
 simp only[Dc,List.getElem?_map,Option.map_eq_some_iff] at hi
 obtain⟨r,hr,rfl⟩:=hi
 have hlt:=(Cx hr).1
 have:=Mn h (i:=(i:Int)) (by omega) (by omega)
 have e:CI p (i:Int)=r:=by simp [CI,List.getD,hr]
 rw[e] at this ⊢;omega
end Go.My
end
section
namespace Go.My
open Go.Eng Go.Proofs
variable {G:GInv}
theorem Ib{q:Pc→Prop}(p:Pc)(h:q p):∃x,q x:=⟨p,h⟩
theorem Dp{β:Type}{q:Pc×β→Prop}(p:Pc)(h:∃b,q (p,b)):∃x,q x:=let⟨b,hb⟩:=h;⟨(p,b),hb⟩
def Bx{α:Type}(p:α→Bool)(l:List α)(i:Int):Prop:=(0≤i∧i≤l.length)∧(l.take i.toNat).all p=true
theorem Mo{α:Type}{p:α→Bool}{l:List α}:Bx p l 0:=⟨by omega,by simp⟩
theorem Fh{α:Type}{p:α→Bool}{l:List α}{i:Int}{e:α}(h:Bx p l i)(hi:i<l.length)(he:l[i.toNat]? =some e)(hp:p e=true):Bx p l (i+1):=
 ⟨by have:=h.1;omega,by rw[BG h.1.1,Df he,List.all_append,h.2];simp [hp]⟩
theorem Fv{α:Type}{p:α→Bool}{l:List α}{i:Int}{e:α}(he:l[i.toNat]? =some e)(hp:p e=false):l.all p=false:=by
 rw[List.all_eq_false];exact⟨e,AZ he,by simp [hp]⟩
theorem GW{α:Type}{p:α→Bool}{l:List α}{i:Int}(h:Bx p l i)(hi:¬i<l.length):l.all p=true:=by
 have:=h.2;rwa [List.take_of_length_le (by have:=h.1;omega)] at this
def Mp(l:List Ru):AV:= .sl false 0 2 Ru ruA l
def chs(l:List Ch):AV:= .sl false 0 5 Ch chA l
def sns(l:List Sn):AV:= .sl false 0 3 Sn snA l
def tis(l:List Ti):AV:= .sl false 0 2 Ti tiA l
def pcS(p:Pc):Prop:=(p.rules.length<2^40∧p.chunks.length<2^40)∧((p.spans.length<2^40∧p.ties.length<2^40)∧Ci p.chunks≤2^61)∧∀r∈p.rules,-4611686018427387904≤r.vals∧r.vals≤4611686018427387904
theorem Od{c:Ch}:∀ {l:List Ch},c∈l→c.text.length≤Ci l
 |[],h=>by cases h
 |d::l,h=>by
  have e:Ci (d::l)=d.text.length+Ci l:=by simp [Ci]
  rcases List.mem_cons.1 h with rfl|h
  ·omega
  ·have:=Od h;omega
def Jh:Sig:= {X:=Pc,args:=fun x=>[.agg (pcA false x)],pre:=fun x=>pcS x,Y:=Unit,post:=fun x y=>True,res:=fun x y=> .bool (Ft x),outs:=fun x y=>[.top],keep:=false}
def QD(x:Pc):LS:= {ι:=Int,inv:=fun i=>Bx Ep x.rules i,regs:=fun i=>[(1,.box 0 (pcA false x)),(6,Mp x.rules),(7,.int .i64 x.rules.length),(8,.int .i64 i)],als:=[],meas:=fun i=>x.rules.length-i.toNat}
theorem b1V:Ah G Tryz.prog 116 Jh:=
 vcFun_okP [(36,0,BN)] [] false (fun x=>[(2,QD x)]) Tryz.func116 rfl (by decide) ⟨GM,trivial⟩ (fun(x:Pc)=>(∀(y:Unit),True→True∧True∧True)∧eA (QD x) [.box 0 [.int .i64 x.ind,AV.sl false 0 2 Ru ruA x.rules,AV.sl false 0 5 Ch chA x.chunks,AV.sl false 0 3 Sn snA x.spans,AV.sl false 0 2 Ti tiA x.ties],AV.sl false 0 2 Ru ruA x.rules,.int .i64 (↑(List.length x.rules):Int),.int .i64 (0:Int)]∧∀(i:Int),Bx Ep x.rules i→Ab (decide (i<(↑(List.length x.rules):Int))) (((0:Int)≤i∧i<(↑(List.length x.rules):Int))∧∀(e:Ru),x.rules[Int.toNat i]? =some e→cA BN [.int .i64 e.vals,.int .i64 (2:Int),.int .i64 (3:Int)] fun x_1 y=>Ab (!inn x_1.1 x_1.2.1 x_1.2.2) (rA Jh x [.bool false,.top]) (cA BN [.int .i64 e.cost,.int .i64 (0:Int),.int .i64 (9:Int)] fun x_2 y=>Ab (!inn x_2.1 x_2.2.1 x_2.2.2) (rA Jh x [.bool false,.top]) (inR IntKind.i64 (i+(1:Int))∧eN (QD x) i [.box 0 [.int .i64 x.ind,AV.sl false 0 2 Ru ruA x.rules,AV.sl false 0 5 Ch chA x.chunks,AV.sl false 0 3 Sn snA x.spans,AV.sl false 0 2 Ti tiA x.ties],AV.sl false 0 2 Ru ruA x.rules,.int .i64 (↑(List.length x.rules):Int),.int .i64 (i+(1:Int))]))) (rA Jh x [.bool (decide ((↑(List.length x.rules):Int)≤(8:Int))),.top])) (fun x=>by kernel_rfl) fun(x:Pc) (hx:pcS x)=>(by
 dsimp only[cA,Bl,eA,eN,QD,pcA,rA,Bj,Mp,BN,Jh,Bm,Bn,Aq,Aw,mvL,lnL,mvE,lnE,mvG,mvH,lnG,lnH,Ba]
 have hz:=hx.1
 (repeat' first|(with_reducible first|rfl|exact True.intro|apply AG|apply And.intro|((first|apply Au|apply AE|apply Av|apply AF)<;>intro _))|(apply As<;>intro _)|apply AD|refine Af () ?_ ?_|((first|apply AK|apply AJ|apply AI|apply AH|apply AC|apply AB|apply AA|apply Az|apply Ax)<;>try dsimp only)|apply Af|(refine Prod.forall.2 ?_;intro _;try dsimp only)|(intro _;try dsimp only))
 all_goals first
  |rfl
  |exact Mo
  |exact Fh ‹_› ‹_› ‹_› (by simp [Ep, *])
  |(have hq:=Fv (p:=Ep) (show x.rules[_]? =some _ by assumption) (by simp [Ep, *]);simp [Ft,hq];done)
  |(have hq:=GW (p:=Ep) ‹_› ‹_›;rw[Ft,hq,Bool.and_true];exact decide_eq_decide.2 (by omega))
  |(have hq:=(show Bx _ _ _ by assumption).1;(try simp only[Aj]);omega)
  |((try simp only[Aj]);omega)
  |skip)
theorem Oe{p:Pc}{i:Int}{e:Ru}(h:p.rules[i.toNat]? =some e):CI p i=e:=by simp [CI,List.getD,h]
theorem a1q{a b c:Int}(h:inn a b c=false):¬(b≤a∧a≤c):=fun hh=>by rw[BA.2 hh] at h;cases h
def Ji:Sig:= {X:=Pc×Int×Int×Bool×Int,args:=fun x=>[.agg (pcA false x.1),.agg [.int .i64 x.2.1,.int .i64 x.2.2.1,.bool x.2.2.2.1,.int .i64 x.2.2.2.2]],pre:=fun x=>pcS x.1,Y:=Unit,post:=fun x y=>True,res:=fun x y=> .bool (Ee x.1 ⟨[],x.2.1,x.2.2.1,x.2.2.2.1,x.2.2.2.2⟩),outs:=fun x y=>[.top,.top],keep:=false}
theorem b1W:Ah G Tryz.prog 142 Ji:=
 vcFun_okP [(36,0,BN)] [] false (fun x=>[]) Tryz.func142 rfl (by decide) ⟨GM,trivial⟩ (fun(x:Pc×Int×Int×Bool×Int)=>(∀(y:Unit),True→True∧True∧True∧True)∧inR IntKind.i64 ((↑(List.length x.1.rules):Int)-(1:Int))∧cA BN [.int .i64 x.2.1,.int .i64 (0:Int),.int .i64 ((↑(List.length x.1.rules):Int)-(1:Int))] fun x_1 y=>Ab (!inn x_1.1 x_1.2.1 x_1.2.2) (rA Ji x [.bool false,.top,.top]) (cA BN [.int .i64 x.2.2.2.2,.int .i64 (0:Int),.int .i64 (40:Int)] fun x_2 y=>Ab (!inn x_2.1 x_2.2.1 x_2.2.2) (rA Ji x [.bool false,.top,.top]) (true=true∧true=true∧((0:Int)≤x.2.1∧x.2.1<(↑(List.length x.1.rules):Int))∧∀(e:Ru),x.1.rules[Int.toNat x.2.1]? =some e→inR IntKind.i64 (e.vals-(1:Int))∧∃(x_3:Int×Int×Int),True∧x.2.2.1=x_3.1∧(1:Int)=x_3.2.1∧e.vals-(1:Int)=x_3.2.2∧∃(y0:Unit),(∀(y:Unit),True→AV.bool (inn x_3.1 x_3.2.1 x_3.2.2)=AV.bool (inn x_3.1 x_3.2.1 x_3.2.2))∧true=true∧rA Ji x [.bool (inn x_3.1 x_3.2.1 x_3.2.2),.top,.top]))) (fun x=>by kernel_rfl) fun(x:Pc×Int×Int×Bool×Int) (hx:pcS x.1)=>(by
 dsimp only[cA,Bl,pcA,rA,Bj,BN,Ji,Bm,Bn,Aq,Aw,mvL,lnL,mvE,lnE,mvG,mvH,lnG,lnH]
 obtain⟨p,r,f,s,n⟩:=x;dsimp only at hx ⊢
 have hx:pcS p:=hx
 have hz:=hx.1;have hv:=hx.2.2
 (repeat' first|(with_reducible first|rfl|exact True.intro|apply AG|apply And.intro|((first|apply Au|apply AE|apply Av|apply AF)<;>intro _))|(apply As<;>intro _)|apply AD|refine Af () ?_ ?_|((first|apply AK|apply AJ|apply AI|apply AH|apply AC|apply AB|apply AA|apply Az|apply Ax)<;>try dsimp only)|apply Af|(refine Prod.forall.2 ?_;intro _;try dsimp only)|(intro _;try dsimp only))
 all_goals first
  |rfl
  |((try simp only[BA] at*);omega)
  |(simp [Ee, *];done)
  |(have hm:=hv _ (AZ ‹_›);omega)
  |(rename p.rules[_]? =some _=>hq;have hr:=Oe hq;simp [Ee,hr, *];done)
  |skip)
theorem a1r{p:Pc}:(0≤(0:Int)∧(0:Int)≤p.chunks.length)∧Er p p.chunks=Er p (p.chunks.drop (Int.toNat 0)):=⟨by omega,rfl⟩
def chI(p:Pc)(i:Int):Prop:=(0≤i∧i≤p.chunks.length)∧Er p p.chunks=Er p (p.chunks.drop i.toNat)
theorem a1s{p:Pc}{i:Int}{c:Ch}(h:chI p i)(hc:p.chunks[i.toNat]? =some c):Er p p.chunks=(Be c.text&&((decide (p.chunks.length≤i+1)||Ee p c)&&Er p (p.chunks.drop (i+1).toNat))):=by
 rw[h.2,Dm hc,b1R,BG h.1.1]
 congr 3
 have hl:(p.chunks.drop (i.toNat+1)).length=p.chunks.length-(i.toNat+1):=List.length_drop
 have h0:=h.1.1
 by_cases e:(p.chunks.length:Int)≤i+1
 ·rw[decide_eq_true e,List.isEmpty_iff,List.eq_nil_iff_length_eq_zero];omega
 ·rw[decide_eq_false e,Bool.eq_false_iff,ne_eq,List.isEmpty_iff,List.eq_nil_iff_length_eq_zero];omega
theorem QE{p:Pc}{i:Int}{c:Ch}(h:chI p i)(hi:i<p.chunks.length)(hc:p.chunks[i.toNat]? =some c)(h1:Be c.text=true)(h2:i<(p.chunks.length:Int)-1→Ee p c=true):chI p (i+1):=by
 refine⟨by have:=h.1;omega,?_⟩
 rw[a1s h hc,h1]
 by_cases e:(p.chunks.length:Int)≤i+1
 ·simp [e]
 ·rw[h2 (by omega)];simp
theorem QF{p:Pc}{i:Int}{c:Ch}(h:chI p i)(hc:p.chunks[i.toNat]? =some c)(h1:Be c.text=false∨(i<(p.chunks.length:Int)-1∧Ee p c=false)):EF p=false:=by
 have:=a1s h hc
 unfold EF
 rcases h1 with h1|⟨h1,h2⟩
 ·rw[this,h1];simp
 ·rw[this,h2,decide_eq_false (by omega)];simp
theorem VJ{p:Pc}{i:Int}{c:Ch}(h:chI p i)(hi:¬i<p.chunks.length)(hc:p.chunks[((p.chunks.length:Int)-1).toNat]? =some c)(hn:inn p.chunks.length 1 80=true):EF p=NZ c:=by
 have h2:=h.2
 rw[List.drop_of_length_le (by omega)] at h2
 have hl:p.chunks.getLast? =some c:=by
  rw[List.getLast?_eq_getElem?,show p.chunks.length-1=((p.chunks.length:Int)-1).toNat by omega];exact hc
 unfold EF
 rw[hn,h2,hl];simp [Er]
theorem b1X{p:Pc}(h:inn p.chunks.length 1 80=false):EF p=false:=by simp [EF,h]
theorem VK{c:Ch}:(true&&c.rule==0&&c.fr==0&&c.space==false&&c.nest==0)=NZ c:=by
 rw[Bool.eq_iff_iff];simp [NZ,and_assoc]
def Ic:Sig:= {X:=Pc,args:=fun x=>[.agg (pcA false x)],pre:=fun x=>pcS x,Y:=Unit,post:=fun x y=>True,res:=fun x y=> .bool (EF x),outs:=fun x y=>[.top],keep:=false}
def Of(x:Pc):LS:= {ι:=Int,inv:=fun i=>chI x i∧inn x.chunks.length 1 80=true,regs:=fun i=>[(1,.box 0 (pcA false x)),(3,.int .i64 x.chunks.length),(13,chs x.chunks),(14,.int .i64 x.chunks.length),(15,.int .i64 i)],als:=[],meas:=fun i=>x.chunks.length-i.toNat}
theorem b1Y:Ah G Tryz.prog 117 Ic:=
 vcFun_okP [(36,0,BN),(77,0,EB),(142,0,Ji)] [] false (fun x=>[(5,Of x)]) Tryz.func117 rfl (by decide) ⟨GM,PY,b1W,trivial⟩ (fun(x:Pc)=>(∀(y:Unit),True→True∧True∧True)∧cA BN [.int .i64 (↑(List.length x.chunks):Int),.int .i64 (1:Int),.int .i64 (80:Int)] fun x_1 y=>Ab (!inn x_1.1 x_1.2.1 x_1.2.2) (rA Ic x [.bool false,.top]) (eA (Of x) [.box 0 [.int .i64 x.ind,AV.sl false 0 2 Ru ruA x.rules,AV.sl false 0 5 Ch chA x.chunks,AV.sl false 0 3 Sn snA x.spans,AV.sl false 0 2 Ti tiA x.ties],.int .i64 (↑(List.length x.chunks):Int),AV.sl false 0 5 Ch chA x.chunks,.int .i64 (↑(List.length x.chunks):Int),.int .i64 (0:Int)]∧∀(i:Int),chI x i∧inn (↑(List.length x.chunks):Int) (1:Int) (80:Int)=true→Ab (decide (i<(↑(List.length x.chunks):Int))) (((0:Int)≤i∧i<(↑(List.length x.chunks):Int))∧∀(e:Ch),x.chunks[Int.toNat i]? =some e→cA EB [.str e.text] fun x_2 y=>Ab (!List.all x_2 Bw) (rA Ic x [.bool false,.top]) (inR IntKind.i64 ((↑(List.length x.chunks):Int)-(1:Int))∧Ab (decide (i<(↑(List.length x.chunks):Int)-(1:Int))) (cA Ji [.agg [.int .i64 x.ind,AV.sl false 0 2 Ru ruA x.rules,AV.sl false 0 5 Ch chA x.chunks,AV.sl false 0 3 Sn snA x.spans,AV.sl false 0 2 Ti tiA x.ties],.agg [.int .i64 e.rule,.int .i64 e.fr,.bool e.space,.int .i64 e.nest]] fun x_3 y=>Ab (!Ee x_3.1 {text:=[],rule:=x_3.2.1,fr:=x_3.2.2.1,space:=x_3.2.2.2.1,nest:=x_3.2.2.2.2}) (rA Ic x [.bool false,.top]) (inR IntKind.i64 (i+(1:Int))∧(eN (Of x) i [.box 0 [.int .i64 x.ind,AV.sl false 0 2 Ru ruA x.rules,AV.sl false 0 5 Ch chA x.chunks,AV.sl false 0 3 Sn snA x.spans,AV.sl false 0 2 Ti tiA x.ties],.int .i64 (↑(List.length x.chunks):Int),AV.sl false 0 5 Ch chA x.chunks,.int .i64 (↑(List.length x.chunks):Int),.int .i64 (i+(1:Int))]))) (inR IntKind.i64 (i+(1:Int))∧(eN (Of x) i [.box 0 [.int .i64 x.ind,AV.sl false 0 2 Ru ruA x.rules,AV.sl false 0 5 Ch chA x.chunks,AV.sl false 0 3 Sn snA x.spans,AV.sl false 0 2 Ti tiA x.ties],.int .i64 (↑(List.length x.chunks):Int),AV.sl false 0 5 Ch chA x.chunks,.int .i64 (↑(List.length x.chunks):Int),.int .i64 (i+(1:Int))])))) (inR IntKind.i64 ((↑(List.length x.chunks):Int)-(1:Int))∧((0:Int)≤(↑(List.length x.chunks):Int)-(1:Int)∧(↑(List.length x.chunks):Int)-(1:Int)<(↑(List.length x.chunks):Int))∧∀(e:Ch),x.chunks[Int.toNat ((↑(List.length x.chunks):Int)-(1:Int))]? =some e→rA Ic x [.bool (true&&e.rule==(0:Int)&&e.fr==(0:Int)&&e.space==false&&e.nest==(0:Int)),.top]))) (fun x=>by kernel_rfl) fun(x:Pc) (hx:pcS x)=>(by
 dsimp only[cA,Bl,chs,eA,eN,Of,pcA,rA,Bj,BN,EB,Ic,Ji,Bm,Bn,Aq,Aw,mvL,lnL,mvE,lnE,mvG,mvH,lnG,lnH,Ba]
 have hz:=hx.1;have ht:=hx.2.1.2
 (repeat' first|refine Dp x ?_|(with_reducible first|rfl|exact True.intro|apply AG|apply And.intro|((first|apply Au|apply AE|apply Av|apply AF)<;>intro _))|(apply As<;>intro _)|apply AD|refine Af () ?_ ?_|((first|apply AK|apply AJ|apply AI|apply AH|apply AC|apply AB|apply AA|apply Az|apply Ax)<;>try dsimp only)|apply Af|(refine Prod.forall.2 ?_;intro _;try dsimp only)|(intro _;try dsimp only))
 all_goals first
  |rfl
  |assumption
  |exact a1r
  |exact hx
  |exact(b1X ‹_›).symm
  |(have hq:=(show chI _ _∧_ by assumption).1.1;(try simp only[Aj]);omega)
  |(have hq:=Od (AZ (show x.chunks[_]? =some _ by assumption));omega)
  |exact(QF (show chI _ _∧_ by assumption).1 ‹_› (.inl ‹_›)).symm
  |exact(QF (show chI _ _∧_ by assumption).1 ‹_› (.inr ⟨by assumption,by assumption⟩)).symm
  |exact QE (show chI _ _∧_ by assumption).1 ‹_› ‹_› ‹_› (fun _=>by assumption)
  |exact QE (show chI _ _∧_ by assumption).1 ‹_› ‹_› ‹_› (fun _=>by omega)
  |(rw[VJ (show chI _ _∧_ by assumption).1 ‹_› ‹_› ‹_›];exact VK)
  |((try simp only[BA] at*);omega)
  |skip)
def KE:Sig:= {X:=Pc×Int,args:=fun x=>[.agg (pcA false x.1),.int .i64 x.2],pre:=fun x=>pcS x.1,Y:=Unit,post:=fun x y=>True,res:=fun x y=> .bool (inn x.2 0 ((x.1.rules.length:Int)-1)),outs:=fun x y=>[.top,.top],keep:=false}
theorem b1Z:Ah G Tryz.prog 118 KE:=
 vcFun_okP [(36,0,BN)] [] false (fun x=>[]) Tryz.func118 rfl (by decide) ⟨GM,trivial⟩ (fun(x:Pc×Int)=>(∀(y:Unit),True→True∧True∧True∧True)∧inR IntKind.i64 ((↑(List.length x.1.rules):Int)-(1:Int))∧cA BN [.int .i64 x.2,.int .i64 (0:Int),.int .i64 ((↑(List.length x.1.rules):Int)-(1:Int))] fun x_1 y=>rA KE x [.bool (inn x_1.1 x_1.2.1 x_1.2.2),.top,.top]) (fun x=>by kernel_rfl) fun(x:Pc×Int) (hx:pcS x.1)=>(by
 dsimp only[cA,Bl,pcA,rA,Bj,BN,KE,Bm,Bn,Aq,Aw,mvL,lnL,mvE,lnE,mvG,mvH,lnG,lnH]
 obtain⟨p,r⟩:=x;dsimp only at hx ⊢
 have hx:pcS p:=hx
 have hz:=hx.1
 (repeat' first|(with_reducible first|rfl|exact True.intro|apply AG|apply And.intro|((first|apply Au|apply AE|apply Av|apply AF)<;>intro _))|(apply As<;>intro _)|apply AD|refine Af () ?_ ?_|((first|apply AK|apply AJ|apply AI|apply AH|apply AC|apply AB|apply AA|apply Az|apply Ax)<;>try dsimp only)|apply Af|(refine Prod.forall.2 ?_;intro _;try dsimp only)|(intro _;try dsimp only))
 all_goals first
  |rfl
  |((try simp only[Aj]);omega))
theorem QG{p:Pc}{s:Sn}(h:((s.fr<0∨s.fr>s.tuu)∨s.tuu≥(p.chunks.length:Int)-1)∨inn s.cost 0 9=false):DS p s=false:=by
 unfold DS
 rw[Bool.eq_false_iff]
 simp only[ne_eq,Bool.and_eq_true,decide_eq_true_eq,not_and]
 intro h1 h2
 rcases h with h|h
 ·omega
 ·rw[h];simp
theorem a1t{p:Pc}{s:Sn}(h1:¬s.fr<0)(h2:¬s.fr>s.tuu)(h3:¬s.tuu≥(p.chunks.length:Int)-1)(h4:inn s.cost 0 9=true):DS p s=true:=by
 unfold DS
 simp only[Bool.and_eq_true,decide_eq_true_eq]
 exact⟨⟨by omega,by omega⟩,by omega,h4⟩
def poA(p:Pc):Prop:=((inn p.ind 0 60=true∧Ft p=true)∧EF p=true)∧p.spans.length≤40∧p.ties.length≤20
theorem KF{p:Pc}(h:((inn p.ind 0 60=false∨Ft p=false)∨EF p=false)∨(p.spans.length:Int)>40∨(p.ties.length:Int)>20):false=Bo p:=by
 symm
 rw[Bool.eq_false_iff]
 simp only[Bo,ne_eq,Bool.and_eq_true,decide_eq_true_eq,not_and]
 intro h1 h2 h3 h4
 rw[h1,h2,h3] at h
 simp at h;omega
theorem Ie{p:Pc}(h:p.spans.all (DS p)=false∨p.ties.all (FO p)=false):false=Bo p:=by
 symm
 unfold Bo
 rcases h with h|h<;>rw[h]<;>simp
theorem a1u{p:Pc}(h:poA p)(h1:p.spans.all (DS p)=true)(h2:p.ties.all (FO p)=true):true=Bo p:=by
 obtain⟨⟨⟨a,b⟩,c⟩,d,e⟩:=h
 unfold Bo
 rw[a,b,c,h1,h2];simp [d,e]
def DB:Sig:= {X:=Pc,args:=fun x=>[.agg (pcA false x)],pre:=fun x=>pcS x,Y:=Unit,post:=fun x y=>True,res:=fun x y=> .bool (Bo x),outs:=fun x y=>[.top],keep:=false}
def QH(x:Pc):LS:= {ι:=Int,inv:=fun i=>poA x∧Bx (DS x) x.spans i,regs:=fun i=>[(1,.box 0 (pcA false x)),(34,sns x.spans),(35,.int .i64 x.spans.length),(36,.int .i64 i)],als:=[],meas:=fun i=>x.spans.length-i.toNat}
def QI(x:Pc):LS:= {ι:=Int,inv:=fun i=>(poA x∧x.spans.all (DS x)=true)∧Bx (FO x) x.ties i,regs:=fun i=>[(1,.box 0 (pcA false x)),(67,tis x.ties),(68,.int .i64 x.ties.length),(69,.int .i64 i)],als:=[],meas:=fun i=>x.ties.length-i.toNat}
theorem a1v:Ah G Tryz.prog 82 DB:=
 vcFun_okP [(36,0,BN),(116,0,Jh),(117,0,Ic),(118,0,KE)] [] false (fun x=>[(4,QH x),(10,QI x)]) Tryz.func82 rfl (by decide) ⟨GM,b1V,b1Y,b1Z,trivial⟩ (fun(x:Pc)=>(∀(y:Unit),True→True∧True∧True)∧cA BN [.int .i64 x.ind,.int .i64 (0:Int),.int .i64 (60:Int)] fun x_1 y=>Ab (!inn x_1.1 x_1.2.1 x_1.2.2) (rA DB x [.bool false,.top]) (cA Jh [.agg [.int .i64 x.ind,AV.sl false 0 2 Ru ruA x.rules,AV.sl false 0 5 Ch chA x.chunks,AV.sl false 0 3 Sn snA x.spans,AV.sl false 0 2 Ti tiA x.ties]] fun x_2 y=>Ab (!Ft x_2) (rA DB x [.bool false,.top]) (cA Ic [.agg [.int .i64 x.ind,AV.sl false 0 2 Ru ruA x.rules,AV.sl false 0 5 Ch chA x.chunks,AV.sl false 0 3 Sn snA x.spans,AV.sl false 0 2 Ti tiA x.ties]] fun x_3 y=>Ab (!EF x_3) (rA DB x [.bool false,.top]) (Ab (decide ((↑(List.length x.spans):Int)>(40:Int))) (rA DB x [.bool false,.top]) (Ab (decide ((↑(List.length x.ties):Int)>(20:Int))) (rA DB x [.bool false,.top]) (eA (QH x) [.box 0 [.int .i64 x.ind,AV.sl false 0 2 Ru ruA x.rules,AV.sl false 0 5 Ch chA x.chunks,AV.sl false 0 3 Sn snA x.spans,AV.sl false 0 2 Ti tiA x.ties],AV.sl false 0 3 Sn snA x.spans,.int .i64 (↑(List.length x.spans):Int),.int .i64 (0:Int)]∧∀(i:Int),poA x∧Bx (DS x) x.spans i→Ab (decide (i<(↑(List.length x.spans):Int))) (((0:Int)≤i∧i<(↑(List.length x.spans):Int))∧∀(e:Sn),x.spans[Int.toNat i]? =some e→Ab (decide (e.fr<(0:Int))) (rA DB x [.bool false,.top]) (Ab (decide (e.fr>e.tuu)) (rA DB x [.bool false,.top]) (inR IntKind.i64 ((↑(List.length x.chunks):Int)-(1:Int))∧Ab (decide (e.tuu≥(↑(List.length x.chunks):Int)-(1:Int))) (rA DB x [.bool false,.top]) (cA BN [.int .i64 e.cost,.int .i64 (0:Int),.int .i64 (9:Int)] fun x_4 y=>Ab (!inn x_4.1 x_4.2.1 x_4.2.2) (rA DB x [.bool false,.top]) (inR IntKind.i64 (i+(1:Int))∧eN (QH x) i [.box 0 [.int .i64 x.ind,AV.sl false 0 2 Ru ruA x.rules,AV.sl false 0 5 Ch chA x.chunks,AV.sl false 0 3 Sn snA x.spans,AV.sl false 0 2 Ti tiA x.ties],AV.sl false 0 3 Sn snA x.spans,.int .i64 (↑(List.length x.spans):Int),.int .i64 (i+(1:Int))]))))) (eA (QI x) [.box 0 [.int .i64 x.ind,AV.sl false 0 2 Ru ruA x.rules,AV.sl false 0 5 Ch chA x.chunks,AV.sl false 0 3 Sn snA x.spans,AV.sl false 0 2 Ti tiA x.ties],AV.sl false 0 2 Ti tiA x.ties,.int .i64 (↑(List.length x.ties):Int),.int .i64 (0:Int)]∧∀(i:Int),(poA x∧List.all x.spans (DS x)=true)∧Bx (FO x) x.ties i→Ab (decide (i<(↑(List.length x.ties):Int))) (((0:Int)≤i∧i<(↑(List.length x.ties):Int))∧∀(e:Ti),x.ties[Int.toNat i]? =some e→cA KE [.agg [.int .i64 x.ind,AV.sl false 0 2 Ru ruA x.rules,AV.sl false 0 5 Ch chA x.chunks,AV.sl false 0 3 Sn snA x.spans,AV.sl false 0 2 Ti tiA x.ties],.int .i64 e.kid] fun x_4 y=>Ab (!inn x_4.2 (0:Int) ((↑(List.length x_4.1.rules):Int)-(1:Int))) (rA DB x [.bool false,.top]) (cA KE [.agg [.int .i64 x.ind,AV.sl false 0 2 Ru ruA x.rules,AV.sl false 0 5 Ch chA x.chunks,AV.sl false 0 3 Sn snA x.spans,AV.sl false 0 2 Ti tiA x.ties],.int .i64 e.up] fun x_5 y=>Ab (!inn x_5.2 (0:Int) ((↑(List.length x_5.1.rules):Int)-(1:Int))) (rA DB x [.bool false,.top]) (Ab (e.kid==e.up) (rA DB x [.bool false,.top]) (inR IntKind.i64 (i+(1:Int))∧eN (QI x) i [.box 0 [.int .i64 x.ind,AV.sl false 0 2 Ru ruA x.rules,AV.sl false 0 5 Ch chA x.chunks,AV.sl false 0 3 Sn snA x.spans,AV.sl false 0 2 Ti tiA x.ties],AV.sl false 0 2 Ti tiA x.ties,.int .i64 (↑(List.length x.ties):Int),.int .i64 (i+(1:Int))])))) (rA DB x [.bool true,.top])))))))) (fun x=>by kernel_rfl) fun(x:Pc) (hx:pcS x)=>(by
 dsimp only[cA,Bl,chs,eA,eN,QI,QH,pcA,rA,Bj,Mp,BN,Ic,KE,DB,Jh,Bm,sns,Bn,tis,Aq,Aw,mvL,lnL,mvE,lnE,mvG,mvH,lnG,lnH,Ba]
 have hz:=hx.1;have hz2:=hx.2.1.1
 (repeat' first|refine Ib x ?_|refine Dp x ?_|(with_reducible first|rfl|exact True.intro|apply AG|apply And.intro|((first|apply Au|apply AE|apply Av|apply AF)<;>intro _))|(apply As<;>intro _)|apply AD|refine Af () ?_ ?_|((first|apply AK|apply AJ|apply AI|apply AH|apply AC|apply AB|apply AA|apply Az|apply Ax)<;>try dsimp only)|apply Af|(refine Prod.forall.2 ?_;intro _;try dsimp only)|(intro _;try dsimp only))
 all_goals first
  |rfl
  |assumption
  |exact hx
  |exact Mo
  |exact KF (.inl (.inl (.inl ‹_›)))
  |exact KF (.inl (.inl (.inr ‹_›)))
  |exact KF (.inl (.inr ‹_›))
  |exact KF (.inr (.inl ‹_›))
  |exact KF (.inr (.inr ‹_›))
  |exact⟨⟨⟨by assumption,by assumption⟩,by assumption⟩,by omega,by omega⟩
  |exact(show poA _∧_ by assumption).1
  |(have hq:=(show poA _∧Bx _ _ _ by assumption).2.1;(try simp only[Aj]);omega)
  |(have hq:=(show(poA _∧_)∧Bx _ _ _ by assumption).2.1;(try simp only[Aj]);omega)
  |exact Ie (.inl (Fv ‹_› (QG (.inl (.inl (.inl ‹_›))))))
  |exact Ie (.inl (Fv ‹_› (QG (.inl (.inl (.inr ‹_›))))))
  |exact Ie (.inl (Fv ‹_› (QG (.inl (.inr ‹_›)))))
  |exact Ie (.inl (Fv ‹_› (QG (.inr ‹_›))))
  |exact Fh (show poA _∧Bx _ _ _ by assumption).2 ‹_› ‹_› (a1t ‹_› ‹_› ‹_› ‹_›)
  |exact⟨(show poA _∧Bx _ _ _ by assumption).1,GW (show poA _∧Bx _ _ _ by assumption).2 ‹_›⟩
  |exact GW (show poA _∧Bx _ _ _ by assumption).2 ‹_›
  |exact Ie (.inr (Fv ‹_› (by simp [FO, *])))
  |exact Fh (show(poA _∧_)∧Bx _ _ _ by assumption).2 ‹_› ‹_› (by simp [FO, *])
  |exact a1u (show(poA _∧_)∧Bx _ _ _ by assumption).1.1 (show(poA _∧_)∧Bx _ _ _ by assumption).1.2 (GW (show(poA _∧_)∧Bx _ _ _ by assumption).2 ‹_›)
  |((try simp only[Aj]);omega)
  |skip)
def Cz(p:Pc)(i:Int):Ch:=p.chunks.getD i.toNat ch0
theorem Hx{p:Pc}{i:Int}{c:Ch}(h:p.chunks[i.toNat]? =some c):Cz p i=c:=by simp [Cz,List.getD,h]
theorem b2a{p:Pc}{i:Int}(h0:0≤i)(h:i<p.chunks.length):p.chunks[i.toNat]? =some (Cz p i):=by
 have e:p.chunks[i.toNat]? =some p.chunks[i.toNat]:=List.getElem?_eq_getElem (by omega)
 rw[Hx e];exact e
theorem Og{v:List Int}{i n:Int}(h:v[i.toNat]? =some n):vAt v i=n:=by simp [vAt,List.getD,h]
def Ig:Sig:= {X:=Pc×List Int×Int,args:=fun x=>[.agg (pcA false x.1),Ad x.2.1,.int .i64 x.2.2],pre:=fun x=>(0≤x.2.2∧x.2.2<x.1.chunks.length)∧(0≤(Cz x.1 x.2.2).rule∧(Cz x.1 x.2.2).rule<x.2.1.length),Y:=Unit,post:=fun x y=>True,res:=fun x y=> .bool (Ce x.2.1 (Cz x.1 x.2.2)),outs:=fun x y=>[.top,.top,.top],keep:=false}
theorem a1w:Ah G Tryz.prog 196 Ig:=
 vcFun_okP [] [] false (fun x=>[]) Tryz.func196 rfl (by decide) trivial (fun(x:Pc×List Int×Int)=>(∀(y:Unit),True→True∧True∧True∧True∧True)∧((0:Int)≤x.2.2∧x.2.2<(↑(List.length x.1.chunks):Int))∧∀(e:Ch),x.1.chunks[Int.toNat x.2.2]? =some e→true=true∧true=true∧((0:Int)≤e.rule∧e.rule<(↑(List.length x.2.1):Int))∧∀(e_1:Int),x.2.1[Int.toNat e.rule]? =some e_1→rA Ig x [.bool (decide (e_1≥e.fr)),.top,.top,.top]) (fun x=>by kernel_rfl) fun(x:Pc×List Int×Int) (hx:(0≤x.2.2∧x.2.2<x.1.chunks.length)∧(0≤(Cz x.1 x.2.2).rule∧(Cz x.1 x.2.2).rule<x.2.1.length))=>(by
 dsimp only[Bl,Ad,pcA,rA,Bj,Ig,Bm,Bn,Aq,Aw]
 obtain⟨p,v,i⟩:=x;dsimp only at hx ⊢
 obtain⟨⟨h1,h2⟩,h3,h4⟩:=hx
 (repeat' first|(with_reducible first|rfl|exact True.intro|apply AG|apply And.intro|((first|apply Au|apply AE|apply Av|apply AF)<;>intro _))|(apply As<;>intro _)|apply AD|refine Af () ?_ ?_|((first|apply AK|apply AJ|apply AI|apply AH|apply AC|apply AB|apply AA|apply Az|apply Ax)<;>try dsimp only)|apply Af|(refine Prod.forall.2 ?_;intro _;try dsimp only)|(intro _;try dsimp only))
 all_goals first
  |rfl
  |omega
  |(rename p.chunks[_]? =some _=>hq;have e:=Hx hq;rw[e] at h3 h4;first|omega|(rename v[_]? =some _=>hr;have e2:=Og hr;rw[e,Ce,e2];done)|(rename v[_]? =some _=>hr;have e2:=Og hr;rw[e,Ce,e2];exact decide_eq_decide.2 (by omega)))
  |skip)
def KG:Sig:= {X:=Pc,args:=fun x=>[.agg (pcA false x)],pre:=fun x=>pcS x∧x.rules.length≤100,Y:=Unit,post:=fun x y=>True,res:=fun x y=>AW (Dc x),outs:=fun x y=>[.top],keep:=false}
def QJ(x:Pc):LS:= {ι:=Int,inv:=fun i=>0≤i∧i≤x.rules.length,regs:=fun i=>[(3,AW ((x.rules.take i.toNat).map fun r=>r.vals-1)),(7,Mp x.rules),(8,.int .i64 x.rules.length),(9,.int .i64 i)],als:=[],meas:=fun i=>x.rules.length-i.toNat}
theorem b2b:Ah G Tryz.prog 215 KG:=
 vcFun_okP [] [(38,⟨Int,Cw⟩)] false (fun x=>[(3,QJ x)]) Tryz.func215 rfl (by decide) trivial (fun(x:Pc)=>(∀(y:Unit),True→(∀(x:Int),True∧True)∧True∧True)∧eA (QJ x) [.nil,AV.sl false 0 2 Ru ruA x.rules,.int .i64 (↑(List.length x.rules):Int),.int .i64 (0:Int)]∧∀(i:Int),(0:Int)≤i∧i≤(↑(List.length x.rules):Int)→Ab (decide (i<(↑(List.length x.rules):Int))) (((0:Int)≤i∧i<(↑(List.length x.rules):Int))∧∀(e:Ru),x.rules[Int.toNat i]? =some e→inR IntKind.i64 (e.vals-(1:Int))∧∃(x_1:Int),e.vals-(1:Int)=x_1∧∃(zs:List Int),AW [x_1]=AW zs∧Bg Cw∧AY (List.length (List.map (fun(r:Ru)=>r.vals-(1:Int)) (List.take (Int.toNat i) x.rules))+List.length zs) (8:Nat)∧inR IntKind.i64 (i+(1:Int))∧eN (QJ x) i [AW (List.map (fun(r:Ru)=>r.vals-(1:Int)) (List.take (Int.toNat i) x.rules)++zs),AV.sl false 0 2 Ru ruA x.rules,.int .i64 (↑(List.length x.rules):Int),.int .i64 (i+(1:Int))]) (rA KG x [AW (List.map (fun(r:Ru)=>r.vals-(1:Int)) (List.take (Int.toNat i) x.rules)),.top])) (fun x=>by kernel_rfl) fun(x:Pc) (hx:pcS x∧x.rules.length≤100)=>(by
 dsimp only[Bl,eA,eN,QJ,AW,pcA,rA,Bj,Mp,KG,Bm,Bn,Aq,Aw,Ba]
 obtain⟨h1,h2⟩:=hx
 have hv:=h1.2.2
 (repeat' first|(with_reducible first|rfl|exact True.intro|apply AG|apply And.intro|((first|apply Au|apply AE|apply Av|apply AF)<;>intro _))|(apply As<;>intro _)|apply AD|refine Af () ?_ ?_|((first|apply AK|apply AJ|apply AI|apply AH|apply AC|apply AB|apply AA|apply Az|apply Ax)<;>try dsimp only)|apply Af|(refine Prod.forall.2 ?_;intro _;try dsimp only)|(intro _;try dsimp only))
 all_goals first
  |rfl
  |omega
  |(have hm:=hv _ (AZ ‹_›);omega)
  |(rw[BG (by omega),Df ‹_›,List.map_append];rfl)
  |(rw[Dc,List.take_of_length_le (by omega)];done)
  |(simp [AY];omega)
  |((try simp only[AY,List.length_append,List.length_map,List.length_take,List.length_cons,List.length_nil]);omega)
  |skip)
structure renP (p:Pc) (v:List Int):Prop where
 ok:pcOk p
 vl:v.length=p.rules.length
 ct:Ci p.chunks≤2^61
def Es(l:List (List UInt8)):AV:= .sl false 0 1 (List UInt8) Ag l
def Cu(l:List (List UInt8)):AV:= .sl true 0 1 (List UInt8) Ag l
theorem a1x{ind:Int}{v:List Int}:∀ {l:List Ch} {s:List UInt8},s.length≤lnS (rnL ind v l s)∧1≤(rnL ind v l s).length
 |[],s=>by simp [rnL,lnS]
 |[c],s=>by simp [rnL,lnS]
 |c::d::l,s=>by
  rw[rnL]
  split
  ·simp [lnS];omega
  ·have:=a1x (ind:=ind) (v:=v) (l:=d::l) (s:=s++c.text++(if c.space then [32] else []))
   simp only[List.length_append] at this ⊢
   omega
def rnI(p:Pc)(v:List Int)(i:Int)(ls:List (List UInt8))(s:List UInt8):Prop:=(0≤i∧i<p.chunks.length)∧ls++rnL p.ind v (p.chunks.drop i.toNat) s=BF p v
theorem a1y{p:Pc}{v:List Int}(h:pcOk p):rnI p v 0 [] (blk p.ind):=⟨by have:=h.cl;omega,rfl⟩
theorem a1z{p:Pc}{v:List Int}{i:Int}{ls:List (List UInt8)}{s:List UInt8}(hp:pcOk p)(h:rnI p v i ls s):(lnS ls+s.length≤Ci p.chunks+8200)∧ls.length≤80:=by
 have h1:=Oa (v:=v) hp
 rw[←h.2,a1h,List.length_append] at h1
 have h2:=a1x (ind:=p.ind) (v:=v) (l:=p.chunks.drop i.toNat) (s:=s)
 omega
theorem a1A{p:Pc}{v:List Int}{i:Int}{ls:List (List UInt8)}{s:List UInt8}{c:Ch}(h:rnI p v i ls s)(hc:p.chunks[i.toNat]? =some c)(hi:i=(p.chunks.length:Int)-1):ls++[s++c.text]=BF p v:=by
 have h2:=h.2
 rw[Dm hc,List.drop_of_length_le (by omega),rnL] at h2
 exact h2
theorem VL{p:Pc}{v:List Int}{i:Int}{ls:List (List UInt8)}{s:List UInt8}{c:Ch}(h:rnI p v i ls s)(hc:p.chunks[i.toNat]? =some c)(hi:i≠(p.chunks.length:Int)-1):
 rnL p.ind v (p.chunks.drop i.toNat) s=if Ce v c then(s++c.text)::rnL p.ind v (p.chunks.drop (i+1).toNat) (blk (p.ind+c.nest)) else rnL p.ind v (p.chunks.drop (i+1).toNat) (s++c.text++(if c.space then [32] else [])):=by
 rw[Dm hc,BG h.1.1]
 have hl:(i.toNat+1)<p.chunks.length:=by have:=h.1;omega
 rw[List.drop_eq_getElem_cons hl,rnL]
theorem a1B{p:Pc}{v:List Int}{i:Int}{ls:List (List UInt8)}{s:List UInt8}{c:Ch}(h:rnI p v i ls s)(hc:p.chunks[i.toNat]? =some c)(hi:i≠(p.chunks.length:Int)-1)(hs:Ce v c=true):
 rnI p v (i+1) (ls++[s++c.text]) (blk (p.ind+c.nest)):=by
 refine⟨by have:=h.1;omega,?_⟩
 rw[←h.2,VL h hc hi,if_pos hs];simp
theorem a1C{p:Pc}{v:List Int}{i:Int}{ls:List (List UInt8)}{s:List UInt8}{c:Ch}(h:rnI p v i ls s)(hc:p.chunks[i.toNat]? =some c)(hi:i≠(p.chunks.length:Int)-1)(hs:Ce v c=false)(hb:c.space=true):
 rnI p v (i+1) ls (s++c.text++[32]):=by
 refine⟨by have:=h.1;omega,?_⟩
 rw[←h.2,VL h hc hi,if_neg (by simp [hs]),hb];rfl
theorem a1D{p:Pc}{v:List Int}{i:Int}{ls:List (List UInt8)}{s:List UInt8}{c:Ch}(h:rnI p v i ls s)(hc:p.chunks[i.toNat]? =some c)(hi:i≠(p.chunks.length:Int)-1)(hs:Ce v c=false)(hb:c.space=false):
 rnI p v (i+1) ls (s++c.text):=by
 refine⟨by have:=h.1;omega,?_⟩
 rw[←h.2,VL h hc hi,if_neg (by simp [hs]),hb];simp
theorem a1E{p:Pc}{v:List Int}{i:Int}{c:Ch}(h:renP p v)(h0:0≤i∧i<p.chunks.length)(hc:p.chunks[i.toNat]? =some c)(hi:i≠(p.chunks.length:Int)-1):(0≤c.rule∧c.rule<v.length)∧(0≤c.nest∧c.nest≤40):=by
 have:=h.ok.sp i.toNat c hc (by omega)
 rw[h.vl];exact⟨this.1,this.2.2⟩
def snI(p:Pc)(v:List Int)(s:Sn)(i:Int):Prop:=(s.fr≤i∧i≤s.tuu+1)∧((p.chunks.take i.toNat).drop s.fr.toNat).any (Fu p v)=false
theorem b2c{p:Pc}{v:List Int}{s:Sn}(h:s.fr≤s.tuu):snI p v s s.fr:=⟨by omega,by rw[List.drop_of_length_le (by rw[List.length_take];omega)];rfl⟩
theorem b2d{p:Pc}{v:List Int}{s:Sn}{i:Int}{c:Ch}(h0:0≤s.fr)(h:snI p v s i)(hi:i≤s.tuu)(hc:p.chunks[i.toNat]? =some c)(hs:Fu p v c=true):true=snS p v s:=by
 symm
 rw[snS,List.any_eq_true]
 refine⟨c,?_,hs⟩
 have h1:=h.1
 have hlt:=(Cx hc).1
 rw[List.mem_iff_getElem?]
 refine⟨i.toNat-s.fr.toNat,?_⟩
 rw[List.getElem?_drop,List.getElem?_take,if_pos (by omega),show s.fr.toNat+(i.toNat-s.fr.toNat)=i.toNat by omega]
 exact hc
theorem a1F{p:Pc}{v:List Int}{s:Sn}{i:Int}{c:Ch}(h0:0≤s.fr)(h:snI p v s i)(hi:i≤s.tuu)(hc:p.chunks[i.toNat]? =some c)(hs:Fu p v c=false):snI p v s (i+1):=by
 refine⟨by have:=h.1;omega,?_⟩
 have hlt:=(Cx hc).1
 rw[BG (by have:=h.1;omega),Df hc,List.drop_append_of_le_length (by rw[List.length_take];have:=h.1;omega),List.any_append,h.2]
 simp [hs]
theorem b2e{p:Pc}{v:List Int}{s:Sn}{i:Int}(h:snI p v s i)(hi:¬i≤s.tuu):false=snS p v s:=by
 rw[snS,show s.tuu+1=i by have:=h.1;omega];exact h.2.symm
theorem a1G{p:Pc}{v:List Int}{c:Ch}(h:¬c.rule<v.length):Fu p v c=false:=by simp [Fu,h]
theorem VM{p:Pc}{v:List Int}{c:Ch}(h:c.rule<v.length):Fu p v c=Ce v c:=by simp [Fu,h]
theorem a1H{p:Pc}{v:List Int}{i:Int}{c:Ch}{b:Bool}(hc:p.chunks[i.toNat]? =some c)(h:c.rule<v.length)(hs:Ce v (Cz p i)=b):Fu p v c=b:=by
 rw[VM h,←hs,Hx hc]
structure spnP (p:Pc) (v:List Int) (s:Sn):Prop where
 ok:pcOk p
 vl:v.length≤p.rules.length
 sn:0≤s.fr∧s.fr≤s.tuu∧s.tuu<(p.chunks.length:Int)-1
theorem b2f{p:Pc}{v:List Int}{s:Sn}{i:Int}{c:Ch}(h:spnP p v s)(hi:snI p v s i)(hle:i≤s.tuu)(hc:p.chunks[i.toNat]? =some c):0≤c.rule∧0≤i∧i<p.chunks.length:=by
 have h1:=h.sn;have h2:=hi.1
 have:=h.ok.sp i.toNat c hc (by omega)
 exact⟨this.1.1,by omega,by omega⟩
def KH:Sig:= {X:=Pc×List Int×Sn,args:=fun x=>[.agg (pcA false x.1),Ad x.2.1,.agg (snA x.2.2)],pre:=fun x=>spnP x.1 x.2.1 x.2.2,Y:=Unit,post:=fun x y=>True,res:=fun x y=> .bool (snS x.1 x.2.1 x.2.2),outs:=fun x y=>[.top,.top,.top],keep:=false}
def Oh(x:Pc×List Int×Sn):LS:= {ι:=Int,inv:=fun i=>snI x.1 x.2.1 x.2.2 i,regs:=fun i=>[(1,Ad x.2.1),(3,.box 0 (pcA false x.1)),(5,.box 0 (snA x.2.2)),(7,.int .i64 i)],als:=[],meas:=fun i=>(x.2.2.tuu+1-i).toNat}
theorem b2g:Ah G Tryz.prog 241 KH:=
 vcFun_okP [(196,0,Ig)] [] false (fun x=>[(2,Oh x)]) Tryz.func241 rfl (by decide) ⟨a1w,trivial⟩ (fun(x:Pc×List Int×Sn)=>(∀(y:Unit),True→True∧True∧True∧True∧True)∧eA (Oh x) [Ad x.2.1,.box 0 [.int .i64 x.1.ind,AV.sl false 0 2 Ru ruA x.1.rules,AV.sl false 0 5 Ch chA x.1.chunks,AV.sl false 0 3 Sn snA x.1.spans,AV.sl false 0 2 Ti tiA x.1.ties],.box 0 [.int .i64 x.2.2.fr,.int .i64 x.2.2.tuu,.int .i64 x.2.2.cost],.int .i64 x.2.2.fr]∧∀(i:Int),snI x.1 x.2.1 x.2.2 i→Ab (decide (i≤x.2.2.tuu)) (((0:Int)≤i∧i<(↑(List.length x.1.chunks):Int))∧∀(e:Ch),x.1.chunks[Int.toNat i]? =some e→Ab (decide (e.rule<(↑(List.length x.2.1):Int))) (cA Ig [.agg [.int .i64 x.1.ind,AV.sl false 0 2 Ru ruA x.1.rules,AV.sl false 0 5 Ch chA x.1.chunks,AV.sl false 0 3 Sn snA x.1.spans,AV.sl false 0 2 Ti tiA x.1.ties],Ad x.2.1,.int .i64 i] fun x_1 y=>Ab (Ce x_1.2.1 (Cz x_1.1 x_1.2.2)) (rA KH x [.bool true,.top,.top,.top]) (inR IntKind.i64 (i+(1:Int))∧(eN (Oh x) i [Ad x.2.1,.box 0 [.int .i64 x.1.ind,AV.sl false 0 2 Ru ruA x.1.rules,AV.sl false 0 5 Ch chA x.1.chunks,AV.sl false 0 3 Sn snA x.1.spans,AV.sl false 0 2 Ti tiA x.1.ties],.box 0 [.int .i64 x.2.2.fr,.int .i64 x.2.2.tuu,.int .i64 x.2.2.cost],.int .i64 (i+(1:Int))]))) (inR IntKind.i64 (i+(1:Int))∧(eN (Oh x) i [Ad x.2.1,.box 0 [.int .i64 x.1.ind,AV.sl false 0 2 Ru ruA x.1.rules,AV.sl false 0 5 Ch chA x.1.chunks,AV.sl false 0 3 Sn snA x.1.spans,AV.sl false 0 2 Ti tiA x.1.ties],.box 0 [.int .i64 x.2.2.fr,.int .i64 x.2.2.tuu,.int .i64 x.2.2.cost],.int .i64 (i+(1:Int))]))) (rA KH x [.bool false,.top,.top,.top])) (fun x=>by kernel_rfl) fun(x:Pc×List Int×Sn) (hx:spnP x.1 x.2.1 x.2.2)=>(by
 dsimp only[cA,Bl,eA,eN,Oh,Ad,pcA,rA,Bj,KH,Ig,Bm,Bn,Aq,Aw,mvL,lnL,mvE,lnE,mvG,mvH,lnG,lnH,Ba]
 obtain⟨p,v,s⟩:=x;dsimp only at hx ⊢
 have hx:spnP p v s:=hx
 have h1:=hx.ok.cl;have h2:=hx.ok.rl;have h3:=hx.sn;have h4:=hx.vl
 (repeat' first|refine Dp p ?_|(with_reducible first|rfl|exact True.intro|apply AG|apply And.intro|((first|apply Au|apply AE|apply Av|apply AF)<;>intro _))|(apply As<;>intro _)|apply AD|refine Af () ?_ ?_|((first|apply AK|apply AJ|apply AI|apply AH|apply AC|apply AB|apply AA|apply Az|apply Ax)<;>try dsimp only)|apply Af|(refine Prod.forall.2 ?_;intro _;try dsimp only)|(intro _;try dsimp only))
 all_goals first
  |rfl
  |omega
  |exact b2c h3.2.1
  |exact b2e ‹_› ‹_›
  |(have hq:=(show snI _ _ _ _ by assumption).1;(try simp only[Aj]);omega)
  |(have hr:=b2f hx ‹_› ‹_› ‹_›;(try rw[Hx ‹_›]);omega)
  |exact a1F h3.1 ‹_› ‹_› ‹_› (a1G ‹_›)
  |exact b2d h3.1 ‹_› ‹_› ‹_› (a1H ‹_› ‹_› ‹_›)
  |exact a1F h3.1 ‹_› ‹_› ‹_› (a1H ‹_› ‹_› ‹_›)
  |skip)
end Go.My
end
section
namespace Go.Proofs
open Go.Shelf
def Tryz.lays156_ren:Go.Shelf.Ren:=⟨fun|156=>128|165=>166|166=>167|169=>168|240=>197|241=>198|276=>220|277=>221|n=>n,fun|31=>42|9=>9|3=>3|4=>4|0=>0|20=>20|72=>186|76=>189|70=>184|37=>22|75=>188|127=>201|164=>216|5=>5|80=>161|n=>n,fun|n=>n⟩
theorem Tryz.lays156:Go.Proofs.Lays.n156 Tryz.prog Tryz.lays156_ren:= {
 mixed:=by kernel_rfl
 f156:=Tryz.func128.trans (congrArg some (by kernel_rfl))
 f165:=Tryz.func166.trans (congrArg some (by kernel_rfl))
 f166:=Tryz.func167.trans (congrArg some (by kernel_rfl))
 f169:=Tryz.func168.trans (congrArg some (by kernel_rfl))
 f240:=Tryz.func197.trans (congrArg some (by kernel_rfl))
 f241:=Tryz.func198.trans (congrArg some (by kernel_rfl))
 f276:=Tryz.func220.trans (congrArg some (by kernel_rfl))
 f277:=Tryz.func221.trans (congrArg some (by kernel_rfl))
 t0:=Tryz.underlying0
 a0:=Tryz.isAgg0
 z0:=Tryz.sizeOf0
 v0:=Tryz.zeroValue0
 t3:=Tryz.underlying3
 a3:=Tryz.isAgg3
 z3:=Tryz.sizeOf3
 v3:=Tryz.zeroValue3
 t4:=Tryz.underlying4
 a4:=Tryz.isAgg4
 z4:=Tryz.sizeOf4
 v4:=Tryz.zeroValue4
 t9:=Tryz.underlying9
 a9:=Tryz.isAgg9
 z9:=Tryz.sizeOf9
 v9:=Tryz.zeroValue9
 t20:=Tryz.underlying20
 a20:=Tryz.isAgg20
 z20:=Tryz.sizeOf20
 v20:=Tryz.zeroValue20
 t31:=Tryz.underlying42
 a31:=Tryz.isAgg42
 z31:=Tryz.sizeOf42
 v31:=Tryz.zeroValue42
 t37:=Tryz.underlying22
 a37:=Tryz.isAgg22
 z37:=Tryz.sizeOf22
 v37:=Tryz.zeroValue22
 t70:=Tryz.underlying184
 a70:=Tryz.isAgg184
 z70:=Tryz.sizeOf184
 v70:=Tryz.zeroValue184
 t72:=Tryz.underlying186
 a72:=Tryz.isAgg186
 z72:=Tryz.sizeOf186
 v72:=Tryz.zeroValue186
 t75:=Tryz.underlying188
 a75:=Tryz.isAgg188
 z75:=Tryz.sizeOf188
 v75:=Tryz.zeroValue188
 t76:=Tryz.underlying189
 a76:=Tryz.isAgg189
 z76:=Tryz.sizeOf189
 v76:=Tryz.zeroValue189
 t127:=Tryz.underlying201
 a127:=Tryz.isAgg201
 z127:=Tryz.sizeOf201
 v127:=Tryz.zeroValue201
 t164:=Tryz.underlying216
 a164:=Tryz.isAgg216
 z164:=Tryz.sizeOf216
 v164:=Tryz.zeroValue216}
theorem Tryz.Builder_Extra_156:Builder.Extra Tryz.prog Tryz.lays156_ren:= {
 sizeBuilder:=by kernel_rfl
 liesBuilder:=by kernel_rfl
 t5:=Tryz.underlying5
 a5:=Tryz.isAgg5
 z5:=Tryz.sizeOf5
 v5:=Tryz.zeroValue5
 infoByte:=by kernel_rfl
 cellsByte:=by kernel_rfl
 sizeByte:=by kernel_rfl
 neB5:=by decide}
open Go.RowKit in
theorem Tryz.strings_Join_none(a:Option Addr)(c:Nat)(sep:ByteArray)(w:World):
 Calls Tryz.prog 128 #[.slice a 0 c,.string sep] w fun e w'=>e= .returned (.string ⟨#[]⟩)∧w'=w:=Any.strings_Join_none Tryz.lays156 Tryz.Builder_Extra_156 a c sep w
open Go.RowKit in
theorem Tryz.strings_Join(bk o c:Nat)(xs:List ByteArray)(sep:ByteArray)(w:World)(hcells:∀(j:Nat) x,xs[j]? =some x→w.cell? ⟨bk,o+j,none⟩=some (.string x))(hbk:bk<w.heap.size)(hN:xs.length≤140737488355328)(hcap:xs.length≤c)(hlen:(Lib.join (xs.map (·.data.toList)) sep.data.toList).length≤140737488355328):
 Calls Tryz.prog 128 #[.slice (some ⟨bk,o,none⟩) xs.length c,.string sep] w fun e w'=>e= .returned (.string ⟨(Lib.join (xs.map (·.data.toList)) sep.data.toList).toArray⟩)∧Below w.heap.size w w':=Any.strings_Join Tryz.lays156 Tryz.Builder_Extra_156 bk o c xs sep w hcells hbk hN hcap hlen
def Tryz.lays105_ren:Go.Shelf.Ren:=⟨fun|105=>163|212=>192|99=>193|165=>166|166=>167|170=>194|169=>168|263=>212|264=>213|206=>214|240=>197|241=>198|276=>220|277=>221|n=>n,fun|9=>9|3=>3|4=>4|20=>20|0=>0|46=>163|109=>197|5=>5|72=>186|76=>189|51=>207|146=>208|53=>210|148=>211|70=>184|37=>22|75=>188|127=>201|164=>216|80=>161|n=>n,fun|n=>n⟩
theorem Tryz.lays105:Go.Proofs.Lays.n105 Tryz.prog Tryz.lays105_ren:= {
 mixed:=by kernel_rfl
 f99:=Tryz.func193.trans (congrArg some (by kernel_rfl))
 f105:=Tryz.func163.trans (congrArg some (by kernel_rfl))
 f165:=Tryz.func166.trans (congrArg some (by kernel_rfl))
 f166:=Tryz.func167.trans (congrArg some (by kernel_rfl))
 f169:=Tryz.func168.trans (congrArg some (by kernel_rfl))
 f170:=Tryz.func194.trans (congrArg some (by kernel_rfl))
 f206:=Tryz.func214.trans (congrArg some (by kernel_rfl))
 f212:=Tryz.func192.trans (congrArg some (by kernel_rfl))
 f240:=Tryz.func197.trans (congrArg some (by kernel_rfl))
 f241:=Tryz.func198.trans (congrArg some (by kernel_rfl))
 f263:=Tryz.func212.trans (congrArg some (by kernel_rfl))
 f264:=Tryz.func213.trans (congrArg some (by kernel_rfl))
 f276:=Tryz.func220.trans (congrArg some (by kernel_rfl))
 f277:=Tryz.func221.trans (congrArg some (by kernel_rfl))
 t0:=Tryz.underlying0
 a0:=Tryz.isAgg0
 z0:=Tryz.sizeOf0
 v0:=Tryz.zeroValue0
 t3:=Tryz.underlying3
 a3:=Tryz.isAgg3
 z3:=Tryz.sizeOf3
 v3:=Tryz.zeroValue3
 t4:=Tryz.underlying4
 a4:=Tryz.isAgg4
 z4:=Tryz.sizeOf4
 v4:=Tryz.zeroValue4
 t5:=Tryz.underlying5
 a5:=Tryz.isAgg5
 z5:=Tryz.sizeOf5
 v5:=Tryz.zeroValue5
 t9:=Tryz.underlying9
 a9:=Tryz.isAgg9
 z9:=Tryz.sizeOf9
 v9:=Tryz.zeroValue9
 t20:=Tryz.underlying20
 a20:=Tryz.isAgg20
 z20:=Tryz.sizeOf20
 v20:=Tryz.zeroValue20
 t37:=Tryz.underlying22
 a37:=Tryz.isAgg22
 z37:=Tryz.sizeOf22
 v37:=Tryz.zeroValue22
 t46:=Tryz.underlying163
 a46:=Tryz.isAgg163
 z46:=Tryz.sizeOf163
 v46:=Tryz.zeroValue163
 t51:=Tryz.underlying207
 a51:=Tryz.isAgg207
 z51:=Tryz.sizeOf207
 v51:=Tryz.zeroValue207
 t53:=Tryz.underlying210
 a53:=Tryz.isAgg210
 z53:=Tryz.sizeOf210
 v53:=Tryz.zeroValue210
 t70:=Tryz.underlying184
 a70:=Tryz.isAgg184
 z70:=Tryz.sizeOf184
 v70:=Tryz.zeroValue184
 t72:=Tryz.underlying186
 a72:=Tryz.isAgg186
 z72:=Tryz.sizeOf186
 v72:=Tryz.zeroValue186
 t75:=Tryz.underlying188
 a75:=Tryz.isAgg188
 z75:=Tryz.sizeOf188
 v75:=Tryz.zeroValue188
 t76:=Tryz.underlying189
 a76:=Tryz.isAgg189
 z76:=Tryz.sizeOf189
 v76:=Tryz.zeroValue189
 t109:=Tryz.underlying197
 a109:=Tryz.isAgg197
 z109:=Tryz.sizeOf197
 v109:=Tryz.zeroValue197
 t127:=Tryz.underlying201
 a127:=Tryz.isAgg201
 z127:=Tryz.sizeOf201
 v127:=Tryz.zeroValue201
 t146:=Tryz.underlying208
 a146:=Tryz.isAgg208
 z146:=Tryz.sizeOf208
 v146:=Tryz.zeroValue208
 t148:=Tryz.underlying211
 a148:=Tryz.isAgg211
 z148:=Tryz.sizeOf211
 v148:=Tryz.zeroValue211
 t164:=Tryz.underlying216
 a164:=Tryz.isAgg216
 z164:=Tryz.sizeOf216
 v164:=Tryz.zeroValue216}
theorem Tryz.Builder_Extra_105:Builder.Extra Tryz.prog Tryz.lays105_ren:= {
 sizeBuilder:=by kernel_rfl
 liesBuilder:=by kernel_rfl
 t5:=Tryz.underlying5
 a5:=Tryz.isAgg5
 z5:=Tryz.sizeOf5
 v5:=Tryz.zeroValue5
 infoByte:=by kernel_rfl
 cellsByte:=by kernel_rfl
 sizeByte:=by kernel_rfl
 neB5:=by decide}
open Go.RowKit Go.Lib in
theorem Tryz.strings_Repeat(s:ByteArray)(c:Nat)(w:World)(hc:c≤9223372036854775807)(hlen:s.size*c≤140737488355328):
 Calls Tryz.prog 163 #[.string s,.int .i64 c] w fun e w'=>e= .returned (.string ⟨(Lib.repeatL s.data.toList c).toArray⟩)∧Below w.heap.size w w':=Any.strings_Repeat Tryz.lays105 Tryz.Builder_Extra_105 s c w hc hlen
end Go.Proofs
end
