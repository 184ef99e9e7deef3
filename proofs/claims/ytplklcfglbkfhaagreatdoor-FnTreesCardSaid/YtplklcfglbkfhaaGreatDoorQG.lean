/- A part of the proof: the engine and the contracts, joined. -/
import Derived.Test.YtplklcfglbkfhaaGreatDoorQF
section
set_option linter.unusedVariables false
set_option linter.unusedSimpArgs false
namespace Go.My
open Go.Eng Go.Proofs
variable {G:GInv}
def FB(x:Nd):Prop:=x.text.length<2^62∧x.kids.length<2^62
def Bh(l:List Nd):Prop:=l.length<2^62∧∀x∈l,FB x
theorem NU{l:List Nd}{n:Nat}{x:Nd}(hx:l[n]? =some x)(h:Bh l):FB x:=h.2 x (Cv hx)
theorem a1Y{l:List Nd}{k:Int}(h:Bh l):FB (Ai l k):=by
 unfold Ai
 rw[List.getD]
 cases hx:l[k.toNat]? with
 |none=>simp [FB]
 |some x=>exact NU hx h
def Gh(v:Int):List Int→Int→Int
 |[],_=> -1
 |c::l,i=>if v=c then i else Gh v l (i+1)
theorem Vp{v:Int}:∀ {l:List Int} {i:Int},0≤i→(0≤Gh v l i↔v∈l)
 |[],i,h=>by simp [Gh]
 |c::l,i,h=>by
  unfold Gh
  by_cases e:v=c
  ·simp [e,h]
  ·rw[if_neg e,Vp (by omega)];simp [e]
def JB:Sig:= {X:=List Int×Int,args:=fun x=>[AW x.1,.int .i64 x.2],pre:=fun x=>x.1.length<2^62,Y:=Unit,post:=fun x y=>True,res:=fun x y=> .int .i64 (Gh x.2 x.1 0),outs:=fun x y=>[.top,.top],keep:=false}
def NV(x:List Int×Int):LS:= {ι:=Int,inv:=fun i=>(0≤i∧i≤x.1.length)∧Gh x.2 (x.1.drop i.toNat) i=Gh x.2 x.1 0,regs:=fun i=>[(0,AW x.1),(1,.int .i64 x.2),(7,.int .i64 x.1.length),(8,.int .i64 i)],als:=[],meas:=fun i=>x.1.length-i.toNat}
theorem a1Z:Am G Tryz.prog 100 JB:=
 vcFun_okP [] [] false (fun x=>[(2,NV x)]) Tryz.func100 rfl (by decide) trivial (fun(x:List Int×Int)=>(∀(y:Unit),True→True∧True∧True∧True)∧eA (NV x) [AW x.1,.int .i64 x.2,.int .i64 (↑(List.length x.1):Int),.int .i64 (0:Int)]∧∀(i:Int),((0:Int)≤i∧i≤(↑(List.length x.1):Int))∧Gh x.2 (List.drop (Int.toNat i) x.1) i=Gh x.2 x.1 (0:Int)→Aa (decide (i<(↑(List.length x.1):Int))) (((0:Int)≤i∧i<(↑(List.length x.1):Int))∧∀(e:Int),x.1[Int.toNat i]? =some e→Aa (x.2==e) (rA JB x [.int .i64 i,.top,.top]) (inR IntKind.i64 (i+(1:Int))∧eN (NV x) i [AW x.1,.int .i64 x.2,.int .i64 (↑(List.length x.1):Int),.int .i64 (i+(1:Int))])) (rA JB x [.int .i64 (-1:Int),.top,.top])) (fun x=>by kernel_rfl) fun(x:List Int×Int) (hx:x.1.length<2^62)=>(by
 dsimp only[eA,eN,NV,AW,rA,JB,Az,AC,Bt]
 have hx:x.1.length<2^62:=hx
 (repeat' first|(with_reducible first|rfl|exact True.intro|apply AN|apply And.intro|((first|apply AD|apply AL|apply AE|apply AM)<;>intro _))|(apply AA<;>intro _)|apply AK|refine Ae () ?_ ?_|((first|apply AR|apply AQ|apply AP|apply AO|apply AJ|apply AI|apply AH|apply AG|apply AF)<;>try dsimp only)|apply Ae|(refine Prod.forall.2 ?_;intro _;try dsimp only)|(intro _;try dsimp only))<;>(try dsimp only at*)<;>(try simp only[AU,List.length_cons,List.length_nil])<;>(try omega)
 all_goals first
  |(rename_i i hi hl e he h;rw[←hi.2,KF he];simp [Gh,h];done)
  |(rename_i i hi hl e he h;rw[←hi.2,KF he,DF hi.1.1];simp [Gh,h];done)
  |rfl
  |(rename_i i hi hl;rw[←hi.2,List.drop_eq_nil_of_le (by omega)];rfl)
  |skip)
def KU:Sig:= {X:=List Int×Int,args:=fun x=>[AW x.1,.int .i64 x.2],pre:=fun x=>x.1.length<2^62,Y:=Unit,post:=fun x y=>True,res:=fun x y=> .bool (x.1.elem x.2),outs:=fun x y=>[.top,.top],keep:=false}
theorem a2a:Am G Tryz.prog 59 KU:=
 vcFun_okP [(100,0,JB)] [] false (fun x=>[]) Tryz.func59 rfl (by decide) ⟨a1Z,trivial⟩ (fun(x:List Int×Int)=>(∀(y:Unit),True→True∧True∧True∧True)∧cA JB [AW x.1,.int .i64 x.2] fun x_1 y=>rA KU x [.bool (decide (Gh x_1.2 x_1.1 (0:Int)≥(0:Int))),.top,.top]) (fun x=>by kernel_rfl) fun(x:List Int×Int) (hx:x.1.length<2^62)=>(by
 dsimp only[cA,AW,rA,KU,JB,Az,AC,mvL,lnL,mvE,lnE]
 have hx:x.1.length<2^62:=hx
 (repeat' first|(with_reducible first|rfl|exact True.intro|apply AN|apply And.intro|((first|apply AD|apply AL|apply AE|apply AM)<;>intro _))|(apply AA<;>intro _)|apply AK|refine Ae () ?_ ?_|((first|apply AR|apply AQ|apply AP|apply AO|apply AJ|apply AI|apply AH|apply AG|apply AF)<;>try dsimp only)|apply Ae|(refine Prod.forall.2 ?_;intro _;try dsimp only)|(intro _;try dsimp only))<;>(try dsimp only at*)<;>(try simp only[AU,List.length_cons,List.length_nil])<;>(try omega)
 all_goals first|(rw[Bool.eq_iff_iff,decide_eq_true_iff,List.elem_iff];exact Vp (by omega))|skip)
theorem Vq{ns:List Nd}{x:Nd}:Ep ns x=true↔∀(j:Nat) c,x.kids[j]? =some c→Cw ns x j c=true:=by
 have e:Ep ns x=BJ (fun i c=>Cw ns x i.toNat c) x.kids 0:=by
  unfold Ep
  have:(fun p:Int×Nat=>Cw ns x p.2 p.1)=fun p:Int×Nat=>(fun(i c:Int)=>Cw ns x i.toNat c) p.2 p.1:=by funext p;simp
  rw[this];exact RD (f:=fun i c=>Cw ns x i.toNat c) (i:=0)
 rw[e,RE];simp
def cfI(ns:List Nd)(x:Nd)(i:Int):Prop:=0≤i∧i≤x.kids.length∧∀(j:Nat) c,(j:Int)<i→x.kids[j]? =some c→Cw ns x j c=true
theorem a2b{ns:List Nd}{x:Nd}:cfI ns x 0:=⟨by omega,by omega,fun j c h=>by omega⟩
theorem NW{ns:List Nd}{x:Nd}{i c:Int}(h:cfI ns x i)(hc:x.kids[i.toNat]? =some c)(hk:Cw ns x i.toNat c=true):cfI ns x (i+1):=by
 obtain⟨h1,h2,h3⟩:=h
 have:=(EE hc).1
 refine⟨by omega,by omega,fun j d hj hd=> ?_⟩
 by_cases e:(j:Int)<i
 ·exact h3 j d e hd
 ·obtain rfl:j=i.toNat:=by omega
  rw[hc] at hd;cases hd;exact hk
theorem a2c{ns:List Nd}{x:Nd}{i:Int}(h:cfI ns x i)(hl:¬i<x.kids.length):true=Ep ns x:=by
 symm;rw[Vq];intro j c hc
 exact h.2.2 j c (by have:=(EE hc).1;omega) hc
theorem RJ{ns:List Nd}{x:Nd}{i c:Int}(hc:x.kids[i.toNat]? =some c)(hk:Cw ns x i.toNat c=false):false=Ep ns x:=by
 symm;rw[Bool.eq_false_iff];intro h
 rw[Vq.1 h _ _ hc] at hk;cases hk
theorem a2d{ns:List Nd}{x y:Nd}{i c:Int}(hy:ns[c.toNat]? =some y)(h:y.kind≠5):Cw ns x i.toNat c=true:=by
 simp [Cw,Br hy,h]
theorem a2e{ns:List Nd}{x y:Nd}{i c:Int}(hy:ns[c.toNat]? =some y)(h:y.kind=5)(h0:(y.kids.length:Int)=0):Cw ns x i.toNat c=false:=by
 have h0:=List.length_eq_zero_iff.1 (show y.kids.length=0 by omega)
 simp [Cw,Br hy,h,h0]
theorem a2f{ns:List Nd}{x y:Nd}{i c d:Int}(hy:ns[c.toNat]? =some y)(h:y.kind=5)(hd:Bz ns d=false)(h0:y.kids[0]? =some d):Cw ns x i.toNat c=false:=by
 match hk:y.kids with
 |[]=>rw[hk] at h0;cases h0
 |e::t=>rw[hk] at h0;cases h0;simp [Cw,Br hy,h,hk,hd]
theorem a2g{ns:List Nd}{x y z:Nd}{i c d d':Int}(hy:ns[c.toNat]? =some y)(h:y.kind=5)(hd:Bz ns d=true)(h0:y.kids[0]? =some d)(hz:ns[d'.toNat]? =some z)(h0':y.kids[0]? =some d')(h10:x.kind=10)(hi:i>0)(h1:z.kind≠1):Cw ns x i.toNat c=false:=by
 match hk:y.kids with
 |[]=>rw[hk] at h0;cases h0
 |e::t=>rw[hk] at h0 h0';cases h0;cases h0';simp [Cw,Br hy,h,hk,hd,h10,BX,Br hz,h1];omega
theorem a2h{ns:List Nd}{x y z:Nd}{i c d d':Int}(hy:ns[c.toNat]? =some y)(h:y.kind=5)(hd:Bz ns d=true)(h0:y.kids[0]? =some d)(hz:ns[d'.toNat]? =some z)(h0':y.kids[0]? =some d')(h1:z.kind=1):Cw ns x i.toNat c=true:=by
 match hk:y.kids with
 |[]=>rw[hk] at h0;cases h0
 |e::t=>rw[hk] at h0 h0';cases h0;cases h0';simp [Cw,Br hy,h,hk,hd,BX,Br hz,h1]
theorem a2i{ns:List Nd}{x y:Nd}{i c d:Int}(hy:ns[c.toNat]? =some y)(h:y.kind=5)(hd:Bz ns d=true)(h0:y.kids[0]? =some d)(h1:x.kind≠10):Cw ns x i.toNat c=true:=by
 match hk:y.kids with
 |[]=>rw[hk] at h0;cases h0
 |e::t=>rw[hk] at h0;cases h0;simp [Cw,Br hy,h,hk,hd,h1]
theorem a2j{ns:List Nd}{x y:Nd}{i c d:Int}(hy:ns[c.toNat]? =some y)(h:y.kind=5)(hd:Bz ns d=true)(h0:y.kids[0]? =some d)(h1:¬i>0):Cw ns x i.toNat c=true:=by
 have:i.toNat=0:=by omega
 match hk:y.kids with
 |[]=>rw[hk] at h0;cases h0
 |e::t=>rw[hk] at h0;cases h0;simp [Cw,Br hy,h,hk,hd,this]
theorem ndB{ns:List Nd}{l:List Int}{d d':Int}(hd:Bz ns d=true)(h0:l[0]? =some d)(h0':l[0]? =some d'):0≤d'∧d'<ns.length:=by
 rw[h0] at h0';cases h0';exact Dh.1 hd
def GF:Sig:= {X:=List Nd×Nd,args:=fun x=>[nds x.1,.agg (ndA false x.2)],pre:=fun x=>Bh x.1∧FB x.2∧∀c∈x.2.kids,0≤c∧c<x.1.length,Y:=Unit,post:=fun x y=>True,res:=fun x y=> .bool (Ep x.1 x.2),outs:=fun x y=>[.top,.top],keep:=false}
def JC(x:List Nd×Nd):LS:= {ι:=Int,inv:=cfI x.1 x.2,regs:=fun i=>[(0,nds x.1),(3,.box 0 (ndA false x.2)),(9,AW x.2.kids),(10,.int .i64 x.2.kids.length),(11,.int .i64 i)],als:=[],meas:=fun i=>x.2.kids.length-i.toNat}
theorem a2k:Am G Tryz.prog 63 GF:=
 vcFun_okP [(52,0,FA)] [] false (fun x=>[(2,JC x)]) Tryz.func63 rfl (by decide) ⟨RI,trivial⟩ (fun(x:List Nd×Nd)=>(∀(y:Unit),True→True∧True∧True∧True)∧eA (JC x) [nds x.1,.box 0 [.int .i64 x.2.kind,.str x.2.text,AW x.2.kids,.bool x.2.blank],AW x.2.kids,.int .i64 (↑(List.length x.2.kids):Int),.int .i64 (0:Int)]∧∀(i:Int),cfI x.1 x.2 i→Aa (decide (i<(↑(List.length x.2.kids):Int))) (((0:Int)≤i∧i<(↑(List.length x.2.kids):Int))∧∀(e:Int),x.2.kids[Int.toNat i]? =some e→((0:Int)≤e∧e<(↑(List.length x.1):Int))∧∀(e_1:Nd),x.1[Int.toNat e]? =some e_1→Aa (e_1.kind != (5:Int)) (inR IntKind.i64 (i+(1:Int))∧eN (JC x) i [nds x.1,.box 0 [.int .i64 x.2.kind,.str x.2.text,AW x.2.kids,.bool x.2.blank],AW x.2.kids,.int .i64 (↑(List.length x.2.kids):Int),.int .i64 (i+(1:Int))]) (Aa ((↑(List.length e_1.kids):Int)==(0:Int)) (rA GF x [.bool false,.top,.top]) (((0:Int)≤(0:Int)∧(0:Int)<(↑(List.length e_1.kids):Int))∧∀(e:Int),e_1.kids[(0:Nat)]? =some e→cA FA [nds x.1,.int .i64 e] fun x_1 y=>Aa (!Bz x_1.1 x_1.2) (rA GF x [.bool false,.top,.top]) (Aa (x.2.kind==(10:Int)) (Aa (decide (i>(0:Int))) (((0:Int)≤(0:Int)∧(0:Int)<(↑(List.length e_1.kids):Int))∧∀(e:Int),e_1.kids[(0:Nat)]? =some e→((0:Int)≤e∧e<(↑(List.length x.1):Int))∧∀(e_2:Nd),x.1[Int.toNat e]? =some e_2→Aa (e_2.kind != (1:Int)) (rA GF x [.bool false,.top,.top]) (inR IntKind.i64 (i+(1:Int))∧eN (JC x) i [nds x.1,.box 0 [.int .i64 x.2.kind,.str x.2.text,AW x.2.kids,.bool x.2.blank],AW x.2.kids,.int .i64 (↑(List.length x.2.kids):Int),.int .i64 (i+(1:Int))])) (inR IntKind.i64 (i+(1:Int))∧eN (JC x) i [nds x.1,.box 0 [.int .i64 x.2.kind,.str x.2.text,AW x.2.kids,.bool x.2.blank],AW x.2.kids,.int .i64 (↑(List.length x.2.kids):Int),.int .i64 (i+(1:Int))])) (inR IntKind.i64 (i+(1:Int))∧eN (JC x) i [nds x.1,.box 0 [.int .i64 x.2.kind,.str x.2.text,AW x.2.kids,.bool x.2.blank],AW x.2.kids,.int .i64 (↑(List.length x.2.kids):Int),.int .i64 (i+(1:Int))]))))) (rA GF x [.bool true,.top,.top])) (fun x=>by kernel_rfl) fun(x:List Nd×Nd) (hx:Bh x.1∧FB x.2∧∀c∈x.2.kids,0≤c∧c<x.1.length)=>(by
 dsimp only[cA,eA,eN,JC,AW,Bx,nds,rA,GF,FA,Az,AC,mvL,lnL,mvE,lnE,Bt]
 obtain⟨h1,h2,h3⟩:=hx;have hl:=h1.1;have hk:=h2.2
 (repeat' first|(with_reducible first|rfl|exact True.intro|apply AN|apply And.intro|((first|apply AD|apply AL|apply AE|apply AM)<;>intro _))|(apply AA<;>intro _)|apply AK|refine Ae () ?_ ?_|((first|apply AR|apply AQ|apply AP|apply AO|apply AJ|apply AI|apply AH|apply AG|apply AF)<;>try dsimp only)|apply Ae|(refine Prod.forall.2 ?_;intro _;try dsimp only)|(intro _;try dsimp only))
 all_goals first
  |exact a2b
  |exact a2c ‹_› ‹_›
  |exact NW ‹_› ‹_› (a2d ‹_› ‹_›)
  |exact NW ‹_› ‹_› (a2j ‹_› ‹_› ‹_› ‹_› ‹_›)
  |exact NW ‹_› ‹_› (a2i ‹_› ‹_› ‹_› ‹_› ‹_›)
  |exact NW ‹_› ‹_› (a2h ‹_› ‹_› ‹_› ‹_› ‹_› ‹_› ‹_›)
  |exact RJ ‹_› (a2e ‹_› ‹_› ‹_›)
  |exact RJ ‹_› (a2f ‹_› ‹_› ‹_› ‹_›)
  |exact RJ ‹_› (a2g ‹_› ‹_› ‹_› ‹_› ‹_› ‹_› ‹_› ‹_› ‹_›)
  |exact(h3 _ (Cv ‹_›)).1
  |exact(h3 _ (Cv ‹_›)).2
  |exact(ndB ‹_› ‹_› ‹_›).1
  |exact(ndB ‹_› ‹_› ‹_›).2
  |(obtain⟨_,_,_⟩:= ‹cfI _ _ _›;(try simp only[AU] at*);omega)
  |skip)
end Go.My
end
section
set_option linter.unusedVariables false
set_option linter.unusedSimpArgs false
namespace Go.My
open Go.Eng Go.Proofs
variable {G:GInv}
def nkI(k:Int)(l:List Int)(i:Int):Prop:=0≤i∧i≤l.length∧(∀c∈l.take i.toNat,0≤c∧c<k)∧(l.take i.toNat).Nodup
theorem Vr{k:Int}{l:List Int}:nkI k l 0:=⟨by omega,by omega,by simp,by simp⟩
theorem Vs{k:Int}{l:List Int}{i c:Int}(h:nkI k l i)(hc:l[i.toNat]? =some c)(h1:¬c<0)(h2:¬c≥k)(h3:(l.take i.toNat).elem c=false):nkI k l (i+1):=by
 obtain⟨ha,hb,hd,he⟩:=h
 have:=(EE hc).1
 refine⟨by omega,by omega,?_,?_⟩
 ·rw[DF ha,Fv hc];intro d hd'
  rcases List.mem_append.1 hd' with hd'|hd'
  ·exact hd d hd'
  ·simp at hd';subst hd';omega
 ·rw[DF ha,Fv hc,List.nodup_append]
  refine⟨he,by simp,?_⟩
  intro a ha' b hb' hab
  simp at hb';subst hb';subst hab
  simp at h3;exact h3 ha'
theorem Ms{k:Int}{l:List Int}{i:Int}(h:nkI k l i)(hl:¬i<l.length):Dl l k=true∧l.Nodup:=by
 obtain⟨ha,hb,hd,he⟩:=h
 rw[List.take_of_length_le (by omega)] at hd he
 exact⟨by simpa [Dl] using hd,he⟩
theorem a2l{k:Int}{l:List Int}{n:Nat}{c:Int}(hc:l[n]? =some c)(h1:c<0):Dl l k=false:=by
 rw[Bool.eq_false_iff];intro h;simp only[Dl,List.all_eq_true,Bool.and_eq_true,decide_eq_true_eq] at h
 have:=h c (Cv hc);omega
theorem a2m{k:Int}{l:List Int}{n:Nat}{c:Int}(hc:l[n]? =some c)(h1:c≥k):Dl l k=false:=by
 rw[Bool.eq_false_iff];intro h;simp only[Dl,List.all_eq_true,Bool.and_eq_true,decide_eq_true_eq] at h
 have:=h c (Cv hc);omega
theorem Vt{l:List Int}{n:Nat}{c:Int}(hc:l[n]? =some c)(h1:(l.take n).elem c=true):¬l.Nodup:=by
 intro h
 have e:l=l.take n++l.drop n:=(List.take_append_drop n l).symm
 rw[e,KF hc,List.nodup_append] at h
 exact h.2.2 c (by simpa using h1) c (by simp) rfl
theorem Vu{ns:List Nd}{k:Int}(h:Bz ns k=false):false=BG ns k:=by simp [BG,h]
theorem KV{ns:List Nd}{k:Int}{x:Nd}(hx:ns[k.toNat]? =some x)(h:Bz ns k=true):BG ns k=Ha ns k x:=by rw[BG,h,Br hx];rfl
theorem a2n{ns:List Nd}{k:Int}{x:Nd}(hx:ns[k.toNat]? =some x)(h:Bz ns k=true)(h1:(x.kids.length:Int)>12):false=BG ns k:=by
 rw[KV hx h,Ha,decide_eq_false (by omega)];rfl
theorem a2o{ns:List Nd}{k:Int}{x:Nd}(hx:ns[k.toNat]? =some x)(h:Bz ns k=true)(h1:EF x.kind x.text=false):false=BG ns k:=by
 rw[KV hx h,Ha,h1];simp
theorem Vv{ns:List Nd}{k:Int}{x:Nd}(hx:ns[k.toNat]? =some x)(h:Bz ns k=true)(h1:Dl x.kids k=false):false=BG ns k:=by
 rw[KV hx h,Ha,h1];simp
theorem a2p{ns:List Nd}{k:Int}{x:Nd}(hx:ns[k.toNat]? =some x)(h:Bz ns k=true)(h1:¬x.kids.Nodup):false=BG ns k:=by
 rw[KV hx h,Ha,decide_eq_false h1];simp
theorem Vw{ns:List Nd}{k i:Int}{x:Nd}(hx:ns[k.toNat]? =some x)(h:Bz ns k=true)(h1:(x.kids.length:Int)≤12)(h2:EF x.kind x.text=true)(h3:nkI k x.kids i)(hl:¬i<x.kids.length):
 BG ns k=(DG x.kind ((x.kids.take i.toNat).map (BX ns))&&(Ep ns x&&(GA x.kind|| !x.blank))):=by
 obtain⟨ha,hb⟩:=Ms h3 hl
 rw[List.take_of_length_le (by have:=h3.1;omega),KV hx h,Ha,h2,ha,decide_eq_true hb,decide_eq_true (by omega)];simp
theorem RK{k:Int}{l:List Int}{i c n:Int}(h:nkI k l i)(hl:¬i<l.length)(hk:k<n)(hc:c∈l):0≤c∧c<n:=by
 have:=(Ms h hl).1
 simp only[Dl,List.all_eq_true,Bool.and_eq_true,decide_eq_true_eq] at this
 have:=this c hc;omega
theorem a2q{ns:List Nd}{l:List Int}{i c:Int}{y:Nd}(h0:0≤i)(hc:l[i.toNat]? =some c)(hy:ns[c.toNat]? =some y):(l.take i.toNat).map (BX ns)++[y.kind]=(l.take (i+1).toNat).map (BX ns):=by
 rw[DF h0,Fv hc,List.map_append];simp [BX,Br hy]
def NX(x:List Nd×Int):LS:= {
 ι:=Int,inv:=nkI x.2 (Ai x.1 x.2).kids,
 regs:=fun i=>[(0,nds x.1),(1,.int .i64 x.2),(5,.box 0 (ndA false (Ai x.1 x.2))),(6,Ag (((Ai x.1 x.2).kids.take i.toNat).map (BX x.1))),(28,AW (Ai x.1 x.2).kids),(29,.int .i64 (Ai x.1 x.2).kids.length),(30,.int .i64 i)],als:=[],meas:=fun i=>(Ai x.1 x.2).kids.length-i.toNat}
def CO:Sig:= {X:=List Nd×Int,args:=fun x=>[nds x.1,.int .i64 x.2],pre:=fun x=>Bh x.1,Y:=Unit,post:=fun x y=>True,res:=fun x y=> .bool (BG x.1 x.2),outs:=fun x y=>[.top,.top],keep:=false}
theorem Vx:Am G Tryz.prog 14 CO:=
 vcFun_okP [(52,0,FA),(58,0,Db),(59,0,KU),(60,0,Hx),(61,0,Fd),(62,0,BK),(63,0,GF)] [(26,⟨Int,Bi⟩)] false (fun x=>[(8,NX x)]) Tryz.func14 rfl (by decide) ⟨RI,a1x,a2a,Vl,RH,a1X,a2k,trivial⟩ (fun(x:List Nd×Int)=>(∀(y:Unit),True→True∧True∧True∧True)∧cA FA [nds x.1,.int .i64 x.2] fun x_1 y=>Aa (!Bz x_1.1 x_1.2) (rA CO x [.bool false,.top,.top]) (((0:Int)≤x.2∧x.2<(↑(List.length x.1):Int))∧∀(e:Nd),x.1[Int.toNat x.2]? =some e→Aa (decide ((↑(List.length e.kids):Int)>(12:Int))) (rA CO x [.bool false,.top,.top]) (cA Db [.agg [.int .i64 e.kind,.str e.text,AW e.kids,.bool e.blank]] fun x_2 y=>Aa (!EF x_2.kind x_2.text) (rA CO x [.bool false,.top,.top]) (eA (NX x) [nds x.1,.int .i64 x.2,.box 0 [.int .i64 e.kind,.str e.text,AW e.kids,.bool e.blank],.nil,AW e.kids,.int .i64 (↑(List.length e.kids):Int),.int .i64 (0:Int)]∧∀(i:Int),nkI x.2 (Ai x.1 x.2).kids i→Aa (decide (i<(↑(List.length (Ai x.1 x.2).kids):Int))) (((0:Int)≤i∧i<(↑(List.length (Ai x.1 x.2).kids):Int))∧∀(e:Int),(Ai x.1 x.2).kids[Int.toNat i]? =some e→Aa (decide (e<(0:Int))) (rA CO x [.bool false,.top,.top]) (Aa (decide (e≥x.2)) (rA CO x [.bool false,.top,.top]) (((0:Int)≤(0:Int)∧(0:Int)≤i∧i≤(↑(List.length (Ai x.1 x.2).kids):Int))∧cA KU [AW (List.take (Int.toNat i) (Ai x.1 x.2).kids),.int .i64 e] fun x_3 y=>Aa (List.elem x_3.2 x_3.1) (rA CO x [.bool false,.top,.top]) (((0:Int)≤e∧e<(↑(List.length x.1):Int))∧∀(e_1:Nd),x.1[Int.toNat e]? =some e_1→∃(x_4:Int),e_1.kind=x_4∧∃(zs:List Int),Ag [x_4]=Ag zs∧Cd Bi∧Bf (List.length (List.map (BX x.1) (List.take (Int.toNat i) (Ai x.1 x.2).kids))+List.length zs) (8:Nat)∧inR IntKind.i64 (i+(1:Int))∧eN (NX x) i [nds x.1,.int .i64 x.2,.box 0 [.int .i64 (Ai x.1 x.2).kind,.str (Ai x.1 x.2).text,AW (Ai x.1 x.2).kids,.bool (Ai x.1 x.2).blank],Ag (List.map (BX x.1) (List.take (Int.toNat i) (Ai x.1 x.2).kids)++zs),AW (Ai x.1 x.2).kids,.int .i64 (↑(List.length (Ai x.1 x.2).kids):Int),.int .i64 (i+(1:Int))])))) (cA Hx [.int .i64 (Ai x.1 x.2).kind] fun x_3 y=>Aa (Ik x_3) (cA BK [.int .i64 (Ai x.1 x.2).kind,Ag (List.map (BX x.1) (List.take (Int.toNat i) (Ai x.1 x.2).kids))] fun x_4 y=>Aa (DG x_4.1 x_4.2) (cA GF [nds x.1,.agg [.int .i64 (Ai x.1 x.2).kind,.str (Ai x.1 x.2).text,AW (Ai x.1 x.2).kids,.bool (Ai x.1 x.2).blank]] fun x_5 y=>Aa (Ep x_5.1 x_5.2) (rA CO x [.bool true,.top,.top]) (rA CO x [.bool false,.top,.top])) (rA CO x [.bool false,.top,.top])) (cA Fd [.int .i64 (Ai x.1 x.2).kind] fun x_4 y=>Aa (Ef x_4) (cA BK [.int .i64 (Ai x.1 x.2).kind,Ag (List.map (BX x.1) (List.take (Int.toNat i) (Ai x.1 x.2).kids))] fun x_5 y=>Aa (DG x_5.1 x_5.2) (cA GF [nds x.1,.agg [.int .i64 (Ai x.1 x.2).kind,.str (Ai x.1 x.2).text,AW (Ai x.1 x.2).kids,.bool (Ai x.1 x.2).blank]] fun x_6 y=>Aa (Ep x_6.1 x_6.2) (rA CO x [.bool true,.top,.top]) (rA CO x [.bool false,.top,.top])) (rA CO x [.bool false,.top,.top])) (cA BK [.int .i64 (Ai x.1 x.2).kind,Ag (List.map (BX x.1) (List.take (Int.toNat i) (Ai x.1 x.2).kids))] fun x_5 y=>Aa (DG x_5.1 x_5.2) (cA GF [nds x.1,.agg [.int .i64 (Ai x.1 x.2).kind,.str (Ai x.1 x.2).text,AW (Ai x.1 x.2).kids,.bool (Ai x.1 x.2).blank]] fun x_6 y=>Aa (Ep x_6.1 x_6.2) (Aa ((Ai x.1 x.2).kind==(21:Int)) (rA CO x [.bool true,.top,.top]) (rA CO x [.bool !(Ai x.1 x.2).blank,.top,.top])) (rA CO x [.bool false,.top,.top])) (rA CO x [.bool false,.top,.top])))))))) (fun x=>by kernel_rfl) fun(x:List Nd×Int) (hx:Bh x.1)=>(by
 dsimp only[cA,eA,eN,AW,NX,Bx,nds,Ag,rA,GF,KU,CO,Fd,FA,Hx,BK,Db,Az,AC,mvL,lnL,mvE,lnE,Bt]
 have h1:Bh x.1:=hx;have hl:=h1.1
 (repeat' first|(with_reducible first|rfl|exact True.intro|apply AN|apply And.intro|((first|apply AD|apply AL|apply AE|apply AM)<;>intro _))|(apply AA<;>intro _)|apply AK|refine Ae () ?_ ?_|((first|apply AR|apply AQ|apply AP|apply AO|apply AJ|apply AI|apply AH|apply AG|apply AF)<;>try dsimp only)|apply Ae|(refine Prod.forall.2 ?_;intro _;try dsimp only)|(intro _;try dsimp only))
 all_goals try(simp only[Br (show x.1[x.2.toNat]? =some _ by assumption)] at*)
 all_goals first
  |rfl
  |exact Vr
  |exact(h1.2 _ (Cv ‹_›)).1
  |exact(h1.2 _ (Cv ‹_›)).2
  |exact NU ‹_› h1
  |exact(RK ‹_› ‹_› (Dh.1 ‹Bz _ _=true›).2 ‹_›).1
  |exact(RK ‹_› ‹_› (Dh.1 ‹Bz _ _=true›).2 ‹_›).2
  |exact Vu ‹_›
  |exact a2n ‹_› ‹_› ‹_›
  |exact a2o ‹_› ‹_› ‹_›
  |exact Vv ‹_› ‹_› (a2l ‹_› ‹_›)
  |exact Vv ‹_› ‹_› (a2m ‹_› ‹_›)
  |exact a2p ‹_› ‹_› (Vt ‹_› ‹_›)
  |exact Vs ‹_› ‹_› ‹_› ‹_› ‹_›
  |exact a2q (‹nkI _ _ _›.1) ‹_› ‹_›
  |(refine Eq.trans ?_ (Vw (show x.1[x.2.toNat]? =some _ by assumption) ‹_› (by omega) ‹_› ‹_› ‹_›).symm;simp [-List.map_take,GA,Fb, *];done)
  |omega
  |(have:=Dh.1 ‹Bz _ _=true›;omega)
  |(have:=Dh.1 ‹Bz _ _=true›;obtain⟨_,_,_⟩:= ‹nkI _ _ _›;(try simp only[AU,Bf,List.length_take,List.length_map,List.length_append,List.length_cons,List.length_nil] at*);omega)
  |(refine Eq.trans ?_ (Vw (show x.1[x.2.toNat]? =some _ by assumption) ‹_› (by omega) ‹_› ‹_› ‹_›).symm;rw[‹DG _ _=true›,‹Ep _ _=true›];simp [GA, *]))
end Go.My
end
section
set_option linter.unusedVariables false
set_option linter.unusedSimpArgs false
namespace Go.My
open Go.Eng Go.Proofs
variable {G:GInv}
def dl(k i:Int)(ds:List Int):List Int:=ds++List.replicate (k+1-i).toNat 0
def dI(ns:List Nd)(k i:Int)(ds:List Int):Prop:=Bz ns k=true∧0≤i∧i≤k+1∧Cx ns i.toNat=some ds
def dJ(ns:List Nd)(k i:Int)(ds:List Int)(j d:Int):Prop:=dI ns k i ds∧i≤k∧BG ns i=true∧0≤j∧j≤(Ai ns i).kids.length∧0≤d∧d≤14∧mx ds ((Ai ns i).kids.drop j.toNat) d=mx ds (Ai ns i).kids 0
theorem a2r{ns:List Nd}{k:Int}(h:Bz ns k=true):dI ns k 0 []:=⟨h,by omega,by have:=Dh.1 h;omega,rfl⟩
theorem a2s{k:Int}:List.replicate (k+1).toNat 0=dl k 0 []:=by simp [dl]
theorem Vy{ns:List Nd}{k i:Int}{ds:List Int}(h:dI ns k i ds):((dl k i ds).length:Int)=k+1:=by
 obtain⟨h0,h1,h2,h3⟩:=h
 have:=Il h3
 rw[dl,List.length_append,List.length_replicate];omega
theorem a2t{ns:List Nd}{k i:Int}{ds:List Int}(h:dI ns k i ds)(hl:i<k+1)(hn:BG ns i=false):0=BI ns k:=by
 obtain⟨h0,h1,h2,h3⟩:=h
 have:Cx ns (i.toNat+1)=none:=by
  unfold Cx;rw[h3];simp only
  rw[show((i.toNat:Nat):Int)=i by omega,hn];rfl
 unfold BI;rw[if_pos h0,UG this (by omega)]
theorem a2u{ns:List Nd}{k i:Int}{ds:List Int}(h:dI ns k i ds)(hl:i<k+1)(hn:BG ns i=true):dJ ns k i ds 0 0:=
 ⟨h,by omega,hn,by omega,by omega,by omega,by omega,by simp⟩
theorem Vz{ns:List Nd}{k i:Int}{ds:List Int}{j d c:Int}(h:dJ ns k i ds j d)(hc:(Ai ns i).kids[j.toNat]? =some c):0≤c∧c<i:=by
 exact(Im h.2.2.1).2.2.2.1 c (Cv hc)
theorem RL{ns:List Nd}{k i:Int}{ds:List Int}{j d c:Int}(h:dJ ns k i ds j d)(hc:(Ai ns i).kids[j.toNat]? =some c):0≤c∧c<(dl k i ds).length:=by
 have:=Vz h hc;have:=Vy h.1;have:=h.1.2.2;omega
theorem a2v{ns:List Nd}{k i:Int}{ds:List Int}{j d c v:Int}(h:dJ ns k i ds j d)(hc:(Ai ns i).kids[j.toNat]? =some c)(hv:(dl k i ds)[c.toNat]? =some v):ds.getD c.toNat 0=v∧1≤v∧v≤14:=by
 have h1:=Vz h hc
 have h2:=Il h.1.2.2.2
 rw[dl,List.getElem?_append_left (by omega)] at hv
 refine⟨by simp [List.getD,hv],?_⟩
 exact Mn h.1.2.2.2 v (Cv hv)
theorem a2w{ns:List Nd}{k i:Int}{ds:List Int}{j d c v:Int}(h:dJ ns k i ds j d)(hc:(Ai ns i).kids[j.toNat]? =some c)(hv:(dl k i ds)[c.toNat]? =some v):dJ ns k i ds (j+1) (max d v):=by
 obtain⟨hv1,hv2,hv3⟩:=a2v h hc hv
 obtain⟨h1,h2,h3,h4,h5,h6,h7,h8⟩:=h
 have:=(EE hc).1
 refine⟨h1,h2,h3,by omega,by omega,by omega,by omega,?_⟩
 rw[←h8,KF hc,DF h4];simp only[mx,hv1]
theorem VA{ns:List Nd}{k i:Int}{ds:List Int}{j d:Int}(h:dJ ns k i ds j d)(hl:¬j<(Ai ns i).kids.length):d=mx ds (Ai ns i).kids 0:=by
 obtain⟨h1,h2,h3,h4,h5,h6,h7,h8⟩:=h
 rw[List.drop_eq_nil_of_le (by omega)] at h8;exact h8
theorem a2x{ns:List Nd}{k i:Int}{ds:List Int}{j d:Int}(h:dJ ns k i ds j d)(hl:¬j<(Ai ns i).kids.length)(hd:d≥14):0=BI ns k:=by
 have hm:=VA h hl
 obtain⟨⟨ha,hb,he,hf⟩,h2,h3,_⟩:=h
 have e:((i.toNat:Nat):Int)=i:=by omega
 have:Cx ns (i.toNat+1)=none:=by
  unfold Cx;rw[hf];simp only
  rw[e,h3,if_pos rfl,if_pos (by omega)]
 unfold BI;rw[if_pos ha,UG this (by omega)]
theorem a2y{ns:List Nd}{k i:Int}{ds:List Int}{j d:Int}(h:dJ ns k i ds j d)(hl:¬j<(Ai ns i).kids.length)(hd:¬d≥14):dI ns k (i+1) (ds++[d+1]):=by
 have hm:=VA h hl
 obtain⟨⟨ha,hb,he,hf⟩,h2,h3,_⟩:=h
 have e:((i.toNat:Nat):Int)=i:=by omega
 refine⟨ha,by omega,by omega,?_⟩
 rw[DF hb];unfold Cx;rw[hf];simp only
 rw[e,h3,if_pos rfl,if_neg (by omega),←hm]
theorem a2z{ns:List Nd}{k i:Int}{ds:List Int}{j d:Int}(h:dJ ns k i ds j d):(dl k i ds).set i.toNat (d+1)=dl k (i+1) (ds++[d+1]):=by
 obtain⟨⟨ha,hb,he,hf⟩,h2,h3,_⟩:=h
 have hl:=Il hf
 have e:(k+1-i).toNat=(k+1-(i+1)).toNat+1:=by omega
 unfold dl;rw[List.set_append_right _ _ (by omega),e,hl];simp [List.replicate_succ]
theorem a2A{ns:List Nd}{k i v:Int}{ds:List Int}(h:dI ns k i ds)(hl:¬i<k+1)(hv:(dl k i ds)[k.toNat]? =some v):v=BI ns k:=by
 obtain⟨h0,h1,h2,h3⟩:=h
 obtain rfl:i=k+1:=by omega
 have:=Dh.1 h0
 rw[show(k+1).toNat=k.toNat+1 by omega] at h3
 unfold BI;rw[if_pos h0,h3]
 simp [dl] at hv
 simp [List.getD,hv]
theorem VB{ns:List Nd}{k:Int}(h:Bz ns k=false):0=BI ns k:=by simp [BI,h]
theorem a2B{ns:List Nd}{k i:Int}{ds:List Int}{j d:Int}(h:dJ ns k i ds j d):((Ai ns i).kids.length:Int)≤12:=by
 have:=(Im h.2.2.1).2.1;omega
def NY(x:List Nd×Int)(o:Int×List Int):LS:= {
 ι:=Int×Int,inv:=fun i=>dJ x.1 x.2 o.1 o.2 i.1 i.2,
 regs:=fun i=>[(0,nds x.1),(1,.int .i64 x.2),(5,Ag (dl x.2 o.1 o.2)),(18,.int .i64 (x.2+1)),(19,.int .i64 o.1),(6,.int .i64 o.1),(7,.int .i64 i.2),(30,AW (Ai x.1 o.1).kids),(31,.int .i64 (Ai x.1 o.1).kids.length),(32,.int .i64 i.1)],als:=[],meas:=fun i=>(Ai x.1 o.1).kids.length-i.1.toNat}
def NZ(x:List Nd×Int):LS:= {
 ι:=Int×List Int,inv:=fun i=>dI x.1 x.2 i.1 i.2,
 regs:=fun i=>[(0,nds x.1),(1,.int .i64 x.2),(5,Ag (dl x.2 i.1 i.2)),(18,.int .i64 (x.2+1)),(19,.int .i64 i.1)],als:=[],meas:=fun i=>x.2.toNat+1-i.1.toNat,
 sub:=fun i=>[(11,NY x i)]}
def Fe:Sig:= {X:=List Nd×Int,args:=fun x=>[nds x.1,.int .i64 x.2],pre:=fun x=>Bh x.1∧x.1.length≤2^30,Y:=Unit,post:=fun x y=>True,res:=fun x y=> .int .i64 (BI x.1 x.2),outs:=fun x y=>[.top,.top],keep:=false}
theorem VC:Am G Tryz.prog 9 Fe:=
 vcFun_okP [(52,0,FA),(14,0,CO)] [(26,⟨Int,Bi⟩)] false (fun x=>[(5,NZ x)]) Tryz.func9 rfl (by decide) ⟨RI,Vx,trivial⟩ (fun(x:List Nd×Int)=>(∀(y:Unit),True→True∧True∧True∧True)∧cA FA [nds x.1,.int .i64 x.2] fun x_1 y=>Aa (!Bz x_1.1 x_1.2) (rA Fe x [.int .i64 (0:Int),.top,.top]) (inR IntKind.i64 (x.2+(1:Int))∧((0:Int)≤x.2+(1:Int)∧x.2+(1:Int)≤x.2+(1:Int)∧(↑(8:Nat):Int)*(x.2+(1:Int))≤(2:Int)^(46:Nat)∧x.2+(1:Int)≤(2:Int)^(46:Nat))∧∃(x_2:Int),(0:Int)=x_2∧eA (NZ x) [nds x.1,.int .i64 x.2,Ag (List.replicate (Int.toNat (x.2+(1:Int))) x_2),.int .i64 (↑(List.length (List.replicate (Int.toNat (x.2+(1:Int))) x_2)):Int),.int .i64 (0:Int)]∧∀(i:Int×List Int),dI x.1 x.2 i.1 i.2→Aa (decide (i.1<x.2+(1:Int))) (cA CO [nds x.1,.int .i64 i.1] fun x_3 y=>Aa (!BG x_3.1 x_3.2) (rA Fe x [.int .i64 (0:Int),.top,.top]) (((0:Int)≤i.1∧i.1<(↑(List.length x.1):Int))∧∀(e:Nd),x.1[Int.toNat i.1]? =some e→eA (NY x i) [nds x.1,.int .i64 x.2,Ag (dl x.2 i.1 i.2),.int .i64 (x.2+(1:Int)),.int .i64 i.1,.int .i64 i.1,.int .i64 (0:Int),AW e.kids,.int .i64 (↑(List.length e.kids):Int),.int .i64 (0:Int)]∧∀(i_1:Int×Int),dJ x.1 x.2 i.1 i.2 i_1.1 i_1.2→Aa (decide (i_1.1<(↑(List.length (Ai x.1 i.1).kids):Int))) (((0:Int)≤i_1.1∧i_1.1<(↑(List.length (Ai x.1 i.1).kids):Int))∧∀(e:Int),(Ai x.1 i.1).kids[Int.toNat i_1.1]? =some e→((0:Int)≤e∧e<(↑(List.length (dl x.2 i.1 i.2)):Int))∧Int.toNat e<List.length (dl x.2 i.1 i.2)∧∀(x_4:Int),(dl x.2 i.1 i.2)[Int.toNat e]? =some x_4→inR IntKind.i64 (i_1.1+(1:Int))∧eN (NY x i) i_1 [nds x.1,.int .i64 x.2,Ag (dl x.2 i.1 i.2),.int .i64 (x.2+(1:Int)),.int .i64 i.1,.int .i64 i.1,.int .i64 (max i_1.2 x_4),AW (Ai x.1 i.1).kids,.int .i64 (↑(List.length (Ai x.1 i.1).kids):Int),.int .i64 (i_1.1+(1:Int))]) (Aa (decide (i_1.2≥(14:Int))) (rA Fe x [.int .i64 (0:Int),.top,.top]) (inR IntKind.i64 (i_1.2+(1:Int))∧((0:Int)≤i.1∧i.1<(↑(List.length (dl x.2 i.1 i.2)):Int))∧Int.toNat i.1<List.length (dl x.2 i.1 i.2)∧∀(x_4:Int),(dl x.2 i.1 i.2)[Int.toNat i.1]? =some x_4→∃(x':Int),((@List.nil AV)=[]∧(@List.nil AV)=[])∧i_1.2+(1:Int)=x'∧inR IntKind.i64 (i.1+(1:Int))∧eN (NZ x) i [nds x.1,.int .i64 x.2,Ag (List.set (dl x.2 i.1 i.2) (Int.toNat i.1) x'),.int .i64 (x.2+(1:Int)),.int .i64 (i.1+(1:Int))])))) (((0:Int)≤x.2∧x.2<(↑(List.length (dl x.2 i.1 i.2)):Int))∧Int.toNat x.2<List.length (dl x.2 i.1 i.2)∧∀(x_3:Int),(dl x.2 i.1 i.2)[Int.toNat x.2]? =some x_3→rA Fe x [.int .i64 x_3,.top,.top]))) (fun x=>by kernel_rfl) fun(x:List Nd×Int) (hx:Bh x.1∧x.1.length≤2^30)=>(by
 dsimp only[cA,eA,eN,AW,NZ,NY,Bx,nds,Ag,rA,Fe,CO,FA,Az,AC,mvL,lnL,mvE,lnE,Bt]
 obtain⟨h1,h2⟩:=hx;have hl:=h1.1
 (repeat' first|(with_reducible first|rfl|exact True.intro|apply AN|apply And.intro|((first|apply AD|apply AL|apply AE|apply AM)<;>intro _))|(apply AA<;>intro _)|apply AK|refine Ae () ?_ ?_|((first|apply AR|apply AQ|apply AP|apply AO|apply AJ|apply AI|apply AH|apply AG|apply AF)<;>try dsimp only)|apply Ae|(refine Prod.forall.2 ?_;intro _;try dsimp only)|(intro _;try dsimp only))
 all_goals try(have nd0:=Dh.1 (show Bz x.1 x.2=true by assumption))
 all_goals first
  |rfl
  |exact VB ‹_›
  |exact a2r ‹_›
  |exact a2s
  |exact a2t ‹_› ‹_› ‹_›
  |exact a2u ‹_› ‹_› ‹_›
  |exact(RL ‹_› ‹_›).1
  |exact(RL ‹_› ‹_›).2
  |exact a2w ‹_› ‹_› ‹_›
  |exact a2x ‹_› ‹_› ‹_›
  |exact a2y ‹_› ‹_› ‹_›
  |exact a2z ‹_›
  |exact a2A ‹_› ‹_› ‹_›
  |(rw[Br ‹_›];done)
  |(rw[List.length_replicate];omega)
  |(have:=a2B ‹_›;obtain⟨⟨_,_,_,_⟩,_,_,_,_,_,_,_⟩:= ‹dJ _ _ _ _ _ _›;(try simp only[AU,Bf] at*);omega)
  |(have:=Vy ‹_›;obtain⟨_,_,_,_⟩:= ‹dI _ _ _ _›;(try simp only[AU,Bf] at*);omega)
  |(have:=RL ‹_› ‹_›;omega)
  |((try simp only[AU,Bf] at*);omega)
  |skip)
end Go.My
end
section
set_option linter.unusedVariables false
set_option linter.unusedSimpArgs false
namespace Go.My
open Go.Eng Go.Proofs
variable {G:GInv}
def cnt(n:Nat)(l:List Int):List Int:=(List.range n).map fun(c:Nat)=>(l.count (c:Int):Int)
theorem FC{n:Nat}{l:List Int}:(cnt n l).length=n:=by simp [cnt]
theorem JD{n:Nat}{l:List Int}{c:Nat}(h:c<n):(cnt n l)[c]? =some (l.count (c:Int):Int):=by
 simp [cnt,List.getElem?_map,List.getElem?_range,h]
theorem VD{n:Nat}:List.replicate n 0=cnt n []:=by
 apply List.ext_getElem?
 intro c
 by_cases h:c<n
 ·rw[JD h];simp [h]
 ·rw[List.getElem?_eq_none (by simp;omega),List.getElem?_eq_none (by simp [cnt];omega)]
theorem VE{n:Nat}{l:List Int}{c v:Int}(h0:0≤c)(h1:c<n)(hv:(cnt n l)[c.toNat]? =some v):(cnt n l).set c.toNat (v+1)=cnt n (l++[c]):=by
 apply List.ext_getElem?
 intro d
 rw[List.getElem?_set]
 by_cases hd:d<n
 ·rw[JD hd,JD hd,List.count_append]
  rw[JD (by omega)] at hv
  by_cases e:c.toNat=d
  ·subst e
   rw[if_pos rfl,if_pos (by rw[FC];omega)]
   have e2:((c.toNat:Nat):Int)=c:=by omega
   rw[e2] at hv ⊢
   simp at hv ⊢;omega
  ·rw[if_neg e]
   have:¬c=(d:Int):=by omega
   simp [List.count_cons,this]
 ·rw[if_neg (by omega),List.getElem?_eq_none (by rw[FC];omega),List.getElem?_eq_none (by rw[FC];omega)]
def tk(ns:List Nd)(i j:Int):List Int:=BZ (ns.take i.toNat)++(Ai ns i).kids.take j.toNat
def tI(ns:List Nd):Prop:=1≤ns.length∧ns.length≤300∧BX ns (ns.length-1)=22∧BI ns (ns.length-1)≠0
theorem a2C{ns:List Nd}{n:Nat}{y:Nd}(h:tI ns)(hy:ns[n]? =some y):BG ns n=true:=by
 exact(Mo h.2.2.2).2.2 n (by have:=(EE hy).1;omega)
theorem Mt{ns:List Nd}{n:Nat}{y:Nd}(h:tI ns)(hy:ns[n]? =some y):y.kids.length≤12∧∀c∈y.kids,0≤c∧c<ns.length:=by
 obtain⟨h1,h2,h3,h4,h5⟩:=Im (a2C h hy)
 rw[Br (by simpa using hy)] at h2 h4
 exact⟨h2,fun c hc=>by have:=h4 c hc;omega⟩
theorem a2D{l:List Nd}(h:∀y∈l,y.kids.length≤12):(BZ l).length≤12*l.length:=by
 induction l with
 |nil=>simp [BZ]
 |cons y l ih=>
  have h1:=h y (by simp)
  have h2:=ih fun z hz=>h z (by simp [hz])
  simp only[BZ,List.flatMap_cons,List.length_append,List.length_cons] at h2 ⊢;omega
theorem a2E{ns:List Nd}{i j:Int}(h:tI ns):(BZ (ns.take i.toNat)).length≤3600:=by
 have h1:∀y∈ns.take i.toNat,y.kids.length≤12:=by
  intro y hy
  obtain⟨n,hn⟩:=List.mem_iff_getElem?.1 (List.mem_of_mem_take hy)
  exact(Mt h hn).1
 have:=a2D h1
 have h2:(ns.take i.toNat).length≤300:=by have:=h.2.1;simp;omega
 omega
theorem a2F{n:Nat}{l:List Int}{c:Nat}{v:Int}(hv:(cnt n l)[c]? =some v):0≤v∧v≤l.length:=by
 have h:c<n:=by have:=(EE hv).1;rwa [FC] at this
 rw[JD h] at hv;cases hv
 have:=List.count_le_length (a:=(c:Int)) (l:=l)
 omega
theorem VF{ns:List Nd}{i:Int}:tk ns i 0=BZ (ns.take i.toNat):=by simp [tk]
theorem VG{ns:List Nd}{i j c:Int}(h0:0≤j)(hc:(Ai ns i).kids[j.toNat]? =some c):tk ns i (j+1)=tk ns i j++[c]:=by
 rw[tk,DF h0,Fv hc,tk,List.append_assoc]
theorem VH{ns:List Nd}{i j:Int}{y:Nd}(h0:0≤i)(hy:ns[i.toNat]? =some y)(hl:¬j<(Ai ns i).kids.length):tk ns i j=BZ (ns.take (i+1).toNat):=by
 rw[tk,List.take_of_length_le (l:=(Ai ns i).kids) (by omega),DF h0,Fv hy,Br hy];simp [BZ]
def tE(ns:List Nd)(i:Int):Prop:=0≤i∧i≤ns.length-1∧∀c:Nat,(c:Int)<i→(BZ ns).count (c:Int)=1
theorem VI{ns:List Nd}{i v:Int}(hv:(((cnt ns.length (BZ ns)).take (ns.length-1:Int).toNat)[i.toNat]?)=some v)(h0:0≤i)(hl:i<(ns.length-1:Int)):((BZ ns).count i:Int)=v:=by
 rw[List.getElem?_take_of_lt (by omega),JD (by omega)] at hv
 have e2:((i.toNat:Nat):Int)=i:=by omega
 rw[e2] at hv;exact Option.some.inj hv
theorem VJ{ns:List Nd}{i:Int}(h:tI ns)(he:tE ns i)(hl:¬i<(ns.length-1:Int)):true=BD ns:=by
 symm;unfold BD
 have h1:decide (1≤ns.length)=true:=decide_eq_true h.1
 have h2:decide (ns.length≤300)=true:=decide_eq_true h.2.1
 have h3:decide (BX ns (ns.length-1)=22)=true:=decide_eq_true h.2.2.1
 have h4:decide (BI ns (ns.length-1)=0)=false:=decide_eq_false h.2.2.2
 rw[h1,h2,h3,h4]
 simp only[Bool.and_true,Bool.not_false,Bool.true_and,List.all_eq_true,decide_eq_true_eq,List.mem_range]
 exact fun c hc=>he.2.2 c (by omega)
theorem VK{ns:List Nd}{i v:Int}(hv:(BZ ns).count i=v)(h0:0≤i)(hl:i<(ns.length-1:Int))(hne:v≠1):false=BD ns:=by
 symm;rw[Bool.eq_false_iff];intro h
 unfold BD at h
 simp only[Bool.and_eq_true,List.all_eq_true,decide_eq_true_eq,List.mem_range] at h
 have:=h.2.2.2 i.toNat (by omega)
 have e2:((i.toNat:Nat):Int)=i:=by omega
 rw[e2] at this;omega
theorem KW{ns:List Nd}(h:¬tI ns):false=BD ns:=by
 symm;rw[Bool.eq_false_iff];intro hh
 unfold BD at hh
 simp only[Bool.and_eq_true,decide_eq_true_eq,Bool.not_eq_true',decide_eq_false_iff_not] at hh
 exact h ⟨hh.1.1,hh.1.2,hh.2.1,hh.2.2.1⟩
theorem Mu{ns:List Nd}{i j c:Int}{y:Nd}(h:tI ns)(hc:(Ai ns i).kids[j.toNat]? =some c)(hy:ns[i.toNat]? =some y):0≤c∧c<ns.length:=by
 rw[Br hy] at hc;exact(Mt h hy).2 c (Cv hc)
theorem VL{ns:List Nd}{i:Int}{y:Nd}(h:tI ns)(hy:ns[i.toNat]? =some y):(Ai ns i).kids.length≤12:=by
 rw[Br hy];exact(Mt h hy).1
theorem a2G{ns:List Nd}{i j:Int}{y:Nd}(h:tI ns)(hy:ns[i.toNat]? =some y):(tk ns i j).length≤3612:=by
 have h1:= @a2E ns i j h;have h2:=VL h hy
 rw[tk,List.length_append,List.length_take];omega
theorem VM{ns:List Nd}{i j v:Int}{c:Nat}{y:Nd}(h:tI ns)(hv:(cnt ns.length (tk ns i j))[c]? =some v)(hy:ns[i.toNat]? =some y):0≤v∧v≤3612:=by
 have h1:=a2F hv;have h2:= @a2G ns i j y h hy;omega
theorem KX{x a b:Int}:inn x a b=true↔a≤x∧x≤b:=by simp [inn]
theorem VN{ns:List Nd}{y:Nd}(h:inn ns.length 1 300=true)(hy:ns[(ns.length-1:Int).toNat]? =some y)(hk:y.kind=22)(hd:BI ns (ns.length-1)≠0):tI ns:=by
 have:=KX.1 h
 exact⟨by omega,by omega,by rw[BX,Br hy,hk],hd⟩
theorem VO{ns:List Nd}(h:inn ns.length 1 300=false):¬tI ns:=by
 intro hh;have:inn ns.length 1 300=true:=KX.2 ⟨by have:=hh.1;omega,by have:=hh.2.1;omega⟩
 rw[h] at this;cases this
theorem VP{ns:List Nd}{y:Nd}(hy:ns[(ns.length-1:Int).toNat]? =some y)(hk:y.kind≠22):¬tI ns:=by
 intro hh;have:=hh.2.2.1;rw[BX,Br hy] at this;exact hk this
theorem VQ{ns:List Nd}{i:Int}(hl:¬i<ns.length):BZ (ns.take i.toNat)=BZ ns:=by rw[List.take_of_length_le (by omega)]
theorem a2H{ns:List Nd}{i v:Int}(h:tE ns i)(hl:i<(ns.length-1:Int))(hv:(((cnt ns.length (BZ ns)).take (ns.length-1:Int).toNat)[i.toNat]?)=some v)(h1:v=1):tE ns (i+1):=by
 have:=VI hv h.1 hl
 refine⟨by have:=h.1;omega,by omega,fun c hc=> ?_⟩
 by_cases e:(c:Int)<i
 ·exact h.2.2 c e
 ·have:=h.1
  obtain rfl:i=(c:Int):=by omega
  omega
def Oa(x:List Nd)(o:Int):LS:= {
 ι:=Int,inv:=fun j=>0≤j∧j≤(Ai x o).kids.length,
 regs:=fun j=>[(0,nds x),(3,.int .i64 x.length),(4,Ag (cnt x.length (tk x o j))),(34,nds x),(35,.int .i64 x.length),(36,.int .i64 o),(41,AW (Ai x o).kids),(42,.int .i64 (Ai x o).kids.length),(43,.int .i64 j)],als:=[],meas:=fun j=>(Ai x o).kids.length-j.toNat}
def Ob(x:List Nd):LS:= {
 ι:=Int,inv:=fun i=>0≤i∧i≤x.length,
 regs:=fun i=>[(0,nds x),(3,.int .i64 x.length),(4,Ag (cnt x.length (BZ (x.take i.toNat)))),(34,nds x),(35,.int .i64 x.length),(36,.int .i64 i)],als:=[],meas:=fun i=>x.length-i.toNat,
 sub:=fun i=>[(9,Oa x i)]}
def Oc(x:List Nd):LS:= {
 ι:=Int,inv:=tE x,
 regs:=fun i=>[(58,Ag ((cnt x.length (BZ x)).take (x.length-1:Int).toNat)),(59,.int .i64 (x.length-1)),(60,.int .i64 i)],als:=[],meas:=fun i=>x.length-1-i.toNat}
def GG:Sig:= {X:=List Nd,args:=fun x=>[nds x],pre:=fun x=>Bh x∧x.length≤2^30,Y:=Unit,post:=fun x y=>True,res:=fun x y=> .bool (BD x),outs:=fun x y=>[.top],keep:=false}
theorem a2I:Am G Tryz.prog 13 GG:=
 vcFun_okP [(57,0,Er),(9,0,Fe)] [(26,⟨Int,Bi⟩)] false (fun x=>[(6,Ob x),(15,Oc x)]) Tryz.func13 rfl (by decide) ⟨NK,VC,trivial⟩ (fun(x:List Nd)=>(∀(y:Unit),True→True∧True∧True)∧cA Er [.int .i64 (↑(List.length x):Int),.int .i64 (1:Int),.int .i64 (300:Int)] fun x_1 y=>Aa (!inn x_1.1 x_1.2.1 x_1.2.2) (rA GG x [.bool false,.top]) (inR IntKind.i64 ((↑(List.length x):Int)-(1:Int))∧((0:Int)≤(↑(List.length x):Int)-(1:Int)∧(↑(List.length x):Int)-(1:Int)<(↑(List.length x):Int))∧∀(e:Nd),x[Int.toNat ((↑(List.length x):Int)-(1:Int))]? =some e→Aa (e.kind != (22:Int)) (rA GG x [.bool false,.top]) (inR IntKind.i64 ((↑(List.length x):Int)-(1:Int))∧cA Fe [nds x,.int .i64 ((↑(List.length x):Int)-(1:Int))] fun x_2 y=>Aa (BI x_2.1 x_2.2==(0:Int)) (rA GG x [.bool false,.top]) (((0:Int)≤(↑(List.length x):Int)∧(↑(List.length x):Int)≤(↑(List.length x):Int)∧(↑(8:Nat):Int)*(↑(List.length x):Int)≤(2:Int)^(46:Nat)∧(↑(List.length x):Int)≤(2:Int)^(46:Nat))∧∃(x_3:Int),(0:Int)=x_3∧eA (Ob x) [nds x,.int .i64 (↑(List.length x):Int),Ag (List.replicate (Int.toNat (↑(List.length x):Int)) x_3),nds x,.int .i64 (↑(List.length x):Int),.int .i64 (0:Int)]∧∀(i:Int),(0:Int)≤i∧i≤(↑(List.length x):Int)→Aa (decide (i<(↑(List.length x):Int))) (((0:Int)≤i∧i<(↑(List.length x):Int))∧∀(e:Nd),x[Int.toNat i]? =some e→eA (Oa x i) [nds x,.int .i64 (↑(List.length x):Int),Ag (cnt (List.length x) (BZ (List.take (Int.toNat i) x))),nds x,.int .i64 (↑(List.length x):Int),.int .i64 i,AW e.kids,.int .i64 (↑(List.length e.kids):Int),.int .i64 (0:Int)]∧∀(i_1:Int),(0:Int)≤i_1∧i_1≤(↑(List.length (Ai x i).kids):Int)→Aa (decide (i_1<(↑(List.length (Ai x i).kids):Int))) (((0:Int)≤i_1∧i_1<(↑(List.length (Ai x i).kids):Int))∧∀(e:Int),(Ai x i).kids[Int.toNat i_1]? =some e→((0:Int)≤e∧e<(↑(List.length (cnt (List.length x) (tk x i i_1))):Int))∧Int.toNat e<List.length (cnt (List.length x) (tk x i i_1))∧∀(x_4:Int),(cnt (List.length x) (tk x i i_1))[Int.toNat e]? =some x_4→inR IntKind.i64 (x_4+(1:Int))∧((0:Int)≤e∧e<(↑(List.length (cnt (List.length x) (tk x i i_1))):Int))∧Int.toNat e<List.length (cnt (List.length x) (tk x i i_1))∧∀(x_5:Int),(cnt (List.length x) (tk x i i_1))[Int.toNat e]? =some x_5→∃(x':Int),((@List.nil AV)=[]∧(@List.nil AV)=[])∧x_4+(1:Int)=x'∧inR IntKind.i64 (i_1+(1:Int))∧eN (Oa x i) i_1 [nds x,.int .i64 (↑(List.length x):Int),Ag (List.set (cnt (List.length x) (tk x i i_1)) (Int.toNat e) x'),nds x,.int .i64 (↑(List.length x):Int),.int .i64 i,AW (Ai x i).kids,.int .i64 (↑(List.length (Ai x i).kids):Int),.int .i64 (i_1+(1:Int))]) (inR IntKind.i64 (i+(1:Int))∧eN (Ob x) i [nds x,.int .i64 (↑(List.length x):Int),Ag (cnt (List.length x) (tk x i i_1)),nds x,.int .i64 (↑(List.length x):Int),.int .i64 (i+(1:Int))])) (inR IntKind.i64 ((↑(List.length x):Int)-(1:Int))∧((0:Int)≤(0:Int)∧(0:Int)≤(↑(List.length x):Int)-(1:Int)∧(↑(List.length x):Int)-(1:Int)≤(↑(List.length (cnt (List.length x) (BZ (List.take (Int.toNat i) x)))):Int))∧eA (Oc x) [Ag (List.take (Int.toNat ((↑(List.length x):Int)-(1:Int))) (cnt (List.length x) (BZ (List.take (Int.toNat i) x)))),.int .i64 (↑(List.length (List.take (Int.toNat ((↑(List.length x):Int)-(1:Int))) (cnt (List.length x) (BZ (List.take (Int.toNat i) x))))):Int),.int .i64 (0:Int)]∧∀(i:Int),tE x i→Aa (decide (i<(↑(List.length x):Int)-(1:Int))) (((0:Int)≤i∧i<(↑(List.length (List.take (Int.toNat ((↑(List.length x):Int)-(1:Int))) (cnt (List.length x) (BZ x)))):Int))∧Int.toNat i<List.length (List.take (Int.toNat ((↑(List.length x):Int)-(1:Int))) (cnt (List.length x) (BZ x)))∧∀(x_4:Int),(List.take (Int.toNat ((↑(List.length x):Int)-(1:Int))) (cnt (List.length x) (BZ x)))[Int.toNat i]? =some x_4→Aa (x_4 != (1:Int)) (rA GG x [.bool false,.top]) (inR IntKind.i64 (i+(1:Int))∧eN (Oc x) i [Ag (List.take (Int.toNat ((↑(List.length x):Int)-(1:Int))) (cnt (List.length x) (BZ x))),.int .i64 ((↑(List.length x):Int)-(1:Int)),.int .i64 (i+(1:Int))])) (rA GG x [.bool true,.top])))))) (fun x=>by kernel_rfl) fun(x:List Nd) (hx:Bh x∧x.length≤2^30)=>(by
 dsimp only[cA,eA,eN,AW,Ob,Oa,Oc,Bx,nds,Ag,rA,Fe,GG,Er,Az,AC,mvL,lnL,mvE,lnE,Bt]
 obtain⟨h1,h2⟩:=hx;have hl:=h1.1
 (repeat' first|(with_reducible first|rfl|exact True.intro|apply AN|apply And.intro|((first|apply AD|apply AL|apply AE|apply AM)<;>intro _))|(apply AA<;>intro _)|apply AK|refine Ae () ?_ ?_|((first|apply AR|apply AQ|apply AP|apply AO|apply AJ|apply AI|apply AH|apply AG|apply AF)<;>try dsimp only)|apply Ae|(refine Prod.forall.2 ?_;intro _;try dsimp only)|(intro _;try dsimp only))
 all_goals try(have t1:=KX.1 (show inn x.length 1 300=true by assumption))
 all_goals try(have t0:=VN ‹_› ‹_› ‹_› ‹_›)
 all_goals first
  |rfl
  |exact KW (VO ‹_›)
  |exact KW (VP ‹_› ‹_›)
  |exact KW (fun h=>h.2.2.2 ‹_›)
  |exact VD
  |(rw[VF];done)
  |(rw[Br ‹_›];done)
  |exact(Mu ‹_› ‹_› ‹_›).1
  |(rw[FC];exact(Mu ‹_› ‹_› ‹_›).2)
  |(have:=Mu ‹_› (show(Ai x _).kids[_]? =some _ by assumption) ‹_›;rw[FC];omega)
  |(rw[VG (by omega) ‹_›];exact VE (Mu ‹_› ‹_› ‹_›).1 (Mu ‹_› ‹_› ‹_›).2 ‹_›)
  |(rw[VH (by omega) ‹_› ‹_›];done)
  |(rw[VQ ‹_›];done)
  |(have:=VM ‹_› ‹_› ‹_›;omega)
  |(have:=VL ‹_› ‹_›;(try simp only[AU] at*);omega)
  |exact VJ ‹_› ‹_› ‹_›
  |exact VK (VI ‹_› (‹tE _ _›.1) ‹_›) (‹tE _ _›.1) ‹_› ‹_›
  |exact a2H ‹_› ‹_› ‹_› ‹_›
  |exact⟨by omega,by omega,fun c hc=>by omega⟩
  |(rw[List.length_take,FC];omega)
  |((try simp only[AU,Bf,List.length_replicate,FC] at*);omega)
  |(obtain⟨_,_,_⟩:= ‹tE _ _›;(try rw[List.length_take,FC]);(try simp only[AU] at*);omega)
  |skip)
end Go.My
end
section
set_option linter.unusedVariables false
set_option linter.unusedSimpArgs false
namespace Go.My
open Go.Eng Go.Proofs
variable {G:GInv}
def Hf:Sig:= {X:=Int,args:=fun x=>[.int .i64 x],pre:=fun x=>True,Y:=Unit,post:=fun x y=>True,res:=fun x y=> .bool (BA x),outs:=fun x y=>[.top],keep:=false}
theorem a2J:Am G Tryz.prog 112 Hf:=
 vcFun_okP [(64,0,Cy)] [] false (fun x=>[]) Tryz.func112 rfl (by decide) ⟨Je,trivial⟩ (fun(x:Int)=>(∀(y:Unit),True→True∧True∧True)∧cA Cy [.int .i64 x,.int .i64 (1:Int),.int .i64 (11:Int)] fun x_1 y=>rA Hf x [.bool (inn x_1.1 x_1.2.1 x_1.2.2),.top]) (fun x=>by kernel_rfl) fun(x:Int) (hx:True)=>(by
 dsimp only[cA,rA,Cy,Hf,Az,AC,mvL,lnL,mvE,lnE]
 (repeat' first|(with_reducible first|rfl|exact True.intro|apply AN|apply And.intro|((first|apply AD|apply AL|apply AE|apply AM)<;>intro _))|(apply AA<;>intro _)|apply AK|refine Ae () ?_ ?_|((first|apply AR|apply AQ|apply AP|apply AO|apply AJ|apply AI|apply AH|apply AG|apply AF)<;>try dsimp only)|apply Ae|(refine Prod.forall.2 ?_;intro _;try dsimp only)|(intro _;try dsimp only))<;>(try dsimp only at*)<;>(try simp only[AU,List.length_cons,List.length_nil])<;>(try omega)
 all_goals simp [BA,Fb, *])
def Hg:Sig:= {X:=Int,args:=fun x=>[.int .i64 x],pre:=fun x=>True,Y:=Unit,post:=fun x y=>True,res:=fun x y=> .bool (Eg x),outs:=fun x y=>[.top],keep:=false}
theorem VR:Am G Tryz.prog 67 Hg:=
 vcFun_okP [(64,0,Cy)] [] false (fun x=>[]) Tryz.func67 rfl (by decide) ⟨Je,trivial⟩ (fun(x:Int)=>(∀(y:Unit),True→True∧True∧True)∧cA Cy [.int .i64 x,.int .i64 (12:Int),.int .i64 (17:Int)] fun x_1 y=>Aa (inn x_1.1 x_1.2.1 x_1.2.2) (rA Hg x [.bool true,.top]) (rA Hg x [.bool (x==(19:Int)),.top])) (fun x=>by kernel_rfl) fun(x:Int) (hx:True)=>(by
 dsimp only[cA,rA,Cy,Hg,Az,AC,mvL,lnL,mvE,lnE]
 (repeat' first|(with_reducible first|rfl|exact True.intro|apply AN|apply And.intro|((first|apply AD|apply AL|apply AE|apply AM)<;>intro _))|(apply AA<;>intro _)|apply AK|refine Ae () ?_ ?_|((first|apply AR|apply AQ|apply AP|apply AO|apply AJ|apply AI|apply AH|apply AG|apply AF)<;>try dsimp only)|apply Ae|(refine Prod.forall.2 ?_;intro _;try dsimp only)|(intro _;try dsimp only))<;>(try dsimp only at*)<;>(try simp only[AU,List.length_cons,List.length_nil])<;>(try omega)
 all_goals simp [Eg,Ik,Fb, *])
def CU:Sig:= {X:=Int,args:=fun x=>[.int .i64 x],pre:=fun x=>True,Y:=Unit,post:=fun x y=>True,res:=fun x y=> .tup [.int .i64 (Et x).1,.int .i64 (Et x).2],outs:=fun x y=>[.top],keep:=false}
theorem a2K:Am G Tryz.prog 65 CU:=
 vcFun_okP [] [] false (fun x=>[]) Tryz.func65 rfl (by decide) trivial (fun(x:Int)=>(∀(y:Unit),True→(True∧True∧True)∧True∧True)∧Aa (x==(4:Int)) (rA CU x [.tup [.int .i64 (0:Int),.int .i64 (12:Int)],.top]) (Aa (x==(18:Int)) (rA CU x [.tup [.int .i64 (0:Int),.int .i64 (12:Int)],.top]) (Aa (x==(21:Int)) (rA CU x [.tup [.int .i64 (0:Int),.int .i64 (12:Int)],.top]) (Aa (x==(22:Int)) (rA CU x [.tup [.int .i64 (0:Int),.int .i64 (12:Int)],.top]) (Aa (x==(5:Int)) (rA CU x [.tup [.int .i64 (1:Int),.int .i64 (12:Int)],.top]) (Aa (x==(9:Int)) (rA CU x [.tup [.int .i64 (1:Int),.int .i64 (12:Int)],.top]) (Aa (x==(20:Int)) (rA CU x [.tup [.int .i64 (1:Int),.int .i64 (12:Int)],.top]) (Aa (x==(6:Int)) (rA CU x [.tup [.int .i64 (1:Int),.int .i64 (1:Int)],.top]) (Aa (x==(11:Int)) (rA CU x [.tup [.int .i64 (1:Int),.int .i64 (1:Int)],.top]) (Aa (x==(13:Int)) (rA CU x [.tup [.int .i64 (1:Int),.int .i64 (1:Int)],.top]) (Aa (x==(14:Int)) (rA CU x [.tup [.int .i64 (1:Int),.int .i64 (1:Int)],.top]) (Aa (x==(7:Int)) (rA CU x [.tup [.int .i64 (2:Int),.int .i64 (12:Int)],.top]) (Aa (x==(10:Int)) (rA CU x [.tup [.int .i64 (2:Int),.int .i64 (12:Int)],.top]) (Aa (x==(8:Int)) (rA CU x [.tup [.int .i64 (3:Int),.int .i64 (3:Int)],.top]) (Aa (x==(12:Int)) (rA CU x [.tup [.int .i64 (0:Int),.int .i64 (1:Int)],.top]) (Aa (x==(15:Int)) (rA CU x [.tup [.int .i64 (0:Int),.int .i64 (1:Int)],.top]) (Aa (x==(16:Int)) (rA CU x [.tup [.int .i64 (2:Int),.int .i64 (3:Int)],.top]) (Aa (x==(17:Int)) (rA CU x [.tup [.int .i64 (2:Int),.int .i64 (2:Int)],.top]) (rA CU x [.tup [.int .i64 (0:Int),.int .i64 (0:Int)],.top]))))))))))))))))))) (fun x=>by kernel_rfl) fun(x:Int) (hx:True)=>(by
 dsimp only[rA,CU,Az,AC]
 (repeat' first|(with_reducible first|rfl|exact True.intro|apply AN|apply And.intro|((first|apply AD|apply AL|apply AE|apply AM)<;>intro _))|(apply AA<;>intro _)|apply AK|refine Ae () ?_ ?_|((first|apply AR|apply AQ|apply AP|apply AO|apply AJ|apply AI|apply AH|apply AG|apply AF)<;>try dsimp only)|apply Ae|(refine Prod.forall.2 ?_;intro _;try dsimp only)|(intro _;try dsimp only))<;>(try dsimp only at*)<;>(try simp only[AU,List.length_cons,List.length_nil])<;>(try omega)
 all_goals simp [Et, *])
def GH(x:List Nd×Int×Int):Prop:=Bh x.1∧Bz x.1 x.2.1=true∧((Ai x.1 x.2.1).kind=10→∀c,(Ai x.1 x.2.1).kids[x.2.2.toNat]? =some c→BX x.1 c=5→∃h t,(Ai x.1 c).kids=h::t∧Bz x.1 h=true)∧
 (0≤x.2.2∧x.2.2<(Ai x.1 x.2.1).kids.length)∧∀c,(Ai x.1 x.2.1).kids[x.2.2.toNat]? =some c→0≤c∧c<x.1.length
theorem RM{x:List Nd×Int×Int}{y:Nd}(h:GH x)(hy:x.1[x.2.1.toNat]? =some y):0≤x.2.2∧x.2.2<y.kids.length:=by
 have:=h.2.2.2.1;rwa [Br hy] at this
theorem VS{x:List Nd×Int×Int}{y:Nd}{c:Int}(h:GH x)(hy:x.1[x.2.1.toNat]? =some y)(hc:y.kids[x.2.2.toNat]? =some c):0≤c∧c<x.1.length:=by
 have:=h.2.2.2.2 c;rw[Br hy] at this;exact this hc
theorem VT{x:List Nd×Int×Int}{y z:Nd}{c:Int}(h:GH x)(hy:x.1[x.2.1.toNat]? =some y)(hc:y.kids[x.2.2.toNat]? =some c)(hz:x.1[c.toNat]? =some z)(hk:y.kind=10)(hz5:z.kind=5):∃h t,z.kids=h::t∧Bz x.1 h=true:=by
 have:=h.2.2.1;rw[Br hy] at this
 have:=this hk c hc;rw[BX,Br hz] at this;exact this hz5
theorem VU{x:List Nd×Int×Int}{y z:Nd}{c d:Int}(h:GH x)(hy:x.1[x.2.1.toNat]? =some y)(hc:y.kids[x.2.2.toNat]? =some c)(hz:x.1[c.toNat]? =some z)(hk:y.kind=10)(hz5:z.kind=5)(hd:z.kids[0]? =some d):(0≤d∧d<x.1.length)∧z.kids.headD 0=d:=by
 obtain⟨a,t,e,ha⟩:=VT h hy hc hz hk hz5
 rw[e] at hd ⊢;cases hd;exact⟨Dh.1 ha,rfl⟩
theorem VV{x:List Nd×Int×Int}{y z:Nd}{c:Int}(h:GH x)(hy:x.1[x.2.1.toNat]? =some y)(hc:y.kids[x.2.2.toNat]? =some c)(hz:x.1[c.toNat]? =some z)(hk:y.kind=10)(hz5:z.kind=5):0<z.kids.length:=by
 obtain⟨a,t,e,ha⟩:=VT h hy hc hz hk hz5
 rw[e];simp
def JE(x:List Nd×Int×Int):Bool:=Jo x.1 (Ai x.1 x.2.1) x.2.2 ((Ai x.1 x.2.1).kids.getD x.2.2.toNat 0)
theorem VW{x:List Nd×Int×Int}{y z:Nd}{c:Int}(hy:x.1[x.2.1.toNat]? =some y)(hc:y.kids[x.2.2.toNat]? =some c)(hz:x.1[c.toNat]? =some z):
 JE x=(Fz y.kind y.kids.length x.2.2 z.kind&&(if y.kind=10∧0<x.2.2 then decide (BX x.1 (z.kids.headD 0)=1) else true)):=by
 rw[JE,Br hy,List.getD,hc,Option.getD_some,Jo,BX,Br hz]
def CN:Sig:= {X:=List Nd×Int×Int,args:=fun x=>[nds x.1,.int .i64 x.2.1,.int .i64 x.2.2],pre:=fun x=>GH x,Y:=Unit,post:=fun x y=>True,res:=fun x y=> .bool (JE x),outs:=fun x y=>[.top,.top,.top],keep:=false}
theorem a2L:Am G Tryz.prog 68 CN:=
 vcFun_okP [(112,0,Hf),(67,0,Hg)] [] false (fun x=>[]) Tryz.func68 rfl (by decide) ⟨a2J,VR,trivial⟩ (fun(x:List Nd×Int×Int)=>(∀(y:Unit),True→True∧True∧True∧True∧True)∧((0:Int)≤x.2.1∧x.2.1<(↑(List.length x.1):Int))∧∀(e:Nd),x.1[Int.toNat x.2.1]? =some e→((0:Int)≤x.2.2∧x.2.2<(↑(List.length e.kids):Int))∧∀(e_1:Int),e.kids[Int.toNat x.2.2]? =some e_1→((0:Int)≤e_1∧e_1<(↑(List.length x.1):Int))∧∀(e_2:Nd),x.1[Int.toNat e_1]? =some e_2→Aa (e.kind==(9:Int)) (inR IntKind.i64 (x.2.2+(1:Int))∧Aa (decide (x.2.2+(1:Int)<(↑(List.length e.kids):Int))) (rA CN x [.bool (e_2.kind==(1:Int)),.top,.top,.top]) (cA Hf [.int .i64 e_2.kind] fun x_1 y=>rA CN x [.bool (BA x_1),.top,.top,.top])) (Aa (e.kind==(20:Int)) (inR IntKind.i64 (x.2.2+(1:Int))∧Aa (decide (x.2.2+(1:Int)<(↑(List.length e.kids):Int))) (rA CN x [.bool (e_2.kind==(1:Int)),.top,.top,.top]) (rA CN x [.bool (e_2.kind==(18:Int)),.top,.top,.top])) (Aa (e.kind==(10:Int)) (Aa (decide (x.2.2>(0:Int))) (Aa (e_2.kind==(5:Int)) (((0:Int)≤(0:Int)∧(0:Int)<(↑(List.length e_2.kids):Int))∧∀(e:Int),e_2.kids[(0:Nat)]? =some e→((0:Int)≤e∧e<(↑(List.length x.1):Int))∧∀(e_3:Nd),x.1[Int.toNat e]? =some e_3→rA CN x [.bool (e_3.kind==(1:Int)),.top,.top,.top]) (rA CN x [.bool false,.top,.top,.top])) (cA Hf [.int .i64 e_2.kind] fun x_1 y=>rA CN x [.bool (BA x_1),.top,.top,.top])) (Aa (e.kind==(16:Int)) (Aa (decide (x.2.2>(0:Int))) (rA CN x [.bool (e_2.kind==(18:Int)),.top,.top,.top]) (cA Hf [.int .i64 e_2.kind] fun x_1 y=>rA CN x [.bool (BA x_1),.top,.top,.top])) (Aa (e.kind==(17:Int)) (Aa (decide (x.2.2>(0:Int))) (rA CN x [.bool (e_2.kind==(18:Int)),.top,.top,.top]) (cA Hf [.int .i64 e_2.kind] fun x_1 y=>rA CN x [.bool (BA x_1),.top,.top,.top])) (Aa (e.kind==(18:Int)) (cA Hg [.int .i64 e_2.kind] fun x_1 y=>rA CN x [.bool (Eg x_1),.top,.top,.top]) (Aa (e.kind==(21:Int)) (Aa (e_2.kind==(12:Int)) (rA CN x [.bool true,.top,.top,.top]) (Aa (e_2.kind==(20:Int)) (rA CN x [.bool true,.top,.top,.top]) (rA CN x [.bool (e_2.kind==(19:Int)),.top,.top,.top]))) (Aa (e.kind==(22:Int)) (Aa (e_2.kind==(21:Int)) (rA CN x [.bool true,.top,.top,.top]) (Aa (e_2.kind==(12:Int)) (rA CN x [.bool true,.top,.top,.top]) (Aa (e_2.kind==(20:Int)) (rA CN x [.bool true,.top,.top,.top]) (rA CN x [.bool (e_2.kind==(19:Int)),.top,.top,.top])))) (cA Hf [.int .i64 e_2.kind] fun x_1 y=>rA CN x [.bool (BA x_1),.top,.top,.top]))))))))) (fun x=>by kernel_rfl) fun(x:List Nd×Int×Int) (hx:GH x)=>(by
 dsimp only[cA,Bx,nds,rA,CN,Hg,Hf,Az,AC,mvL,lnL,mvE,lnE]
 have h:=hx;have h1:=h.1;have hl:=h1.1;have hn:=Dh.1 h.2.1
 (repeat' first|(with_reducible first|rfl|exact True.intro|apply AN|apply And.intro|((first|apply AD|apply AL|apply AE|apply AM)<;>intro _))|(apply AA<;>intro _)|apply AK|refine Ae () ?_ ?_|((first|apply AR|apply AQ|apply AP|apply AO|apply AJ|apply AI|apply AH|apply AG|apply AF)<;>try dsimp only)|apply Ae|(refine Prod.forall.2 ?_;intro _;try dsimp only)|(intro _;try dsimp only))
 all_goals first
  |omega
  |exact(RM h ‹_›).1
  |exact(RM h ‹_›).2
  |exact(VS h ‹_› ‹_›).1
  |exact(VS h ‹_› ‹_›).2
  |exact VV h ‹_› ‹_› ‹_› ‹_› ‹_›
  |(have:=VV h ‹_› ‹_› ‹_› ‹_› ‹_›;omega)
  |(have:=(VU h ‹_› ‹_› ‹_› ‹_› ‹_› ‹_›).1;omega)
  |(have hk:=(h1.2 _ (Cv (show x.1[x.2.1.toNat]? =some _ by assumption))).2;have:=RM h ‹_›;(try simp only[AU]);omega)
  |(rw[VW ‹_› ‹_› ‹_›];simp [Fz,DV,Dw,Ef,Ga,EY,Fb, *];done)
  |(rw[VW ‹_› ‹_› ‹_›,(VU h ‹_› ‹_› ‹_› ‹_› ‹_› ‹_›).2,BX,Br ‹_›];simp [Fz,EY,Fb, *];done)
  |skip)
end Go.My
end
section
set_option linter.unusedVariables false
set_option linter.unusedSimpArgs false
namespace Go.My
open Go.Eng Go.Proofs
variable {G:GInv}
def koI(ns:List Nd)(x:Nd)(i:Int):Prop:=0≤i∧i≤x.kids.length∧∀(j:Nat) c,(j:Int)<i→x.kids[j]? =some c→Dn ns x j c=true
theorem a2M{ns:List Nd}{x:Nd}:koI ns x 0:=⟨by omega,by omega,fun j c h=>by omega⟩
theorem VX{ns:List Nd}{x:Nd}{i c:Int}(h:koI ns x i)(hc:x.kids[i.toNat]? =some c)(hk:Dn ns x i c=true):koI ns x (i+1):=by
 obtain⟨h1,h2,h3⟩:=h
 have:=(EE hc).1
 refine⟨by omega,by omega,fun j d hj hd=> ?_⟩
 by_cases e:(j:Int)<i
 ·exact h3 j d e hd
 ·obtain rfl:j=i.toNat:=by omega
  rw[hc] at hd;cases hd
  rwa [show((i.toNat:Nat):Int)=i by omega]
theorem a2N{ns:List Nd}{x:Nd}{i:Int}(h:koI ns x i)(hl:¬i<x.kids.length):BJ (Dn ns x) x.kids 0=true:=by
 rw[RE];intro j c hc
 exact h.2.2 j c (by have:=(EE hc).1;omega) hc
theorem Od{ns:List Nd}{x:Nd}{i c:Int}(h0:0≤i)(hc:x.kids[i.toNat]? =some c)(hk:Dn ns x i c=false):BJ (Dn ns x) x.kids 0=false:=by
 rw[Bool.eq_false_iff];intro h
 rw[RE] at h
 have:=h _ _ hc
 rw[show((i.toNat:Nat):Int)=i by omega,hk] at this;cases this
theorem ko1{ns:List Nd}{x y:Nd}{i c:Int}(hy:ns[c.toNat]? =some y)(h:y.kind=5)(h0:(y.kids.length:Int)=0):Dn ns x i c=false:=by
 have h0:=List.length_eq_zero_iff.1 (show y.kids.length=0 by omega)
 simp [Dn,BX,Br hy,h,h0]
theorem Hy{ns:List Nd}{d:Int}:inn d 0 (ns.length-1)=Bz ns d:=by
 rw[Bool.eq_iff_iff];simp only[inn,Bz,Bool.and_eq_true,decide_eq_true_eq];omega
theorem ko2{ns:List Nd}{x y:Nd}{i c d:Int}(hy:ns[c.toNat]? =some y)(h:y.kind=5)(h0:y.kids[0]? =some d)(hd:inn d 0 (ns.length-1)=false):Dn ns x i c=false:=by
 rw[Hy] at hd
 match hk:y.kids with
 |[]=>rw[hk] at h0;cases h0
 |e::t=>rw[hk] at h0;cases h0;simp [Dn,BX,Br hy,h,hk,hd]
theorem ko3{ns:List Nd}{x y:Nd}{i c d:Int}(hy:ns[c.toNat]? =some y)(h:y.kind=5)(h0:y.kids[0]? =some d)(hd:inn d 0 (ns.length-1)=true):Dn ns x i c=Jo ns x i c:=by
 rw[Hy] at hd
 match hk:y.kids with
 |[]=>rw[hk] at h0;cases h0
 |e::t=>rw[hk] at h0;cases h0;simp [Dn,BX,Br hy,h,hk,hd]
theorem ko4{ns:List Nd}{x y:Nd}{i c:Int}(hy:ns[c.toNat]? =some y)(h:y.kind≠5):Dn ns x i c=Jo ns x i c:=by
 simp [Dn,BX,Br hy,h]
theorem Oe{ns:List Nd}{x:Nd}{k i c:Int}{b:Bool}(hx:ns[k.toNat]? =some x)(hc:x.kids[i.toNat]? =some c)(hb:JE (ns,k,i)=b):Jo ns x i c=b:=by
 rw[←hb,JE,Br hx,List.getD,hc,Option.getD_some]
theorem a2O{ns:List Nd}{x y:Nd}{k i c d:Int}(h1:Bh ns)(hn:Bz ns k=true)(hx:ns[k.toNat]? =some x)(hin:Dl x.kids k=true)(hi:koI ns x i)(hc:x.kids[i.toNat]? =some c)(hy:ns[c.toNat]? =some y)(h0:y.kids[0]? =some d)(hd:inn d 0 (ns.length-1)=true):GH (ns,k,i):=by
 have hk:=Dh.1 hn
 have:=(EE hc).1
 unfold GH;simp only[Br hx]
 refine⟨h1,hn,fun h10 c' hc' h5=> ?_,⟨hi.1,by omega⟩,fun c' hc'=> ?_⟩
 ·rw[hc] at hc';cases hc'
  rw[Br hy]
  match hkk:y.kids with
  |[]=>rw[hkk] at h0;cases h0
  |e::t=>rw[hkk] at h0;cases h0;exact⟨_,_,rfl,by rw[←Hy];exact hd⟩
 ·simp only[Dl,List.all_eq_true,Bool.and_eq_true,decide_eq_true_eq] at hin
  have:=hin c' (Cv hc');omega
theorem a2P{ns:List Nd}{x y:Nd}{k i c:Int}(h1:Bh ns)(hn:Bz ns k=true)(hx:ns[k.toNat]? =some x)(hin:Dl x.kids k=true)(hi:koI ns x i)(hc:x.kids[i.toNat]? =some c)(hy:ns[c.toNat]? =some y)(h5:y.kind≠5):GH (ns,k,i):=by
 have hk:=Dh.1 hn
 have:=(EE hc).1
 unfold GH;simp only[Br hx]
 refine⟨h1,hn,fun h10 c' hc' h5'=> ?_,⟨hi.1,by omega⟩,fun c' hc'=> ?_⟩
 ·rw[hc] at hc';cases hc'
  rw[BX,Br hy] at h5';exact(h5 h5').elim
 ·simp only[Dl,List.all_eq_true,Bool.and_eq_true,decide_eq_true_eq] at hin
  have:=hin c' (Cv hc');omega
theorem VY{k:Int}:GA k=(Eg k||(decide (k=20)||decide (k=21))):=by
 rw[Bool.eq_iff_iff]
 simp only[GA,Eg,Ef,Ik,inn,Bool.or_eq_true,Bool.and_eq_true,decide_eq_true_eq];omega
theorem VZ{ns:List Nd}{k:Int}(h:inn k 0 (ns.length-1)=false):false=BG ns k:=by rw[Hy] at h;exact Vu h
theorem Mv{ns:List Nd}{k:Int}{x:Nd}(hx:ns[k.toNat]? =some x)(h:inn k 0 (ns.length-1)=true):BG ns k=(inn x.kind 1 22&&(inn x.kids.length (Et x.kind).1 (Et x.kind).2&&(EF x.kind x.text&&((GA x.kind|| !x.blank)&&((Dl x.kids k&&decide x.kids.Nodup)&&BJ (Dn ns x) x.kids 0))))):=by
 rw[Hy] at h;rw[KV hx h,a1I]
theorem a2Q{ns:List Nd}{k:Int}{x:Nd}(hx:ns[k.toNat]? =some x)(h:inn k 0 (ns.length-1)=true)(h1:Dl x.kids k=false):false=BG ns k:=by
 rw[Mv hx h,h1];simp
theorem a2R{ns:List Nd}{k:Int}{x:Nd}(hx:ns[k.toNat]? =some x)(h:inn k 0 (ns.length-1)=true)(h1:¬x.kids.Nodup):false=BG ns k:=by
 rw[Mv hx h,decide_eq_false h1];simp
theorem Of{ns:List Nd}{k:Int}{x:Nd}(hx:ns[k.toNat]? =some x)(h:inn k 0 (ns.length-1)=true)(h1:BJ (Dn ns x) x.kids 0=false):false=BG ns k:=by
 rw[Mv hx h,h1];simp
theorem a2S{ns:List Nd}{k:Int}{x:Nd}(hx:ns[k.toNat]? =some x)(h:inn k 0 (ns.length-1)=true)(h1:inn x.kind 1 22=true)(h2:inn x.kids.length (Et x.kind).1 (Et x.kind).2=true)(h3:EF x.kind x.text=true)(h4:(GA x.kind|| !x.blank)=true)
 (h5:Dl x.kids k=true∧x.kids.Nodup) (h6:BJ (Dn ns x) x.kids 0=true):true=BG ns k:=by
 rw[Mv hx h,h1,h2,h3,h4,h5.1,h6,decide_eq_true h5.2];rfl
theorem a2T{k c:Int}{l:List Int}{n:Nat}(hc:l[n]? =some c)(h:inn c 0 (k-1)=false):Dl l k=false:=by
 rw[Bool.eq_false_iff];intro hh;simp only[Dl,List.all_eq_true,Bool.and_eq_true,decide_eq_true_eq] at hh
 have:=hh c (Cv hc)
 have:inn c 0 (k-1)=true:=KX.2 (by omega)
 rw[h] at this;cases this
def djI(l:List Int)(i j:Int):Prop:=0≤j∧j≤i∧∀c,l[i.toNat]? =some c→(l.take j.toNat).elem c=false
theorem a2U{l:List Int}{i:Int}(h:0≤i):djI l i 0:=⟨by omega,h,by simp⟩
theorem a2V{l:List Int}{i j c d:Int}(h:djI l i j)(hl:j<i)(hc:l[i.toNat]? =some c)(hd:l[j.toNat]? =some d)(hne:c≠d):djI l i (j+1):=by
 refine⟨by have:=h.1;omega,by omega,fun c' hc'=> ?_⟩
 have h3:=h.2.2 c' hc'
 rw[hc] at hc';cases hc'
 rw[DF h.1,Fv hd]
 simp at h3 ⊢
 exact⟨h3,hne⟩
theorem a2W{l:List Int}{i j c d:Int}(h0:djI l i j)(hl:j<i)(hc:l[i.toNat]? =some c)(hd:l[j.toNat]? =some d)(he:c=d):¬l.Nodup:=by
 refine Vt hc ?_
 subst he
 rw[List.elem_iff]
 rw[List.mem_take_iff_getElem]
 obtain⟨hj,e⟩:=EE hd
 have:=h0.1
 exact⟨j.toNat,by omega,e⟩
theorem a2X{k:Int}{l:List Int}{i j c:Int}(h:nkI k l i)(hd:djI l i j)(hl:¬j<i)(hc:l[i.toNat]? =some c)(hin:inn c 0 (k-1)=true):nkI k l (i+1):=by
 have:=KX.1 hin
 have h3:=hd.2.2 c hc
 obtain rfl:j=i:=by have:=hd.2.1;omega
 exact Vs h hc (by omega) (by omega) h3
def Og(x:List Nd×Int)(i:Int):LS:= {
 ι:=Int,inv:=djI (Ai x.1 x.2).kids i,
 regs:=fun j=>[(0,nds x.1),(1,.int .i64 x.2),(5,.box 0 (ndA false (Ai x.1 x.2))),(8,.int .i64 i),(9,.int .i64 j)],als:=[],meas:=fun j=>i.toNat-j.toNat}
def Oh(x:List Nd×Int):LS:= {
 ι:=Int,inv:=nkI x.2 (Ai x.1 x.2).kids,
 regs:=fun i=>[(0,nds x.1),(1,.int .i64 x.2),(5,.box 0 (ndA false (Ai x.1 x.2))),(8,.int .i64 i)],als:=[],meas:=fun i=>(Ai x.1 x.2).kids.length-i.toNat,sub:=fun i=>[(15,Og x i)]}
def Mw(x:List Nd×Int):LS:= {
 ι:=Int,inv:=koI x.1 (Ai x.1 x.2),
 regs:=fun i=>[(0,nds x.1),(1,.int .i64 x.2),(5,.box 0 (ndA false (Ai x.1 x.2))),(10,.int .i64 i)],als:=[],meas:=fun i=>(Ai x.1 x.2).kids.length-i.toNat}
def jI(x:Nd):Prop:=inn x.kind 1 22=true∧inn x.kids.length (Et x.kind).1 (Et x.kind).2=true∧EF x.kind x.text=true∧(GA x.kind|| !x.blank)=true
def KY(x:List Nd×Int):LS:= {
 ι:=Unit,inv:=fun _=>jI (Ai x.1 x.2),
 regs:=fun _=>[(0,nds x.1),(1,.int .i64 x.2),(5,.box 0 (ndA false (Ai x.1 x.2)))],als:=[],meas:=fun _=>0}
def Dy:Sig:= {X:=List Nd×Int,args:=fun x=>[nds x.1,.int .i64 x.2],pre:=fun x=>Bh x.1,Y:=Unit,post:=fun x y=>True,res:=fun x y=> .bool (BG x.1 x.2),outs:=fun x y=>[.top,.top],keep:=false}
set_option maxHeartbeats 4000000 in
theorem Wa:Am G Tryz.prog 15 Dy:=
 vcFun_okP [(64,0,Cy),(65,0,CU),(66,0,Es),(67,0,Hg),(68,0,CN)] [] false (fun x=>[(10,Oh x),(20,Mw x),(200009,KY x)]) Tryz.func15 rfl (by decide) ⟨Je,a2K,a1D,VR,a2L,trivial⟩ (fun(x:List Nd×Int)=>(∀(y:Unit),True→True∧True∧True∧True)∧inR IntKind.i64 ((↑(List.length x.1):Int)-(1:Int))∧cA Cy [.int .i64 x.2,.int .i64 (0:Int),.int .i64 ((↑(List.length x.1):Int)-(1:Int))] fun x_1 y=>Aa (!inn x_1.1 x_1.2.1 x_1.2.2) (rA Dy x [.bool false,.top,.top]) (((0:Int)≤x.2∧x.2<(↑(List.length x.1):Int))∧∀(e:Nd),x.1[Int.toNat x.2]? =some e→cA Cy [.int .i64 e.kind,.int .i64 (1:Int),.int .i64 (22:Int)] fun x_2 y=>Aa (!inn x_2.1 x_2.2.1 x_2.2.2) (rA Dy x [.bool false,.top,.top]) (((0:Int)≤x.2∧x.2<(↑(List.length x.1):Int))∧∀(e:Nd),x.1[Int.toNat x.2]? =some e→cA CU [.int .i64 e.kind] fun x_3 y=>cA Cy [.int .i64 (↑(List.length e.kids):Int),.int .i64 (Et x_3).1,.int .i64 (Et x_3).2] fun x_4 y=>Aa (!inn x_4.1 x_4.2.1 x_4.2.2) (rA Dy x [.bool false,.top,.top]) (cA Es [.int .i64 e.kind,.str e.text] fun x_5 y=>Aa (!EF x_5.1 x_5.2) (rA Dy x [.bool false,.top,.top]) (Aa e.blank (cA Hg [.int .i64 e.kind] fun x_6 y=>Aa (!Eg x_6) (Aa (e.kind != (20:Int)) (Aa (e.kind != (21:Int)) (rA Dy x [.bool false,.top,.top]) (eA (KY x) [nds x.1,.int .i64 x.2,.box 0 [.int .i64 e.kind,.str e.text,AW e.kids,.bool e.blank]])) (eA (KY x) [nds x.1,.int .i64 x.2,.box 0 [.int .i64 e.kind,.str e.text,AW e.kids,.bool e.blank]])) (eA (KY x) [nds x.1,.int .i64 x.2,.box 0 [.int .i64 e.kind,.str e.text,AW e.kids,.bool e.blank]])) (eA (KY x) [nds x.1,.int .i64 x.2,.box 0 [.int .i64 e.kind,.str e.text,AW e.kids,.bool e.blank]])∧∀(i:Unit),jI (Ai x.1 x.2)→eA (Oh x) [nds x.1,.int .i64 x.2,.box 0 [.int .i64 (Ai x.1 x.2).kind,.str (Ai x.1 x.2).text,AW (Ai x.1 x.2).kids,.bool (Ai x.1 x.2).blank],.int .i64 (0:Int)]∧∀(i:Int),nkI x.2 (Ai x.1 x.2).kids i→Aa (decide (i<(↑(List.length (Ai x.1 x.2).kids):Int))) (((0:Int)≤i∧i<(↑(List.length (Ai x.1 x.2).kids):Int))∧∀(e:Int),(Ai x.1 x.2).kids[Int.toNat i]? =some e→inR IntKind.i64 (x.2-(1:Int))∧cA Cy [.int .i64 e,.int .i64 (0:Int),.int .i64 (x.2-(1:Int))] fun x_6 y=>Aa (!inn x_6.1 x_6.2.1 x_6.2.2) (rA Dy x [.bool false,.top,.top]) (eA (Og x i) [nds x.1,.int .i64 x.2,.box 0 [.int .i64 (Ai x.1 x.2).kind,.str (Ai x.1 x.2).text,AW (Ai x.1 x.2).kids,.bool (Ai x.1 x.2).blank],.int .i64 i,.int .i64 (0:Int)]∧∀(i_1:Int),djI (Ai x.1 x.2).kids i i_1→Aa (decide (i_1<i)) (true=true∧true=true∧((0:Int)≤i∧i<(↑(List.length (Ai x.1 x.2).kids):Int))∧∀(e:Int),(Ai x.1 x.2).kids[Int.toNat i]? =some e→((0:Int)≤i_1∧i_1<(↑(List.length (Ai x.1 x.2).kids):Int))∧∀(e_1:Int),(Ai x.1 x.2).kids[Int.toNat i_1]? =some e_1→Aa (e==e_1) (rA Dy x [.bool false,.top,.top]) (inR IntKind.i64 (i_1+(1:Int))∧eN (Og x i) i_1 [nds x.1,.int .i64 x.2,.box 0 [.int .i64 (Ai x.1 x.2).kind,.str (Ai x.1 x.2).text,AW (Ai x.1 x.2).kids,.bool (Ai x.1 x.2).blank],.int .i64 i,.int .i64 (i_1+(1:Int))])) (inR IntKind.i64 (i+(1:Int))∧eN (Oh x) i [nds x.1,.int .i64 x.2,.box 0 [.int .i64 (Ai x.1 x.2).kind,.str (Ai x.1 x.2).text,AW (Ai x.1 x.2).kids,.bool (Ai x.1 x.2).blank],.int .i64 (i+(1:Int))]))) (eA (Mw x) [nds x.1,.int .i64 x.2,.box 0 [.int .i64 (Ai x.1 x.2).kind,.str (Ai x.1 x.2).text,AW (Ai x.1 x.2).kids,.bool (Ai x.1 x.2).blank],.int .i64 (0:Int)]∧∀(i:Int),koI x.1 (Ai x.1 x.2) i→Aa (decide (i<(↑(List.length (Ai x.1 x.2).kids):Int))) (((0:Int)≤i∧i<(↑(List.length (Ai x.1 x.2).kids):Int))∧∀(e:Int),(Ai x.1 x.2).kids[Int.toNat i]? =some e→((0:Int)≤e∧e<(↑(List.length x.1):Int))∧∀(e_1:Nd),x.1[Int.toNat e]? =some e_1→Aa (e_1.kind==(5:Int)) (Aa ((↑(List.length e_1.kids):Int)==(0:Int)) (rA Dy x [.bool false,.top,.top]) (((0:Int)≤(0:Int)∧(0:Int)<(↑(List.length e_1.kids):Int))∧∀(e:Int),e_1.kids[(0:Nat)]? =some e→inR IntKind.i64 ((↑(List.length x.1):Int)-(1:Int))∧cA Cy [.int .i64 e,.int .i64 (0:Int),.int .i64 ((↑(List.length x.1):Int)-(1:Int))] fun x_6 y=>Aa (!inn x_6.1 x_6.2.1 x_6.2.2) (rA Dy x [.bool false,.top,.top]) (cA CN [nds x.1,.int .i64 x.2,.int .i64 i] fun x_7 y=>Aa (!JE x_7) (rA Dy x [.bool false,.top,.top]) (inR IntKind.i64 (i+(1:Int))∧eN (Mw x) i [nds x.1,.int .i64 x.2,.box 0 [.int .i64 (Ai x.1 x.2).kind,.str (Ai x.1 x.2).text,AW (Ai x.1 x.2).kids,.bool (Ai x.1 x.2).blank],.int .i64 (i+(1:Int))])))) (cA CN [nds x.1,.int .i64 x.2,.int .i64 i] fun x_6 y=>Aa (!JE x_6) (rA Dy x [.bool false,.top,.top]) (inR IntKind.i64 (i+(1:Int))∧eN (Mw x) i [nds x.1,.int .i64 x.2,.box 0 [.int .i64 (Ai x.1 x.2).kind,.str (Ai x.1 x.2).text,AW (Ai x.1 x.2).kids,.bool (Ai x.1 x.2).blank],.int .i64 (i+(1:Int))]))) (rA Dy x [.bool true,.top,.top]))))))) (fun x=>by kernel_rfl) fun(x:List Nd×Int) (hx:Bh x.1)=>(by
 dsimp only[cA,eA,eN,AW,KY,Oh,Og,Mw,Bx,nds,rA,Cy,CU,CN,Hg,Es,Dy,Az,AC,mvL,lnL,mvE,lnE,Bt]
 have h1:Bh x.1:=hx;have hl:=h1.1
 by_cases hn:Bz x.1 x.2=true
 case neg=>
  (repeat' first|(with_reducible first|rfl|exact True.intro|apply AN|apply And.intro|((first|apply AD|apply AL|apply AE|apply AM)<;>intro _))|(apply AA<;>intro _)|apply AK|refine Ae () ?_ ?_|((first|apply AR|apply AQ|apply AP|apply AO|apply AJ|apply AI|apply AH|apply AG|apply AF)<;>try dsimp only)|apply Ae|(refine Prod.forall.2 ?_;intro _;try dsimp only)|(intro _;try dsimp only))
  all_goals first
   |exact VZ ‹_›
   |(have hh:=(show inn x.2 0 (x.1.length-1)=true by assumption);rw[Hy] at hh;exact(hn hh).elim)
   |((try simp only[AU]);omega)
 case pos=>
 have hr:=Dh.1 hn
 obtain⟨z,hz⟩:∃z,x.1[x.2.toNat]? =some z:=⟨x.1[x.2.toNat],by simp⟩
 have hzo:=h1.2 _ (Cv hz)
 have hi:inn x.2 0 (x.1.length-1)=true:=by rw[Hy];exact hn
 simp only[hz,Option.some.injEq,forall_eq',Br hz]
 (repeat' first|(with_reducible first|rfl|exact True.intro|apply AN|apply And.intro|((first|apply AD|apply AL|apply AE|apply AM)<;>intro _))|(apply AA<;>intro _)|apply AK|refine Ae () ?_ ?_|((first|apply AR|apply AQ|apply AP|apply AO|apply AJ|apply AI|apply AH|apply AG|apply AF)<;>try dsimp only)|apply Ae|(refine Prod.forall.2 ?_;intro _;try dsimp only)|(intro _;try dsimp only))
 all_goals first
  |rfl
  |assumption
  |exact Vr
  |exact a2M
  |exact a2U (‹nkI _ _ _›.1)
  |exact VZ ‹_›
  |exact⟨by assumption,by assumption,by assumption,by simp [VY, *]⟩
  |exact a2Q hz hi (a2T ‹_› ‹_›)
  |exact a2R hz hi (a2W ‹_› ‹_› ‹_› ‹_› ‹_›)
  |exact a2V ‹_› ‹_› ‹_› ‹_› ‹_›
  |exact a2X ‹_› ‹_› ‹_› ‹_› ‹_›
  |exact Of hz hi (Od (‹koI _ _ _›.1) ‹_› (ko1 ‹_› ‹_› ‹_›))
  |exact Of hz hi (Od (‹koI _ _ _›.1) ‹_› (ko2 ‹_› ‹_› ‹_› ‹_›))
  |exact Of hz hi (Od (‹koI _ _ _›.1) ‹_› ((ko4 ‹_› ‹_›).trans (Oe hz ‹_› ‹_›)))
  |exact Of hz hi (Od (‹koI _ _ _›.1) ‹_› ((ko3 ‹_› ‹_› ‹_› ‹_›).trans (Oe hz ‹_› ‹_›)))
  |exact VX ‹_› ‹_› ((ko4 ‹_› ‹_›).trans (Oe hz ‹_› ‹_›))
  |exact VX ‹_› ‹_› ((ko3 ‹_› ‹_› ‹_› ‹_›).trans (Oe hz ‹_› ‹_›))
  |exact a2O h1 hn hz (Ms ‹_› ‹_›).1 ‹_› ‹_› ‹_› ‹_› ‹_›
  |exact a2P h1 hn hz (Ms ‹_› ‹_›).1 ‹_› ‹_› ‹_› ‹_›
  |exact a2S hz hi (‹jI _›.1) (‹jI _›.2.1) (‹jI _›.2.2.1) (‹jI _›.2.2.2) (Ms ‹_› ‹_›) (a2N ‹_› ‹_›)
  |(rw[Mv hz hi];simp [VY, *];done)
  |exact hzo.1
  |(have:=RK ‹_› ‹_› hr.2 (Cv (show z.kids[_]? =some _ by assumption));omega)
  |((try simp only[AU]);omega)
  |(have hko:=(show koI _ _ _ by assumption);have hk2:=hzo.2;have:=hko.1;have:=hko.2.1;(try simp only[AU]);omega)
  |(have hko:=(show djI _ _ _ by assumption);have hk1:=(show nkI _ _ _ by assumption);have hk2:=hzo.2;have:=hko.1;have:=hko.2.1;have:=hk1.1;have:=hk1.2.1;(try simp only[AU]);omega)
  |(have hk1:=(show nkI _ _ _ by assumption);have hk2:=hzo.2;have:=hk1.1;have:=hk1.2.1;(try simp only[AU]);omega)
  |skip)
end Go.My
end
section
set_option linter.unusedVariables false
set_option linter.unusedSimpArgs false
namespace Go.My
open Go.Eng Go.Proofs
variable {G:GInv}
def sdp(ns:List Nd)(i:Nat)(ds:List Int):Int:=
 if BG ns i=true∧(i=0∨ds.getD (i-1) 0≠0) then(if 14≤mx ds (Ai ns i).kids 0 then 0 else mx ds (Ai ns i).kids 0+1) else 0
def sds(ns:List Nd):Nat→List Int
 |0=>[]
 |n+1=>sds ns n++[sdp ns n (sds ns n)]
theorem GI{ns:List Nd}:∀ {n:Nat},(sds ns n).length=n
 |0=>rfl
 |n+1=>by rw[sds,List.length_append,GI];rfl
theorem Wb{ns:List Nd}:∀ {n:Nat},(match Cx ns n with|some ds=>sds ns n=ds|none=>0<n∧(sds ns n).getD (n-1) 0=0)
 |0=>by simp [Cx,sds]
 |n+1=>by
  have ih:= @Wb ns n
  unfold Cx
  cases hd:Cx ns n with
  |none=>
   rw[hd] at ih
   simp only
   refine⟨by omega,?_⟩
   have hz:sdp ns n (sds ns n)=0:=by
    unfold sdp;rw[if_neg];rintro⟨_,h|h⟩
    ·omega
    ·exact h ih.2
   rw[sds,hz,List.getD,List.getElem?_append_right (by rw[GI];omega),GI];simp
  |some ds=>
   rw[hd] at ih
   simp only at ih ⊢
   by_cases hn:BG ns n=true
   ·rw[if_pos hn]
    have hprev:n=0∨(sds ns n).getD (n-1) 0≠0:=by
     by_cases e:n=0
     ·exact .inl e
     ·right
      rw[ih,List.getD]
      have hl:=Il hd
      have:ds[n-1]? =some ds[n-1]:=by simp
      rw[this];have:=Mn hd ds[n-1] (by simp);simp;omega
    have hs:sdp ns n (sds ns n)=if 14≤mx ds (Ai ns n).kids 0 then 0 else mx ds (Ai ns n).kids 0+1:=by
     unfold sdp;rw[if_pos ⟨hn,hprev⟩,ih]
    by_cases hm:14≤mx ds (Ai ns n).kids 0
    ·rw[if_pos hm];simp only
     refine⟨by omega,?_⟩
     rw[sds,hs,if_pos hm,List.getD,List.getElem?_append_right (by rw[GI];omega),GI];simp
    ·rw[if_neg hm];simp only
     rw[sds,hs,if_neg hm,ih]
   ·rw[if_neg hn];simp only
    refine⟨by omega,?_⟩
    have hz:sdp ns n (sds ns n)=0:=by unfold sdp;rw[if_neg (fun h=>hn h.1)]
    rw[sds,hz,List.getD,List.getElem?_append_right (by rw[GI];omega),GI];simp
theorem a2Y{ns:List Nd}{k:Int}{v:Int}(h:Bz ns k=true)(hv:(sds ns (k.toNat+1))[k.toNat]? =some v):v=BI ns k:=by
 have ih:= @Wb ns (k.toNat+1)
 unfold BI;rw[if_pos h]
 cases hd:Cx ns (k.toNat+1) with
 |none=>rw[hd] at ih;simp only at ih ⊢;have:=ih.2;rw[List.getD] at this;simp [hv] at this;exact this
 |some ds=>rw[hd] at ih;simp only at ih ⊢;rw[←ih,List.getD,hv];rfl
theorem RN{ns:List Nd}:∀ {n:Nat},∀d∈sds ns n,0≤d∧d≤14
 |0,d,h=>by simp [sds] at h
 |n+1,d,h=>by
  rw[sds] at h
  rcases List.mem_append.1 h with h|h
  ·exact RN d h
  ·simp at h;subst h
   have:=NI (sds ns n) (Ai ns n).kids 0
   unfold sdp;split
   ·split<;>omega
   ·omega
def okB(ns:List Nd)(i:Int):Bool:=BG ns i&&(decide (i=0)|| !decide ((sds ns i.toNat).getD (i.toNat-1) 0=0))
theorem Wc{ns:List Nd}{i:Int}(h:0≤i):sdp ns i.toNat (sds ns i.toNat)=if okB ns i then(if 14≤mx (sds ns i.toNat) (Ai ns i).kids 0 then 0 else mx (sds ns i.toNat) (Ai ns i).kids 0+1) else 0:=by
 have e:((i.toNat:Nat):Int)=i:=by omega
 unfold sdp;rw[e]
 have hb:okB ns i=true↔BG ns i=true∧(i.toNat=0∨(sds ns i.toNat).getD (i.toNat-1) 0≠0):=by
  unfold okB
  simp only[Bool.and_eq_true,Bool.or_eq_true,decide_eq_true_eq,Bool.not_eq_true',decide_eq_false_iff_not]
  constructor
  ·rintro⟨h1,h2⟩;exact⟨h1,h2.imp (fun h=>by omega) id⟩
  ·rintro⟨h1,h2⟩;exact⟨h1,h2.imp (fun h=>by omega) id⟩
 by_cases h1:okB ns i=true
 ·rw[if_pos h1,if_pos (hb.1 h1)]
 ·rw[if_neg h1,if_neg (fun h2=>h1 (hb.2 h2))]
def eI(ns:List Nd)(i j d:Int):Prop:=(okB ns i=true→j≤(Ai ns i).kids.length∧1≤d∧d≤15∧mx (sds ns i.toNat) ((Ai ns i).kids.drop j.toNat) (d-1)=mx (sds ns i.toNat) (Ai ns i).kids 0)∧0≤j∧(okB ns i=false→d=0)
theorem a2Z{ns:List Nd}{i:Int}:eI ns i 0 (if okB ns i then 1 else 0):=by
 refine⟨fun h=> ?_,by omega,fun h=> ?_⟩
 ·rw[if_pos h];refine⟨by omega,by omega,by omega,by simp⟩
 ·rw[h];rfl
theorem Oi{ns:List Nd}{i j d:Int}(h:eI ns i j d)(hd:d>0):okB ns i=true:=by
 cases hb:okB ns i
 ·have:=h.2.2 hb;omega
 ·rfl
theorem Wd{ns:List Nd}{i:Int}(h:okB ns i=true):BG ns i=true:=by
 simp only[okB,Bool.and_eq_true] at h;exact h.1
theorem a3a{ns:List Nd}{i j d c:Int}{y:Nd}(h:eI ns i j d)(hd:d>0)(hy:ns[i.toNat]? =some y)(hc:y.kids[j.toNat]? =some c):0≤c∧c<i:=by
 have:=(Im (Wd (Oi h hd))).2.2.2.1
 rw[Br hy] at this;exact this c (Cv hc)
theorem a3b{ns:List Nd}{i j d:Int}{y:Nd}(h:eI ns i j d)(hd:d>0)(hy:ns[i.toNat]? =some y):y.kids.length≤12:=by
 have:=(Im (Wd (Oi h hd))).2.1
 rwa [Br hy] at this
theorem a3c{ns:List Nd}{i j d c v d':Int}{y:Nd}(h:eI ns i j d)(hd:d>0)(hy:ns[i.toNat]? =some y)(hc:y.kids[j.toNat]? =some c)(hv:(sds ns i.toNat)[c.toNat]? =some v)(hd':d'-1=max (d-1) v):eI ns i (j+1) d':=by
 have hb:=Oi h hd
 obtain⟨h1,h2,h3,h4⟩:=h.1 hb
 have h0:=h.2.1
 have hr:=RN v (Cv hv)
 rw[Br hy] at h4 h1
 have:=(EE hc).1
 refine⟨fun _=> ?_,by omega,fun hh=>by rw[hb] at hh;cases hh⟩
 rw[Br hy]
 refine⟨by omega,by omega,by omega,?_⟩
 rw[←h4,KF hc,DF h0,mx,List.getD,hv,Option.getD_some,hd']
theorem a3d{ns:List Nd}{i:Int}{c:Nat}{v:Int}(hv:(sds ns i.toNat)[c]? =some v):0≤v∧v≤14:=RN v (Cv hv)
theorem a3e{ns:List Nd}{i j d:Int}{y:Nd}(hi:0≤i)(h:eI ns i j d)(hd:d>0)(hy:ns[i.toNat]? =some y)(hl:¬j<y.kids.length):sds ns i.toNat++[if d>14 then 0 else d]=sds ns (i+1).toNat:=by
 have hb:=Oi h hd
 obtain⟨h1,h2,h3,h4⟩:=h.1 hb
 rw[Br hy,List.drop_eq_nil_of_le (by omega),mx] at h4
 rw[DF hi,sds,Wc hi,if_pos hb,Br hy,←h4]
 congr 2
 by_cases h5:d>14
 ·rw[if_pos h5,if_pos (by omega)]
 ·rw[if_neg h5,if_neg (by omega)];omega
theorem a3f{ns:List Nd}{i j d:Int}(hi:0≤i)(h:eI ns i j d)(hd:¬d>0):sds ns i.toNat++[d]=sds ns (i+1).toNat:=by
 have hb:okB ns i=false:=by
  cases hb:okB ns i
  ·rfl
  ·have:=(h.1 hb).2.1;omega
 rw[DF hi,sds,Wc hi,hb,h.2.2 hb];rfl
theorem a3g{ns:List Nd}{i:Int}(h:BG ns i=false):0=if okB ns i=true then(1:Int) else 0:=by simp [okB,h]
theorem a3h{ns:List Nd}{i v:Int}(h:i>0)(hv:(sds ns i.toNat)[(i-1).toNat]? =some v)(h0:v=0):0=if okB ns i=true then(1:Int) else 0:=by
 have e:(i-1).toNat=i.toNat-1:=by omega
 rw[e] at hv;subst h0
 have:(sds ns i.toNat).getD (i.toNat-1) 0=0:=by rw[List.getD,hv];rfl
 simp only[okB,this,decide_true,Bool.not_true,Bool.or_false]
 rw[decide_eq_false (by omega)];simp
theorem a3i{ns:List Nd}{i:Int}(h:BG ns i=true)(h0:0≤i)(h1:¬i>0):1=if okB ns i=true then(1:Int) else 0:=by
 obtain rfl:i=0:=by omega
 simp [okB,h]
theorem a3j{ns:List Nd}{i v:Int}(h:BG ns i=true)(h0:i>0)(hv:(sds ns i.toNat)[(i-1).toNat]? =some v)(h1:v≠0):1=if okB ns i=true then(1:Int) else 0:=by
 have e:(i-1).toNat=i.toNat-1:=by omega
 rw[e] at hv
 have:(sds ns i.toNat).getD (i.toNat-1) 0≠0:=by rw[List.getD,hv];exact h1
 simp only[okB,h,this,decide_false,Bool.not_false,Bool.or_true,Bool.and_true,if_true]
def Mx(x:List Nd×Int)(o:Int):LS:= {
 ι:=Int×Int,inv:=fun i=>eI x.1 o i.1 i.2,
 regs:=fun i=>[(0,nds x.1),(1,.int .i64 x.2),(5,Ag (sds x.1 o.toNat)),(6,.int .i64 o),(7,.int .i64 i.2),(8,.int .i64 i.1)],als:=[],meas:=fun i=>(Ai x.1 o).kids.length-i.1.toNat}
def KZ(x:List Nd×Int)(o:Int):LS:= {
 ι:=Unit,inv:=fun _=>True,
 regs:=fun i=>[(0,nds x.1),(1,.int .i64 x.2),(5,Ag (sds x.1 o.toNat)),(6,.int .i64 o),(7,.int .i64 (if okB x.1 o then 1 else 0))],als:=[],meas:=fun i=>0}
def lDs(x:List Nd×Int):LS:= {
 ι:=Int,inv:=fun i=>0≤i∧i≤x.2+1,
 regs:=fun i=>[(0,nds x.1),(1,.int .i64 x.2),(5,Ag (sds x.1 i.toNat)),(6,.int .i64 i)],als:=[],meas:=fun i=>(x.2+1-i).toNat,sub:=fun i=>[(9,Mx x i),(200008,KZ x i)]}
def JF:Sig:= {X:=List Nd×Int,args:=fun x=>[nds x.1,.int .i64 x.2],pre:=fun x=>Bh x.1∧x.1.length≤2^30∧Bz x.1 x.2=true,Y:=Unit,post:=fun x y=>True,res:=fun x y=>Ag (sds x.1 (x.2.toNat+1)),outs:=fun x y=>[.top,.top],keep:=false}
theorem a3k:Am G Tryz.prog 69 JF:=
 vcFun_okP [(15,0,Dy)] [(26,⟨Int,Bi⟩)] false (fun x=>[(3,lDs x)]) Tryz.func69 rfl (by decide) ⟨Wa,trivial⟩ (fun(x:List Nd×Int)=>(∀(y:Unit),True→(∀(x:Int),True∧True)∧True∧True∧True)∧eA (lDs x) [nds x.1,.int .i64 x.2,Ag [],.int .i64 (0:Int)]∧∀(i:Int),(0:Int)≤i∧i≤x.2+(1:Int)→Aa (decide (i≤x.2)) (Aa (decide (i<(↑(List.length x.1):Int))) ((cA Dy [nds x.1,.int .i64 i] fun x_1 y=>Aa (!BG x_1.1 x_1.2) (eA (KZ x i) [nds x.1,.int .i64 x.2,Ag (sds x.1 (Int.toNat i)),.int .i64 i,.int .i64 (0:Int)]) (Aa (decide (i>(0:Int))) (inR IntKind.i64 (i-(1:Int))∧((0:Int)≤i-(1:Int)∧i-(1:Int)<(↑(List.length (sds x.1 (Int.toNat i))):Int))∧Int.toNat (i-(1:Int))<List.length (sds x.1 (Int.toNat i))∧∀(x_2:Int),(sds x.1 (Int.toNat i))[Int.toNat (i-(1:Int))]? =some x_2→Aa (x_2==(0:Int)) (eA (KZ x i) [nds x.1,.int .i64 x.2,Ag (sds x.1 (Int.toNat i)),.int .i64 i,.int .i64 (0:Int)]) (eA (KZ x i) [nds x.1,.int .i64 x.2,Ag (sds x.1 (Int.toNat i)),.int .i64 i,.int .i64 (1:Int)])) (eA (KZ x i) [nds x.1,.int .i64 x.2,Ag (sds x.1 (Int.toNat i)),.int .i64 i,.int .i64 (1:Int)])))∧∀(i_1:Unit),True→eA (Mx x i) [nds x.1,.int .i64 x.2,Ag (sds x.1 (Int.toNat i)),.int .i64 i,.int .i64 (if okB x.1 i=true then(1:Int) else(0:Int)),.int .i64 (0:Int)]∧∀(i_2:Int×Int),eI x.1 i i_2.1 i_2.2→Aa (decide (i_2.2>(0:Int))) (((0:Int)≤i∧i<(↑(List.length x.1):Int))∧∀(e:Nd),x.1[Int.toNat i]? =some e→Aa (decide (i_2.1<(↑(List.length e.kids):Int))) (((0:Int)≤i∧i<(↑(List.length x.1):Int))∧∀(e:Nd),x.1[Int.toNat i]? =some e→((0:Int)≤i_2.1∧i_2.1<(↑(List.length e.kids):Int))∧∀(e_1:Int),e.kids[Int.toNat i_2.1]? =some e_1→((0:Int)≤e_1∧e_1<(↑(List.length (sds x.1 (Int.toNat i))):Int))∧Int.toNat e_1<List.length (sds x.1 (Int.toNat i))∧∀(x_1:Int),(sds x.1 (Int.toNat i))[Int.toNat e_1]? =some x_1→inR IntKind.i64 (x_1+(1:Int))∧Aa (decide (x_1+(1:Int)>i_2.2)) (((0:Int)≤i∧i<(↑(List.length x.1):Int))∧∀(e:Nd),x.1[Int.toNat i]? =some e→((0:Int)≤i_2.1∧i_2.1<(↑(List.length e.kids):Int))∧∀(e_2:Int),e.kids[Int.toNat i_2.1]? =some e_2→((0:Int)≤e_2∧e_2<(↑(List.length (sds x.1 (Int.toNat i))):Int))∧Int.toNat e_2<List.length (sds x.1 (Int.toNat i))∧∀(x_2:Int),(sds x.1 (Int.toNat i))[Int.toNat e_2]? =some x_2→inR IntKind.i64 (x_2+(1:Int))∧inR IntKind.i64 (i_2.1+(1:Int))∧eN (Mx x i) i_2 [nds x.1,.int .i64 x.2,Ag (sds x.1 (Int.toNat i)),.int .i64 i,.int .i64 (x_2+(1:Int)),.int .i64 (i_2.1+(1:Int))]) (inR IntKind.i64 (i_2.1+(1:Int))∧eN (Mx x i) i_2 [nds x.1,.int .i64 x.2,Ag (sds x.1 (Int.toNat i)),.int .i64 i,.int .i64 i_2.2,.int .i64 (i_2.1+(1:Int))])) (Aa (decide (i_2.2>(14:Int))) (∃(x_1:Int),(0:Int)=x_1∧∃(zs:List Int),Ag [x_1]=Ag zs∧Cd Bi∧Bf (List.length (sds x.1 (Int.toNat i))+List.length zs) (8:Nat)∧inR IntKind.i64 (i+(1:Int))∧eN (lDs x) i [nds x.1,.int .i64 x.2,Ag (sds x.1 (Int.toNat i)++zs),.int .i64 (i+(1:Int))]) (∃(x_1:Int),i_2.2=x_1∧∃(zs:List Int),Ag [x_1]=Ag zs∧Cd Bi∧Bf (List.length (sds x.1 (Int.toNat i))+List.length zs) (8:Nat)∧inR IntKind.i64 (i+(1:Int))∧eN (lDs x) i [nds x.1,.int .i64 x.2,Ag (sds x.1 (Int.toNat i)++zs),.int .i64 (i+(1:Int))]))) (Aa (decide (i_2.2>(14:Int))) (∃(x_1:Int),(0:Int)=x_1∧∃(zs:List Int),Ag [x_1]=Ag zs∧Cd Bi∧Bf (List.length (sds x.1 (Int.toNat i))+List.length zs) (8:Nat)∧inR IntKind.i64 (i+(1:Int))∧eN (lDs x) i [nds x.1,.int .i64 x.2,Ag (sds x.1 (Int.toNat i)++zs),.int .i64 (i+(1:Int))]) (∃(x_1:Int),i_2.2=x_1∧∃(zs:List Int),Ag [x_1]=Ag zs∧Cd Bi∧Bf (List.length (sds x.1 (Int.toNat i))+List.length zs) (8:Nat)∧inR IntKind.i64 (i+(1:Int))∧eN (lDs x) i [nds x.1,.int .i64 x.2,Ag (sds x.1 (Int.toNat i)++zs),.int .i64 (i+(1:Int))]))) (rA JF x [Ag (sds x.1 (Int.toNat i)),.top,.top])) (rA JF x [Ag (sds x.1 (Int.toNat i)),.top,.top])) (fun x=>by kernel_rfl) fun(x:List Nd×Int) (hx:Bh x.1∧x.1.length≤2^30∧Bz x.1 x.2=true)=>(by
 dsimp only[cA,eA,eN,lDs,Mx,KZ,Bx,nds,Ag,rA,JF,Dy,Az,AC,mvL,lnL,mvE,lnE,Bt]
 obtain⟨h1,h2,h3⟩:=hx;have hl:=h1.1;have hn:=Dh.1 h3
 (repeat' first|(with_reducible first|rfl|exact True.intro|apply AN|apply And.intro|((first|apply AD|apply AL|apply AE|apply AM)<;>intro _))|(apply AA<;>intro _)|apply AK|refine Ae () ?_ ?_|((first|apply AR|apply AQ|apply AP|apply AO|apply AJ|apply AI|apply AH|apply AG|apply AF)<;>try dsimp only)|apply Ae|(refine Prod.forall.2 ?_;intro _;try dsimp only)|(intro _;try dsimp only))
 all_goals first
  |rfl
  |omega
  |exact a3g ‹_›
  |exact a3h ‹_› ‹_› ‹_›
  |exact a3i ‹_› (by omega) ‹_›
  |exact a3j ‹_› ‹_› ‹_› ‹_›
  |exact a2Z
  |(rw[GI];omega)
  |skip
 all_goals try(repeat(rename x.1[Int.toNat _]? =some _=>hq;revert hq;rename x.1[Int.toNat _]? =some _=>hr;intro hq;rw[hr] at hq;cases hq))
 all_goals try(repeat(rename(Nd.kids _)[Int.toNat _]? =some _=>hq;revert hq;rename(Nd.kids _)[Int.toNat _]? =some _=>hr;intro hq;rw[hr] at hq;cases hq))
 all_goals try(rename(sds x.1 _)[Int.toNat _]? =some _=>hq;revert hq;rename(sds x.1 _)[Int.toNat _]? =some _=>hr2;intro hq;have hqq:=hr2.symm.trans hq;simp only[Option.some.injEq] at hqq;subst hqq)
 all_goals try(have hke:=a3a ‹_› ‹_› ‹_› ‹_›)
 all_goals try(have hle:=a3b ‹_› ‹_› ‹_›)
 all_goals try(have hve:=a3d ‹_›)
 all_goals try(have hse:=(show eI _ _ _ _ by assumption).2.1)
 all_goals first
  |omega
  |(rw[GI];omega)
  |((try simp only[AU]);omega)
  |exact a3c ‹_› ‹_› ‹_› ‹_› ‹_› (by omega)
  |(rw[←a3e (by omega) ‹_› ‹_› ‹_› ‹_›];simp [*];done)
  |exact a3f (by omega) ‹_› ‹_›
  |(rw[Br ‹_›];omega)
  |(congr 1;omega)
  |(simp only[Bf,GI,List.length_cons,List.length_nil];omega)
  |skip)
def Hh:Sig:= {X:=List Nd×Int,args:=fun x=>[nds x.1,.int .i64 x.2],pre:=fun x=>Bh x.1∧x.1.length≤2^30,Y:=Unit,post:=fun x y=>True,res:=fun x y=> .int .i64 (BI x.1 x.2),outs:=fun x y=>[.top,.top],keep:=false}
theorem We:Am G Tryz.prog 16 Hh:=
 vcFun_okP [(64,0,Cy),(69,0,JF)] [] false (fun x=>[]) Tryz.func16 rfl (by decide) ⟨Je,a3k,trivial⟩ (fun(x:List Nd×Int)=>(∀(y:Unit),True→True∧True∧True∧True)∧inR IntKind.i64 ((↑(List.length x.1):Int)-(1:Int))∧cA Cy [.int .i64 x.2,.int .i64 (0:Int),.int .i64 ((↑(List.length x.1):Int)-(1:Int))] fun x_1 y=>Aa (!inn x_1.1 x_1.2.1 x_1.2.2) (rA Hh x [.int .i64 (0:Int),.top,.top]) (cA JF [nds x.1,.int .i64 x.2] fun x_2 y=>((0:Int)≤x.2∧x.2<(↑(List.length (sds x_2.1 (Int.toNat x_2.2+(1:Nat)))):Int))∧Int.toNat x.2<List.length (sds x_2.1 (Int.toNat x_2.2+(1:Nat)))∧∀(x_3:Int),(sds x_2.1 (Int.toNat x_2.2+(1:Nat)))[Int.toNat x.2]? =some x_3→rA Hh x [.int .i64 x_3,.top,.top])) (fun x=>by kernel_rfl) fun(x:List Nd×Int) (hx:Bh x.1∧x.1.length≤2^30)=>(by
 dsimp only[cA,Bx,nds,Ag,rA,Cy,JF,Hh,Az,AC,mvL,lnL,mvE,lnE]
 obtain⟨h1,h2⟩:=hx;have hl:=h1.1
 (repeat' first|(with_reducible first|rfl|exact True.intro|apply AN|apply And.intro|((first|apply AD|apply AL|apply AE|apply AM)<;>intro _))|(apply AA<;>intro _)|apply AK|refine Ae () ?_ ?_|((first|apply AR|apply AQ|apply AP|apply AO|apply AJ|apply AI|apply AH|apply AG|apply AF)<;>try dsimp only)|apply Ae|(refine Prod.forall.2 ?_;intro _;try dsimp only)|(intro _;try dsimp only))
 all_goals first
  |exact h1
  |exact h2
  |((try simp only[AU]);omega)
  |(rw[Hy] at*;exact VB ‹_›)
  |(have hh:=(show inn x.2 0 (x.1.length-1)=true by assumption);rw[Hy] at hh;have:=Dh.1 hh;first|exact hh|omega|exact a2Y hh ‹_› |(rw[GI];omega))
  |skip)
theorem Wf{ns:List Nd}{i v:Int}(hv:(cnt ns.length (BZ ns))[i.toNat]? =some v)(h0:0≤i):((BZ ns).count i:Int)=v:=by
 have h:i.toNat<ns.length:=by have:=(EE hv).1;rwa [FC] at this
 rw[JD h] at hv
 have e2:((i.toNat:Nat):Int)=i:=by omega
 rw[e2] at hv;exact Option.some.inj hv
theorem a3l{ns:List Nd}{i v:Int}(h:tE ns i)(hl:i+1<(ns.length:Int))(hv:(cnt ns.length (BZ ns))[i.toNat]? =some v)(h1:v=1):tE ns (i+1):=by
 have:=Wf hv h.1
 refine⟨by have:=h.1;omega,by omega,fun c hc=> ?_⟩
 by_cases e:(c:Int)<i
 ·exact h.2.2 c e
 ·have:=h.1
  obtain rfl:i=(c:Int):=by omega
  omega
theorem RO{ns:List Nd}{i j c:Int}{y:Nd}(h:tI ns)(hy:ns[i.toNat]? =some y)(hc:y.kids[j.toNat]? =some c):0≤c∧c<ns.length:=(Mt h hy).2 c (Cv hc)
theorem a3m{ns:List Nd}{i:Int}{y:Nd}(h:tI ns)(hy:ns[i.toNat]? =some y):y.kids.length≤12:=(Mt h hy).1
theorem a3n{ns:List Nd}{i j c:Int}{y:Nd}(h0:0≤j)(hy:ns[i.toNat]? =some y)(hc:y.kids[j.toNat]? =some c):tk ns i (j+1)=tk ns i j++[c]:=VG h0 (by rw[Br hy];exact hc)
theorem a3o{ns:List Nd}{i j:Int}{y:Nd}(h0:0≤i)(hy:ns[i.toNat]? =some y)(hl:¬j<y.kids.length):tk ns i j=BZ (ns.take (i+1).toNat):=VH h0 hy (by rw[Br hy];exact hl)
def Oj(x:List Nd)(o:Int):LS:= {
 ι:=Int,inv:=fun j=>0≤j∧j≤(Ai x o).kids.length,
 regs:=fun j=>[(0,nds x),(3,.int .i64 x.length),(4,Ag (cnt x.length (tk x o j))),(5,.int .i64 o),(6,.int .i64 j)],als:=[],meas:=fun j=>(Ai x o).kids.length-j.toNat}
def Ok(x:List Nd):LS:= {
 ι:=Int,inv:=fun i=>0≤i∧i≤x.length,
 regs:=fun i=>[(0,nds x),(3,.int .i64 x.length),(4,Ag (cnt x.length (BZ (x.take i.toNat)))),(5,.int .i64 i)],als:=[],meas:=fun i=>x.length-i.toNat,
 sub:=fun i=>[(9,Oj x i)]}
def Ol(x:List Nd):LS:= {
 ι:=Int,inv:=tE x,
 regs:=fun i=>[(3,.int .i64 x.length),(4,Ag (cnt x.length (BZ x))),(7,.int .i64 i)],als:=[],meas:=fun i=>x.length-i.toNat}
def Ff:Sig:= {X:=List Nd,args:=fun x=>[nds x],pre:=fun x=>Bh x∧x.length≤2^30,Y:=Unit,post:=fun x y=>True,res:=fun x y=> .bool (BD x),outs:=fun x y=>[.top],keep:=false}
theorem Wg:Am G Tryz.prog 17 Ff:=
 vcFun_okP [(64,0,Cy),(16,0,Hh)] [(26,⟨Int,Bi⟩)] false (fun x=>[(6,Ok x),(13,Ol x)]) Tryz.func17 rfl (by decide) ⟨Je,We,trivial⟩ (fun(x:List Nd)=>(∀(y:Unit),True→True∧True∧True)∧cA Cy [.int .i64 (↑(List.length x):Int),.int .i64 (1:Int),.int .i64 (300:Int)] fun x_1 y=>Aa (!inn x_1.1 x_1.2.1 x_1.2.2) (rA Ff x [.bool false,.top]) (inR IntKind.i64 ((↑(List.length x):Int)-(1:Int))∧((0:Int)≤(↑(List.length x):Int)-(1:Int)∧(↑(List.length x):Int)-(1:Int)<(↑(List.length x):Int))∧∀(e:Nd),x[Int.toNat ((↑(List.length x):Int)-(1:Int))]? =some e→Aa (e.kind != (22:Int)) (rA Ff x [.bool false,.top]) (inR IntKind.i64 ((↑(List.length x):Int)-(1:Int))∧cA Hh [nds x,.int .i64 ((↑(List.length x):Int)-(1:Int))] fun x_2 y=>Aa (BI x_2.1 x_2.2==(0:Int)) (rA Ff x [.bool false,.top]) (((0:Int)≤(↑(List.length x):Int)∧(↑(List.length x):Int)≤(↑(List.length x):Int)∧(↑(8:Nat):Int)*(↑(List.length x):Int)≤(2:Int)^(46:Nat)∧(↑(List.length x):Int)≤(2:Int)^(46:Nat))∧∃(x_3:Int),(0:Int)=x_3∧eA (Ok x) [nds x,.int .i64 (↑(List.length x):Int),Ag (List.replicate (Int.toNat (↑(List.length x):Int)) x_3),.int .i64 (0:Int)]∧∀(i:Int),(0:Int)≤i∧i≤(↑(List.length x):Int)→Aa (decide (i<(↑(List.length x):Int))) (eA (Oj x i) [nds x,.int .i64 (↑(List.length x):Int),Ag (cnt (List.length x) (BZ (List.take (Int.toNat i) x))),.int .i64 i,.int .i64 (0:Int)]∧∀(i_1:Int),(0:Int)≤i_1∧i_1≤(↑(List.length (Ai x i).kids):Int)→((0:Int)≤i∧i<(↑(List.length x):Int))∧∀(e:Nd),x[Int.toNat i]? =some e→Aa (decide (i_1<(↑(List.length e.kids):Int))) (((0:Int)≤i∧i<(↑(List.length x):Int))∧∀(e:Nd),x[Int.toNat i]? =some e→((0:Int)≤i_1∧i_1<(↑(List.length e.kids):Int))∧∀(e_1:Int),e.kids[Int.toNat i_1]? =some e_1→((0:Int)≤e_1∧e_1<(↑(List.length (cnt (List.length x) (tk x i i_1))):Int))∧Int.toNat e_1<List.length (cnt (List.length x) (tk x i i_1))∧∀(x_4:Int),(cnt (List.length x) (tk x i i_1))[Int.toNat e_1]? =some x_4→inR IntKind.i64 (x_4+(1:Int))∧((0:Int)≤e_1∧e_1<(↑(List.length (cnt (List.length x) (tk x i i_1))):Int))∧Int.toNat e_1<List.length (cnt (List.length x) (tk x i i_1))∧∀(x_5:Int),(cnt (List.length x) (tk x i i_1))[Int.toNat e_1]? =some x_5→∃(x':Int),((@List.nil AV)=[]∧(@List.nil AV)=[])∧x_4+(1:Int)=x'∧inR IntKind.i64 (i_1+(1:Int))∧eN (Oj x i) i_1 [nds x,.int .i64 (↑(List.length x):Int),Ag (List.set (cnt (List.length x) (tk x i i_1)) (Int.toNat e_1) x'),.int .i64 i,.int .i64 (i_1+(1:Int))]) (inR IntKind.i64 (i+(1:Int))∧eN (Ok x) i [nds x,.int .i64 (↑(List.length x):Int),Ag (cnt (List.length x) (tk x i i_1)),.int .i64 (i+(1:Int))])) (eA (Ol x) [.int .i64 (↑(List.length x):Int),Ag (cnt (List.length x) (BZ (List.take (Int.toNat i) x))),.int .i64 (0:Int)]∧∀(i:Int),tE x i→inR IntKind.i64 (i+(1:Int))∧Aa (decide (i+(1:Int)<(↑(List.length x):Int))) (((0:Int)≤i∧i<(↑(List.length (cnt (List.length x) (BZ x))):Int))∧Int.toNat i<List.length (cnt (List.length x) (BZ x))∧∀(x_4:Int),(cnt (List.length x) (BZ x))[Int.toNat i]? =some x_4→Aa (x_4 != (1:Int)) (rA Ff x [.bool false,.top]) (inR IntKind.i64 (i+(1:Int))∧eN (Ol x) i [.int .i64 (↑(List.length x):Int),Ag (cnt (List.length x) (BZ x)),.int .i64 (i+(1:Int))])) (rA Ff x [.bool true,.top])))))) (fun x=>by kernel_rfl) fun(x:List Nd) (hx:Bh x∧x.length≤2^30)=>(by
 dsimp only[cA,eA,eN,Ok,Oj,Ol,Bx,nds,Ag,rA,Cy,Hh,Ff,Az,AC,mvL,lnL,mvE,lnE,Bt]
 obtain⟨h1,h2⟩:=hx;have hl:=h1.1
 (repeat' first|(with_reducible first|rfl|exact True.intro|apply AN|apply And.intro|((first|apply AD|apply AL|apply AE|apply AM)<;>intro _))|(apply AA<;>intro _)|apply AK|refine Ae () ?_ ?_|((first|apply AR|apply AQ|apply AP|apply AO|apply AJ|apply AI|apply AH|apply AG|apply AF)<;>try dsimp only)|apply Ae|(refine Prod.forall.2 ?_;intro _;try dsimp only)|(intro _;try dsimp only))
 all_goals try(have t1:=KX.1 (show inn x.length 1 300=true by assumption))
 all_goals try(have t0:=VN ‹_› ‹_› ‹_› ‹_›)
 all_goals try(repeat(rename x[Int.toNat _]? =some _=>hq;revert hq;rename x[Int.toNat _]? =some _=>hr;intro hq;rw[hr] at hq;cases hq))
 all_goals try(repeat(rename(Nd.kids _)[Int.toNat _]? =some _=>hq;revert hq;rename(Nd.kids _)[Int.toNat _]? =some _=>hr;intro hq;rw[hr] at hq;cases hq))
 all_goals try(simp only[Br (show x[Int.toNat _]? =some _ by assumption)] at*)
 all_goals first
  |rfl
  |exact KW (VO ‹_›)
  |exact KW (VP ‹_› ‹_›)
  |exact KW (fun h=>h.2.2.2 ‹_›)
  |exact VD
  |(rw[VF];done)
  |(have:=RO ‹_› ‹_› (show(Nd.kids _)[Int.toNat _]? =some _ by assumption);(try rw[FC]);omega)
  |(rw[a3n (by omega) ‹_› ‹_›];exact VE (RO ‹_› ‹_› ‹_›).1 (RO ‹_› ‹_› ‹_›).2 ‹_›)
  |(rw[a3o (by omega) ‹_› ‹_›];done)
  |(rw[VQ ‹_›];done)
  |(have:=VM ‹_› ‹_› ‹_›;omega)
  |exact VJ ‹_› ‹_› (by omega)
  |exact VK (Wf ‹_› (‹tE _ _›.1)) (‹tE _ _›.1) (by omega) ‹_›
  |exact a3l ‹_› ‹_› ‹_› ‹_›
  |exact⟨by omega,by omega,fun c hc=>by omega⟩
  |((try simp only[AU,Bf,List.length_replicate,FC] at*);omega)
  |(have:=a3m ‹_› ‹_›;(try simp only[AU] at*);omega)
  |(have hte:=(show tE x _ by assumption);have:=hte.1;have:=hte.2.1;(try rw[FC]);(try simp only[AU] at*);omega)
  |skip)
end Go.My
end
section
set_option linter.unusedVariables false
set_option linter.unusedSimpArgs false
namespace Go.My
open Go.Eng
def Om(ns:List Nd)(k:Int):Prop:=Bz ns k=true∧∀i:Nat,(i:Int)≤k→BG ns i=true
theorem a3p{ns:List Nd}{k:Int}(h:BI ns k≠0):Om ns k:=⟨(Mo h).1,(Mo h).2.2⟩
theorem Wh{ns:List Nd}{k:Int}(h:Om ns k):BG ns k=true:=by
 have:=Dh.1 h.1
 have h2:=h.2 k.toNat (by omega)
 rwa [show((k.toNat:Nat):Int)=k by omega] at h2
end Go.My
end
section
set_option linter.unusedVariables false
set_option linter.unusedSimpArgs false
namespace Go.My
open Go.Eng
def a3q(ns:List Nd):Prop:=(∀i:Nat,i<ns.length→BG ns i=true)∧∀i:Nat,i<ns.length-1→(BZ ns).count (i:Int)=1
theorem Mz{ns:List Nd}(h:BD ns=true):a3q ns∧1≤ns.length∧ns.length≤300∧Om ns ((ns.length:Int)-1):=by
 simp only[BD,Bool.and_eq_true,decide_eq_true_eq,Bool.not_eq_true',decide_eq_false_iff_not,List.all_eq_true,List.mem_range] at h
 have hu:=a3p h.2.2.1
 refine⟨⟨fun i hi=>hu.2 i (by omega),fun i hi=> ?_⟩,h.1.1,h.1.2,hu⟩
 exact h.2.2.2 i hi
end Go.My
end
section
set_option linter.unusedVariables false
set_option linter.unusedSimpArgs false
namespace Go.My
open Go.Eng
structure Sg where
 kind:Int
 text:List UInt8
 pos:Int
 blank:Bool
def sgA:Sg→List AV:=fun s=>[.int .i64 s.kind,.str s.text,.int .i64 s.pos,.bool s.blank]
theorem CE(s:Sg):sgA s=[.int .i64 s.kind,.str s.text,.int .i64 s.pos,.bool s.blank]:=rfl
def sgs(l:List Sg):AV:= .sl false 0 4 Sg sgA l
def Gi(l:List Sg):AV:= .sl true 0 4 Sg sgA l
end Go.My
end
section
set_option linter.unusedVariables false
set_option linter.unusedSimpArgs false
namespace Go.My
open Go.Eng
def Eu(t:List UInt8):Nat→Int→Int→Option (List Sg)
 |0,_,_=>none
 |n+1,at_,br=>match t[at_.toNat]? with
  |none=>some []
  |some c=>if c.toNat=32 then Eu t n (at_+1) br
   else if c.toNat=10 then Eu t n (at_+1) (br+1)
   else if(Bb (t.drop at_.toNat)).ok then(Eu t n (at_+(Bb (t.drop at_.toNat)).size) 0).map (⟨(Bb (t.drop at_.toNat)).kind,(Bb (t.drop at_.toNat)).text,at_,decide (br>1)⟩:: ·)
   else none
def Cq(t:List UInt8):Option (List Sg):=if 3000<t.length then none else Eu t (t.length+1) 0 0
structure Ps where
 pos:Int
 deep:Int
 nodes:List Nd
abbrev PR:=Option (Int×Ps)
abbrev PL:=Option (List Int×Ps)
def DW:Sg:=⟨0,[],0,false⟩
def sgO(sg:List Sg)(i:Int):Sg:=sg.getD i.toNat DW
def isT(sg:List Sg)(s:Ps)(k:Int)(t:List UInt8):Bool:=decide ((sgO sg s.pos).kind=k)&&((sgO sg s.pos).text==t)
def isM(sg:List Sg)(s:Ps)(t:List UInt8):Bool:=isT sg s 4 t
def isW(sg:List Sg)(s:Ps)(t:List UInt8):Bool:=isT sg s 1 t
def CV(sg:List Sg)(i:Int):Bool:=decide ((sgO sg i).kind=1)&& !kw (sgO sg i).text
def adv(s:Ps):Ps:=⟨s.pos+1,s.deep,s.nodes⟩
def dp(s:Ps)(d:Int):Ps:=⟨s.pos,s.deep+d,s.nodes⟩
def Bv(sg:List Sg)(t:List UInt8)(s:Ps):Option Ps:=if isM sg s t then some (adv s) else none
def AZ(x:Nd)(s:Ps):PR:=if 300≤s.nodes.length then none else some (s.nodes.length,⟨s.pos,s.deep,s.nodes++[x]⟩)
def Fg(r:PR):PR:=r.map fun p=>(p.1,adv p.2)
def EK(sg:List Sg)(k:Int)(b:Bool)(s:Ps):PR:=Fg (AZ ⟨k,(sgO sg s.pos).text,[],b⟩ s)
def BM(sg:List Sg)(s:Ps):PR:=if CV sg s.pos then EK sg 1 false s else none
def FD(sg:List Sg)(s:Ps):Option (List UInt8×Ps):=if CV sg s.pos then some ((sgO sg s.pos).text,adv s) else none
def Bm(sg:List Sg)(m:List UInt8)(x:Nd)(s:Ps):PR:=if isM sg s m then Fg (AZ x s) else none
def Bo(sg:List Sg)(one:Ps→PR)(m:List UInt8):Nat→List Int→Ps→PL
 |0,_,_=>none
 |n+1,ks,s=>if isM sg s m then some (ks,s) else(one s).bind fun p=>if isM sg p.2 [44] then Bo sg one m n (ks++[p.1]) (adv p.2) else some (ks++[p.1],p.2)
def Dz(sg:List Sg):Nat→Int→Int
 |0,i=>i
 |n+1,i=>if CV sg i then(if(sgO sg (i+1)).text=[44] then Dz sg n (i+2) else i+1) else i
def Iu(sg:List Sg)(s:Ps):Bool:=((sgO sg (Dz sg (sg.length+1) (s.pos+1))).text==[41])&&((sgO sg (Dz sg (sg.length+1) (s.pos+1)+1)).text==[61,62])
def BE(l:Nat):List (List UInt8):=match l with
 |0=>[[124,124]]
 |1=>[[38,38]]
 |2=>[[61,61]]
 |3=>[[60]]
 |4=>[[43],[45]]
 |_=>[[42]]
def Hz(sg:List Sg)(l:Nat)(s:Ps):List UInt8:=((BE l).find? fun m=>isM sg s m).getD []
def FE(sg:List Sg)(l:Nat)(one:Ps→PR):Nat→List UInt8→List Int→Ps→PR
 |0,_,_,_=>none
 |n+1,t,ks,s=>
  if t≠[]∧Hz sg l s≠t then(AZ ⟨7,t,ks,false⟩ s).bind fun p=>FE sg l one n [] [p.1] p.2
  else if Hz sg l s=[] then some (ks.headD 0,s)
  else(one (adv s)).bind fun p=>FE sg l one n (Hz sg l s) (ks++[p.1]) p.2
def CF(sg:List Sg)(val:Ps→PR)(k:Int)(s:Ps):PR:=(Bv sg [40] s).bind fun s=>(Bo sg val [41] (sg.length+1) [k] s).bind fun p=>Bm sg [41] ⟨5,[],p.1,false⟩ p.2
def Fh(sg:List Sg)(val:Ps→PR):Nat→Int→Ps→PR
 |0,_,_=>none
 |n+1,k,s=>
  if isM sg s [40] then(CF sg val k s).bind fun p=>Fh sg val n p.1 p.2
  else if isM sg s [46] then(if CV sg (s.pos+1) then(Fg (AZ ⟨6,(sgO sg (s.pos+1)).text,[k],false⟩ (adv s))).bind fun p=>Fh sg val n p.1 p.2 else none)
  else some (k,s)
def EL(sg:List Sg)(val:Ps→PR):Nat→List Int→Ps→PL
 |0,_,_=>none
 |n+1,ks,s=>if isM sg s [46,46] then(BM sg (adv s)).bind fun p=>(CF sg val p.1 p.2).bind fun q=>EL sg val n (ks++[q.1]) q.2 else some (ks,s)
inductive NT where
 |value|pick|chain (l:Nat)|fin|base
def pE(sg:List Sg):Nat→NT→Ps→PR
 |0,_,_=>none
 |n+1,.value,s=>(pE sg n .pick s).bind fun p=>if isM sg p.2 [46,46] then(EL sg (pE sg n .value) (sg.length+1) [p.1] p.2).bind fun q=>AZ ⟨10,[],q.1,false⟩ q.2 else some p
 |n+1,.pick,s=>if 20≤s.deep then none else(pE sg n (.chain 0) (dp s 1)).bind fun p=>
   if isM sg p.2 [63] then(pE sg n .pick (adv p.2)).bind fun a=>(Bv sg [58] a.2).bind fun s1=>(pE sg n .pick s1).bind fun b=>(AZ ⟨8,[],[p.1,a.1,b.1],false⟩ b.2).map fun q=>(q.1,dp q.2 (-1))
   else some (p.1,dp p.2 (-1))
 |n+1,.chain l,s=>if l=6 then pE sg n .fin s else(pE sg n (.chain (l+1)) s).bind fun p=>FE sg l (pE sg n (.chain (l+1))) (2*sg.length+4) [] [p.1] p.2
 |n+1,.fin,s=>(pE sg n .base s).bind fun p=>Fh sg (pE sg n .value) (sg.length+1) p.1 p.2
 |n+1,.base,s=>
  if(sgO sg s.pos).kind=1 then BM sg s
  else if(sgO sg s.pos).kind=2 then EK sg 2 false s
  else if(sgO sg s.pos).kind=3 then EK sg 3 false s
  else if isM sg s [91] then(Bo sg (pE sg n .value) [93] (sg.length+1) [] (adv s)).bind fun p=>Bm sg [93] ⟨4,[],p.1,false⟩ p.2
  else if isM sg s [40]&&Iu sg s then(Bo sg (BM sg) [41] (sg.length+1) [] (adv s)).bind fun p=>(Bv sg [41] p.2).bind fun s1=>(Bv sg [61,62] s1).bind fun s2=>(pE sg n .pick s2).bind fun q=>AZ ⟨9,[],p.1++[q.1],false⟩ q.2
  else if isM sg s [40] then(pE sg n .value (adv s)).bind fun p=>Bm sg [41] ⟨11,[],[p.1],false⟩ p.2
  else none
def peN:Nat:=40000
def Ca(sg:List Sg):Ps→PR:=pE sg peN .value
def CW(sg:List Sg)(b:Bool)(s:Ps):PR:=(FD sg s).bind fun p=>
 if isM sg p.2 [61] then(Ca sg (adv p.2)).bind fun q=>Bm sg [59] ⟨12,p.1,[q.1],b⟩ q.2 else Bm sg [59] ⟨12,p.1,[],b⟩ p.2
def Dc(sg:List Sg)(s:Ps):PR:=(Bv sg [40] s).bind fun s1=>(Ca sg s1).bind fun p=>(Bv sg [41] p.2).map fun s2=>(p.1,s2)
def Cs(sg:List Sg)(one:Bool→Ps→PR)(m:List UInt8):Nat→List Int→Ps→PL
 |0,_,_=>none
 |n+1,ks,s=>if isM sg s m then some (ks,s) else(one ((sgO sg s.pos).blank&&decide (0<ks.length)) s).bind fun p=>Cs sg one m n (ks++[p.1]) p.2
def BF(sg:List Sg)(one:Bool→Ps→PR)(s:Ps):PR:=if 20≤s.deep then none else(Bv sg [123] (dp s 1)).bind fun s1=>(Cs sg one [125] (sg.length+1) [] s1).bind fun p=>(Bm sg [125] ⟨18,[],p.1,false⟩ p.2).map fun q=>(q.1,dp q.2 (-1))
def stR(sg:List Sg):Nat→Bool→Ps→PR
 |0,_,_=>none
 |n+1,b,s=>
  if(sgO sg s.pos).kind=5 then EK sg 19 b s
  else if isW sg s [118,97,114] then CW sg b (adv s)
  else if isW sg s [114,101,116,117,114,110] then(if isM sg (adv s) [59] then Bm sg [59] ⟨15,[],[],b⟩ (adv s) else(Ca sg (adv s)).bind fun p=>Bm sg [59] ⟨15,[],[p.1],b⟩ p.2)
  else if isW sg s [105,102] then(Dc sg (adv s)).bind fun p=>(BF sg (stR sg n) p.2).bind fun q=>
   if isW sg q.2 [101,108,115,101] then(BF sg (stR sg n) (adv q.2)).bind fun r=>AZ ⟨16,[],[p.1,q.1,r.1],b⟩ r.2 else AZ ⟨16,[],[p.1,q.1],b⟩ q.2
  else if isW sg s [119,104,105,108,101] then(Dc sg (adv s)).bind fun p=>(BF sg (stR sg n) p.2).bind fun q=>AZ ⟨17,[],[p.1,q.1],b⟩ q.2
  else if CV sg s.pos&&isM sg (adv s) [61] then(Ca sg (adv (adv s))).bind fun p=>Bm sg [59] ⟨13,(sgO sg s.pos).text,[p.1],b⟩ p.2
  else(Ca sg s).bind fun p=>Bm sg [59] ⟨14,[],[p.1],b⟩ p.2
def stN:Nat:=30
def Ev(sg:List Sg):Ps→PR:=BF sg (stR sg stN)
def FF(sg:List Sg)(b:Bool)(s:Ps):PR:=(FD sg s).bind fun p=>(Bv sg [40] p.2).bind fun s1=>(Bo sg (BM sg) [41] (sg.length+1) [] s1).bind fun q=>(Bv sg [41] q.2).bind fun s2=>(Ev sg s2).bind fun r=>AZ ⟨20,p.1,q.1++[r.1],b⟩ r.2
def CP(sg:List Sg)(b:Bool)(s:Ps):PR:=
 if(sgO sg s.pos).kind=5 then EK sg 19 b s else if isW sg s [118,97,114] then CW sg b (adv s) else FF sg b s
def Gj(sg:List Sg)(b:Bool)(s:Ps):PR:=(FD sg s).bind fun p=>(Bv sg [123] p.2).bind fun s1=>(Cs sg (CP sg) [125] (sg.length+1) [] s1).bind fun q=>Bm sg [125] ⟨21,p.1,q.1,b⟩ q.2
def CX(sg:List Sg)(b:Bool)(s:Ps):PR:=
 if(sgO sg s.pos).kind=5 then EK sg 19 b s else if isW sg s [118,97,114] then CW sg b (adv s) else if isW sg s [99,108,97,115,115] then Gj sg b (adv s) else FF sg b s
def JG(sg:List Sg):Nat→List Int→List (Int×Int)→Ps→Option ((List Int×List (Int×Int))×Ps)
 |0,_,_,_=>none
 |n+1,ks,ms,s=>if s.pos<sg.length then(CX sg ((sgO sg s.pos).blank&&decide (0<ks.length)) s).bind fun p=>JG sg n (ks++[p.1]) (ms++[(s.pos,p.2.pos)]) p.2 else some ((ks,ms),s)
def ps0:Ps:=⟨0,0,[]⟩
def Iv(sg:List Sg):Option (List (Int×Int)×List Nd):=(JG sg (sg.length+1) [] [] ps0).bind fun p=>(AZ ⟨22,[],p.1.1,false⟩ p.2).bind fun q=>if BD q.2.nodes then some (p.1.2,q.2.nodes) else none
def Dp(t:List UInt8):Option (List Nd):=(Cq t).bind fun sg=>(Iv sg).map (·.2)
end Go.My
end
section
set_option linter.unusedVariables false
set_option linter.unusedSimpArgs false
namespace Go.My
open Go.Eng
structure Gs where
 pos:Int
 deep:Int
 bad:Bool
 nodes:List Nd
def CG(x:Nd):Prop:=x.text.length≤3000∧x.kids.length≤4000
def sgB(sg:List Sg):Prop:=sg.length≤3000∧∀e∈sg,e.text.length≤3000
def gsOk(sg:List Sg)(g:Gs):Prop:=(0≤g.pos∧g.pos≤sg.length)∧(0≤g.deep∧g.deep≤21)∧g.nodes.length≤300∧∀x∈g.nodes,CG x
def pur(g:Gs):Option Ps:=if g.bad then none else some ⟨g.pos,g.deep,g.nodes⟩
theorem Dq{g:Gs}(h:g.bad=true):pur g=none:=by simp [pur,h]
theorem CH{g:Gs}(h:g.bad=false):pur g=some ⟨g.pos,g.deep,g.nodes⟩:=by simp [pur,h]
theorem Wi{g:Gs}:pur g=none↔g.bad=true:=by
 cases h:g.bad<;>simp [pur,h]
theorem DX{g:Gs}{s:Ps}:pur g=some s↔g.bad=false∧s=⟨g.pos,g.deep,g.nodes⟩:=by
 cases h:g.bad<;>simp [pur,h,eq_comm]
def RP(sg:List Sg)(x:Gs)(f:Ps→Option Ps)(y:Gs):Prop:=gsOk sg y∧y.deep=x.deep∧x.pos≤y.pos∧pur y=(pur x).bind f
def Bu{α:Type}(sg:List Sg)(x:Gs)(f:Ps→Option (α×Ps))(y:α×Gs):Prop:=
 gsOk sg y.2∧y.2.deep=x.deep∧x.pos≤y.2.pos∧pur y.2=((pur x).bind f).map (·.2)∧∀p,(pur x).bind f=some p→y.1=p.1
def Af{α:Type}(sg:List Sg)(x:Gs)(f:Ps→Option (α×Ps))(y:α×Gs):Prop:=Bu sg x f y∧(y.2.bad=false→x.pos<y.2.pos)
def pkG(sg:List Sg)(g:Gs)(n:Int):Sg:=if g.bad=true∨(sg.length:Int)≤g.pos+n then DW else sgO sg (g.pos+n)
theorem a3r{sg:List Sg}{i:Int}(h:(sg.length:Int)≤i):sgO sg i=DW:=by
 unfold sgO;rw[List.getD_eq_getElem?_getD,List.getElem?_eq_none (by omega)];rfl
theorem HA{sg:List Sg}{i:Int}{e:Sg}(h:sg[i.toNat]? =some e):sgO sg i=e:=by simp [sgO,List.getD,h]
theorem HB{sg:List Sg}{g:Gs}{n:Int}(h:g.bad=false):pkG sg g n=sgO sg (g.pos+n):=by
 unfold pkG
 split
 ·rename_i hh
  rcases hh with hh|hh
  ·rw[h] at hh;cases hh
  ·exact(a3r hh).symm
 ·rfl
theorem a3s{sg:List Sg}{g:Gs}{n:Int}(h:g.bad=true):pkG sg g n=DW:=by unfold pkG;rw[if_pos (.inl h)]
def isG(sg:List Sg)(g:Gs)(k:Int)(t:List UInt8):Bool:=decide ((pkG sg g 0).kind=k)&&((pkG sg g 0).text==t)
def nmG(sg:List Sg)(g:Gs)(n:Int):Bool:=decide ((pkG sg g n).kind=1)&& !kw (pkG sg g n).text
theorem On{sg:List Sg}{g:Gs}{s:Ps}{k:Int}{t:List UInt8}(h:pur g=some s):isG sg g k t=isT sg s k t:=by
 obtain⟨h1,rfl⟩:=DX.1 h
 simp [isG,isT,HB h1]
theorem Wj{sg:List Sg}{g:Gs}{k:Int}{t:List UInt8}(h:pur g=none)(hk:k≠0):isG sg g k t=false:=by
 simp [isG,a3s (Wi.1 h),DW,Ne.symm hk]
theorem JH{sg:List Sg}{g:Gs}{s:Ps}{n:Int}(h:pur g=some s):nmG sg g n=CV sg (s.pos+n):=by
 obtain⟨h1,rfl⟩:=DX.1 h
 simp [nmG,CV,HB h1]
theorem CI{sg:List Sg}{g:Gs}{k:Int}{t:List UInt8}(h:isG sg g k t=true)(hk:k≠0):g.bad=false∧g.pos<sg.length:=by
 unfold isG pkG at h
 split at h
 ·simp [DW,Ne.symm hk] at h
 ·rename_i hh
  simp only[Int.add_zero] at hh
  exact⟨by cases hb:g.bad<;>simp_all,by omega⟩
theorem Oo{sg:List Sg}{g:Gs}{n:Int}(h:nmG sg g n=true):g.bad=false∧g.pos+n<sg.length:=by
 unfold nmG pkG at h
 split at h
 ·simp [DW] at h
 ·rename_i hh;exact⟨by cases hb:g.bad<;>simp_all,by omega⟩
end Go.My
end
