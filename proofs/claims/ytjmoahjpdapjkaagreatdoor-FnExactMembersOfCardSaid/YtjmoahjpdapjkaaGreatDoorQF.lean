/- A part of the proof: the engine and the contracts, joined. -/
import Derived.Test.YtjmoahjpdapjkaaGreatDoorQE
section
set_option linter.unusedVariables false
set_option linter.unusedSimpArgs false
namespace Go.My
open Go.Eng Go.Proofs
variable {G:GInv}
def PM(x:Nd):Prop:=x.text.length<2^62∧x.kids.length<2^62
def BE(l:List Nd):Prop:=l.length<2^62∧∀x∈l,PM x
theorem a7e{l:List Nd}{n:Nat}{x:Nd}(hx:l[n]? =some x)(h:BE l):PM x:=h.2 x (CR hx)
def GY(v:Int):List Int→Int→Int
 |[],_=> -1
 |c::l,i=>if v=c then i else GY v l (i+1)
theorem YF{v:Int}:∀ {l:List Int} {i:Int},0≤i→(0≤GY v l i↔v∈l)
 |[],i,h=>by simp [GY]
 |c::l,i,h=>by
  unfold GY
  by_cases e:v=c
  ·simp [e,h]
  ·rw[if_neg e,YF (by omega)];simp [e]
def Lb:Sig:= {X:=List Int×Int,args:=fun x=>[AQ x.1,.int .i64 x.2],pre:=fun x=>x.1.length<2^62,Y:=Unit,post:=fun x y=>True,res:=fun x y=> .int .i64 (GY x.2 x.1 0),outs:=fun x y=>[.top,.top],keep:=false}
def PN(x:List Int×Int):LS:= {ι:=Int,inv:=fun i=>(0≤i∧i≤x.1.length)∧GY x.2 (x.1.drop i.toNat) i=GY x.2 x.1 0,regs:=fun i=>[(0,AQ x.1),(1,.int .i64 x.2),(7,.int .i64 x.1.length),(8,.int .i64 i)],als:=[],meas:=fun i=>x.1.length-i.toNat}
theorem a7f:Aj G Tryz.prog 124 Lb:=
 vcFun_okP [] [] false (fun x=>[(2,PN x)]) Tryz.func124 rfl (by decide) trivial (fun(x:List Int×Int)=>(∀(y:Unit),True→True∧True∧True∧True)∧eA (PN x) [AQ x.1,.int .i64 x.2,.int .i64 (↑(List.length x.1):Int),.int .i64 (0:Int)]∧∀(i:Int),((0:Int)≤i∧i≤(↑(List.length x.1):Int))∧GY x.2 (List.drop (Int.toNat i) x.1) i=GY x.2 x.1 (0:Int)→Aa (decide (i<(↑(List.length x.1):Int))) (((0:Int)≤i∧i<(↑(List.length x.1):Int))∧∀(e:Int),x.1[Int.toNat i]? =some e→Aa (x.2==e) (rA Lb x [.int .i64 i,.top,.top]) (inR IntKind.i64 (i+(1:Int))∧eN (PN x) i [AQ x.1,.int .i64 x.2,.int .i64 (↑(List.length x.1):Int),.int .i64 (i+(1:Int))])) (rA Lb x [.int .i64 (-1:Int),.top,.top])) (fun x=>by kernel_rfl) fun(x:List Int×Int) (hx:x.1.length<2^62)=>(by
 dsimp only[eA,eN,PN,AQ,rA,Lb,Av,AB,Bw]
 have hx:x.1.length<2^62:=hx
 (repeat' first|(with_reducible first|rfl|exact True.intro|apply AK|apply And.intro|((first|apply Az|apply AI|apply AA|apply AJ)<;>intro _))|(apply Aw<;>intro _)|apply AH|refine Ae () ?_ ?_|((first|apply AO|apply AN|apply AM|apply AL|apply AG|apply AF|apply AE|apply AD|apply AC)<;>try dsimp only)|apply Ae|(refine Prod.forall.2 ?_;intro _;try dsimp only)|(intro _;try dsimp only))<;>(try dsimp only at*)<;>(try simp only[AR,List.length_cons,List.length_nil])<;>(try omega)
 all_goals first
  |(rename_i i hi hl e he h;rw[←hi.2,KC he];simp [GY,h];done)
  |(rename_i i hi hl e he h;rw[←hi.2,KC he,Dd hi.1.1];simp [GY,h];done)
  |rfl
  |(rename_i i hi hl;rw[←hi.2,List.drop_eq_nil_of_le (by omega)];rfl)
  |skip)
def Mt:Sig:= {X:=List Int×Int,args:=fun x=>[AQ x.1,.int .i64 x.2],pre:=fun x=>x.1.length<2^62,Y:=Unit,post:=fun x y=>True,res:=fun x y=> .bool (x.1.elem x.2),outs:=fun x y=>[.top,.top],keep:=false}
theorem a7g:Aj G Tryz.prog 98 Mt:=
 vcFun_okP [(124,0,Lb)] [] false (fun x=>[]) Tryz.func98 rfl (by decide) ⟨a7f,trivial⟩ (fun(x:List Int×Int)=>(∀(y:Unit),True→True∧True∧True∧True)∧cA Lb [AQ x.1,.int .i64 x.2] fun x_1 y=>rA Mt x [.bool (decide (GY x_1.2 x_1.1 (0:Int)≥(0:Int))),.top,.top]) (fun x=>by kernel_rfl) fun(x:List Int×Int) (hx:x.1.length<2^62)=>(by
 dsimp only[cA,AQ,rA,Mt,Lb,Av,AB,mvL,lnL,mvE,lnE]
 have hx:x.1.length<2^62:=hx
 (repeat' first|(with_reducible first|rfl|exact True.intro|apply AK|apply And.intro|((first|apply Az|apply AI|apply AA|apply AJ)<;>intro _))|(apply Aw<;>intro _)|apply AH|refine Ae () ?_ ?_|((first|apply AO|apply AN|apply AM|apply AL|apply AG|apply AF|apply AE|apply AD|apply AC)<;>try dsimp only)|apply Ae|(refine Prod.forall.2 ?_;intro _;try dsimp only)|(intro _;try dsimp only))<;>(try dsimp only at*)<;>(try simp only[AR,List.length_cons,List.length_nil])<;>(try omega)
 all_goals first|(rw[Bool.eq_iff_iff,decide_eq_true_iff,List.elem_iff];exact YF (by omega))|skip)
theorem YG{ns:List Nd}{x:Nd}:Ff ns x=true↔∀(j:Nat) c,x.kids[j]? =some c→CU ns x j c=true:=by
 have e:Ff ns x=BU (fun i c=>CU ns x i.toNat c) x.kids 0:=by
  unfold Ff
  have:(fun p:Int×Nat=>CU ns x p.2 p.1)=fun p:Int×Nat=>(fun(i c:Int)=>CU ns x i.toNat c) p.2 p.1:=by funext p;simp
  rw[this];exact TO (f:=fun i c=>CU ns x i.toNat c) (i:=0)
 rw[e,TP];simp
def cfI(ns:List Nd)(x:Nd)(i:Int):Prop:=0≤i∧i≤x.kids.length∧∀(j:Nat) c,(j:Int)<i→x.kids[j]? =some c→CU ns x j c=true
theorem a7h{ns:List Nd}{x:Nd}:cfI ns x 0:=⟨by omega,by omega,fun j c h=>by omega⟩
theorem PO{ns:List Nd}{x:Nd}{i c:Int}(h:cfI ns x i)(hc:x.kids[i.toNat]? =some c)(hk:CU ns x i.toNat c=true):cfI ns x (i+1):=by
 obtain⟨h1,h2,h3⟩:=h
 have:=(Ds hc).1
 refine⟨by omega,by omega,fun j d hj hd=> ?_⟩
 by_cases e:(j:Int)<i
 ·exact h3 j d e hd
 ·obtain rfl:j=i.toNat:=by omega
  rw[hc] at hd;cases hd;exact hk
theorem a7i{ns:List Nd}{x:Nd}{i:Int}(h:cfI ns x i)(hl:¬i<x.kids.length):true=Ff ns x:=by
 symm;rw[YG];intro j c hc
 exact h.2.2 j c (by have:=(Ds hc).1;omega) hc
theorem TU{ns:List Nd}{x:Nd}{i c:Int}(hc:x.kids[i.toNat]? =some c)(hk:CU ns x i.toNat c=false):false=Ff ns x:=by
 symm;rw[Bool.eq_false_iff];intro h
 rw[YG.1 h _ _ hc] at hk;cases hk
theorem a7j{ns:List Nd}{x y:Nd}{i c:Int}(hy:ns[c.toNat]? =some y)(h:y.kind≠5):CU ns x i.toNat c=true:=by
 simp [CU,BG hy,h]
theorem a7k{ns:List Nd}{x y:Nd}{i c:Int}(hy:ns[c.toNat]? =some y)(h:y.kind=5)(h0:(y.kids.length:Int)=0):CU ns x i.toNat c=false:=by
 have h0:=List.length_eq_zero_iff.1 (show y.kids.length=0 by omega)
 simp [CU,BG hy,h,h0]
theorem a7l{ns:List Nd}{x y:Nd}{i c d:Int}(hy:ns[c.toNat]? =some y)(h:y.kind=5)(hd:BP ns d=false)(h0:y.kids[0]? =some d):CU ns x i.toNat c=false:=by
 match hk:y.kids with
 |[]=>rw[hk] at h0;cases h0
 |e::t=>rw[hk] at h0;cases h0;simp [CU,BG hy,h,hk,hd]
theorem a7m{ns:List Nd}{x y z:Nd}{i c d d':Int}(hy:ns[c.toNat]? =some y)(h:y.kind=5)(hd:BP ns d=true)(h0:y.kids[0]? =some d)(hz:ns[d'.toNat]? =some z)(h0':y.kids[0]? =some d')(h10:x.kind=10)(hi:i>0)(h1:z.kind≠1):CU ns x i.toNat c=false:=by
 match hk:y.kids with
 |[]=>rw[hk] at h0;cases h0
 |e::t=>rw[hk] at h0 h0';cases h0;cases h0';simp [CU,BG hy,h,hk,hd,h10,Cg,BG hz,h1];omega
theorem a7n{ns:List Nd}{x y z:Nd}{i c d d':Int}(hy:ns[c.toNat]? =some y)(h:y.kind=5)(hd:BP ns d=true)(h0:y.kids[0]? =some d)(hz:ns[d'.toNat]? =some z)(h0':y.kids[0]? =some d')(h1:z.kind=1):CU ns x i.toNat c=true:=by
 match hk:y.kids with
 |[]=>rw[hk] at h0;cases h0
 |e::t=>rw[hk] at h0 h0';cases h0;cases h0';simp [CU,BG hy,h,hk,hd,Cg,BG hz,h1]
theorem a7o{ns:List Nd}{x y:Nd}{i c d:Int}(hy:ns[c.toNat]? =some y)(h:y.kind=5)(hd:BP ns d=true)(h0:y.kids[0]? =some d)(h1:x.kind≠10):CU ns x i.toNat c=true:=by
 match hk:y.kids with
 |[]=>rw[hk] at h0;cases h0
 |e::t=>rw[hk] at h0;cases h0;simp [CU,BG hy,h,hk,hd,h1]
theorem a7p{ns:List Nd}{x y:Nd}{i c d:Int}(hy:ns[c.toNat]? =some y)(h:y.kind=5)(hd:BP ns d=true)(h0:y.kids[0]? =some d)(h1:¬i>0):CU ns x i.toNat c=true:=by
 have:i.toNat=0:=by omega
 match hk:y.kids with
 |[]=>rw[hk] at h0;cases h0
 |e::t=>rw[hk] at h0;cases h0;simp [CU,BG hy,h,hk,hd,this]
theorem ndB{ns:List Nd}{l:List Int}{d d':Int}(hd:BP ns d=true)(h0:l[0]? =some d)(h0':l[0]? =some d'):0≤d'∧d'<ns.length:=by
 rw[h0] at h0';cases h0';exact Df.1 hd
def Hw:Sig:= {X:=List Nd×Nd,args:=fun x=>[nds x.1,.agg (ndA false x.2)],pre:=fun x=>BE x.1∧PM x.2∧∀c∈x.2.kids,0≤c∧c<x.1.length,Y:=Unit,post:=fun x y=>True,res:=fun x y=> .bool (Ff x.1 x.2),outs:=fun x y=>[.top,.top],keep:=false}
def Lc(x:List Nd×Nd):LS:= {ι:=Int,inv:=cfI x.1 x.2,regs:=fun i=>[(0,nds x.1),(3,.box 0 (ndA false x.2)),(9,AQ x.2.kids),(10,.int .i64 x.2.kids.length),(11,.int .i64 i)],als:=[],meas:=fun i=>x.2.kids.length-i.toNat}
theorem a7q:Aj G Tryz.prog 101 Hw:=
 vcFun_okP [(56,0,Gy)] [] false (fun x=>[(2,Lc x)]) Tryz.func101 rfl (by decide) ⟨TT,trivial⟩ (fun(x:List Nd×Nd)=>(∀(y:Unit),True→True∧True∧True∧True)∧eA (Lc x) [nds x.1,.box 0 [.int .i64 x.2.kind,.str x.2.text,AQ x.2.kids,.bool x.2.blank],AQ x.2.kids,.int .i64 (↑(List.length x.2.kids):Int),.int .i64 (0:Int)]∧∀(i:Int),cfI x.1 x.2 i→Aa (decide (i<(↑(List.length x.2.kids):Int))) (((0:Int)≤i∧i<(↑(List.length x.2.kids):Int))∧∀(e:Int),x.2.kids[Int.toNat i]? =some e→((0:Int)≤e∧e<(↑(List.length x.1):Int))∧∀(e_1:Nd),x.1[Int.toNat e]? =some e_1→Aa (e_1.kind != (5:Int)) (inR IntKind.i64 (i+(1:Int))∧eN (Lc x) i [nds x.1,.box 0 [.int .i64 x.2.kind,.str x.2.text,AQ x.2.kids,.bool x.2.blank],AQ x.2.kids,.int .i64 (↑(List.length x.2.kids):Int),.int .i64 (i+(1:Int))]) (Aa ((↑(List.length e_1.kids):Int)==(0:Int)) (rA Hw x [.bool false,.top,.top]) (((0:Int)≤(0:Int)∧(0:Int)<(↑(List.length e_1.kids):Int))∧∀(e:Int),e_1.kids[(0:Nat)]? =some e→cA Gy [nds x.1,.int .i64 e] fun x_1 y=>Aa (!BP x_1.1 x_1.2) (rA Hw x [.bool false,.top,.top]) (Aa (x.2.kind==(10:Int)) (Aa (decide (i>(0:Int))) (((0:Int)≤(0:Int)∧(0:Int)<(↑(List.length e_1.kids):Int))∧∀(e:Int),e_1.kids[(0:Nat)]? =some e→((0:Int)≤e∧e<(↑(List.length x.1):Int))∧∀(e_2:Nd),x.1[Int.toNat e]? =some e_2→Aa (e_2.kind != (1:Int)) (rA Hw x [.bool false,.top,.top]) (inR IntKind.i64 (i+(1:Int))∧eN (Lc x) i [nds x.1,.box 0 [.int .i64 x.2.kind,.str x.2.text,AQ x.2.kids,.bool x.2.blank],AQ x.2.kids,.int .i64 (↑(List.length x.2.kids):Int),.int .i64 (i+(1:Int))])) (inR IntKind.i64 (i+(1:Int))∧eN (Lc x) i [nds x.1,.box 0 [.int .i64 x.2.kind,.str x.2.text,AQ x.2.kids,.bool x.2.blank],AQ x.2.kids,.int .i64 (↑(List.length x.2.kids):Int),.int .i64 (i+(1:Int))])) (inR IntKind.i64 (i+(1:Int))∧eN (Lc x) i [nds x.1,.box 0 [.int .i64 x.2.kind,.str x.2.text,AQ x.2.kids,.bool x.2.blank],AQ x.2.kids,.int .i64 (↑(List.length x.2.kids):Int),.int .i64 (i+(1:Int))]))))) (rA Hw x [.bool true,.top,.top])) (fun x=>by kernel_rfl) fun(x:List Nd×Nd) (hx:BE x.1∧PM x.2∧∀c∈x.2.kids,0≤c∧c<x.1.length)=>(by
 dsimp only[cA,eA,eN,Lc,AQ,Bg,nds,rA,Hw,Gy,Av,AB,mvL,lnL,mvE,lnE,Bw]
 obtain⟨h1,h2,h3⟩:=hx;have hl:=h1.1;have hk:=h2.2
 (repeat' first|(with_reducible first|rfl|exact True.intro|apply AK|apply And.intro|((first|apply Az|apply AI|apply AA|apply AJ)<;>intro _))|(apply Aw<;>intro _)|apply AH|refine Ae () ?_ ?_|((first|apply AO|apply AN|apply AM|apply AL|apply AG|apply AF|apply AE|apply AD|apply AC)<;>try dsimp only)|apply Ae|(refine Prod.forall.2 ?_;intro _;try dsimp only)|(intro _;try dsimp only))
 all_goals first
  |exact a7h
  |exact a7i ‹_› ‹_›
  |exact PO ‹_› ‹_› (a7j ‹_› ‹_›)
  |exact PO ‹_› ‹_› (a7p ‹_› ‹_› ‹_› ‹_› ‹_›)
  |exact PO ‹_› ‹_› (a7o ‹_› ‹_› ‹_› ‹_› ‹_›)
  |exact PO ‹_› ‹_› (a7n ‹_› ‹_› ‹_› ‹_› ‹_› ‹_› ‹_›)
  |exact TU ‹_› (a7k ‹_› ‹_› ‹_›)
  |exact TU ‹_› (a7l ‹_› ‹_› ‹_› ‹_›)
  |exact TU ‹_› (a7m ‹_› ‹_› ‹_› ‹_› ‹_› ‹_› ‹_› ‹_› ‹_›)
  |exact(h3 _ (CR ‹_›)).1
  |exact(h3 _ (CR ‹_›)).2
  |exact(ndB ‹_› ‹_› ‹_›).1
  |exact(ndB ‹_› ‹_› ‹_›).2
  |(obtain⟨_,_,_⟩:= ‹cfI _ _ _›;(try simp only[AR] at*);omega)
  |skip)
end Go.My
end
section
set_option linter.unusedVariables false
set_option linter.unusedSimpArgs false
namespace Go.My
open Go.Eng Go.Proofs
variable {G:GInv}
def nkI(k:Int)(l:List Int)(i:Int):Prop:=0≤i∧i≤l.length∧(∀c∈l.take i.toNat,0≤c∧c<k)∧(l.take i.toNat).Nodup
theorem YH{k:Int}{l:List Int}:nkI k l 0:=⟨by omega,by omega,by simp,by simp⟩
theorem YI{k:Int}{l:List Int}{i c:Int}(h:nkI k l i)(hc:l[i.toNat]? =some c)(h1:¬c<0)(h2:¬c≥k)(h3:(l.take i.toNat).elem c=false):nkI k l (i+1):=by
 obtain⟨ha,hb,hd,he⟩:=h
 have:=(Ds hc).1
 refine⟨by omega,by omega,?_,?_⟩
 ·rw[Dd ha,DC hc];intro d hd'
  rcases List.mem_append.1 hd' with hd'|hd'
  ·exact hd d hd'
  ·simp at hd';subst hd';omega
 ·rw[Dd ha,DC hc,List.nodup_append]
  refine⟨he,by simp,?_⟩
  intro a ha' b hb' hab
  simp at hb';subst hb';subst hab
  simp at h3;exact h3 ha'
theorem NO{k:Int}{l:List Int}{i:Int}(h:nkI k l i)(hl:¬i<l.length):DQ l k=true∧l.Nodup:=by
 obtain⟨ha,hb,hd,he⟩:=h
 rw[List.take_of_length_le (by omega)] at hd he
 exact⟨by simpa [DQ] using hd,he⟩
theorem a7r{k:Int}{l:List Int}{n:Nat}{c:Int}(hc:l[n]? =some c)(h1:c<0):DQ l k=false:=by
 rw[Bool.eq_false_iff];intro h;simp only[DQ,List.all_eq_true,Bool.and_eq_true,decide_eq_true_eq] at h
 have:=h c (CR hc);omega
theorem a7s{k:Int}{l:List Int}{n:Nat}{c:Int}(hc:l[n]? =some c)(h1:c≥k):DQ l k=false:=by
 rw[Bool.eq_false_iff];intro h;simp only[DQ,List.all_eq_true,Bool.and_eq_true,decide_eq_true_eq] at h
 have:=h c (CR hc);omega
theorem YJ{l:List Int}{n:Nat}{c:Int}(hc:l[n]? =some c)(h1:(l.take n).elem c=true):¬l.Nodup:=by
 intro h
 have e:l=l.take n++l.drop n:=(List.take_append_drop n l).symm
 rw[e,KC hc,List.nodup_append] at h
 exact h.2.2 c (by simpa using h1) c (by simp) rfl
theorem YK{ns:List Nd}{k:Int}(h:BP ns k=false):false=Cl ns k:=by simp [Cl,h]
theorem Mu{ns:List Nd}{k:Int}{x:Nd}(hx:ns[k.toNat]? =some x)(h:BP ns k=true):Cl ns k=Ih ns k x:=by rw[Cl,h,BG hx];rfl
theorem a7t{ns:List Nd}{k:Int}{x:Nd}(hx:ns[k.toNat]? =some x)(h:BP ns k=true)(h1:(x.kids.length:Int)>12):false=Cl ns k:=by
 rw[Mu hx h,Ih,decide_eq_false (by omega)];rfl
theorem a7u{ns:List Nd}{k:Int}{x:Nd}(hx:ns[k.toNat]? =some x)(h:BP ns k=true)(h1:Fv x.kind x.text=false):false=Cl ns k:=by
 rw[Mu hx h,Ih,h1];simp
theorem YL{ns:List Nd}{k:Int}{x:Nd}(hx:ns[k.toNat]? =some x)(h:BP ns k=true)(h1:DQ x.kids k=false):false=Cl ns k:=by
 rw[Mu hx h,Ih,h1];simp
theorem a7v{ns:List Nd}{k:Int}{x:Nd}(hx:ns[k.toNat]? =some x)(h:BP ns k=true)(h1:¬x.kids.Nodup):false=Cl ns k:=by
 rw[Mu hx h,Ih,decide_eq_false h1];simp
theorem YM{ns:List Nd}{k i:Int}{x:Nd}(hx:ns[k.toNat]? =some x)(h:BP ns k=true)(h1:(x.kids.length:Int)≤12)(h2:Fv x.kind x.text=true)(h3:nkI k x.kids i)(hl:¬i<x.kids.length):
 Cl ns k=(El x.kind ((x.kids.take i.toNat).map (Cg ns))&&(Ff ns x&&(Hs x.kind|| !x.blank))):=by
 obtain⟨ha,hb⟩:=NO h3 hl
 rw[List.take_of_length_le (by have:=h3.1;omega),Mu hx h,Ih,h2,ha,decide_eq_true hb,decide_eq_true (by omega)];simp
theorem TV{k:Int}{l:List Int}{i c n:Int}(h:nkI k l i)(hl:¬i<l.length)(hk:k<n)(hc:c∈l):0≤c∧c<n:=by
 have:=(NO h hl).1
 simp only[DQ,List.all_eq_true,Bool.and_eq_true,decide_eq_true_eq] at this
 have:=this c hc;omega
theorem a7w{ns:List Nd}{l:List Int}{i c:Int}{y:Nd}(h0:0≤i)(hc:l[i.toNat]? =some c)(hy:ns[c.toNat]? =some y):(l.take i.toNat).map (Cg ns)++[y.kind]=(l.take (i+1).toNat).map (Cg ns):=by
 rw[Dd h0,DC hc,List.map_append];simp [Cg,BG hy]
def PP(x:List Nd×Int):LS:= {
 ι:=Int,inv:=nkI x.2 (An x.1 x.2).kids,
 regs:=fun i=>[(0,nds x.1),(1,.int .i64 x.2),(5,.box 0 (ndA false (An x.1 x.2))),(6,Ab (((An x.1 x.2).kids.take i.toNat).map (Cg x.1))),(28,AQ (An x.1 x.2).kids),(29,.int .i64 (An x.1 x.2).kids.length),(30,.int .i64 i)],als:=[],meas:=fun i=>(An x.1 x.2).kids.length-i.toNat}
def DT:Sig:= {X:=List Nd×Int,args:=fun x=>[nds x.1,.int .i64 x.2],pre:=fun x=>BE x.1,Y:=Unit,post:=fun x y=>True,res:=fun x y=> .bool (Cl x.1 x.2),outs:=fun x y=>[.top,.top],keep:=false}
theorem a7x:Aj G Tryz.prog 57 DT:=
 vcFun_okP [(56,0,Gy),(97,0,DE),(98,0,Mt),(34,0,IU),(99,0,FY),(100,0,BV),(101,0,Hw)] [(45,⟨Int,Bb⟩)] false (fun x=>[(8,PP x)]) Tryz.func57 rfl (by decide) ⟨TT,a6F,a7g,YB,TS,a7d,a7q,trivial⟩ (fun(x:List Nd×Int)=>(∀(y:Unit),True→True∧True∧True∧True)∧cA Gy [nds x.1,.int .i64 x.2] fun x_1 y=>Aa (!BP x_1.1 x_1.2) (rA DT x [.bool false,.top,.top]) (((0:Int)≤x.2∧x.2<(↑(List.length x.1):Int))∧∀(e:Nd),x.1[Int.toNat x.2]? =some e→Aa (decide ((↑(List.length e.kids):Int)>(12:Int))) (rA DT x [.bool false,.top,.top]) (cA DE [.agg [.int .i64 e.kind,.str e.text,AQ e.kids,.bool e.blank]] fun x_2 y=>Aa (!Fv x_2.kind x_2.text) (rA DT x [.bool false,.top,.top]) (eA (PP x) [nds x.1,.int .i64 x.2,.box 0 [.int .i64 e.kind,.str e.text,AQ e.kids,.bool e.blank],.nil,AQ e.kids,.int .i64 (↑(List.length e.kids):Int),.int .i64 (0:Int)]∧∀(i:Int),nkI x.2 (An x.1 x.2).kids i→Aa (decide (i<(↑(List.length (An x.1 x.2).kids):Int))) (((0:Int)≤i∧i<(↑(List.length (An x.1 x.2).kids):Int))∧∀(e:Int),(An x.1 x.2).kids[Int.toNat i]? =some e→Aa (decide (e<(0:Int))) (rA DT x [.bool false,.top,.top]) (Aa (decide (e≥x.2)) (rA DT x [.bool false,.top,.top]) (((0:Int)≤(0:Int)∧(0:Int)≤i∧i≤(↑(List.length (An x.1 x.2).kids):Int))∧cA Mt [AQ (List.take (Int.toNat i) (An x.1 x.2).kids),.int .i64 e] fun x_3 y=>Aa (List.elem x_3.2 x_3.1) (rA DT x [.bool false,.top,.top]) (((0:Int)≤e∧e<(↑(List.length x.1):Int))∧∀(e_1:Nd),x.1[Int.toNat e]? =some e_1→∃(x_4:Int),e_1.kind=x_4∧∃(zs:List Int),Ab [x_4]=Ab zs∧Be Bb∧AS (List.length (List.map (Cg x.1) (List.take (Int.toNat i) (An x.1 x.2).kids))+List.length zs) (8:Nat)∧inR IntKind.i64 (i+(1:Int))∧eN (PP x) i [nds x.1,.int .i64 x.2,.box 0 [.int .i64 (An x.1 x.2).kind,.str (An x.1 x.2).text,AQ (An x.1 x.2).kids,.bool (An x.1 x.2).blank],Ab (List.map (Cg x.1) (List.take (Int.toNat i) (An x.1 x.2).kids)++zs),AQ (An x.1 x.2).kids,.int .i64 (↑(List.length (An x.1 x.2).kids):Int),.int .i64 (i+(1:Int))])))) (cA IU [.int .i64 (An x.1 x.2).kind] fun x_3 y=>Aa (JN x_3) (cA BV [.int .i64 (An x.1 x.2).kind,Ab (List.map (Cg x.1) (List.take (Int.toNat i) (An x.1 x.2).kids))] fun x_4 y=>Aa (El x_4.1 x_4.2) (cA Hw [nds x.1,.agg [.int .i64 (An x.1 x.2).kind,.str (An x.1 x.2).text,AQ (An x.1 x.2).kids,.bool (An x.1 x.2).blank]] fun x_5 y=>Aa (Ff x_5.1 x_5.2) (rA DT x [.bool true,.top,.top]) (rA DT x [.bool false,.top,.top])) (rA DT x [.bool false,.top,.top])) (cA FY [.int .i64 (An x.1 x.2).kind] fun x_4 y=>Aa (EQ x_4) (cA BV [.int .i64 (An x.1 x.2).kind,Ab (List.map (Cg x.1) (List.take (Int.toNat i) (An x.1 x.2).kids))] fun x_5 y=>Aa (El x_5.1 x_5.2) (cA Hw [nds x.1,.agg [.int .i64 (An x.1 x.2).kind,.str (An x.1 x.2).text,AQ (An x.1 x.2).kids,.bool (An x.1 x.2).blank]] fun x_6 y=>Aa (Ff x_6.1 x_6.2) (rA DT x [.bool true,.top,.top]) (rA DT x [.bool false,.top,.top])) (rA DT x [.bool false,.top,.top])) (cA BV [.int .i64 (An x.1 x.2).kind,Ab (List.map (Cg x.1) (List.take (Int.toNat i) (An x.1 x.2).kids))] fun x_5 y=>Aa (El x_5.1 x_5.2) (cA Hw [nds x.1,.agg [.int .i64 (An x.1 x.2).kind,.str (An x.1 x.2).text,AQ (An x.1 x.2).kids,.bool (An x.1 x.2).blank]] fun x_6 y=>Aa (Ff x_6.1 x_6.2) (Aa ((An x.1 x.2).kind==(21:Int)) (rA DT x [.bool true,.top,.top]) (rA DT x [.bool !(An x.1 x.2).blank,.top,.top])) (rA DT x [.bool false,.top,.top])) (rA DT x [.bool false,.top,.top])))))))) (fun x=>by kernel_rfl) fun(x:List Nd×Int) (hx:BE x.1)=>(by
 dsimp only[cA,eA,eN,AQ,PP,Bg,nds,Ab,rA,Hw,Mt,DT,FY,Gy,IU,BV,DE,Av,AB,mvL,lnL,mvE,lnE,Bw]
 have h1:BE x.1:=hx;have hl:=h1.1
 (repeat' first|(with_reducible first|rfl|exact True.intro|apply AK|apply And.intro|((first|apply Az|apply AI|apply AA|apply AJ)<;>intro _))|(apply Aw<;>intro _)|apply AH|refine Ae () ?_ ?_|((first|apply AO|apply AN|apply AM|apply AL|apply AG|apply AF|apply AE|apply AD|apply AC)<;>try dsimp only)|apply Ae|(refine Prod.forall.2 ?_;intro _;try dsimp only)|(intro _;try dsimp only))
 all_goals try(simp only[BG (show x.1[x.2.toNat]? =some _ by assumption)] at*)
 all_goals first
  |rfl
  |exact YH
  |exact(h1.2 _ (CR ‹_›)).1
  |exact(h1.2 _ (CR ‹_›)).2
  |exact a7e ‹_› h1
  |exact(TV ‹_› ‹_› (Df.1 ‹BP _ _=true›).2 ‹_›).1
  |exact(TV ‹_› ‹_› (Df.1 ‹BP _ _=true›).2 ‹_›).2
  |exact YK ‹_›
  |exact a7t ‹_› ‹_› ‹_›
  |exact a7u ‹_› ‹_› ‹_›
  |exact YL ‹_› ‹_› (a7r ‹_› ‹_›)
  |exact YL ‹_› ‹_› (a7s ‹_› ‹_›)
  |exact a7v ‹_› ‹_› (YJ ‹_› ‹_›)
  |exact YI ‹_› ‹_› ‹_› ‹_› ‹_›
  |exact a7w (‹nkI _ _ _›.1) ‹_› ‹_›
  |(refine Eq.trans ?_ (YM (show x.1[x.2.toNat]? =some _ by assumption) ‹_› (by omega) ‹_› ‹_› ‹_›).symm;simp [-List.map_take,Hs,FW, *];done)
  |omega
  |(have:=Df.1 ‹BP _ _=true›;omega)
  |(have:=Df.1 ‹BP _ _=true›;obtain⟨_,_,_⟩:= ‹nkI _ _ _›;(try simp only[AR,AS,List.length_take,List.length_map,List.length_append,List.length_cons,List.length_nil] at*);omega)
  |(refine Eq.trans ?_ (YM (show x.1[x.2.toNat]? =some _ by assumption) ‹_› (by omega) ‹_› ‹_› ‹_›).symm;rw[‹El _ _=true›,‹Ff _ _=true›];simp [Hs, *]))
end Go.My
end
section
set_option linter.unusedVariables false
set_option linter.unusedSimpArgs false
namespace Go.My
open Go.Eng Go.Proofs
variable {G:GInv}
def dl(k i:Int)(ds:List Int):List Int:=ds++List.replicate (k+1-i).toNat 0
def dI(ns:List Nd)(k i:Int)(ds:List Int):Prop:=BP ns k=true∧0≤i∧i≤k+1∧DD ns i.toNat=some ds
def dJ(ns:List Nd)(k i:Int)(ds:List Int)(j d:Int):Prop:=dI ns k i ds∧i≤k∧Cl ns i=true∧0≤j∧j≤(An ns i).kids.length∧0≤d∧d≤14∧mx ds ((An ns i).kids.drop j.toNat) d=mx ds (An ns i).kids 0
theorem a7y{ns:List Nd}{k:Int}(h:BP ns k=true):dI ns k 0 []:=⟨h,by omega,by have:=Df.1 h;omega,rfl⟩
theorem a7z{k:Int}:List.replicate (k+1).toNat 0=dl k 0 []:=by simp [dl]
theorem YN{ns:List Nd}{k i:Int}{ds:List Int}(h:dI ns k i ds):((dl k i ds).length:Int)=k+1:=by
 obtain⟨h0,h1,h2,h3⟩:=h
 have:=NL h3
 rw[dl,List.length_append,List.length_replicate];omega
theorem a7A{ns:List Nd}{k i:Int}{ds:List Int}(h:dI ns k i ds)(hl:i<k+1)(hn:Cl ns i=false):0=DR ns k:=by
 obtain⟨h0,h1,h2,h3⟩:=h
 have:DD ns (i.toNat+1)=none:=by
  unfold DD;rw[h3];simp only
  rw[show((i.toNat:Nat):Int)=i by omega,hn];rfl
 unfold DR;rw[if_pos h0,XV this (by omega)]
theorem a7B{ns:List Nd}{k i:Int}{ds:List Int}(h:dI ns k i ds)(hl:i<k+1)(hn:Cl ns i=true):dJ ns k i ds 0 0:=
 ⟨h,by omega,hn,by omega,by omega,by omega,by omega,by simp⟩
theorem YO{ns:List Nd}{k i:Int}{ds:List Int}{j d c:Int}(h:dJ ns k i ds j d)(hc:(An ns i).kids[j.toNat]? =some c):0≤c∧c<i:=by
 exact(FT h.2.2.1).2.2.2.1 c (CR hc)
theorem TW{ns:List Nd}{k i:Int}{ds:List Int}{j d c:Int}(h:dJ ns k i ds j d)(hc:(An ns i).kids[j.toNat]? =some c):0≤c∧c<(dl k i ds).length:=by
 have:=YO h hc;have:=YN h.1;have:=h.1.2.2;omega
theorem a7C{ns:List Nd}{k i:Int}{ds:List Int}{j d c v:Int}(h:dJ ns k i ds j d)(hc:(An ns i).kids[j.toNat]? =some c)(hv:(dl k i ds)[c.toNat]? =some v):ds.getD c.toNat 0=v∧1≤v∧v≤14:=by
 have h1:=YO h hc
 have h2:=NL h.1.2.2.2
 rw[dl,List.getElem?_append_left (by omega)] at hv
 refine⟨by simp [List.getD,hv],?_⟩
 exact TB h.1.2.2.2 v (CR hv)
theorem a7D{ns:List Nd}{k i:Int}{ds:List Int}{j d c v:Int}(h:dJ ns k i ds j d)(hc:(An ns i).kids[j.toNat]? =some c)(hv:(dl k i ds)[c.toNat]? =some v):dJ ns k i ds (j+1) (max d v):=by
 obtain⟨hv1,hv2,hv3⟩:=a7C h hc hv
 obtain⟨h1,h2,h3,h4,h5,h6,h7,h8⟩:=h
 have:=(Ds hc).1
 refine⟨h1,h2,h3,by omega,by omega,by omega,by omega,?_⟩
 rw[←h8,KC hc,Dd h4];simp only[mx,hv1]
theorem YP{ns:List Nd}{k i:Int}{ds:List Int}{j d:Int}(h:dJ ns k i ds j d)(hl:¬j<(An ns i).kids.length):d=mx ds (An ns i).kids 0:=by
 obtain⟨h1,h2,h3,h4,h5,h6,h7,h8⟩:=h
 rw[List.drop_eq_nil_of_le (by omega)] at h8;exact h8
theorem a7E{ns:List Nd}{k i:Int}{ds:List Int}{j d:Int}(h:dJ ns k i ds j d)(hl:¬j<(An ns i).kids.length)(hd:d≥14):0=DR ns k:=by
 have hm:=YP h hl
 obtain⟨⟨ha,hb,he,hf⟩,h2,h3,_⟩:=h
 have e:((i.toNat:Nat):Int)=i:=by omega
 have:DD ns (i.toNat+1)=none:=by
  unfold DD;rw[hf];simp only
  rw[e,h3,if_pos rfl,if_pos (by omega)]
 unfold DR;rw[if_pos ha,XV this (by omega)]
theorem a7F{ns:List Nd}{k i:Int}{ds:List Int}{j d:Int}(h:dJ ns k i ds j d)(hl:¬j<(An ns i).kids.length)(hd:¬d≥14):dI ns k (i+1) (ds++[d+1]):=by
 have hm:=YP h hl
 obtain⟨⟨ha,hb,he,hf⟩,h2,h3,_⟩:=h
 have e:((i.toNat:Nat):Int)=i:=by omega
 refine⟨ha,by omega,by omega,?_⟩
 rw[Dd hb];unfold DD;rw[hf];simp only
 rw[e,h3,if_pos rfl,if_neg (by omega),←hm]
theorem a7G{ns:List Nd}{k i:Int}{ds:List Int}{j d:Int}(h:dJ ns k i ds j d):(dl k i ds).set i.toNat (d+1)=dl k (i+1) (ds++[d+1]):=by
 obtain⟨⟨ha,hb,he,hf⟩,h2,h3,_⟩:=h
 have hl:=NL hf
 have e:(k+1-i).toNat=(k+1-(i+1)).toNat+1:=by omega
 unfold dl;rw[List.set_append_right _ _ (by omega),e,hl];simp [List.replicate_succ]
theorem a7H{ns:List Nd}{k i v:Int}{ds:List Int}(h:dI ns k i ds)(hl:¬i<k+1)(hv:(dl k i ds)[k.toNat]? =some v):v=DR ns k:=by
 obtain⟨h0,h1,h2,h3⟩:=h
 obtain rfl:i=k+1:=by omega
 have:=Df.1 h0
 rw[show(k+1).toNat=k.toNat+1 by omega] at h3
 unfold DR;rw[if_pos h0,h3]
 simp [dl] at hv
 simp [List.getD,hv]
theorem YQ{ns:List Nd}{k:Int}(h:BP ns k=false):0=DR ns k:=by simp [DR,h]
theorem a7I{ns:List Nd}{k i:Int}{ds:List Int}{j d:Int}(h:dJ ns k i ds j d):((An ns i).kids.length:Int)≤12:=by
 have:=(FT h.2.2.1).2.1;omega
def PQ(x:List Nd×Int)(o:Int×List Int):LS:= {
 ι:=Int×Int,inv:=fun i=>dJ x.1 x.2 o.1 o.2 i.1 i.2,
 regs:=fun i=>[(0,nds x.1),(1,.int .i64 x.2),(5,Ab (dl x.2 o.1 o.2)),(18,.int .i64 (x.2+1)),(19,.int .i64 o.1),(6,.int .i64 o.1),(7,.int .i64 i.2),(30,AQ (An x.1 o.1).kids),(31,.int .i64 (An x.1 o.1).kids.length),(32,.int .i64 i.1)],als:=[],meas:=fun i=>(An x.1 o.1).kids.length-i.1.toNat}
def PS(x:List Nd×Int):LS:= {
 ι:=Int×List Int,inv:=fun i=>dI x.1 x.2 i.1 i.2,
 regs:=fun i=>[(0,nds x.1),(1,.int .i64 x.2),(5,Ab (dl x.2 i.1 i.2)),(18,.int .i64 (x.2+1)),(19,.int .i64 i.1)],als:=[],meas:=fun i=>x.2.toNat+1-i.1.toNat,
 sub:=fun i=>[(11,PQ x i)]}
def IV:Sig:= {X:=List Nd×Int,args:=fun x=>[nds x.1,.int .i64 x.2],pre:=fun x=>BE x.1∧x.1.length≤2^30,Y:=Unit,post:=fun x y=>True,res:=fun x y=> .int .i64 (DR x.1 x.2),outs:=fun x y=>[.top,.top],keep:=false}
theorem a7J:Aj G Tryz.prog 33 IV:=
 vcFun_okP [(56,0,Gy),(57,0,DT)] [(45,⟨Int,Bb⟩)] false (fun x=>[(5,PS x)]) Tryz.func33 rfl (by decide) ⟨TT,a7x,trivial⟩ (fun(x:List Nd×Int)=>(∀(y:Unit),True→True∧True∧True∧True)∧cA Gy [nds x.1,.int .i64 x.2] fun x_1 y=>Aa (!BP x_1.1 x_1.2) (rA IV x [.int .i64 (0:Int),.top,.top]) (inR IntKind.i64 (x.2+(1:Int))∧((0:Int)≤x.2+(1:Int)∧x.2+(1:Int)≤x.2+(1:Int)∧(↑(8:Nat):Int)*(x.2+(1:Int))≤(2:Int)^(46:Nat)∧x.2+(1:Int)≤(2:Int)^(46:Nat))∧∃(x_2:Int),(0:Int)=x_2∧eA (PS x) [nds x.1,.int .i64 x.2,Ab (List.replicate (Int.toNat (x.2+(1:Int))) x_2),.int .i64 (↑(List.length (List.replicate (Int.toNat (x.2+(1:Int))) x_2)):Int),.int .i64 (0:Int)]∧∀(i:Int×List Int),dI x.1 x.2 i.1 i.2→Aa (decide (i.1<x.2+(1:Int))) (cA DT [nds x.1,.int .i64 i.1] fun x_3 y=>Aa (!Cl x_3.1 x_3.2) (rA IV x [.int .i64 (0:Int),.top,.top]) (((0:Int)≤i.1∧i.1<(↑(List.length x.1):Int))∧∀(e:Nd),x.1[Int.toNat i.1]? =some e→eA (PQ x i) [nds x.1,.int .i64 x.2,Ab (dl x.2 i.1 i.2),.int .i64 (x.2+(1:Int)),.int .i64 i.1,.int .i64 i.1,.int .i64 (0:Int),AQ e.kids,.int .i64 (↑(List.length e.kids):Int),.int .i64 (0:Int)]∧∀(i_1:Int×Int),dJ x.1 x.2 i.1 i.2 i_1.1 i_1.2→Aa (decide (i_1.1<(↑(List.length (An x.1 i.1).kids):Int))) (((0:Int)≤i_1.1∧i_1.1<(↑(List.length (An x.1 i.1).kids):Int))∧∀(e:Int),(An x.1 i.1).kids[Int.toNat i_1.1]? =some e→((0:Int)≤e∧e<(↑(List.length (dl x.2 i.1 i.2)):Int))∧Int.toNat e<List.length (dl x.2 i.1 i.2)∧∀(x_4:Int),(dl x.2 i.1 i.2)[Int.toNat e]? =some x_4→inR IntKind.i64 (i_1.1+(1:Int))∧eN (PQ x i) i_1 [nds x.1,.int .i64 x.2,Ab (dl x.2 i.1 i.2),.int .i64 (x.2+(1:Int)),.int .i64 i.1,.int .i64 i.1,.int .i64 (max i_1.2 x_4),AQ (An x.1 i.1).kids,.int .i64 (↑(List.length (An x.1 i.1).kids):Int),.int .i64 (i_1.1+(1:Int))]) (Aa (decide (i_1.2≥(14:Int))) (rA IV x [.int .i64 (0:Int),.top,.top]) (inR IntKind.i64 (i_1.2+(1:Int))∧((0:Int)≤i.1∧i.1<(↑(List.length (dl x.2 i.1 i.2)):Int))∧Int.toNat i.1<List.length (dl x.2 i.1 i.2)∧∀(x_4:Int),(dl x.2 i.1 i.2)[Int.toNat i.1]? =some x_4→∃(x':Int),((@List.nil AV)=[]∧(@List.nil AV)=[])∧i_1.2+(1:Int)=x'∧inR IntKind.i64 (i.1+(1:Int))∧eN (PS x) i [nds x.1,.int .i64 x.2,Ab (List.set (dl x.2 i.1 i.2) (Int.toNat i.1) x'),.int .i64 (x.2+(1:Int)),.int .i64 (i.1+(1:Int))])))) (((0:Int)≤x.2∧x.2<(↑(List.length (dl x.2 i.1 i.2)):Int))∧Int.toNat x.2<List.length (dl x.2 i.1 i.2)∧∀(x_3:Int),(dl x.2 i.1 i.2)[Int.toNat x.2]? =some x_3→rA IV x [.int .i64 x_3,.top,.top]))) (fun x=>by kernel_rfl) fun(x:List Nd×Int) (hx:BE x.1∧x.1.length≤2^30)=>(by
 dsimp only[cA,eA,eN,AQ,PS,PQ,Bg,nds,Ab,rA,IV,DT,Gy,Av,AB,mvL,lnL,mvE,lnE,Bw]
 obtain⟨h1,h2⟩:=hx;have hl:=h1.1
 (repeat' first|(with_reducible first|rfl|exact True.intro|apply AK|apply And.intro|((first|apply Az|apply AI|apply AA|apply AJ)<;>intro _))|(apply Aw<;>intro _)|apply AH|refine Ae () ?_ ?_|((first|apply AO|apply AN|apply AM|apply AL|apply AG|apply AF|apply AE|apply AD|apply AC)<;>try dsimp only)|apply Ae|(refine Prod.forall.2 ?_;intro _;try dsimp only)|(intro _;try dsimp only))
 all_goals try(have nd0:=Df.1 (show BP x.1 x.2=true by assumption))
 all_goals first
  |rfl
  |exact YQ ‹_›
  |exact a7y ‹_›
  |exact a7z
  |exact a7A ‹_› ‹_› ‹_›
  |exact a7B ‹_› ‹_› ‹_›
  |exact(TW ‹_› ‹_›).1
  |exact(TW ‹_› ‹_›).2
  |exact a7D ‹_› ‹_› ‹_›
  |exact a7E ‹_› ‹_› ‹_›
  |exact a7F ‹_› ‹_› ‹_›
  |exact a7G ‹_›
  |exact a7H ‹_› ‹_› ‹_›
  |(rw[BG ‹_›];done)
  |(rw[List.length_replicate];omega)
  |(have:=a7I ‹_›;obtain⟨⟨_,_,_,_⟩,_,_,_,_,_,_,_⟩:= ‹dJ _ _ _ _ _ _›;(try simp only[AR,AS] at*);omega)
  |(have:=YN ‹_›;obtain⟨_,_,_,_⟩:= ‹dI _ _ _ _›;(try simp only[AR,AS] at*);omega)
  |(have:=TW ‹_› ‹_›;omega)
  |((try simp only[AR,AS] at*);omega)
  |skip)
end Go.My
end
section
set_option linter.unusedVariables false
set_option linter.unusedSimpArgs false
namespace Go.My
open Go.Eng Go.Proofs
variable {G:GInv}
def cnt(n:Nat)(l:List Int):List Int:=(List.range n).map fun(c:Nat)=>(l.count (c:Int):Int)
theorem Gz{n:Nat}{l:List Int}:(cnt n l).length=n:=by simp [cnt]
theorem Ld{n:Nat}{l:List Int}{c:Nat}(h:c<n):(cnt n l)[c]? =some (l.count (c:Int):Int):=by
 simp [cnt,List.getElem?_map,List.getElem?_range,h]
theorem YR{n:Nat}:List.replicate n 0=cnt n []:=by
 apply List.ext_getElem?
 intro c
 by_cases h:c<n
 ·rw[Ld h];simp [h]
 ·rw[List.getElem?_eq_none (by simp;omega),List.getElem?_eq_none (by simp [cnt];omega)]
theorem YS{n:Nat}{l:List Int}{c v:Int}(h0:0≤c)(h1:c<n)(hv:(cnt n l)[c.toNat]? =some v):(cnt n l).set c.toNat (v+1)=cnt n (l++[c]):=by
 apply List.ext_getElem?
 intro d
 rw[List.getElem?_set]
 by_cases hd:d<n
 ·rw[Ld hd,Ld hd,List.count_append]
  rw[Ld (by omega)] at hv
  by_cases e:c.toNat=d
  ·subst e
   rw[if_pos rfl,if_pos (by rw[Gz];omega)]
   have e2:((c.toNat:Nat):Int)=c:=by omega
   rw[e2] at hv ⊢
   simp at hv ⊢;omega
  ·rw[if_neg e]
   have:¬c=(d:Int):=by omega
   simp [List.count_cons,this]
 ·rw[if_neg (by omega),List.getElem?_eq_none (by rw[Gz];omega),List.getElem?_eq_none (by rw[Gz];omega)]
def tk(ns:List Nd)(i j:Int):List Int:=BZ (ns.take i.toNat)++(An ns i).kids.take j.toNat
def tI(ns:List Nd):Prop:=1≤ns.length∧ns.length≤300∧Cg ns (ns.length-1)=22∧DR ns (ns.length-1)≠0
theorem a7K{ns:List Nd}{n:Nat}{y:Nd}(h:tI ns)(hy:ns[n]? =some y):Cl ns n=true:=by
 exact(TC h.2.2.2).2.2 n (by have:=(Ds hy).1;omega)
theorem NP{ns:List Nd}{n:Nat}{y:Nd}(h:tI ns)(hy:ns[n]? =some y):y.kids.length≤12∧∀c∈y.kids,0≤c∧c<ns.length:=by
 obtain⟨h1,h2,h3,h4,h5⟩:=FT (a7K h hy)
 rw[BG (by simpa using hy)] at h2 h4
 exact⟨h2,fun c hc=>by have:=h4 c hc;omega⟩
theorem a7L{l:List Nd}(h:∀y∈l,y.kids.length≤12):(BZ l).length≤12*l.length:=by
 induction l with
 |nil=>simp [BZ]
 |cons y l ih=>
  have h1:=h y (by simp)
  have h2:=ih fun z hz=>h z (by simp [hz])
  simp only[BZ,List.flatMap_cons,List.length_append,List.length_cons] at h2 ⊢;omega
theorem a7M{ns:List Nd}{i j:Int}(h:tI ns):(BZ (ns.take i.toNat)).length≤3600:=by
 have h1:∀y∈ns.take i.toNat,y.kids.length≤12:=by
  intro y hy
  obtain⟨n,hn⟩:=List.mem_iff_getElem?.1 (List.mem_of_mem_take hy)
  exact(NP h hn).1
 have:=a7L h1
 have h2:(ns.take i.toNat).length≤300:=by have:=h.2.1;simp;omega
 omega
theorem a7N{n:Nat}{l:List Int}{c:Nat}{v:Int}(hv:(cnt n l)[c]? =some v):0≤v∧v≤l.length:=by
 have h:c<n:=by have:=(Ds hv).1;rwa [Gz] at this
 rw[Ld h] at hv;cases hv
 have:=List.count_le_length (a:=(c:Int)) (l:=l)
 omega
theorem YT{ns:List Nd}{i:Int}:tk ns i 0=BZ (ns.take i.toNat):=by simp [tk]
theorem YU{ns:List Nd}{i j c:Int}(h0:0≤j)(hc:(An ns i).kids[j.toNat]? =some c):tk ns i (j+1)=tk ns i j++[c]:=by
 rw[tk,Dd h0,DC hc,tk,List.append_assoc]
theorem YV{ns:List Nd}{i j:Int}{y:Nd}(h0:0≤i)(hy:ns[i.toNat]? =some y)(hl:¬j<(An ns i).kids.length):tk ns i j=BZ (ns.take (i+1).toNat):=by
 rw[tk,List.take_of_length_le (l:=(An ns i).kids) (by omega),Dd h0,DC hy,BG hy];simp [BZ]
def tE(ns:List Nd)(i:Int):Prop:=0≤i∧i≤ns.length-1∧∀c:Nat,(c:Int)<i→(BZ ns).count (c:Int)=1
theorem YW{ns:List Nd}{i v:Int}(hv:(((cnt ns.length (BZ ns)).take (ns.length-1:Int).toNat)[i.toNat]?)=some v)(h0:0≤i)(hl:i<(ns.length-1:Int)):((BZ ns).count i:Int)=v:=by
 rw[List.getElem?_take_of_lt (by omega),Ld (by omega)] at hv
 have e2:((i.toNat:Nat):Int)=i:=by omega
 rw[e2] at hv;exact Option.some.inj hv
theorem YX{ns:List Nd}{i:Int}(h:tI ns)(he:tE ns i)(hl:¬i<(ns.length-1:Int)):true=De ns:=by
 symm;unfold De
 have h1:decide (1≤ns.length)=true:=decide_eq_true h.1
 have h2:decide (ns.length≤300)=true:=decide_eq_true h.2.1
 have h3:decide (Cg ns (ns.length-1)=22)=true:=decide_eq_true h.2.2.1
 have h4:decide (DR ns (ns.length-1)=0)=false:=decide_eq_false h.2.2.2
 rw[h1,h2,h3,h4]
 simp only[Bool.and_true,Bool.not_false,Bool.true_and,List.all_eq_true,decide_eq_true_eq,List.mem_range]
 exact fun c hc=>he.2.2 c (by omega)
theorem YY{ns:List Nd}{i v:Int}(hv:(BZ ns).count i=v)(h0:0≤i)(hl:i<(ns.length-1:Int))(hne:v≠1):false=De ns:=by
 symm;rw[Bool.eq_false_iff];intro h
 unfold De at h
 simp only[Bool.and_eq_true,List.all_eq_true,decide_eq_true_eq,List.mem_range] at h
 have:=h.2.2.2 i.toNat (by omega)
 have e2:((i.toNat:Nat):Int)=i:=by omega
 rw[e2] at this;omega
theorem Mv{ns:List Nd}(h:¬tI ns):false=De ns:=by
 symm;rw[Bool.eq_false_iff];intro hh
 unfold De at hh
 simp only[Bool.and_eq_true,decide_eq_true_eq,Bool.not_eq_true',decide_eq_false_iff_not] at hh
 exact h ⟨hh.1.1,hh.1.2,hh.2.1,hh.2.2.1⟩
theorem NQ{ns:List Nd}{i j c:Int}{y:Nd}(h:tI ns)(hc:(An ns i).kids[j.toNat]? =some c)(hy:ns[i.toNat]? =some y):0≤c∧c<ns.length:=by
 rw[BG hy] at hc;exact(NP h hy).2 c (CR hc)
theorem YZ{ns:List Nd}{i:Int}{y:Nd}(h:tI ns)(hy:ns[i.toNat]? =some y):(An ns i).kids.length≤12:=by
 rw[BG hy];exact(NP h hy).1
theorem a7O{ns:List Nd}{i j:Int}{y:Nd}(h:tI ns)(hy:ns[i.toNat]? =some y):(tk ns i j).length≤3612:=by
 have h1:= @a7M ns i j h;have h2:=YZ h hy
 rw[tk,List.length_append,List.length_take];omega
theorem Za{ns:List Nd}{i j v:Int}{c:Nat}{y:Nd}(h:tI ns)(hv:(cnt ns.length (tk ns i j))[c]? =some v)(hy:ns[i.toNat]? =some y):0≤v∧v≤3612:=by
 have h1:=a7N hv;have h2:= @a7O ns i j y h hy;omega
theorem JS{x a b:Int}:inn x a b=true↔a≤x∧x≤b:=by simp [inn]
theorem Zb{ns:List Nd}{y:Nd}(h:inn ns.length 1 300=true)(hy:ns[(ns.length-1:Int).toNat]? =some y)(hk:y.kind=22)(hd:DR ns (ns.length-1)≠0):tI ns:=by
 have:=JS.1 h
 exact⟨by omega,by omega,by rw[Cg,BG hy,hk],hd⟩
theorem Zd{ns:List Nd}(h:inn ns.length 1 300=false):¬tI ns:=by
 intro hh;have:inn ns.length 1 300=true:=JS.2 ⟨by have:=hh.1;omega,by have:=hh.2.1;omega⟩
 rw[h] at this;cases this
theorem Ze{ns:List Nd}{y:Nd}(hy:ns[(ns.length-1:Int).toNat]? =some y)(hk:y.kind≠22):¬tI ns:=by
 intro hh;have:=hh.2.2.1;rw[Cg,BG hy] at this;exact hk this
theorem Zf{ns:List Nd}{i:Int}(hl:¬i<ns.length):BZ (ns.take i.toNat)=BZ ns:=by rw[List.take_of_length_le (by omega)]
theorem a7P{ns:List Nd}{i v:Int}(h:tE ns i)(hl:i<(ns.length-1:Int))(hv:(((cnt ns.length (BZ ns)).take (ns.length-1:Int).toNat)[i.toNat]?)=some v)(h1:v=1):tE ns (i+1):=by
 have:=YW hv h.1 hl
 refine⟨by have:=h.1;omega,by omega,fun c hc=> ?_⟩
 by_cases e:(c:Int)<i
 ·exact h.2.2 c e
 ·have:=h.1
  obtain rfl:i=(c:Int):=by omega
  omega
def PT(x:List Nd)(o:Int):LS:= {
 ι:=Int,inv:=fun j=>0≤j∧j≤(An x o).kids.length,
 regs:=fun j=>[(0,nds x),(3,.int .i64 x.length),(4,Ab (cnt x.length (tk x o j))),(34,nds x),(35,.int .i64 x.length),(36,.int .i64 o),(41,AQ (An x o).kids),(42,.int .i64 (An x o).kids.length),(43,.int .i64 j)],als:=[],meas:=fun j=>(An x o).kids.length-j.toNat}
def PU(x:List Nd):LS:= {
 ι:=Int,inv:=fun i=>0≤i∧i≤x.length,
 regs:=fun i=>[(0,nds x),(3,.int .i64 x.length),(4,Ab (cnt x.length (BZ (x.take i.toNat)))),(34,nds x),(35,.int .i64 x.length),(36,.int .i64 i)],als:=[],meas:=fun i=>x.length-i.toNat,
 sub:=fun i=>[(9,PT x i)]}
def PV(x:List Nd):LS:= {
 ι:=Int,inv:=tE x,
 regs:=fun i=>[(58,Ab ((cnt x.length (BZ x)).take (x.length-1:Int).toNat)),(59,.int .i64 (x.length-1)),(60,.int .i64 i)],als:=[],meas:=fun i=>x.length-1-i.toNat}
def Hx:Sig:= {X:=List Nd,args:=fun x=>[nds x],pre:=fun x=>BE x∧x.length≤2^30,Y:=Unit,post:=fun x y=>True,res:=fun x y=> .bool (De x),outs:=fun x y=>[.top],keep:=false}
theorem a7Q:Aj G Tryz.prog 67 Hx:=
 vcFun_okP [(58,0,Fg),(33,0,IV)] [(45,⟨Int,Bb⟩)] false (fun x=>[(6,PU x),(15,PV x)]) Tryz.func67 rfl (by decide) ⟨PC,a7J,trivial⟩ (fun(x:List Nd)=>(∀(y:Unit),True→True∧True∧True)∧cA Fg [.int .i64 (↑(List.length x):Int),.int .i64 (1:Int),.int .i64 (300:Int)] fun x_1 y=>Aa (!inn x_1.1 x_1.2.1 x_1.2.2) (rA Hx x [.bool false,.top]) (inR IntKind.i64 ((↑(List.length x):Int)-(1:Int))∧((0:Int)≤(↑(List.length x):Int)-(1:Int)∧(↑(List.length x):Int)-(1:Int)<(↑(List.length x):Int))∧∀(e:Nd),x[Int.toNat ((↑(List.length x):Int)-(1:Int))]? =some e→Aa (e.kind != (22:Int)) (rA Hx x [.bool false,.top]) (inR IntKind.i64 ((↑(List.length x):Int)-(1:Int))∧cA IV [nds x,.int .i64 ((↑(List.length x):Int)-(1:Int))] fun x_2 y=>Aa (DR x_2.1 x_2.2==(0:Int)) (rA Hx x [.bool false,.top]) (((0:Int)≤(↑(List.length x):Int)∧(↑(List.length x):Int)≤(↑(List.length x):Int)∧(↑(8:Nat):Int)*(↑(List.length x):Int)≤(2:Int)^(46:Nat)∧(↑(List.length x):Int)≤(2:Int)^(46:Nat))∧∃(x_3:Int),(0:Int)=x_3∧eA (PU x) [nds x,.int .i64 (↑(List.length x):Int),Ab (List.replicate (Int.toNat (↑(List.length x):Int)) x_3),nds x,.int .i64 (↑(List.length x):Int),.int .i64 (0:Int)]∧∀(i:Int),(0:Int)≤i∧i≤(↑(List.length x):Int)→Aa (decide (i<(↑(List.length x):Int))) (((0:Int)≤i∧i<(↑(List.length x):Int))∧∀(e:Nd),x[Int.toNat i]? =some e→eA (PT x i) [nds x,.int .i64 (↑(List.length x):Int),Ab (cnt (List.length x) (BZ (List.take (Int.toNat i) x))),nds x,.int .i64 (↑(List.length x):Int),.int .i64 i,AQ e.kids,.int .i64 (↑(List.length e.kids):Int),.int .i64 (0:Int)]∧∀(i_1:Int),(0:Int)≤i_1∧i_1≤(↑(List.length (An x i).kids):Int)→Aa (decide (i_1<(↑(List.length (An x i).kids):Int))) (((0:Int)≤i_1∧i_1<(↑(List.length (An x i).kids):Int))∧∀(e:Int),(An x i).kids[Int.toNat i_1]? =some e→((0:Int)≤e∧e<(↑(List.length (cnt (List.length x) (tk x i i_1))):Int))∧Int.toNat e<List.length (cnt (List.length x) (tk x i i_1))∧∀(x_4:Int),(cnt (List.length x) (tk x i i_1))[Int.toNat e]? =some x_4→inR IntKind.i64 (x_4+(1:Int))∧((0:Int)≤e∧e<(↑(List.length (cnt (List.length x) (tk x i i_1))):Int))∧Int.toNat e<List.length (cnt (List.length x) (tk x i i_1))∧∀(x_5:Int),(cnt (List.length x) (tk x i i_1))[Int.toNat e]? =some x_5→∃(x':Int),((@List.nil AV)=[]∧(@List.nil AV)=[])∧x_4+(1:Int)=x'∧inR IntKind.i64 (i_1+(1:Int))∧eN (PT x i) i_1 [nds x,.int .i64 (↑(List.length x):Int),Ab (List.set (cnt (List.length x) (tk x i i_1)) (Int.toNat e) x'),nds x,.int .i64 (↑(List.length x):Int),.int .i64 i,AQ (An x i).kids,.int .i64 (↑(List.length (An x i).kids):Int),.int .i64 (i_1+(1:Int))]) (inR IntKind.i64 (i+(1:Int))∧eN (PU x) i [nds x,.int .i64 (↑(List.length x):Int),Ab (cnt (List.length x) (tk x i i_1)),nds x,.int .i64 (↑(List.length x):Int),.int .i64 (i+(1:Int))])) (inR IntKind.i64 ((↑(List.length x):Int)-(1:Int))∧((0:Int)≤(0:Int)∧(0:Int)≤(↑(List.length x):Int)-(1:Int)∧(↑(List.length x):Int)-(1:Int)≤(↑(List.length (cnt (List.length x) (BZ (List.take (Int.toNat i) x)))):Int))∧eA (PV x) [Ab (List.take (Int.toNat ((↑(List.length x):Int)-(1:Int))) (cnt (List.length x) (BZ (List.take (Int.toNat i) x)))),.int .i64 (↑(List.length (List.take (Int.toNat ((↑(List.length x):Int)-(1:Int))) (cnt (List.length x) (BZ (List.take (Int.toNat i) x))))):Int),.int .i64 (0:Int)]∧∀(i:Int),tE x i→Aa (decide (i<(↑(List.length x):Int)-(1:Int))) (((0:Int)≤i∧i<(↑(List.length (List.take (Int.toNat ((↑(List.length x):Int)-(1:Int))) (cnt (List.length x) (BZ x)))):Int))∧Int.toNat i<List.length (List.take (Int.toNat ((↑(List.length x):Int)-(1:Int))) (cnt (List.length x) (BZ x)))∧∀(x_4:Int),(List.take (Int.toNat ((↑(List.length x):Int)-(1:Int))) (cnt (List.length x) (BZ x)))[Int.toNat i]? =some x_4→Aa (x_4 != (1:Int)) (rA Hx x [.bool false,.top]) (inR IntKind.i64 (i+(1:Int))∧eN (PV x) i [Ab (List.take (Int.toNat ((↑(List.length x):Int)-(1:Int))) (cnt (List.length x) (BZ x))),.int .i64 ((↑(List.length x):Int)-(1:Int)),.int .i64 (i+(1:Int))])) (rA Hx x [.bool true,.top])))))) (fun x=>by kernel_rfl) fun(x:List Nd) (hx:BE x∧x.length≤2^30)=>(by
 dsimp only[cA,eA,eN,AQ,PU,PT,PV,Bg,nds,Ab,rA,IV,Hx,Fg,Av,AB,mvL,lnL,mvE,lnE,Bw]
 obtain⟨h1,h2⟩:=hx;have hl:=h1.1
 (repeat' first|(with_reducible first|rfl|exact True.intro|apply AK|apply And.intro|((first|apply Az|apply AI|apply AA|apply AJ)<;>intro _))|(apply Aw<;>intro _)|apply AH|refine Ae () ?_ ?_|((first|apply AO|apply AN|apply AM|apply AL|apply AG|apply AF|apply AE|apply AD|apply AC)<;>try dsimp only)|apply Ae|(refine Prod.forall.2 ?_;intro _;try dsimp only)|(intro _;try dsimp only))
 all_goals try(have t1:=JS.1 (show inn x.length 1 300=true by assumption))
 all_goals try(have t0:=Zb ‹_› ‹_› ‹_› ‹_›)
 all_goals first
  |rfl
  |exact Mv (Zd ‹_›)
  |exact Mv (Ze ‹_› ‹_›)
  |exact Mv (fun h=>h.2.2.2 ‹_›)
  |exact YR
  |(rw[YT];done)
  |(rw[BG ‹_›];done)
  |exact(NQ ‹_› ‹_› ‹_›).1
  |(rw[Gz];exact(NQ ‹_› ‹_› ‹_›).2)
  |(have:=NQ ‹_› (show(An x _).kids[_]? =some _ by assumption) ‹_›;rw[Gz];omega)
  |(rw[YU (by omega) ‹_›];exact YS (NQ ‹_› ‹_› ‹_›).1 (NQ ‹_› ‹_› ‹_›).2 ‹_›)
  |(rw[YV (by omega) ‹_› ‹_›];done)
  |(rw[Zf ‹_›];done)
  |(have:=Za ‹_› ‹_› ‹_›;omega)
  |(have:=YZ ‹_› ‹_›;(try simp only[AR] at*);omega)
  |exact YX ‹_› ‹_› ‹_›
  |exact YY (YW ‹_› (‹tE _ _›.1) ‹_›) (‹tE _ _›.1) ‹_› ‹_›
  |exact a7P ‹_› ‹_› ‹_› ‹_›
  |exact⟨by omega,by omega,fun c hc=>by omega⟩
  |(rw[List.length_take,Gz];omega)
  |((try simp only[AR,AS,List.length_replicate,Gz] at*);omega)
  |(obtain⟨_,_,_⟩:= ‹tE _ _›;(try rw[List.length_take,Gz]);(try simp only[AR] at*);omega)
  |skip)
end Go.My
end
section
set_option linter.unusedVariables false
set_option linter.unusedSimpArgs false
namespace Go.My
open Go.Eng Go.Proofs
variable {G:GInv}
def Il:Sig:= {X:=Int,args:=fun x=>[.int .i64 x],pre:=fun x=>True,Y:=Unit,post:=fun x y=>True,res:=fun x y=> .bool (BM x),outs:=fun x y=>[.top],keep:=false}
theorem a7R:Aj G Tryz.prog 155 Il:=
 vcFun_okP [(53,0,CV)] [] false (fun x=>[]) Tryz.func155 rfl (by decide) ⟨KF,trivial⟩ (fun(x:Int)=>(∀(y:Unit),True→True∧True∧True)∧cA CV [.int .i64 x,.int .i64 (1:Int),.int .i64 (11:Int)] fun x_1 y=>rA Il x [.bool (inn x_1.1 x_1.2.1 x_1.2.2),.top]) (fun x=>by kernel_rfl) fun(x:Int) (hx:True)=>(by
 dsimp only[cA,rA,CV,Il,Av,AB,mvL,lnL,mvE,lnE]
 (repeat' first|(with_reducible first|rfl|exact True.intro|apply AK|apply And.intro|((first|apply Az|apply AI|apply AA|apply AJ)<;>intro _))|(apply Aw<;>intro _)|apply AH|refine Ae () ?_ ?_|((first|apply AO|apply AN|apply AM|apply AL|apply AG|apply AF|apply AE|apply AD|apply AC)<;>try dsimp only)|apply Ae|(refine Prod.forall.2 ?_;intro _;try dsimp only)|(intro _;try dsimp only))<;>(try dsimp only at*)<;>(try simp only[AR,List.length_cons,List.length_nil])<;>(try omega)
 all_goals simp [BM,FW, *])
def Im:Sig:= {X:=Int,args:=fun x=>[.int .i64 x],pre:=fun x=>True,Y:=Unit,post:=fun x y=>True,res:=fun x y=> .bool (ER x),outs:=fun x y=>[.top],keep:=false}
theorem Zg:Aj G Tryz.prog 117 Im:=
 vcFun_okP [(53,0,CV)] [] false (fun x=>[]) Tryz.func117 rfl (by decide) ⟨KF,trivial⟩ (fun(x:Int)=>(∀(y:Unit),True→True∧True∧True)∧cA CV [.int .i64 x,.int .i64 (12:Int),.int .i64 (17:Int)] fun x_1 y=>Aa (inn x_1.1 x_1.2.1 x_1.2.2) (rA Im x [.bool true,.top]) (rA Im x [.bool (x==(19:Int)),.top])) (fun x=>by kernel_rfl) fun(x:Int) (hx:True)=>(by
 dsimp only[cA,rA,CV,Im,Av,AB,mvL,lnL,mvE,lnE]
 (repeat' first|(with_reducible first|rfl|exact True.intro|apply AK|apply And.intro|((first|apply Az|apply AI|apply AA|apply AJ)<;>intro _))|(apply Aw<;>intro _)|apply AH|refine Ae () ?_ ?_|((first|apply AO|apply AN|apply AM|apply AL|apply AG|apply AF|apply AE|apply AD|apply AC)<;>try dsimp only)|apply Ae|(refine Prod.forall.2 ?_;intro _;try dsimp only)|(intro _;try dsimp only))<;>(try dsimp only at*)<;>(try simp only[AR,List.length_cons,List.length_nil])<;>(try omega)
 all_goals simp [ER,JN,FW, *])
def Dx:Sig:= {X:=Int,args:=fun x=>[.int .i64 x],pre:=fun x=>True,Y:=Unit,post:=fun x y=>True,res:=fun x y=> .tup [.int .i64 (CW x).1,.int .i64 (CW x).2],outs:=fun x y=>[.top],keep:=false}
theorem a7S:Aj G Tryz.prog 115 Dx:=
 vcFun_okP [] [] false (fun x=>[]) Tryz.func115 rfl (by decide) trivial (fun(x:Int)=>(∀(y:Unit),True→(True∧True∧True)∧True∧True)∧Aa (x==(4:Int)) (rA Dx x [.tup [.int .i64 (0:Int),.int .i64 (12:Int)],.top]) (Aa (x==(18:Int)) (rA Dx x [.tup [.int .i64 (0:Int),.int .i64 (12:Int)],.top]) (Aa (x==(21:Int)) (rA Dx x [.tup [.int .i64 (0:Int),.int .i64 (12:Int)],.top]) (Aa (x==(22:Int)) (rA Dx x [.tup [.int .i64 (0:Int),.int .i64 (12:Int)],.top]) (Aa (x==(5:Int)) (rA Dx x [.tup [.int .i64 (1:Int),.int .i64 (12:Int)],.top]) (Aa (x==(9:Int)) (rA Dx x [.tup [.int .i64 (1:Int),.int .i64 (12:Int)],.top]) (Aa (x==(20:Int)) (rA Dx x [.tup [.int .i64 (1:Int),.int .i64 (12:Int)],.top]) (Aa (x==(6:Int)) (rA Dx x [.tup [.int .i64 (1:Int),.int .i64 (1:Int)],.top]) (Aa (x==(11:Int)) (rA Dx x [.tup [.int .i64 (1:Int),.int .i64 (1:Int)],.top]) (Aa (x==(13:Int)) (rA Dx x [.tup [.int .i64 (1:Int),.int .i64 (1:Int)],.top]) (Aa (x==(14:Int)) (rA Dx x [.tup [.int .i64 (1:Int),.int .i64 (1:Int)],.top]) (Aa (x==(7:Int)) (rA Dx x [.tup [.int .i64 (2:Int),.int .i64 (12:Int)],.top]) (Aa (x==(10:Int)) (rA Dx x [.tup [.int .i64 (2:Int),.int .i64 (12:Int)],.top]) (Aa (x==(8:Int)) (rA Dx x [.tup [.int .i64 (3:Int),.int .i64 (3:Int)],.top]) (Aa (x==(12:Int)) (rA Dx x [.tup [.int .i64 (0:Int),.int .i64 (1:Int)],.top]) (Aa (x==(15:Int)) (rA Dx x [.tup [.int .i64 (0:Int),.int .i64 (1:Int)],.top]) (Aa (x==(16:Int)) (rA Dx x [.tup [.int .i64 (2:Int),.int .i64 (3:Int)],.top]) (Aa (x==(17:Int)) (rA Dx x [.tup [.int .i64 (2:Int),.int .i64 (2:Int)],.top]) (rA Dx x [.tup [.int .i64 (0:Int),.int .i64 (0:Int)],.top]))))))))))))))))))) (fun x=>by kernel_rfl) fun(x:Int) (hx:True)=>(by
 dsimp only[rA,Dx,Av,AB]
 (repeat' first|(with_reducible first|rfl|exact True.intro|apply AK|apply And.intro|((first|apply Az|apply AI|apply AA|apply AJ)<;>intro _))|(apply Aw<;>intro _)|apply AH|refine Ae () ?_ ?_|((first|apply AO|apply AN|apply AM|apply AL|apply AG|apply AF|apply AE|apply AD|apply AC)<;>try dsimp only)|apply Ae|(refine Prod.forall.2 ?_;intro _;try dsimp only)|(intro _;try dsimp only))<;>(try dsimp only at*)<;>(try simp only[AR,List.length_cons,List.length_nil])<;>(try omega)
 all_goals simp [CW, *])
def Hy(x:List Nd×Int×Int):Prop:=BE x.1∧BP x.1 x.2.1=true∧((An x.1 x.2.1).kind=10→∀c,(An x.1 x.2.1).kids[x.2.2.toNat]? =some c→Cg x.1 c=5→∃h t,(An x.1 c).kids=h::t∧BP x.1 h=true)∧
 (0≤x.2.2∧x.2.2<(An x.1 x.2.1).kids.length)∧∀c,(An x.1 x.2.1).kids[x.2.2.toNat]? =some c→0≤c∧c<x.1.length
theorem TY{x:List Nd×Int×Int}{y:Nd}(h:Hy x)(hy:x.1[x.2.1.toNat]? =some y):0≤x.2.2∧x.2.2<y.kids.length:=by
 have:=h.2.2.2.1;rwa [BG hy] at this
theorem Zh{x:List Nd×Int×Int}{y:Nd}{c:Int}(h:Hy x)(hy:x.1[x.2.1.toNat]? =some y)(hc:y.kids[x.2.2.toNat]? =some c):0≤c∧c<x.1.length:=by
 have:=h.2.2.2.2 c;rw[BG hy] at this;exact this hc
theorem Zi{x:List Nd×Int×Int}{y z:Nd}{c:Int}(h:Hy x)(hy:x.1[x.2.1.toNat]? =some y)(hc:y.kids[x.2.2.toNat]? =some c)(hz:x.1[c.toNat]? =some z)(hk:y.kind=10)(hz5:z.kind=5):∃h t,z.kids=h::t∧BP x.1 h=true:=by
 have:=h.2.2.1;rw[BG hy] at this
 have:=this hk c hc;rw[Cg,BG hz] at this;exact this hz5
theorem Zj{x:List Nd×Int×Int}{y z:Nd}{c d:Int}(h:Hy x)(hy:x.1[x.2.1.toNat]? =some y)(hc:y.kids[x.2.2.toNat]? =some c)(hz:x.1[c.toNat]? =some z)(hk:y.kind=10)(hz5:z.kind=5)(hd:z.kids[0]? =some d):(0≤d∧d<x.1.length)∧z.kids.headD 0=d:=by
 obtain⟨a,t,e,ha⟩:=Zi h hy hc hz hk hz5
 rw[e] at hd ⊢;cases hd;exact⟨Df.1 ha,rfl⟩
theorem Zk{x:List Nd×Int×Int}{y z:Nd}{c:Int}(h:Hy x)(hy:x.1[x.2.1.toNat]? =some y)(hc:y.kids[x.2.2.toNat]? =some c)(hz:x.1[c.toNat]? =some z)(hk:y.kind=10)(hz5:z.kind=5):0<z.kids.length:=by
 obtain⟨a,t,e,ha⟩:=Zi h hy hc hz hk hz5
 rw[e];simp
def Le(x:List Nd×Int×Int):Bool:=KO x.1 (An x.1 x.2.1) x.2.2 ((An x.1 x.2.1).kids.getD x.2.2.toNat 0)
theorem Zl{x:List Nd×Int×Int}{y z:Nd}{c:Int}(hy:x.1[x.2.1.toNat]? =some y)(hc:y.kids[x.2.2.toNat]? =some c)(hz:x.1[c.toNat]? =some z):
 Le x=(Gx y.kind y.kids.length x.2.2 z.kind&&(if y.kind=10∧0<x.2.2 then decide (Cg x.1 (z.kids.headD 0)=1) else true)):=by
 rw[Le,BG hy,List.getD,hc,Option.getD_some,KO,Cg,BG hz]
def Dt:Sig:= {X:=List Nd×Int×Int,args:=fun x=>[nds x.1,.int .i64 x.2.1,.int .i64 x.2.2],pre:=fun x=>Hy x,Y:=Unit,post:=fun x y=>True,res:=fun x y=> .bool (Le x),outs:=fun x y=>[.top,.top,.top],keep:=false}
theorem a7T:Aj G Tryz.prog 118 Dt:=
 vcFun_okP [(155,0,Il),(117,0,Im)] [] false (fun x=>[]) Tryz.func118 rfl (by decide) ⟨a7R,Zg,trivial⟩ (fun(x:List Nd×Int×Int)=>(∀(y:Unit),True→True∧True∧True∧True∧True)∧((0:Int)≤x.2.1∧x.2.1<(↑(List.length x.1):Int))∧∀(e:Nd),x.1[Int.toNat x.2.1]? =some e→((0:Int)≤x.2.2∧x.2.2<(↑(List.length e.kids):Int))∧∀(e_1:Int),e.kids[Int.toNat x.2.2]? =some e_1→((0:Int)≤e_1∧e_1<(↑(List.length x.1):Int))∧∀(e_2:Nd),x.1[Int.toNat e_1]? =some e_2→Aa (e.kind==(9:Int)) (inR IntKind.i64 (x.2.2+(1:Int))∧Aa (decide (x.2.2+(1:Int)<(↑(List.length e.kids):Int))) (rA Dt x [.bool (e_2.kind==(1:Int)),.top,.top,.top]) (cA Il [.int .i64 e_2.kind] fun x_1 y=>rA Dt x [.bool (BM x_1),.top,.top,.top])) (Aa (e.kind==(20:Int)) (inR IntKind.i64 (x.2.2+(1:Int))∧Aa (decide (x.2.2+(1:Int)<(↑(List.length e.kids):Int))) (rA Dt x [.bool (e_2.kind==(1:Int)),.top,.top,.top]) (rA Dt x [.bool (e_2.kind==(18:Int)),.top,.top,.top])) (Aa (e.kind==(10:Int)) (Aa (decide (x.2.2>(0:Int))) (Aa (e_2.kind==(5:Int)) (((0:Int)≤(0:Int)∧(0:Int)<(↑(List.length e_2.kids):Int))∧∀(e:Int),e_2.kids[(0:Nat)]? =some e→((0:Int)≤e∧e<(↑(List.length x.1):Int))∧∀(e_3:Nd),x.1[Int.toNat e]? =some e_3→rA Dt x [.bool (e_3.kind==(1:Int)),.top,.top,.top]) (rA Dt x [.bool false,.top,.top,.top])) (cA Il [.int .i64 e_2.kind] fun x_1 y=>rA Dt x [.bool (BM x_1),.top,.top,.top])) (Aa (e.kind==(16:Int)) (Aa (decide (x.2.2>(0:Int))) (rA Dt x [.bool (e_2.kind==(18:Int)),.top,.top,.top]) (cA Il [.int .i64 e_2.kind] fun x_1 y=>rA Dt x [.bool (BM x_1),.top,.top,.top])) (Aa (e.kind==(17:Int)) (Aa (decide (x.2.2>(0:Int))) (rA Dt x [.bool (e_2.kind==(18:Int)),.top,.top,.top]) (cA Il [.int .i64 e_2.kind] fun x_1 y=>rA Dt x [.bool (BM x_1),.top,.top,.top])) (Aa (e.kind==(18:Int)) (cA Im [.int .i64 e_2.kind] fun x_1 y=>rA Dt x [.bool (ER x_1),.top,.top,.top]) (Aa (e.kind==(21:Int)) (Aa (e_2.kind==(12:Int)) (rA Dt x [.bool true,.top,.top,.top]) (Aa (e_2.kind==(20:Int)) (rA Dt x [.bool true,.top,.top,.top]) (rA Dt x [.bool (e_2.kind==(19:Int)),.top,.top,.top]))) (Aa (e.kind==(22:Int)) (Aa (e_2.kind==(21:Int)) (rA Dt x [.bool true,.top,.top,.top]) (Aa (e_2.kind==(12:Int)) (rA Dt x [.bool true,.top,.top,.top]) (Aa (e_2.kind==(20:Int)) (rA Dt x [.bool true,.top,.top,.top]) (rA Dt x [.bool (e_2.kind==(19:Int)),.top,.top,.top])))) (cA Il [.int .i64 e_2.kind] fun x_1 y=>rA Dt x [.bool (BM x_1),.top,.top,.top]))))))))) (fun x=>by kernel_rfl) fun(x:List Nd×Int×Int) (hx:Hy x)=>(by
 dsimp only[cA,Bg,nds,rA,Dt,Im,Il,Av,AB,mvL,lnL,mvE,lnE]
 have h:=hx;have h1:=h.1;have hl:=h1.1;have hn:=Df.1 h.2.1
 (repeat' first|(with_reducible first|rfl|exact True.intro|apply AK|apply And.intro|((first|apply Az|apply AI|apply AA|apply AJ)<;>intro _))|(apply Aw<;>intro _)|apply AH|refine Ae () ?_ ?_|((first|apply AO|apply AN|apply AM|apply AL|apply AG|apply AF|apply AE|apply AD|apply AC)<;>try dsimp only)|apply Ae|(refine Prod.forall.2 ?_;intro _;try dsimp only)|(intro _;try dsimp only))
 all_goals first
  |omega
  |exact(TY h ‹_›).1
  |exact(TY h ‹_›).2
  |exact(Zh h ‹_› ‹_›).1
  |exact(Zh h ‹_› ‹_›).2
  |exact Zk h ‹_› ‹_› ‹_› ‹_› ‹_›
  |(have:=Zk h ‹_› ‹_› ‹_› ‹_› ‹_›;omega)
  |(have:=(Zj h ‹_› ‹_› ‹_› ‹_› ‹_› ‹_›).1;omega)
  |(have hk:=(h1.2 _ (CR (show x.1[x.2.1.toNat]? =some _ by assumption))).2;have:=TY h ‹_›;(try simp only[AR]);omega)
  |(rw[Zl ‹_› ‹_› ‹_›];simp [Gx,EF,Ea,EQ,GU,FS,FW, *];done)
  |(rw[Zl ‹_› ‹_› ‹_›,(Zj h ‹_› ‹_› ‹_› ‹_› ‹_› ‹_›).2,Cg,BG ‹_›];simp [Gx,FS,FW, *];done)
  |skip)
end Go.My
end
section
set_option linter.unusedVariables false
set_option linter.unusedSimpArgs false
namespace Go.My
open Go.Eng Go.Proofs
variable {G:GInv}
def koI(ns:List Nd)(x:Nd)(i:Int):Prop:=0≤i∧i≤x.kids.length∧∀(j:Nat) c,(j:Int)<i→x.kids[j]? =some c→DS ns x j c=true
theorem a7U{ns:List Nd}{x:Nd}:koI ns x 0:=⟨by omega,by omega,fun j c h=>by omega⟩
theorem Zm{ns:List Nd}{x:Nd}{i c:Int}(h:koI ns x i)(hc:x.kids[i.toNat]? =some c)(hk:DS ns x i c=true):koI ns x (i+1):=by
 obtain⟨h1,h2,h3⟩:=h
 have:=(Ds hc).1
 refine⟨by omega,by omega,fun j d hj hd=> ?_⟩
 by_cases e:(j:Int)<i
 ·exact h3 j d e hd
 ·obtain rfl:j=i.toNat:=by omega
  rw[hc] at hd;cases hd
  rwa [show((i.toNat:Nat):Int)=i by omega]
theorem a7V{ns:List Nd}{x:Nd}{i:Int}(h:koI ns x i)(hl:¬i<x.kids.length):BU (DS ns x) x.kids 0=true:=by
 rw[TP];intro j c hc
 exact h.2.2 j c (by have:=(Ds hc).1;omega) hc
theorem PW{ns:List Nd}{x:Nd}{i c:Int}(h0:0≤i)(hc:x.kids[i.toNat]? =some c)(hk:DS ns x i c=false):BU (DS ns x) x.kids 0=false:=by
 rw[Bool.eq_false_iff];intro h
 rw[TP] at h
 have:=h _ _ hc
 rw[show((i.toNat:Nat):Int)=i by omega,hk] at this;cases this
theorem ko1{ns:List Nd}{x y:Nd}{i c:Int}(hy:ns[c.toNat]? =some y)(h:y.kind=5)(h0:(y.kids.length:Int)=0):DS ns x i c=false:=by
 have h0:=List.length_eq_zero_iff.1 (show y.kids.length=0 by omega)
 simp [DS,Cg,BG hy,h,h0]
theorem IW{ns:List Nd}{d:Int}:inn d 0 (ns.length-1)=BP ns d:=by
 rw[Bool.eq_iff_iff];simp only[inn,BP,Bool.and_eq_true,decide_eq_true_eq];omega
theorem ko2{ns:List Nd}{x y:Nd}{i c d:Int}(hy:ns[c.toNat]? =some y)(h:y.kind=5)(h0:y.kids[0]? =some d)(hd:inn d 0 (ns.length-1)=false):DS ns x i c=false:=by
 rw[IW] at hd
 match hk:y.kids with
 |[]=>rw[hk] at h0;cases h0
 |e::t=>rw[hk] at h0;cases h0;simp [DS,Cg,BG hy,h,hk,hd]
theorem ko3{ns:List Nd}{x y:Nd}{i c d:Int}(hy:ns[c.toNat]? =some y)(h:y.kind=5)(h0:y.kids[0]? =some d)(hd:inn d 0 (ns.length-1)=true):DS ns x i c=KO ns x i c:=by
 rw[IW] at hd
 match hk:y.kids with
 |[]=>rw[hk] at h0;cases h0
 |e::t=>rw[hk] at h0;cases h0;simp [DS,Cg,BG hy,h,hk,hd]
theorem ko4{ns:List Nd}{x y:Nd}{i c:Int}(hy:ns[c.toNat]? =some y)(h:y.kind≠5):DS ns x i c=KO ns x i c:=by
 simp [DS,Cg,BG hy,h]
theorem PX{ns:List Nd}{x:Nd}{k i c:Int}{b:Bool}(hx:ns[k.toNat]? =some x)(hc:x.kids[i.toNat]? =some c)(hb:Le (ns,k,i)=b):KO ns x i c=b:=by
 rw[←hb,Le,BG hx,List.getD,hc,Option.getD_some]
theorem a7W{ns:List Nd}{x y:Nd}{k i c d:Int}(h1:BE ns)(hn:BP ns k=true)(hx:ns[k.toNat]? =some x)(hin:DQ x.kids k=true)(hi:koI ns x i)(hc:x.kids[i.toNat]? =some c)(hy:ns[c.toNat]? =some y)(h0:y.kids[0]? =some d)(hd:inn d 0 (ns.length-1)=true):Hy (ns,k,i):=by
 have hk:=Df.1 hn
 have:=(Ds hc).1
 unfold Hy;simp only[BG hx]
 refine⟨h1,hn,fun h10 c' hc' h5=> ?_,⟨hi.1,by omega⟩,fun c' hc'=> ?_⟩
 ·rw[hc] at hc';cases hc'
  rw[BG hy]
  match hkk:y.kids with
  |[]=>rw[hkk] at h0;cases h0
  |e::t=>rw[hkk] at h0;cases h0;exact⟨_,_,rfl,by rw[←IW];exact hd⟩
 ·simp only[DQ,List.all_eq_true,Bool.and_eq_true,decide_eq_true_eq] at hin
  have:=hin c' (CR hc');omega
theorem a7X{ns:List Nd}{x y:Nd}{k i c:Int}(h1:BE ns)(hn:BP ns k=true)(hx:ns[k.toNat]? =some x)(hin:DQ x.kids k=true)(hi:koI ns x i)(hc:x.kids[i.toNat]? =some c)(hy:ns[c.toNat]? =some y)(h5:y.kind≠5):Hy (ns,k,i):=by
 have hk:=Df.1 hn
 have:=(Ds hc).1
 unfold Hy;simp only[BG hx]
 refine⟨h1,hn,fun h10 c' hc' h5'=> ?_,⟨hi.1,by omega⟩,fun c' hc'=> ?_⟩
 ·rw[hc] at hc';cases hc'
  rw[Cg,BG hy] at h5';exact(h5 h5').elim
 ·simp only[DQ,List.all_eq_true,Bool.and_eq_true,decide_eq_true_eq] at hin
  have:=hin c' (CR hc');omega
theorem Zn{k:Int}:Hs k=(ER k||(decide (k=20)||decide (k=21))):=by
 rw[Bool.eq_iff_iff]
 simp only[Hs,ER,EQ,JN,inn,Bool.or_eq_true,Bool.and_eq_true,decide_eq_true_eq];omega
theorem Zo{ns:List Nd}{k:Int}(h:inn k 0 (ns.length-1)=false):false=Cl ns k:=by rw[IW] at h;exact YK h
theorem NR{ns:List Nd}{k:Int}{x:Nd}(hx:ns[k.toNat]? =some x)(h:inn k 0 (ns.length-1)=true):Cl ns k=(inn x.kind 1 22&&(inn x.kids.length (CW x.kind).1 (CW x.kind).2&&(Fv x.kind x.text&&((Hs x.kind|| !x.blank)&&((DQ x.kids k&&decide x.kids.Nodup)&&BU (DS ns x) x.kids 0))))):=by
 rw[IW] at h;rw[Mu hx h,a6O]
theorem a7Y{ns:List Nd}{k:Int}{x:Nd}(hx:ns[k.toNat]? =some x)(h:inn k 0 (ns.length-1)=true)(h1:DQ x.kids k=false):false=Cl ns k:=by
 rw[NR hx h,h1];simp
theorem a7Z{ns:List Nd}{k:Int}{x:Nd}(hx:ns[k.toNat]? =some x)(h:inn k 0 (ns.length-1)=true)(h1:¬x.kids.Nodup):false=Cl ns k:=by
 rw[NR hx h,decide_eq_false h1];simp
theorem PY{ns:List Nd}{k:Int}{x:Nd}(hx:ns[k.toNat]? =some x)(h:inn k 0 (ns.length-1)=true)(h1:BU (DS ns x) x.kids 0=false):false=Cl ns k:=by
 rw[NR hx h,h1];simp
theorem a8a{ns:List Nd}{k:Int}{x:Nd}(hx:ns[k.toNat]? =some x)(h:inn k 0 (ns.length-1)=true)(h1:inn x.kind 1 22=true)(h2:inn x.kids.length (CW x.kind).1 (CW x.kind).2=true)(h3:Fv x.kind x.text=true)(h4:(Hs x.kind|| !x.blank)=true)
 (h5:DQ x.kids k=true∧x.kids.Nodup) (h6:BU (DS ns x) x.kids 0=true):true=Cl ns k:=by
 rw[NR hx h,h1,h2,h3,h4,h5.1,h6,decide_eq_true h5.2];rfl
theorem a8b{k c:Int}{l:List Int}{n:Nat}(hc:l[n]? =some c)(h:inn c 0 (k-1)=false):DQ l k=false:=by
 rw[Bool.eq_false_iff];intro hh;simp only[DQ,List.all_eq_true,Bool.and_eq_true,decide_eq_true_eq] at hh
 have:=hh c (CR hc)
 have:inn c 0 (k-1)=true:=JS.2 (by omega)
 rw[h] at this;cases this
def djI(l:List Int)(i j:Int):Prop:=0≤j∧j≤i∧∀c,l[i.toNat]? =some c→(l.take j.toNat).elem c=false
theorem a8c{l:List Int}{i:Int}(h:0≤i):djI l i 0:=⟨by omega,h,by simp⟩
theorem a8d{l:List Int}{i j c d:Int}(h:djI l i j)(hl:j<i)(hc:l[i.toNat]? =some c)(hd:l[j.toNat]? =some d)(hne:c≠d):djI l i (j+1):=by
 refine⟨by have:=h.1;omega,by omega,fun c' hc'=> ?_⟩
 have h3:=h.2.2 c' hc'
 rw[hc] at hc';cases hc'
 rw[Dd h.1,DC hd]
 simp at h3 ⊢
 exact⟨h3,hne⟩
theorem a8e{l:List Int}{i j c d:Int}(h0:djI l i j)(hl:j<i)(hc:l[i.toNat]? =some c)(hd:l[j.toNat]? =some d)(he:c=d):¬l.Nodup:=by
 refine YJ hc ?_
 subst he
 rw[List.elem_iff]
 rw[List.mem_take_iff_getElem]
 obtain⟨hj,e⟩:=Ds hd
 have:=h0.1
 exact⟨j.toNat,by omega,e⟩
theorem a8f{k:Int}{l:List Int}{i j c:Int}(h:nkI k l i)(hd:djI l i j)(hl:¬j<i)(hc:l[i.toNat]? =some c)(hin:inn c 0 (k-1)=true):nkI k l (i+1):=by
 have:=JS.1 hin
 have h3:=hd.2.2 c hc
 obtain rfl:j=i:=by have:=hd.2.1;omega
 exact YI h hc (by omega) (by omega) h3
def PZ(x:List Nd×Int)(i:Int):LS:= {
 ι:=Int,inv:=djI (An x.1 x.2).kids i,
 regs:=fun j=>[(0,nds x.1),(1,.int .i64 x.2),(5,.box 0 (ndA false (An x.1 x.2))),(8,.int .i64 i),(9,.int .i64 j)],als:=[],meas:=fun j=>i.toNat-j.toNat}
def Qa(x:List Nd×Int):LS:= {
 ι:=Int,inv:=nkI x.2 (An x.1 x.2).kids,
 regs:=fun i=>[(0,nds x.1),(1,.int .i64 x.2),(5,.box 0 (ndA false (An x.1 x.2))),(8,.int .i64 i)],als:=[],meas:=fun i=>(An x.1 x.2).kids.length-i.toNat,sub:=fun i=>[(15,PZ x i)]}
def NS(x:List Nd×Int):LS:= {
 ι:=Int,inv:=koI x.1 (An x.1 x.2),
 regs:=fun i=>[(0,nds x.1),(1,.int .i64 x.2),(5,.box 0 (ndA false (An x.1 x.2))),(10,.int .i64 i)],als:=[],meas:=fun i=>(An x.1 x.2).kids.length-i.toNat}
def jI(x:Nd):Prop:=inn x.kind 1 22=true∧inn x.kids.length (CW x.kind).1 (CW x.kind).2=true∧Fv x.kind x.text=true∧(Hs x.kind|| !x.blank)=true
def Mw(x:List Nd×Int):LS:= {
 ι:=Unit,inv:=fun _=>jI (An x.1 x.2),
 regs:=fun _=>[(0,nds x.1),(1,.int .i64 x.2),(5,.box 0 (ndA false (An x.1 x.2)))],als:=[],meas:=fun _=>0}
def EU:Sig:= {X:=List Nd×Int,args:=fun x=>[nds x.1,.int .i64 x.2],pre:=fun x=>BE x.1,Y:=Unit,post:=fun x y=>True,res:=fun x y=> .bool (Cl x.1 x.2),outs:=fun x y=>[.top,.top],keep:=false}
set_option maxHeartbeats 4000000 in
theorem a8g:Aj G Tryz.prog 95 EU:=
 vcFun_okP [(53,0,CV),(115,0,Dx),(116,0,Fh),(117,0,Im),(118,0,Dt)] [] false (fun x=>[(10,Qa x),(20,NS x),(200009,Mw x)]) Tryz.func95 rfl (by decide) ⟨KF,a7S,a6L,Zg,a7T,trivial⟩ (fun(x:List Nd×Int)=>(∀(y:Unit),True→True∧True∧True∧True)∧inR IntKind.i64 ((↑(List.length x.1):Int)-(1:Int))∧cA CV [.int .i64 x.2,.int .i64 (0:Int),.int .i64 ((↑(List.length x.1):Int)-(1:Int))] fun x_1 y=>Aa (!inn x_1.1 x_1.2.1 x_1.2.2) (rA EU x [.bool false,.top,.top]) (((0:Int)≤x.2∧x.2<(↑(List.length x.1):Int))∧∀(e:Nd),x.1[Int.toNat x.2]? =some e→cA CV [.int .i64 e.kind,.int .i64 (1:Int),.int .i64 (22:Int)] fun x_2 y=>Aa (!inn x_2.1 x_2.2.1 x_2.2.2) (rA EU x [.bool false,.top,.top]) (((0:Int)≤x.2∧x.2<(↑(List.length x.1):Int))∧∀(e:Nd),x.1[Int.toNat x.2]? =some e→cA Dx [.int .i64 e.kind] fun x_3 y=>cA CV [.int .i64 (↑(List.length e.kids):Int),.int .i64 (CW x_3).1,.int .i64 (CW x_3).2] fun x_4 y=>Aa (!inn x_4.1 x_4.2.1 x_4.2.2) (rA EU x [.bool false,.top,.top]) (cA Fh [.int .i64 e.kind,.str e.text] fun x_5 y=>Aa (!Fv x_5.1 x_5.2) (rA EU x [.bool false,.top,.top]) (Aa e.blank (cA Im [.int .i64 e.kind] fun x_6 y=>Aa (!ER x_6) (Aa (e.kind != (20:Int)) (Aa (e.kind != (21:Int)) (rA EU x [.bool false,.top,.top]) (eA (Mw x) [nds x.1,.int .i64 x.2,.box 0 [.int .i64 e.kind,.str e.text,AQ e.kids,.bool e.blank]])) (eA (Mw x) [nds x.1,.int .i64 x.2,.box 0 [.int .i64 e.kind,.str e.text,AQ e.kids,.bool e.blank]])) (eA (Mw x) [nds x.1,.int .i64 x.2,.box 0 [.int .i64 e.kind,.str e.text,AQ e.kids,.bool e.blank]])) (eA (Mw x) [nds x.1,.int .i64 x.2,.box 0 [.int .i64 e.kind,.str e.text,AQ e.kids,.bool e.blank]])∧∀(i:Unit),jI (An x.1 x.2)→eA (Qa x) [nds x.1,.int .i64 x.2,.box 0 [.int .i64 (An x.1 x.2).kind,.str (An x.1 x.2).text,AQ (An x.1 x.2).kids,.bool (An x.1 x.2).blank],.int .i64 (0:Int)]∧∀(i:Int),nkI x.2 (An x.1 x.2).kids i→Aa (decide (i<(↑(List.length (An x.1 x.2).kids):Int))) (((0:Int)≤i∧i<(↑(List.length (An x.1 x.2).kids):Int))∧∀(e:Int),(An x.1 x.2).kids[Int.toNat i]? =some e→inR IntKind.i64 (x.2-(1:Int))∧cA CV [.int .i64 e,.int .i64 (0:Int),.int .i64 (x.2-(1:Int))] fun x_6 y=>Aa (!inn x_6.1 x_6.2.1 x_6.2.2) (rA EU x [.bool false,.top,.top]) (eA (PZ x i) [nds x.1,.int .i64 x.2,.box 0 [.int .i64 (An x.1 x.2).kind,.str (An x.1 x.2).text,AQ (An x.1 x.2).kids,.bool (An x.1 x.2).blank],.int .i64 i,.int .i64 (0:Int)]∧∀(i_1:Int),djI (An x.1 x.2).kids i i_1→Aa (decide (i_1<i)) (true=true∧true=true∧((0:Int)≤i∧i<(↑(List.length (An x.1 x.2).kids):Int))∧∀(e:Int),(An x.1 x.2).kids[Int.toNat i]? =some e→((0:Int)≤i_1∧i_1<(↑(List.length (An x.1 x.2).kids):Int))∧∀(e_1:Int),(An x.1 x.2).kids[Int.toNat i_1]? =some e_1→Aa (e==e_1) (rA EU x [.bool false,.top,.top]) (inR IntKind.i64 (i_1+(1:Int))∧eN (PZ x i) i_1 [nds x.1,.int .i64 x.2,.box 0 [.int .i64 (An x.1 x.2).kind,.str (An x.1 x.2).text,AQ (An x.1 x.2).kids,.bool (An x.1 x.2).blank],.int .i64 i,.int .i64 (i_1+(1:Int))])) (inR IntKind.i64 (i+(1:Int))∧eN (Qa x) i [nds x.1,.int .i64 x.2,.box 0 [.int .i64 (An x.1 x.2).kind,.str (An x.1 x.2).text,AQ (An x.1 x.2).kids,.bool (An x.1 x.2).blank],.int .i64 (i+(1:Int))]))) (eA (NS x) [nds x.1,.int .i64 x.2,.box 0 [.int .i64 (An x.1 x.2).kind,.str (An x.1 x.2).text,AQ (An x.1 x.2).kids,.bool (An x.1 x.2).blank],.int .i64 (0:Int)]∧∀(i:Int),koI x.1 (An x.1 x.2) i→Aa (decide (i<(↑(List.length (An x.1 x.2).kids):Int))) (((0:Int)≤i∧i<(↑(List.length (An x.1 x.2).kids):Int))∧∀(e:Int),(An x.1 x.2).kids[Int.toNat i]? =some e→((0:Int)≤e∧e<(↑(List.length x.1):Int))∧∀(e_1:Nd),x.1[Int.toNat e]? =some e_1→Aa (e_1.kind==(5:Int)) (Aa ((↑(List.length e_1.kids):Int)==(0:Int)) (rA EU x [.bool false,.top,.top]) (((0:Int)≤(0:Int)∧(0:Int)<(↑(List.length e_1.kids):Int))∧∀(e:Int),e_1.kids[(0:Nat)]? =some e→inR IntKind.i64 ((↑(List.length x.1):Int)-(1:Int))∧cA CV [.int .i64 e,.int .i64 (0:Int),.int .i64 ((↑(List.length x.1):Int)-(1:Int))] fun x_6 y=>Aa (!inn x_6.1 x_6.2.1 x_6.2.2) (rA EU x [.bool false,.top,.top]) (cA Dt [nds x.1,.int .i64 x.2,.int .i64 i] fun x_7 y=>Aa (!Le x_7) (rA EU x [.bool false,.top,.top]) (inR IntKind.i64 (i+(1:Int))∧eN (NS x) i [nds x.1,.int .i64 x.2,.box 0 [.int .i64 (An x.1 x.2).kind,.str (An x.1 x.2).text,AQ (An x.1 x.2).kids,.bool (An x.1 x.2).blank],.int .i64 (i+(1:Int))])))) (cA Dt [nds x.1,.int .i64 x.2,.int .i64 i] fun x_6 y=>Aa (!Le x_6) (rA EU x [.bool false,.top,.top]) (inR IntKind.i64 (i+(1:Int))∧eN (NS x) i [nds x.1,.int .i64 x.2,.box 0 [.int .i64 (An x.1 x.2).kind,.str (An x.1 x.2).text,AQ (An x.1 x.2).kids,.bool (An x.1 x.2).blank],.int .i64 (i+(1:Int))]))) (rA EU x [.bool true,.top,.top]))))))) (fun x=>by kernel_rfl) fun(x:List Nd×Int) (hx:BE x.1)=>(by
 dsimp only[cA,eA,eN,AQ,Mw,Qa,PZ,NS,Bg,nds,rA,CV,Dx,Dt,Im,Fh,EU,Av,AB,mvL,lnL,mvE,lnE,Bw]
 have h1:BE x.1:=hx;have hl:=h1.1
 by_cases hn:BP x.1 x.2=true
 case neg=>
  (repeat' first|(with_reducible first|rfl|exact True.intro|apply AK|apply And.intro|((first|apply Az|apply AI|apply AA|apply AJ)<;>intro _))|(apply Aw<;>intro _)|apply AH|refine Ae () ?_ ?_|((first|apply AO|apply AN|apply AM|apply AL|apply AG|apply AF|apply AE|apply AD|apply AC)<;>try dsimp only)|apply Ae|(refine Prod.forall.2 ?_;intro _;try dsimp only)|(intro _;try dsimp only))
  all_goals first
   |exact Zo ‹_›
   |(have hh:=(show inn x.2 0 (x.1.length-1)=true by assumption);rw[IW] at hh;exact(hn hh).elim)
   |((try simp only[AR]);omega)
 case pos=>
 have hr:=Df.1 hn
 obtain⟨z,hz⟩:∃z,x.1[x.2.toNat]? =some z:=⟨x.1[x.2.toNat],by simp⟩
 have hzo:=h1.2 _ (CR hz)
 have hi:inn x.2 0 (x.1.length-1)=true:=by rw[IW];exact hn
 simp only[hz,Option.some.injEq,forall_eq',BG hz]
 (repeat' first|(with_reducible first|rfl|exact True.intro|apply AK|apply And.intro|((first|apply Az|apply AI|apply AA|apply AJ)<;>intro _))|(apply Aw<;>intro _)|apply AH|refine Ae () ?_ ?_|((first|apply AO|apply AN|apply AM|apply AL|apply AG|apply AF|apply AE|apply AD|apply AC)<;>try dsimp only)|apply Ae|(refine Prod.forall.2 ?_;intro _;try dsimp only)|(intro _;try dsimp only))
 all_goals first
  |rfl
  |assumption
  |exact YH
  |exact a7U
  |exact a8c (‹nkI _ _ _›.1)
  |exact Zo ‹_›
  |exact⟨by assumption,by assumption,by assumption,by simp [Zn, *]⟩
  |exact a7Y hz hi (a8b ‹_› ‹_›)
  |exact a7Z hz hi (a8e ‹_› ‹_› ‹_› ‹_› ‹_›)
  |exact a8d ‹_› ‹_› ‹_› ‹_› ‹_›
  |exact a8f ‹_› ‹_› ‹_› ‹_› ‹_›
  |exact PY hz hi (PW (‹koI _ _ _›.1) ‹_› (ko1 ‹_› ‹_› ‹_›))
  |exact PY hz hi (PW (‹koI _ _ _›.1) ‹_› (ko2 ‹_› ‹_› ‹_› ‹_›))
  |exact PY hz hi (PW (‹koI _ _ _›.1) ‹_› ((ko4 ‹_› ‹_›).trans (PX hz ‹_› ‹_›)))
  |exact PY hz hi (PW (‹koI _ _ _›.1) ‹_› ((ko3 ‹_› ‹_› ‹_› ‹_›).trans (PX hz ‹_› ‹_›)))
  |exact Zm ‹_› ‹_› ((ko4 ‹_› ‹_›).trans (PX hz ‹_› ‹_›))
  |exact Zm ‹_› ‹_› ((ko3 ‹_› ‹_› ‹_› ‹_›).trans (PX hz ‹_› ‹_›))
  |exact a7W h1 hn hz (NO ‹_› ‹_›).1 ‹_› ‹_› ‹_› ‹_› ‹_›
  |exact a7X h1 hn hz (NO ‹_› ‹_›).1 ‹_› ‹_› ‹_› ‹_›
  |exact a8a hz hi (‹jI _›.1) (‹jI _›.2.1) (‹jI _›.2.2.1) (‹jI _›.2.2.2) (NO ‹_› ‹_›) (a7V ‹_› ‹_›)
  |(rw[NR hz hi];simp [Zn, *];done)
  |exact hzo.1
  |(have:=TV ‹_› ‹_› hr.2 (CR (show z.kids[_]? =some _ by assumption));omega)
  |((try simp only[AR]);omega)
  |(have hko:=(show koI _ _ _ by assumption);have hk2:=hzo.2;have:=hko.1;have:=hko.2.1;(try simp only[AR]);omega)
  |(have hko:=(show djI _ _ _ by assumption);have hk1:=(show nkI _ _ _ by assumption);have hk2:=hzo.2;have:=hko.1;have:=hko.2.1;have:=hk1.1;have:=hk1.2.1;(try simp only[AR]);omega)
  |(have hk1:=(show nkI _ _ _ by assumption);have hk2:=hzo.2;have:=hk1.1;have:=hk1.2.1;(try simp only[AR]);omega)
  |skip)
end Go.My
end
section
set_option linter.unusedVariables false
set_option linter.unusedSimpArgs false
namespace Go.My
open Go.Eng Go.Proofs
variable {G:GInv}
def sdp(ns:List Nd)(i:Nat)(ds:List Int):Int:=
 if Cl ns i=true∧(i=0∨ds.getD (i-1) 0≠0) then(if 14≤mx ds (An ns i).kids 0 then 0 else mx ds (An ns i).kids 0+1) else 0
def sds(ns:List Nd):Nat→List Int
 |0=>[]
 |n+1=>sds ns n++[sdp ns n (sds ns n)]
theorem Hz{ns:List Nd}:∀ {n:Nat},(sds ns n).length=n
 |0=>rfl
 |n+1=>by rw[sds,List.length_append,Hz];rfl
theorem Zp{ns:List Nd}:∀ {n:Nat},(match DD ns n with|some ds=>sds ns n=ds|none=>0<n∧(sds ns n).getD (n-1) 0=0)
 |0=>by simp [DD,sds]
 |n+1=>by
  have ih:= @Zp ns n
  unfold DD
  cases hd:DD ns n with
  |none=>
   rw[hd] at ih
   simp only
   refine⟨by omega,?_⟩
   have hz:sdp ns n (sds ns n)=0:=by
    unfold sdp;rw[if_neg];rintro⟨_,h|h⟩
    ·omega
    ·exact h ih.2
   rw[sds,hz,List.getD,List.getElem?_append_right (by rw[Hz];omega),Hz];simp
  |some ds=>
   rw[hd] at ih
   simp only at ih ⊢
   by_cases hn:Cl ns n=true
   ·rw[if_pos hn]
    have hprev:n=0∨(sds ns n).getD (n-1) 0≠0:=by
     by_cases e:n=0
     ·exact .inl e
     ·right
      rw[ih,List.getD]
      have hl:=NL hd
      have:ds[n-1]? =some ds[n-1]:=by simp
      rw[this];have:=TB hd ds[n-1] (by simp);simp;omega
    have hs:sdp ns n (sds ns n)=if 14≤mx ds (An ns n).kids 0 then 0 else mx ds (An ns n).kids 0+1:=by
     unfold sdp;rw[if_pos ⟨hn,hprev⟩,ih]
    by_cases hm:14≤mx ds (An ns n).kids 0
    ·rw[if_pos hm];simp only
     refine⟨by omega,?_⟩
     rw[sds,hs,if_pos hm,List.getD,List.getElem?_append_right (by rw[Hz];omega),Hz];simp
    ·rw[if_neg hm];simp only
     rw[sds,hs,if_neg hm,ih]
   ·rw[if_neg hn];simp only
    refine⟨by omega,?_⟩
    have hz:sdp ns n (sds ns n)=0:=by unfold sdp;rw[if_neg (fun h=>hn h.1)]
    rw[sds,hz,List.getD,List.getElem?_append_right (by rw[Hz];omega),Hz];simp
theorem a8h{ns:List Nd}{k:Int}{v:Int}(h:BP ns k=true)(hv:(sds ns (k.toNat+1))[k.toNat]? =some v):v=DR ns k:=by
 have ih:= @Zp ns (k.toNat+1)
 unfold DR;rw[if_pos h]
 cases hd:DD ns (k.toNat+1) with
 |none=>rw[hd] at ih;simp only at ih ⊢;have:=ih.2;rw[List.getD] at this;simp [hv] at this;exact this
 |some ds=>rw[hd] at ih;simp only at ih ⊢;rw[←ih,List.getD,hv];rfl
theorem TZ{ns:List Nd}:∀ {n:Nat},∀d∈sds ns n,0≤d∧d≤14
 |0,d,h=>by simp [sds] at h
 |n+1,d,h=>by
  rw[sds] at h
  rcases List.mem_append.1 h with h|h
  ·exact TZ d h
  ·simp at h;subst h
   have:=TA (sds ns n) (An ns n).kids 0
   unfold sdp;split
   ·split<;>omega
   ·omega
def okB(ns:List Nd)(i:Int):Bool:=Cl ns i&&(decide (i=0)|| !decide ((sds ns i.toNat).getD (i.toNat-1) 0=0))
theorem Zq{ns:List Nd}{i:Int}(h:0≤i):sdp ns i.toNat (sds ns i.toNat)=if okB ns i then(if 14≤mx (sds ns i.toNat) (An ns i).kids 0 then 0 else mx (sds ns i.toNat) (An ns i).kids 0+1) else 0:=by
 have e:((i.toNat:Nat):Int)=i:=by omega
 unfold sdp;rw[e]
 have hb:okB ns i=true↔Cl ns i=true∧(i.toNat=0∨(sds ns i.toNat).getD (i.toNat-1) 0≠0):=by
  unfold okB
  simp only[Bool.and_eq_true,Bool.or_eq_true,decide_eq_true_eq,Bool.not_eq_true',decide_eq_false_iff_not]
  constructor
  ·rintro⟨h1,h2⟩;exact⟨h1,h2.imp (fun h=>by omega) id⟩
  ·rintro⟨h1,h2⟩;exact⟨h1,h2.imp (fun h=>by omega) id⟩
 by_cases h1:okB ns i=true
 ·rw[if_pos h1,if_pos (hb.1 h1)]
 ·rw[if_neg h1,if_neg (fun h2=>h1 (hb.2 h2))]
def eI(ns:List Nd)(i j d:Int):Prop:=(okB ns i=true→j≤(An ns i).kids.length∧1≤d∧d≤15∧mx (sds ns i.toNat) ((An ns i).kids.drop j.toNat) (d-1)=mx (sds ns i.toNat) (An ns i).kids 0)∧0≤j∧(okB ns i=false→d=0)
theorem a8i{ns:List Nd}{i:Int}:eI ns i 0 (if okB ns i then 1 else 0):=by
 refine⟨fun h=> ?_,by omega,fun h=> ?_⟩
 ·rw[if_pos h];refine⟨by omega,by omega,by omega,by simp⟩
 ·rw[h];rfl
theorem Qb{ns:List Nd}{i j d:Int}(h:eI ns i j d)(hd:d>0):okB ns i=true:=by
 cases hb:okB ns i
 ·have:=h.2.2 hb;omega
 ·rfl
theorem Zs{ns:List Nd}{i:Int}(h:okB ns i=true):Cl ns i=true:=by
 simp only[okB,Bool.and_eq_true] at h;exact h.1
theorem a8j{ns:List Nd}{i j d c:Int}{y:Nd}(h:eI ns i j d)(hd:d>0)(hy:ns[i.toNat]? =some y)(hc:y.kids[j.toNat]? =some c):0≤c∧c<i:=by
 have:=(FT (Zs (Qb h hd))).2.2.2.1
 rw[BG hy] at this;exact this c (CR hc)
theorem a8k{ns:List Nd}{i j d:Int}{y:Nd}(h:eI ns i j d)(hd:d>0)(hy:ns[i.toNat]? =some y):y.kids.length≤12:=by
 have:=(FT (Zs (Qb h hd))).2.1
 rwa [BG hy] at this
theorem a8l{ns:List Nd}{i j d c v d':Int}{y:Nd}(h:eI ns i j d)(hd:d>0)(hy:ns[i.toNat]? =some y)(hc:y.kids[j.toNat]? =some c)(hv:(sds ns i.toNat)[c.toNat]? =some v)(hd':d'-1=max (d-1) v):eI ns i (j+1) d':=by
 have hb:=Qb h hd
 obtain⟨h1,h2,h3,h4⟩:=h.1 hb
 have h0:=h.2.1
 have hr:=TZ v (CR hv)
 rw[BG hy] at h4 h1
 have:=(Ds hc).1
 refine⟨fun _=> ?_,by omega,fun hh=>by rw[hb] at hh;cases hh⟩
 rw[BG hy]
 refine⟨by omega,by omega,by omega,?_⟩
 rw[←h4,KC hc,Dd h0,mx,List.getD,hv,Option.getD_some,hd']
theorem a8m{ns:List Nd}{i:Int}{c:Nat}{v:Int}(hv:(sds ns i.toNat)[c]? =some v):0≤v∧v≤14:=TZ v (CR hv)
theorem a8n{ns:List Nd}{i j d:Int}{y:Nd}(hi:0≤i)(h:eI ns i j d)(hd:d>0)(hy:ns[i.toNat]? =some y)(hl:¬j<y.kids.length):sds ns i.toNat++[if d>14 then 0 else d]=sds ns (i+1).toNat:=by
 have hb:=Qb h hd
 obtain⟨h1,h2,h3,h4⟩:=h.1 hb
 rw[BG hy,List.drop_eq_nil_of_le (by omega),mx] at h4
 rw[Dd hi,sds,Zq hi,if_pos hb,BG hy,←h4]
 congr 2
 by_cases h5:d>14
 ·rw[if_pos h5,if_pos (by omega)]
 ·rw[if_neg h5,if_neg (by omega)];omega
theorem a8o{ns:List Nd}{i j d:Int}(hi:0≤i)(h:eI ns i j d)(hd:¬d>0):sds ns i.toNat++[d]=sds ns (i+1).toNat:=by
 have hb:okB ns i=false:=by
  cases hb:okB ns i
  ·rfl
  ·have:=(h.1 hb).2.1;omega
 rw[Dd hi,sds,Zq hi,hb,h.2.2 hb];rfl
theorem a8p{ns:List Nd}{i:Int}(h:Cl ns i=false):0=if okB ns i=true then(1:Int) else 0:=by simp [okB,h]
theorem a8q{ns:List Nd}{i v:Int}(h:i>0)(hv:(sds ns i.toNat)[(i-1).toNat]? =some v)(h0:v=0):0=if okB ns i=true then(1:Int) else 0:=by
 have e:(i-1).toNat=i.toNat-1:=by omega
 rw[e] at hv;subst h0
 have:(sds ns i.toNat).getD (i.toNat-1) 0=0:=by rw[List.getD,hv];rfl
 simp only[okB,this,decide_true,Bool.not_true,Bool.or_false]
 rw[decide_eq_false (by omega)];simp
theorem a8r{ns:List Nd}{i:Int}(h:Cl ns i=true)(h0:0≤i)(h1:¬i>0):1=if okB ns i=true then(1:Int) else 0:=by
 obtain rfl:i=0:=by omega
 simp [okB,h]
theorem a8s{ns:List Nd}{i v:Int}(h:Cl ns i=true)(h0:i>0)(hv:(sds ns i.toNat)[(i-1).toNat]? =some v)(h1:v≠0):1=if okB ns i=true then(1:Int) else 0:=by
 have e:(i-1).toNat=i.toNat-1:=by omega
 rw[e] at hv
 have:(sds ns i.toNat).getD (i.toNat-1) 0≠0:=by rw[List.getD,hv];exact h1
 simp only[okB,h,this,decide_false,Bool.not_false,Bool.or_true,Bool.and_true,if_true]
def NU(x:List Nd×Int)(o:Int):LS:= {
 ι:=Int×Int,inv:=fun i=>eI x.1 o i.1 i.2,
 regs:=fun i=>[(0,nds x.1),(1,.int .i64 x.2),(5,Ab (sds x.1 o.toNat)),(6,.int .i64 o),(7,.int .i64 i.2),(8,.int .i64 i.1)],als:=[],meas:=fun i=>(An x.1 o).kids.length-i.1.toNat}
def Mx(x:List Nd×Int)(o:Int):LS:= {
 ι:=Unit,inv:=fun _=>True,
 regs:=fun i=>[(0,nds x.1),(1,.int .i64 x.2),(5,Ab (sds x.1 o.toNat)),(6,.int .i64 o),(7,.int .i64 (if okB x.1 o then 1 else 0))],als:=[],meas:=fun i=>0}
def lDs(x:List Nd×Int):LS:= {
 ι:=Int,inv:=fun i=>0≤i∧i≤x.2+1,
 regs:=fun i=>[(0,nds x.1),(1,.int .i64 x.2),(5,Ab (sds x.1 i.toNat)),(6,.int .i64 i)],als:=[],meas:=fun i=>(x.2+1-i).toNat,sub:=fun i=>[(9,NU x i),(200008,Mx x i)]}
def Lf:Sig:= {X:=List Nd×Int,args:=fun x=>[nds x.1,.int .i64 x.2],pre:=fun x=>BE x.1∧x.1.length≤2^30∧BP x.1 x.2=true,Y:=Unit,post:=fun x y=>True,res:=fun x y=>Ab (sds x.1 (x.2.toNat+1)),outs:=fun x y=>[.top,.top],keep:=false}
theorem a8t:Aj G Tryz.prog 54 Lf:=
 vcFun_okP [(95,0,EU)] [(45,⟨Int,Bb⟩)] false (fun x=>[(3,lDs x)]) Tryz.func54 rfl (by decide) ⟨a8g,trivial⟩ (fun(x:List Nd×Int)=>(∀(y:Unit),True→(∀(x:Int),True∧True)∧True∧True∧True)∧eA (lDs x) [nds x.1,.int .i64 x.2,Ab [],.int .i64 (0:Int)]∧∀(i:Int),(0:Int)≤i∧i≤x.2+(1:Int)→Aa (decide (i≤x.2)) (Aa (decide (i<(↑(List.length x.1):Int))) ((cA EU [nds x.1,.int .i64 i] fun x_1 y=>Aa (!Cl x_1.1 x_1.2) (eA (Mx x i) [nds x.1,.int .i64 x.2,Ab (sds x.1 (Int.toNat i)),.int .i64 i,.int .i64 (0:Int)]) (Aa (decide (i>(0:Int))) (inR IntKind.i64 (i-(1:Int))∧((0:Int)≤i-(1:Int)∧i-(1:Int)<(↑(List.length (sds x.1 (Int.toNat i))):Int))∧Int.toNat (i-(1:Int))<List.length (sds x.1 (Int.toNat i))∧∀(x_2:Int),(sds x.1 (Int.toNat i))[Int.toNat (i-(1:Int))]? =some x_2→Aa (x_2==(0:Int)) (eA (Mx x i) [nds x.1,.int .i64 x.2,Ab (sds x.1 (Int.toNat i)),.int .i64 i,.int .i64 (0:Int)]) (eA (Mx x i) [nds x.1,.int .i64 x.2,Ab (sds x.1 (Int.toNat i)),.int .i64 i,.int .i64 (1:Int)])) (eA (Mx x i) [nds x.1,.int .i64 x.2,Ab (sds x.1 (Int.toNat i)),.int .i64 i,.int .i64 (1:Int)])))∧∀(i_1:Unit),True→eA (NU x i) [nds x.1,.int .i64 x.2,Ab (sds x.1 (Int.toNat i)),.int .i64 i,.int .i64 (if okB x.1 i=true then(1:Int) else(0:Int)),.int .i64 (0:Int)]∧∀(i_2:Int×Int),eI x.1 i i_2.1 i_2.2→Aa (decide (i_2.2>(0:Int))) (((0:Int)≤i∧i<(↑(List.length x.1):Int))∧∀(e:Nd),x.1[Int.toNat i]? =some e→Aa (decide (i_2.1<(↑(List.length e.kids):Int))) (((0:Int)≤i∧i<(↑(List.length x.1):Int))∧∀(e:Nd),x.1[Int.toNat i]? =some e→((0:Int)≤i_2.1∧i_2.1<(↑(List.length e.kids):Int))∧∀(e_1:Int),e.kids[Int.toNat i_2.1]? =some e_1→((0:Int)≤e_1∧e_1<(↑(List.length (sds x.1 (Int.toNat i))):Int))∧Int.toNat e_1<List.length (sds x.1 (Int.toNat i))∧∀(x_1:Int),(sds x.1 (Int.toNat i))[Int.toNat e_1]? =some x_1→inR IntKind.i64 (x_1+(1:Int))∧Aa (decide (x_1+(1:Int)>i_2.2)) (((0:Int)≤i∧i<(↑(List.length x.1):Int))∧∀(e:Nd),x.1[Int.toNat i]? =some e→((0:Int)≤i_2.1∧i_2.1<(↑(List.length e.kids):Int))∧∀(e_2:Int),e.kids[Int.toNat i_2.1]? =some e_2→((0:Int)≤e_2∧e_2<(↑(List.length (sds x.1 (Int.toNat i))):Int))∧Int.toNat e_2<List.length (sds x.1 (Int.toNat i))∧∀(x_2:Int),(sds x.1 (Int.toNat i))[Int.toNat e_2]? =some x_2→inR IntKind.i64 (x_2+(1:Int))∧inR IntKind.i64 (i_2.1+(1:Int))∧eN (NU x i) i_2 [nds x.1,.int .i64 x.2,Ab (sds x.1 (Int.toNat i)),.int .i64 i,.int .i64 (x_2+(1:Int)),.int .i64 (i_2.1+(1:Int))]) (inR IntKind.i64 (i_2.1+(1:Int))∧eN (NU x i) i_2 [nds x.1,.int .i64 x.2,Ab (sds x.1 (Int.toNat i)),.int .i64 i,.int .i64 i_2.2,.int .i64 (i_2.1+(1:Int))])) (Aa (decide (i_2.2>(14:Int))) (∃(x_1:Int),(0:Int)=x_1∧∃(zs:List Int),Ab [x_1]=Ab zs∧Be Bb∧AS (List.length (sds x.1 (Int.toNat i))+List.length zs) (8:Nat)∧inR IntKind.i64 (i+(1:Int))∧eN (lDs x) i [nds x.1,.int .i64 x.2,Ab (sds x.1 (Int.toNat i)++zs),.int .i64 (i+(1:Int))]) (∃(x_1:Int),i_2.2=x_1∧∃(zs:List Int),Ab [x_1]=Ab zs∧Be Bb∧AS (List.length (sds x.1 (Int.toNat i))+List.length zs) (8:Nat)∧inR IntKind.i64 (i+(1:Int))∧eN (lDs x) i [nds x.1,.int .i64 x.2,Ab (sds x.1 (Int.toNat i)++zs),.int .i64 (i+(1:Int))]))) (Aa (decide (i_2.2>(14:Int))) (∃(x_1:Int),(0:Int)=x_1∧∃(zs:List Int),Ab [x_1]=Ab zs∧Be Bb∧AS (List.length (sds x.1 (Int.toNat i))+List.length zs) (8:Nat)∧inR IntKind.i64 (i+(1:Int))∧eN (lDs x) i [nds x.1,.int .i64 x.2,Ab (sds x.1 (Int.toNat i)++zs),.int .i64 (i+(1:Int))]) (∃(x_1:Int),i_2.2=x_1∧∃(zs:List Int),Ab [x_1]=Ab zs∧Be Bb∧AS (List.length (sds x.1 (Int.toNat i))+List.length zs) (8:Nat)∧inR IntKind.i64 (i+(1:Int))∧eN (lDs x) i [nds x.1,.int .i64 x.2,Ab (sds x.1 (Int.toNat i)++zs),.int .i64 (i+(1:Int))]))) (rA Lf x [Ab (sds x.1 (Int.toNat i)),.top,.top])) (rA Lf x [Ab (sds x.1 (Int.toNat i)),.top,.top])) (fun x=>by kernel_rfl) fun(x:List Nd×Int) (hx:BE x.1∧x.1.length≤2^30∧BP x.1 x.2=true)=>(by
 dsimp only[cA,eA,eN,lDs,NU,Mx,Bg,nds,Ab,rA,Lf,EU,Av,AB,mvL,lnL,mvE,lnE,Bw]
 obtain⟨h1,h2,h3⟩:=hx;have hl:=h1.1;have hn:=Df.1 h3
 (repeat' first|(with_reducible first|rfl|exact True.intro|apply AK|apply And.intro|((first|apply Az|apply AI|apply AA|apply AJ)<;>intro _))|(apply Aw<;>intro _)|apply AH|refine Ae () ?_ ?_|((first|apply AO|apply AN|apply AM|apply AL|apply AG|apply AF|apply AE|apply AD|apply AC)<;>try dsimp only)|apply Ae|(refine Prod.forall.2 ?_;intro _;try dsimp only)|(intro _;try dsimp only))
 all_goals first
  |rfl
  |omega
  |exact a8p ‹_›
  |exact a8q ‹_› ‹_› ‹_›
  |exact a8r ‹_› (by omega) ‹_›
  |exact a8s ‹_› ‹_› ‹_› ‹_›
  |exact a8i
  |(rw[Hz];omega)
  |skip
 all_goals try(repeat(rename x.1[Int.toNat _]? =some _=>hq;revert hq;rename x.1[Int.toNat _]? =some _=>hr;intro hq;rw[hr] at hq;cases hq))
 all_goals try(repeat(rename(Nd.kids _)[Int.toNat _]? =some _=>hq;revert hq;rename(Nd.kids _)[Int.toNat _]? =some _=>hr;intro hq;rw[hr] at hq;cases hq))
 all_goals try(rename(sds x.1 _)[Int.toNat _]? =some _=>hq;revert hq;rename(sds x.1 _)[Int.toNat _]? =some _=>hr2;intro hq;have hqq:=hr2.symm.trans hq;simp only[Option.some.injEq] at hqq;subst hqq)
 all_goals try(have hke:=a8j ‹_› ‹_› ‹_› ‹_›)
 all_goals try(have hle:=a8k ‹_› ‹_› ‹_›)
 all_goals try(have hve:=a8m ‹_›)
 all_goals try(have hse:=(show eI _ _ _ _ by assumption).2.1)
 all_goals first
  |omega
  |(rw[Hz];omega)
  |((try simp only[AR]);omega)
  |exact a8l ‹_› ‹_› ‹_› ‹_› ‹_› (by omega)
  |(rw[←a8n (by omega) ‹_› ‹_› ‹_› ‹_›];simp [*];done)
  |exact a8o (by omega) ‹_› ‹_›
  |(rw[BG ‹_›];omega)
  |(congr 1;omega)
  |(simp only[AS,Hz,List.length_cons,List.length_nil];omega)
  |skip)
def Lg:Sig:= {X:=List Nd×Int,args:=fun x=>[nds x.1,.int .i64 x.2],pre:=fun x=>BE x.1∧x.1.length≤2^30,Y:=Unit,post:=fun x y=>True,res:=fun x y=> .int .i64 (DR x.1 x.2),outs:=fun x y=>[.top,.top],keep:=false}
theorem a8u:Aj G Tryz.prog 30 Lg:=
 vcFun_okP [(53,0,CV),(54,0,Lf)] [] false (fun x=>[]) Tryz.func30 rfl (by decide) ⟨KF,a8t,trivial⟩ (fun(x:List Nd×Int)=>(∀(y:Unit),True→True∧True∧True∧True)∧inR IntKind.i64 ((↑(List.length x.1):Int)-(1:Int))∧cA CV [.int .i64 x.2,.int .i64 (0:Int),.int .i64 ((↑(List.length x.1):Int)-(1:Int))] fun x_1 y=>Aa (!inn x_1.1 x_1.2.1 x_1.2.2) (rA Lg x [.int .i64 (0:Int),.top,.top]) (cA Lf [nds x.1,.int .i64 x.2] fun x_2 y=>((0:Int)≤x.2∧x.2<(↑(List.length (sds x_2.1 (Int.toNat x_2.2+(1:Nat)))):Int))∧Int.toNat x.2<List.length (sds x_2.1 (Int.toNat x_2.2+(1:Nat)))∧∀(x_3:Int),(sds x_2.1 (Int.toNat x_2.2+(1:Nat)))[Int.toNat x.2]? =some x_3→rA Lg x [.int .i64 x_3,.top,.top])) (fun x=>by kernel_rfl) fun(x:List Nd×Int) (hx:BE x.1∧x.1.length≤2^30)=>(by
 dsimp only[cA,Bg,nds,Ab,rA,CV,Lf,Lg,Av,AB,mvL,lnL,mvE,lnE]
 obtain⟨h1,h2⟩:=hx;have hl:=h1.1
 (repeat' first|(with_reducible first|rfl|exact True.intro|apply AK|apply And.intro|((first|apply Az|apply AI|apply AA|apply AJ)<;>intro _))|(apply Aw<;>intro _)|apply AH|refine Ae () ?_ ?_|((first|apply AO|apply AN|apply AM|apply AL|apply AG|apply AF|apply AE|apply AD|apply AC)<;>try dsimp only)|apply Ae|(refine Prod.forall.2 ?_;intro _;try dsimp only)|(intro _;try dsimp only))
 all_goals first
  |exact h1
  |exact h2
  |((try simp only[AR]);omega)
  |(rw[IW] at*;exact YQ ‹_›)
  |(have hh:=(show inn x.2 0 (x.1.length-1)=true by assumption);rw[IW] at hh;have:=Df.1 hh;first|exact hh|omega|exact a8h hh ‹_› |(rw[Hz];omega))
  |skip)
theorem Zt{ns:List Nd}{i v:Int}(hv:(cnt ns.length (BZ ns))[i.toNat]? =some v)(h0:0≤i):((BZ ns).count i:Int)=v:=by
 have h:i.toNat<ns.length:=by have:=(Ds hv).1;rwa [Gz] at this
 rw[Ld h] at hv
 have e2:((i.toNat:Nat):Int)=i:=by omega
 rw[e2] at hv;exact Option.some.inj hv
theorem a8v{ns:List Nd}{i v:Int}(h:tE ns i)(hl:i+1<(ns.length:Int))(hv:(cnt ns.length (BZ ns))[i.toNat]? =some v)(h1:v=1):tE ns (i+1):=by
 have:=Zt hv h.1
 refine⟨by have:=h.1;omega,by omega,fun c hc=> ?_⟩
 by_cases e:(c:Int)<i
 ·exact h.2.2 c e
 ·have:=h.1
  obtain rfl:i=(c:Int):=by omega
  omega
theorem Ua{ns:List Nd}{i j c:Int}{y:Nd}(h:tI ns)(hy:ns[i.toNat]? =some y)(hc:y.kids[j.toNat]? =some c):0≤c∧c<ns.length:=(NP h hy).2 c (CR hc)
theorem a8w{ns:List Nd}{i:Int}{y:Nd}(h:tI ns)(hy:ns[i.toNat]? =some y):y.kids.length≤12:=(NP h hy).1
theorem a8x{ns:List Nd}{i j c:Int}{y:Nd}(h0:0≤j)(hy:ns[i.toNat]? =some y)(hc:y.kids[j.toNat]? =some c):tk ns i (j+1)=tk ns i j++[c]:=YU h0 (by rw[BG hy];exact hc)
theorem a8y{ns:List Nd}{i j:Int}{y:Nd}(h0:0≤i)(hy:ns[i.toNat]? =some y)(hl:¬j<y.kids.length):tk ns i j=BZ (ns.take (i+1).toNat):=YV h0 hy (by rw[BG hy];exact hl)
def Qc(x:List Nd)(o:Int):LS:= {
 ι:=Int,inv:=fun j=>0≤j∧j≤(An x o).kids.length,
 regs:=fun j=>[(0,nds x),(3,.int .i64 x.length),(4,Ab (cnt x.length (tk x o j))),(5,.int .i64 o),(6,.int .i64 j)],als:=[],meas:=fun j=>(An x o).kids.length-j.toNat}
def Qd(x:List Nd):LS:= {
 ι:=Int,inv:=fun i=>0≤i∧i≤x.length,
 regs:=fun i=>[(0,nds x),(3,.int .i64 x.length),(4,Ab (cnt x.length (BZ (x.take i.toNat)))),(5,.int .i64 i)],als:=[],meas:=fun i=>x.length-i.toNat,
 sub:=fun i=>[(9,Qc x i)]}
def Qe(x:List Nd):LS:= {
 ι:=Int,inv:=tE x,
 regs:=fun i=>[(3,.int .i64 x.length),(4,Ab (cnt x.length (BZ x))),(7,.int .i64 i)],als:=[],meas:=fun i=>x.length-i.toNat}
def HA:Sig:= {X:=List Nd,args:=fun x=>[nds x],pre:=fun x=>BE x∧x.length≤2^30,Y:=Unit,post:=fun x y=>True,res:=fun x y=> .bool (De x),outs:=fun x y=>[.top],keep:=false}
theorem a8z:Aj G Tryz.prog 44 HA:=
 vcFun_okP [(53,0,CV),(30,0,Lg)] [(45,⟨Int,Bb⟩)] false (fun x=>[(6,Qd x),(13,Qe x)]) Tryz.func44 rfl (by decide) ⟨KF,a8u,trivial⟩ (fun(x:List Nd)=>(∀(y:Unit),True→True∧True∧True)∧cA CV [.int .i64 (↑(List.length x):Int),.int .i64 (1:Int),.int .i64 (300:Int)] fun x_1 y=>Aa (!inn x_1.1 x_1.2.1 x_1.2.2) (rA HA x [.bool false,.top]) (inR IntKind.i64 ((↑(List.length x):Int)-(1:Int))∧((0:Int)≤(↑(List.length x):Int)-(1:Int)∧(↑(List.length x):Int)-(1:Int)<(↑(List.length x):Int))∧∀(e:Nd),x[Int.toNat ((↑(List.length x):Int)-(1:Int))]? =some e→Aa (e.kind != (22:Int)) (rA HA x [.bool false,.top]) (inR IntKind.i64 ((↑(List.length x):Int)-(1:Int))∧cA Lg [nds x,.int .i64 ((↑(List.length x):Int)-(1:Int))] fun x_2 y=>Aa (DR x_2.1 x_2.2==(0:Int)) (rA HA x [.bool false,.top]) (((0:Int)≤(↑(List.length x):Int)∧(↑(List.length x):Int)≤(↑(List.length x):Int)∧(↑(8:Nat):Int)*(↑(List.length x):Int)≤(2:Int)^(46:Nat)∧(↑(List.length x):Int)≤(2:Int)^(46:Nat))∧∃(x_3:Int),(0:Int)=x_3∧eA (Qd x) [nds x,.int .i64 (↑(List.length x):Int),Ab (List.replicate (Int.toNat (↑(List.length x):Int)) x_3),.int .i64 (0:Int)]∧∀(i:Int),(0:Int)≤i∧i≤(↑(List.length x):Int)→Aa (decide (i<(↑(List.length x):Int))) (eA (Qc x i) [nds x,.int .i64 (↑(List.length x):Int),Ab (cnt (List.length x) (BZ (List.take (Int.toNat i) x))),.int .i64 i,.int .i64 (0:Int)]∧∀(i_1:Int),(0:Int)≤i_1∧i_1≤(↑(List.length (An x i).kids):Int)→((0:Int)≤i∧i<(↑(List.length x):Int))∧∀(e:Nd),x[Int.toNat i]? =some e→Aa (decide (i_1<(↑(List.length e.kids):Int))) (((0:Int)≤i∧i<(↑(List.length x):Int))∧∀(e:Nd),x[Int.toNat i]? =some e→((0:Int)≤i_1∧i_1<(↑(List.length e.kids):Int))∧∀(e_1:Int),e.kids[Int.toNat i_1]? =some e_1→((0:Int)≤e_1∧e_1<(↑(List.length (cnt (List.length x) (tk x i i_1))):Int))∧Int.toNat e_1<List.length (cnt (List.length x) (tk x i i_1))∧∀(x_4:Int),(cnt (List.length x) (tk x i i_1))[Int.toNat e_1]? =some x_4→inR IntKind.i64 (x_4+(1:Int))∧((0:Int)≤e_1∧e_1<(↑(List.length (cnt (List.length x) (tk x i i_1))):Int))∧Int.toNat e_1<List.length (cnt (List.length x) (tk x i i_1))∧∀(x_5:Int),(cnt (List.length x) (tk x i i_1))[Int.toNat e_1]? =some x_5→∃(x':Int),((@List.nil AV)=[]∧(@List.nil AV)=[])∧x_4+(1:Int)=x'∧inR IntKind.i64 (i_1+(1:Int))∧eN (Qc x i) i_1 [nds x,.int .i64 (↑(List.length x):Int),Ab (List.set (cnt (List.length x) (tk x i i_1)) (Int.toNat e_1) x'),.int .i64 i,.int .i64 (i_1+(1:Int))]) (inR IntKind.i64 (i+(1:Int))∧eN (Qd x) i [nds x,.int .i64 (↑(List.length x):Int),Ab (cnt (List.length x) (tk x i i_1)),.int .i64 (i+(1:Int))])) (eA (Qe x) [.int .i64 (↑(List.length x):Int),Ab (cnt (List.length x) (BZ (List.take (Int.toNat i) x))),.int .i64 (0:Int)]∧∀(i:Int),tE x i→inR IntKind.i64 (i+(1:Int))∧Aa (decide (i+(1:Int)<(↑(List.length x):Int))) (((0:Int)≤i∧i<(↑(List.length (cnt (List.length x) (BZ x))):Int))∧Int.toNat i<List.length (cnt (List.length x) (BZ x))∧∀(x_4:Int),(cnt (List.length x) (BZ x))[Int.toNat i]? =some x_4→Aa (x_4 != (1:Int)) (rA HA x [.bool false,.top]) (inR IntKind.i64 (i+(1:Int))∧eN (Qe x) i [.int .i64 (↑(List.length x):Int),Ab (cnt (List.length x) (BZ x)),.int .i64 (i+(1:Int))])) (rA HA x [.bool true,.top])))))) (fun x=>by kernel_rfl) fun(x:List Nd) (hx:BE x∧x.length≤2^30)=>(by
 dsimp only[cA,eA,eN,Qd,Qc,Qe,Bg,nds,Ab,rA,CV,Lg,HA,Av,AB,mvL,lnL,mvE,lnE,Bw]
 obtain⟨h1,h2⟩:=hx;have hl:=h1.1
 (repeat' first|(with_reducible first|rfl|exact True.intro|apply AK|apply And.intro|((first|apply Az|apply AI|apply AA|apply AJ)<;>intro _))|(apply Aw<;>intro _)|apply AH|refine Ae () ?_ ?_|((first|apply AO|apply AN|apply AM|apply AL|apply AG|apply AF|apply AE|apply AD|apply AC)<;>try dsimp only)|apply Ae|(refine Prod.forall.2 ?_;intro _;try dsimp only)|(intro _;try dsimp only))
 all_goals try(have t1:=JS.1 (show inn x.length 1 300=true by assumption))
 all_goals try(have t0:=Zb ‹_› ‹_› ‹_› ‹_›)
 all_goals try(repeat(rename x[Int.toNat _]? =some _=>hq;revert hq;rename x[Int.toNat _]? =some _=>hr;intro hq;rw[hr] at hq;cases hq))
 all_goals try(repeat(rename(Nd.kids _)[Int.toNat _]? =some _=>hq;revert hq;rename(Nd.kids _)[Int.toNat _]? =some _=>hr;intro hq;rw[hr] at hq;cases hq))
 all_goals try(simp only[BG (show x[Int.toNat _]? =some _ by assumption)] at*)
 all_goals first
  |rfl
  |exact Mv (Zd ‹_›)
  |exact Mv (Ze ‹_› ‹_›)
  |exact Mv (fun h=>h.2.2.2 ‹_›)
  |exact YR
  |(rw[YT];done)
  |(have:=Ua ‹_› ‹_› (show(Nd.kids _)[Int.toNat _]? =some _ by assumption);(try rw[Gz]);omega)
  |(rw[a8x (by omega) ‹_› ‹_›];exact YS (Ua ‹_› ‹_› ‹_›).1 (Ua ‹_› ‹_› ‹_›).2 ‹_›)
  |(rw[a8y (by omega) ‹_› ‹_›];done)
  |(rw[Zf ‹_›];done)
  |(have:=Za ‹_› ‹_› ‹_›;omega)
  |exact YX ‹_› ‹_› (by omega)
  |exact YY (Zt ‹_› (‹tE _ _›.1)) (‹tE _ _›.1) (by omega) ‹_›
  |exact a8v ‹_› ‹_› ‹_› ‹_›
  |exact⟨by omega,by omega,fun c hc=>by omega⟩
  |((try simp only[AR,AS,List.length_replicate,Gz] at*);omega)
  |(have:=a8w ‹_› ‹_›;(try simp only[AR] at*);omega)
  |(have hte:=(show tE x _ by assumption);have:=hte.1;have:=hte.2.1;(try rw[Gz]);(try simp only[AR] at*);omega)
  |skip)
end Go.My
end
section
set_option linter.unusedVariables false
set_option linter.unusedSimpArgs false
namespace Go.My
open Go.Eng
def Ip(ns:List Nd)(k:Int):Prop:=BP ns k=true∧∀i:Nat,(i:Int)≤k→Cl ns i=true
theorem a8A{ns:List Nd}{k:Int}(h:DR ns k≠0):Ip ns k:=⟨(TC h).1,(TC h).2.2⟩
theorem Lh{ns:List Nd}{k:Int}(h:Ip ns k):Cl ns k=true:=by
 have:=Df.1 h.1
 have h2:=h.2 k.toNat (by omega)
 rwa [show((k.toNat:Nat):Int)=k by omega] at h2
theorem NV{ns:List Nd}{k c:Int}(h:Ip ns k)(hc:c∈(An ns k).kids):Ip ns c∧0≤c∧c<k:=by
 have h1:=(FT (Lh h)).2.2.2.1 c hc
 have h2:=Df.1 h.1
 exact⟨⟨Df.2 (by omega),fun i hi=>h.2 i (by omega)⟩,h1⟩
end Go.My
end
section
set_option linter.unusedVariables false
set_option linter.unusedSimpArgs false
namespace Go.My
open Go.Eng
def EV(ns:List Nd)(k:Int):List Int:=(An ns k).kids
def vis(ns:List Nd):Nat→Int→List Int
 |0,_=>[]
 |n+1,k=>k::(EV ns k).flatMap (vis ns n)
def WL(ns:List Nd):Nat→List Int→List Int
 |0,_=>[]
 |n+1,l=>l++WL ns n (l.flatMap (EV ns))
theorem Zu{ns:List Nd}:∀ {n:Nat} {l:List Int},(l.flatMap (vis ns n)).length=(WL ns n l).length
 |0,l=>by
  have:l.flatMap (vis ns 0)=[]:=by simp [vis]
  rw[this];rfl
 |n+1,l=>by
  rw[WL,List.length_append,←Zu (l:=l.flatMap (EV ns)),List.flatMap_assoc]
  have:∀l:List Int,(l.flatMap (vis ns (n+1))).length=l.length+(l.flatMap fun x=>(EV ns x).flatMap (vis ns n)).length:=by
   intro l
   induction l with
   |nil=>rfl
   |cons k l ih=>
    rw[List.flatMap_cons,List.flatMap_cons,List.length_append,List.length_append,ih,vis,List.length_cons,List.length_cons];omega
  rw[this]
theorem Zv{ns:List Nd}:∀ {n:Nat} {l:List Int},WL ns n (l.flatMap (EV ns))=(WL ns n l).flatMap (EV ns)
 |0,l=>rfl
 |n+1,l=>by rw[WL,WL,List.flatMap_append,Zv (l:=l.flatMap (EV ns))]
theorem a8B{ns:List Nd}{n:Nat}{l:List Int}:WL ns (n+1) l=l++(WL ns n l).flatMap (EV ns):=by rw[WL,Zv]
theorem Qf(f:Int→Nat):∀(n:Nat) (V:List Int),V.Nodup→(∀p∈V,0≤p∧p<n)→(V.map f).sum≤((List.range n).map fun i:Nat=>f i).sum
 |0,V,_,h=>by
  have:V=[]:=by
   cases V with
   |nil=>rfl
   |cons p V=>have:=h p (by simp);omega
  subst this;simp
 |n+1,V,hn,h=>by
  rw[List.range_succ,List.map_append,List.sum_append]
  by_cases hm:(n:Int)∈V
  ·have hp:=List.perm_cons_erase hm
   have e:(V.map f).sum=f n+((V.erase n).map f).sum:=by
    have:=(hp.map f).sum_nat
    rw[this];simp
   have h2:=Qf f n (V.erase n) (hn.erase _) (fun p hp=>by
    have h3:=(List.Nodup.mem_erase_iff hn).1 hp
    have:=h p h3.2
    have h4:=h3.1
    omega)
   rw[e];simp;omega
  ·have h2:=Qf f n V hn (fun p hp=>by
    have:=h p hp
    have:p≠n:=fun e=>hm (e▸hp)
    omega)
   simp;omega
theorem a8C{V:List Int}{n:Nat}(hn:V.Nodup)(h:∀p∈V,0≤p∧p<n):V.length≤n:=by
 have:=Qf (fun _=>1) n V hn h
 have e1:∀l:List Int,(l.map fun _=>1).sum=l.length:=by
  intro l;induction l with
  |nil=>rfl
  |cons a l ih=>simp only[List.map_cons,List.sum_cons,ih,List.length_cons];omega
 have e2:∀l:List Nat,(l.map fun _=>1).sum=l.length:=by
  intro l;induction l with
  |nil=>rfl
  |cons a l ih=>simp only[List.map_cons,List.sum_cons,ih,List.length_cons];omega
 rw[e1,e2,List.length_range] at this;exact this
theorem a8D{ns:List Nd}:ns=(List.range ns.length).map fun i:Nat=>An ns i:=by
 apply List.ext_getElem?
 intro i
 by_cases h:i<ns.length
 ·have:ns[i]? =some ns[i]:=by simp
  rw[List.getElem?_map,List.getElem?_range h,this]
  simp only[Option.map_some]
  congr 1
  exact(BG (c:=(i:Int)) (by simp)).symm
 ·rw[List.getElem?_eq_none (by omega),List.getElem?_eq_none (by simp;omega)]
theorem a8E{ns:List Nd}{j:Int}:(BZ ns).count j=((List.range ns.length).map fun i:Nat=>(EV ns i).count j).sum:=by
 have h:BZ ns=((List.range ns.length).map fun i:Nat=>An ns i).flatMap (·.kids):=by rw[←a8D];rfl
 rw[h,List.count_flatMap,List.map_map];rfl
theorem Zw:∀ {l:List Nat},(∀m∈l,m=0)→l.sum=0
 |[],_=>rfl
 |m::l,h=>by rw[List.sum_cons,h m (by simp),Zw fun n hn=>h n (by simp [hn])]
def Zx(ns:List Nd):Prop:=(∀i:Nat,i<ns.length→Cl ns i=true)∧∀i:Nat,i<ns.length-1→(BZ ns).count (i:Int)=1
theorem Zy{ns:List Nd}(h:Zx ns)(h0:1≤ns.length):∀n:Nat,(WL ns n [(ns.length:Int)-1]).Nodup∧∀p∈WL ns n [(ns.length:Int)-1],0≤p∧p<ns.length
 |0=>⟨List.nodup_nil,fun p hp=>by cases hp⟩
 |n+1=>by
  obtain⟨ih1,ih2⟩:=Zy h h0 n
  rw[a8B]
  have hk:∀p∈WL ns n [(ns.length:Int)-1],∀c∈EV ns p,0≤c∧c<p:=by
   intro p hp c hc
   have h2:=ih2 p hp
   have h3:=h.1 p.toNat (by omega)
   have e:((p.toNat:Nat):Int)=p:=by omega
   rw[e] at h3
   exact(FT h3).2.2.2.1 c hc
  refine⟨?_,?_⟩
  ·rw[List.nodup_iff_count]
   intro j
   rw[List.count_append,List.count_flatMap]
   by_cases hj:j=(ns.length:Int)-1
   ·subst hj
    have:((WL ns n [(ns.length:Int)-1]).map (List.count ((ns.length:Int)-1)∘EV ns)).sum=0:=by
     refine Zw fun m hm=> ?_
     obtain⟨p,hp,rfl⟩:=List.mem_map.1 hm
     simp only[Function.comp]
     rw[List.count_eq_zero]
     intro hc
     have:=hk p hp _ hc
     have:=ih2 p hp
     omega
    rw[this];simp
   ·have h1:List.count j [(ns.length:Int)-1]=0:=by
     rw[List.count_eq_zero];simpa using hj
    have h2:=Qf (fun p=>(EV ns p).count j) ns.length _ ih1 ih2
    rw[←a8E] at h2
    have h3:(BZ ns).count j≤1:=by
     by_cases hr:0≤j∧j<ns.length
     ·have:=h.2 j.toNat (by omega)
      rw[show((j.toNat:Nat):Int)=j by omega] at this;omega
     ·have:(BZ ns).count j=0:=by
       rw[List.count_eq_zero]
       intro hm
       obtain⟨y,hy,hc⟩:=List.mem_flatMap.1 hm
       obtain⟨i,hi⟩:=List.mem_iff_getElem?.1 hy
       have hlt:=(Ds hi).1
       have:=(FT (h.1 i hlt)).2.2.2.1 j
       rw[BG (c:=(i:Int)) (by simpa using hi)] at this
       have:=this hc
       omega
      omega
    rw[h1]
    have e:(List.count j∘EV ns)=fun p=>(EV ns p).count j:=rfl
    rw[e];omega
  ·intro p hp
   rcases List.mem_append.1 hp with hp|hp
   ·simp at hp;omega
   ·obtain⟨q,hq,hc⟩:=List.mem_flatMap.1 hp
    have:=hk q hq p hc
    have:=ih2 q hq
    omega
theorem JT{ns:List Nd}(h:De ns=true):Zx ns∧1≤ns.length∧ns.length≤300∧Ip ns ((ns.length:Int)-1):=by
 simp only[De,Bool.and_eq_true,decide_eq_true_eq,Bool.not_eq_true',decide_eq_false_iff_not,List.all_eq_true,List.mem_range] at h
 have hu:=a8A h.2.2.1
 refine⟨⟨fun i hi=>hu.2 i (by omega),fun i hi=> ?_⟩,h.1.1,h.1.2,hu⟩
 exact h.2.2.2 i hi
theorem a8F{ns:List Nd}{n:Nat}(h:De ns=true):(vis ns n ((ns.length:Int)-1)).length≤300:=by
 obtain⟨h1,h2,h3,_⟩:=JT h
 have e:= @Zu ns n [(ns.length:Int)-1]
 simp only[List.flatMap_cons,List.flatMap_nil,List.append_nil] at e
 rw[e]
 have:=Zy h1 h2 n
 have:=a8C this.1 this.2
 omega
def JU(ns:List Nd)(n:Nat)(l:List Int):Nat:=(l.flatMap (vis ns n)).length
theorem Ub{ns:List Nd}{n:Nat}{k:Int}:(vis ns (n+1) k).length=1+JU ns n (EV ns k):=by rw[vis,List.length_cons,JU];omega
theorem Zz{ns:List Nd}{n:Nat}{c:Int}{l:List Int}:JU ns n (c::l)=(vis ns n c).length+JU ns n l:=by simp [JU]
end Go.My
end
section
set_option linter.unusedVariables false
set_option linter.unusedSimpArgs false
namespace Go.My
open Go.Eng
structure Sg where
 kind:Int
 text:List UInt8
 pos:Int
 blank:Bool
def sgA:Sg→List AV:=fun s=>[.int .i64 s.kind,.str s.text,.int .i64 s.pos,.bool s.blank]
theorem Bj(s:Sg):sgA s=[.int .i64 s.kind,.str s.text,.int .i64 s.pos,.bool s.blank]:=rfl
def sgs(l:List Sg):AV:= .sl false 0 4 Sg sgA l
def As(l:List Sg):AV:= .sl true 0 4 Sg sgA l
def sg0(k:Int)(t:List UInt8):Sg:=⟨k,t,0,false⟩
def mkS(t:List UInt8):Sg:=sg0 4 t
def wdS(t:List UInt8):Sg:=sg0 1 t
def Bh(f:Int→List Sg)(m:List UInt8):List Int→List Sg
 |[]=>[]
 |c::l=>f c++l.flatMap fun d=>mkS m::f d
def kd(x:Nd)(i:Nat):Int:=x.kids.getD i 0
def CJ(f:Int→List Sg)(x:Nd):List Sg:=
 if x.kind=1 then [wdS x.text]
 else if x.kind=2 then [sg0 2 x.text]
 else if x.kind=3 then [sg0 3 x.text]
 else if x.kind=4 then [mkS [91]]++Bh f [44] x.kids++[mkS [93]]
 else if x.kind=5 then f (kd x 0)++[mkS [40]]++Bh f [44] (x.kids.drop 1)++[mkS [41]]
 else if x.kind=6 then f (kd x 0)++[mkS [46]]++[wdS x.text]
 else if x.kind=7 then Bh f x.text x.kids
 else if x.kind=8 then f (kd x 0)++[mkS [63]]++f (kd x 1)++[mkS [58]]++f (kd x 2)
 else if x.kind=9 then [mkS [40]]++Bh f [44] (x.kids.take (x.kids.length-1))++[mkS [41],mkS [61,62]]++f (kd x (x.kids.length-1))
 else if x.kind=10 then Bh f [46,46] x.kids
 else if x.kind=11 then [mkS [40]]++f (kd x 0)++[mkS [41]]
 else if x.kind=12 then [wdS [118,97,114]]++[wdS x.text]++(if 0<x.kids.length then [mkS [61]] else [])++x.kids.flatMap f++[mkS [59]]
 else if x.kind=13 then [wdS x.text]++(if 0<x.kids.length then [mkS [61]] else [])++x.kids.flatMap f++[mkS [59]]
 else if x.kind=14 then x.kids.flatMap f++[mkS [59]]
 else if x.kind=15 then [wdS [114,101,116,117,114,110]]++x.kids.flatMap f++[mkS [59]]
 else if x.kind=16 then [wdS [105,102]]++[mkS [40]]++f (kd x 0)++[mkS [41]]++f (kd x 1)++(if x.kids.length=3 then [wdS [101,108,115,101]]++f (kd x 2) else [])
 else if x.kind=17 then [wdS [119,104,105,108,101]]++[mkS [40]]++f (kd x 0)++[mkS [41]]++f (kd x 1)
 else if x.kind=18 then [mkS [123]]++x.kids.flatMap f++[mkS [125]]
 else if x.kind=19 then [sg0 5 x.text]
 else if x.kind=20 then [wdS x.text]++[mkS [40]]++Bh f [44] (x.kids.take (x.kids.length-1))++[mkS [41]]++f (kd x (x.kids.length-1))
 else if x.kind=21 then [wdS [99,108,97,115,115]]++[wdS x.text]++[mkS [123]]++x.kids.flatMap f++[mkS [125]]
 else x.kids.flatMap f
def AY(ns:List Nd):Nat→Int→List Sg
 |0,_=>[]
 |n+1,k=>CJ (AY ns n) (An ns k)
def fl(f:Int→List Sg)(l:List Int):Nat:=(l.flatMap f).length
theorem Mz{f:Int→List Sg}{c:Int}{l:List Int}:fl f (c::l)=(f c).length+fl f l:=by simp [fl]
theorem ZA{f:Int→List Sg}{l m:List Int}:fl f (l++m)=fl f l+fl f m:=by simp [fl]
theorem Uc{f:Int→List Sg}{m:List UInt8}{l:List Int}:(Bh f m l).length≤fl f l+l.length:=by
 cases l with
 |nil=>simp [Bh,fl]
 |cons c l=>
  have:∀l:List Int,(l.flatMap fun d=>mkS m::f d).length=fl f l+l.length:=by
   intro l
   induction l with
   |nil=>rfl
   |cons d l ih=>rw[List.flatMap_cons,List.length_append,ih,Mz];simp;omega
  rw[Bh,List.length_append,this,Mz];simp;omega
theorem MA{x:Nd}{i:Nat}{c:Int}(h:x.kids[i]? =some c):kd x i=c:=by simp [kd,List.getD,h]
theorem NW{ns:List Nd}{k:Int}(h:Ip ns k):(1≤(An ns k).kind∧(An ns k).kind≤22)∧(CW (An ns k).kind).1≤(An ns k).kids.length∧(An ns k).kids.length≤(CW (An ns k).kind).2:=by
 have h1:=FT (Lh h)
 have hk:=h1.2.2.2.2.2.1
 have hin:inn (An ns k).kind 1 22=true:=by
  cases hh:inn (An ns k).kind 1 22
  ·rw[YA hh] at hk;cases hk
  ·rfl
 have h2:=JS.1 hin
 have hb:=Yz (l:=(An ns k).kids.map (Cg ns)) h2.1 h2.2
 rw[hk] at hb
 have hl:decide (((An ns k).kids.map (Cg ns)).length≤12)=true:=decide_eq_true (by rw[List.length_map];exact h1.2.1)
 rw[hl] at hb
 simp only[Bool.and_true,Bool.and_eq_true,List.length_map] at hb
 exact⟨h2,JS.1 hb.1⟩
theorem Ud{f:Int→List Sg}{b:Nat}:∀ {l:List Int},(∀c∈l,(f c).length≤b)→fl f l≤l.length*b
 |[],_=>by simp [fl]
 |c::l,h=>by
  have h1:=h c (by simp)
  have h2:=Ud (l:=l) fun d hd=>h d (by simp [hd])
  rw[Mz,List.length_cons,Nat.succ_mul];omega
set_option maxHeartbeats 2000000 in
theorem a8G{f:Int→List Sg}{x:Nd}(hl:(CW x.kind).1≤x.kids.length∧x.kids.length≤(CW x.kind).2):(CJ f x).length≤5+x.kids.length+fl f x.kids:=by
 have hs:∀m l,(Bh f m l).length≤fl f l+l.length:=fun m l=>Uc
 have hlast:∀l:List Int,1≤l.length→fl f (l.take (l.length-1))+(f (l.getD (l.length-1) 0)).length=fl f l:=by
  intro l h
  have e:l.drop (l.length-1)=[l.getD (l.length-1) 0]:=by
   have hi:l.length-1<l.length:=by omega
   rw[List.drop_eq_getElem_cons hi,List.drop_of_length_le (by omega)]
   simp [List.getD,List.getElem?_eq_getElem hi]
  have:=ZA (f:=f) (l:=l.take (l.length-1)) (m:=l.drop (l.length-1))
  rw[List.take_append_drop,e] at this
  rw[this];simp [fl]
 obtain⟨k,t,ks,b⟩:=x
 have hfm:(ks.flatMap f).length=fl f ks:=rfl
 have hc0:∀c l,fl f (c::l)=(f c).length+fl f l:=fun c l=>Mz
 have hk1:∀a:Sg,[a].length=1:=fun _=>rfl
 have key:∀(m:List Sg),(m.length≤5+ks.length+fl f ks)→m.length≤5+(Nd.mk k t ks b).kids.length+fl f (Nd.mk k t ks b).kids:=fun m h=>h
 unfold CJ
 simp only[kd]
 refine key _ ?_
 have hcase:k=1∨k=2∨k=3∨k=4∨k=5∨k=6∨k=7∨k=8∨k=9∨k=10∨k=11∨k=12∨k=13∨k=14∨k=15∨k=16∨k=17∨k=18∨k=19∨k=20∨k=21∨(k≠1∧k≠2∧k≠3∧k≠4∧k≠5∧k≠6∧k≠7∧k≠8∧k≠9∧k≠10∧k≠11∧k≠12∧k≠13∧k≠14∧k≠15∧k≠16∧k≠17∧k≠18∧k≠19∧k≠20∧k≠21):=by omega
 have hite:∀p:Prop,[Decidable p]→∀a:Sg,(if p then [a] else []).length≤1:=fun p _ a=>by split<;>simp
 have h12:=hite (0<ks.length) (mkS [61])
 rcases hcase with rfl|rfl|rfl|rfl|rfl|rfl|rfl|rfl|rfl|rfl|rfl|rfl|rfl|rfl|rfl|rfl|rfl|rfl|rfl|rfl|rfl|ho
 all_goals try simp only[ho]
 all_goals simp only[CW,Int.reduceEq,or_self,or_false,false_or,or_true,true_or,if_true,if_false,reduceIte] at hl ⊢
 all_goals first
  |(simp only[List.length_append,List.length_cons,List.length_nil,hfm];omega)
  |(have h7:=hs t ks;have h10:=hs [46,46] ks;omega)
  |(by_cases h3:ks.length=3
    ·match ks,h3 with
     |[a,b,c],_=>have:=hc0 a [b,c];have:=hc0 b [c];have:=hc0 c [];simp only[List.length_append,List.length_cons,List.length_nil,List.getD_cons_zero,List.getD_cons_succ,if_true,reduceIte];omega
    ·rw[if_neg h3]
     match ks,hl with
     |[],hl=>simp at hl
     |[a],hl=>simp at hl
     |a::b::l,_=>have:=hc0 a (b::l);have:=hc0 b l;simp only[List.length_append,List.length_cons,List.length_nil,List.getD_cons_zero,List.getD_cons_succ];omega)
  |(have h4:=hs [44] ks;have h7:=hs t ks;have h10:=hs [46,46] ks;simp only[List.length_append,List.length_cons,List.length_nil];omega)
  |(match ks,hl with
   |[],hl=>simp at hl
   |c::l,_=>have h5:=hs [44] l;have:=hc0 c l;simp only[List.length_append,List.length_cons,List.length_nil,List.getD_cons_zero,List.drop_succ_cons,List.drop_zero];omega)
  |(match ks,hl with
   |[],hl=>simp at hl
   |[a],hl=>simp at hl
   |a::b::l,_=>have:=hc0 a (b::l);have:=hc0 b l;simp only[List.length_append,List.length_cons,List.length_nil,List.getD_cons_zero,List.getD_cons_succ];omega)
  |(match ks,hl with
   |[],hl=>simp at hl
   |[a],hl=>simp at hl
   |[a,b],hl=>first|(simp at hl;done)|(exfalso;simp at*;done)|(have:=hc0 a [b];have:=hc0 b [];simp only[List.length_append,List.length_cons,List.length_nil,List.getD_cons_zero,List.getD_cons_succ];omega)
   |a::b::c::l,_=>have:=hc0 a (b::c::l);have:=hc0 b (c::l);have:=hc0 c l;simp only[List.length_append,List.length_cons,List.length_nil,List.getD_cons_zero,List.getD_cons_succ];omega)
  |(have h1:1≤ks.length:=by omega
    have h9:=hs [44] (ks.take (ks.length-1));have:=hlast ks h1
    have ht:(ks.take (ks.length-1)).length≤ks.length:=by rw[List.length_take];omega
    simp only[List.length_append,List.length_cons,List.length_nil];omega)
  |skip
theorem ZB{ns:List Nd}:∀ {n:Nat} {k:Int},Ip ns k→k<n→(AY ns n k).length≤18*(vis ns n k).length
 |0,k,h,hk=>by have:=Df.1 h.1;omega
 |n+1,k,h,hk=>by
  rw[AY,Ub]
  have h1:=a8G (f:=AY ns n) (NW h).2
  have h2:=(FT (Lh h)).2.1
  have h3:∀l:List Int,(∀c∈l,c∈(An ns k).kids)→fl (AY ns n) l≤18*JU ns n l:=by
   intro l
   induction l with
   |nil=>intro _;simp [fl]
   |cons c l ih=>
    intro hl
    have hm:=NV h (hl c (by simp))
    have h4:=ZB (n:=n) (k:=c) hm.1 (by omega)
    have h5:=ih fun d hd=>hl d (by simp [hd])
    rw[Mz,Zz];omega
  have h4:=h3 _ (fun c hc=>hc)
  simp only[EV];omega
end Go.My
end
