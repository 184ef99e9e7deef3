/- joined -/
import Derived.Test.YtglbamflbnldhaaGreatDoorQG
import Derived.Lib.ItoaNum
set_option linter.unusedSimpArgs false
set_option linter.unusedVariables false
section
namespace Go.My
open Go.Eng Go.Proofs
variable {G:GInv}
theorem a2M{s:List UInt8}{n:Nat}{c:UInt8}(h:s.all Bg=true)(hc:s[n]? =some c):48≤c.toNat∧c.toNat≤57:=by
 have:=List.all_eq_true.1 h c (BJ hc)
 simpa [Bg] using this
def NR:Sig:= {X:=List UInt8,args:=fun x=>[.str x],pre:=fun x=>x.all Bg=true∧x.length≤9,Y:=Unit,post:=fun x y=>True,res:=fun x y=> .int .i64 (Cd x),outs:=fun x y=>[.top],keep:=false}
def Sd(x:List UInt8):LS:= {ι:=Int,inv:=fun i=>0≤i∧i≤x.length,regs:=fun i=>[(0,.str x),(3,.int .i64 (Cd (x.take i.toNat))),(4,.int .i64 i)],als:=[],meas:=fun i=>x.length-i.toNat}
theorem b2s:Al G Tryz.prog 98 NR:=
 vcFun_okP [] [] false (fun x=>[(3,Sd x)]) Tryz.func98 rfl (by decide) trivial (fun(x:List UInt8)=>(∀(y:Unit),True→True∧True∧True)∧eA (Sd x) [.str x,.int .i64 (0:Int),.int .i64 (0:Int)]∧∀(i:Int),(0:Int)≤i∧i≤(↑(List.length x):Int)→Ab (decide (i<(↑(List.length x):Int))) (inR IntKind.i64 (Cd (List.take (Int.toNat i) x)*(10:Int))∧((0:Int)≤i∧i<(↑(List.length x):Int))∧∀(c:UInt8),x[Int.toNat i]? =some c→inR IntKind.u8 ((↑(UInt8.toNat c):Int)-(48:Int))∧inR IntKind.i64 ((↑(UInt8.toNat c):Int)-(48:Int))∧inR IntKind.i64 (Cd (List.take (Int.toNat i) x)*(10:Int)+((↑(UInt8.toNat c):Int)-(48:Int)))∧inR IntKind.i64 (i+(1:Int))∧eN (Sd x) i [.str x,.int .i64 (Cd (List.take (Int.toNat i) x)*(10:Int)+((↑(UInt8.toNat c):Int)-(48:Int))),.int .i64 (i+(1:Int))]) (rA NR x [.int .i64 (Cd (List.take (Int.toNat i) x)),.top])) (fun x=>by kernel_rfl) fun(x:List UInt8) (hx:x.all Bg=true∧x.length≤9)=>(by
 dsimp only[eA,eN,Sd,rA,NR,Aw,Az,Bv]
 obtain⟨h1,h2⟩:=hx
 have hb:∀i:Int,0≤Cd (x.take i.toNat)∧Cd (x.take i.toNat)<1000000000:=fun i=>RR (List.all_eq_true.2 fun c hc=>List.all_eq_true.1 h1 c (List.mem_of_mem_take hc)) (by simp;omega)
 (repeat' first|(with_reducible first|rfl|exact True.intro|apply AK|apply And.intro|((first|apply AA|apply AI|apply AB|apply AJ)<;>intro _))|(apply Ax<;>intro _)|apply AH|refine Af () ?_ ?_|((first|apply AO|apply AN|apply AM|apply AL|apply AG|apply AF|apply AE|apply AD|apply AC)<;>try dsimp only)|apply Af|(refine Prod.forall.2 ?_;intro _;try dsimp only)|(intro _;try dsimp only))
 all_goals try(have hf:=a2M h1 (show x[Int.toNat _]? =some _ by assumption))
 all_goals try(have hbb:=hb ‹_›)
 all_goals first
  |rfl
  |omega
  |exact b1J (by omega) (by omega)
  |((try simp only[AQ]);omega)
  |(rw[Da (by omega),a1x ‹_›];done)
  |(rw[List.take_of_length_le (by omega)];done)
  |skip)
def Jd:Sig:= {X:=List UInt8×Int×Int,args:=fun x=>[.str x.1,.int .i64 x.2.1,.int .i64 x.2.2],pre:=fun x=>bdd x.2.1∧bdd x.2.2,Y:=Unit,post:=fun x y=>True,res:=fun x y=> .int .i64 (CS x.1 x.2.1 x.2.2),outs:=fun x y=>[.top,.top,.top],keep:=false}
theorem b2t:Al G Tryz.prog 125 Jd:=
 vcFun_okP [] [] false (fun x=>[]) Tryz.func125 rfl (by decide) trivial (fun(x:List UInt8×Int×Int)=>(∀(y:Unit),True→True∧True∧True∧True∧True)∧Ab (x.1== #[(43:UInt8)].toList) (inR IntKind.i64 (x.2.1+x.2.2)∧rA Jd x [.int .i64 (x.2.1+x.2.2),.top,.top,.top]) (Ab (x.1== #[(45:UInt8)].toList) (inR IntKind.i64 (x.2.1-x.2.2)∧rA Jd x [.int .i64 (x.2.1-x.2.2),.top,.top,.top]) (inR IntKind.i64 (x.2.1*x.2.2)∧rA Jd x [.int .i64 (x.2.1*x.2.2),.top,.top,.top]))) (fun x=>by kernel_rfl) fun(x:List UInt8×Int×Int) (hx:bdd x.2.1∧bdd x.2.2)=>(by
 dsimp only[rA,Jd,Aw,Az]
 obtain⟨h1,h2⟩:=hx
 have hm:=a1z h1.1 h1.2 h2.1 h2.2
 unfold bdd at h1 h2
 (repeat' first|(with_reducible first|rfl|exact True.intro|apply AK|apply And.intro|((first|apply AA|apply AI|apply AB|apply AJ)<;>intro _))|(apply Ax<;>intro _)|apply AH|refine Af () ?_ ?_|((first|apply AO|apply AN|apply AM|apply AL|apply AG|apply AF|apply AE|apply AD|apply AC)<;>try dsimp only)|apply Af|(refine Prod.forall.2 ?_;intro _;try dsimp only)|(intro _;try dsimp only))
 all_goals first
  |(simp [CS, *];done)
  |((try simp only[AQ]);omega)
  |skip)
def Ip(n:Nat)(x:List Nd×Int):Prop:=BD x.1∧Cj x.1 x.2∧x.2<n
def Fl(n:Nat):Sig:= {X:=List Nd×Int,args:=fun x=>[nds x.1,.int .i64 x.2],pre:=fun x=>Ip n x,Y:=Unit,post:=fun x y=>True,res:=fun x y=> .tup [.int .i64 (oI (cV x.1 x.2)),.bool (cV x.1 x.2).isSome],outs:=fun x y=>[.top,.top],keep:=false}
def cI(ns:List Nd)(x:Nd)(i s:Int):Prop:=0≤i∧i≤x.kids.length∧bdd s∧Fh x.text ((x.kids.take i.toNat).map (cV ns))=some s
theorem b2u{ns:List Nd}{x:Nd}:cI ns x 0 0:=⟨by omega,by omega,by unfold bdd;omega,rfl⟩
theorem b2v{ns:List Nd}{x:Nd}{i s c:Int}(h:cI ns x i s)(hc:x.kids[i.toNat]? =some c)(hi:i=0)(hu:Cj ns c)(hs:(cV ns c).isSome=true):cI ns x (i+1) (oI (cV ns c)):=by
 subst hi
 have:=(DW hc).1
 refine⟨by omega,by omega,a1B hu,?_⟩
 rw[Da (by omega),EM hc]
 simp only[Int.toNat_zero,List.take_zero,List.nil_append,List.map_cons,List.map_nil,Fh,List.foldl_nil]
 rw[oI];cases hv:cV ns c with
 |none=>rw[hv] at hs;cases hs
 |some v=>rfl
theorem Wr{ns:List Nd}{x:Nd}{i s c:Int}(h:cI ns x i s)(hc:x.kids[i.toNat]? =some c)(hi:i≠0):Fh x.text ((x.kids.take (i+1).toNat).map (cV ns))=Gv x.text (some s) (cV ns c):=by
 rw[Da h.1,EM hc,List.map_append,List.map_cons,List.map_nil,b1s,h.2.2.2]
 have:=(DW hc).1
 intro e
 simp only[List.map_eq_nil_iff,List.take_eq_nil_iff] at e
 rcases e with e|e
 ·have:=h.1;omega
 ·rw[e] at this;simp at this
theorem a2N{o:Option Int}(h:o.isSome=true):o=some (oI o):=by
 cases o with
 |none=>cases h
 |some v=>rfl
theorem b2w{ns:List Nd}{x:Nd}{i s c:Int}(h:cI ns x i s)(hc:x.kids[i.toNat]? =some c)(hi:i≠0)(hs:(cV ns c).isSome=true)(hr:inn (CS x.text s (oI (cV ns c))) (-1000000000) 1000000000=true):cI ns x (i+1) (CS x.text s (oI (cV ns c))):=by
 have:=(DW hc).1
 have h0:=h.1
 refine⟨by omega,by omega,Ih.1 hr,?_⟩
 rw[Wr h hc hi,a2N hs]
 simp only[Gv];rw[if_pos hr];rfl
theorem b2x{ns:List Nd}{x:Nd}{i s c:Int}(h:cI ns x i s)(hc:x.kids[i.toNat]? =some c)(hi:i≠0)(hs:(cV ns c).isSome=true)(hr:inn (CS x.text s (oI (cV ns c))) (-1000000000) 1000000000=false):Fh x.text (x.kids.map (cV ns))=none:=by
 have e:x.kids=x.kids.take (i+1).toNat++x.kids.drop (i+1).toNat:=(List.take_append_drop _ _).symm
 have h1:=Wr h hc hi
 rw[a2N hs] at h1
 simp only[Gv] at h1
 rw[if_neg (by simp [hr])] at h1
 rw[e,List.map_append]
 refine a1D ?_ h1
 intro e2;rw[e2] at h1;cases h1
theorem b2y{ns:List Nd}{x:Nd}{i s c:Int}(h:cI ns x i s)(hc:x.kids[i.toNat]? =some c)(hs:(cV ns c).isSome=false):Fh x.text (x.kids.map (cV ns))=none:=by
 have hs:cV ns c=none:=by cases hv:cV ns c with
  |none=>rfl
  |some v=>rw[hv] at hs;cases hs
 have e:x.kids=x.kids.take (i+1).toNat++x.kids.drop (i+1).toNat:=(List.take_append_drop _ _).symm
 have h1:Fh x.text ((x.kids.take (i+1).toNat).map (cV ns))=none:=by
  by_cases hi:i=0
  ·subst hi;rw[Da (by omega),EM hc]
   simp [Fh,hs]
  ·rw[Wr h hc hi,hs];rfl
 rw[e,List.map_append]
 refine a1D ?_ h1
 intro e2;rw[e2] at h1;cases h1
theorem b2z{ns:List Nd}{x:Nd}{i s:Int}(h:cI ns x i s)(hl:¬i<x.kids.length):Fh x.text (x.kids.map (cV ns))=some s:=by
 have h3:=h.2.2.2
 rwa [List.take_of_length_le (by have:=h.1;omega)] at h3
def FY(n:Nat):Sig:= {X:=List Nd×Nd,args:=fun x=>[nds x.1,.agg (ndA false x.2)],pre:=fun x=>BD x.1∧x.2.kids.length<2^62∧∀c∈x.2.kids,Cj x.1 c∧c<n,Y:=Unit,post:=fun x y=>True,res:=fun x y=> .tup [.int .i64 (oI (Ha x.2.text (x.2.kids.map (cV x.1)))),.bool (Ha x.2.text (x.2.kids.map (cV x.1))).isSome],outs:=fun x y=>[.top,.top],keep:=false}
def Iq(n:Nat)(x:List Nd×Nd):LS:= {ι:=Int×Int,inv:=fun i=>cI x.1 x.2 i.1 i.2,regs:=fun i=>[(0,nds x.1),(3,.box 0 (ndA false x.2)),(6,.int .i64 i.2),(25,Ag x.2.kids),(26,.int .i64 x.2.kids.length),(27,.int .i64 i.1)],als:=[],meas:=fun i=>x.2.kids.length-i.1.toNat}
theorem b2A(n:Nat)(hc:Al G Go.Proofs.Tryz.prog 76 (Fl n)):Al G Tryz.prog 99 (FY n):=
 vcFun_okP [(76,0,(Fl n)),(125,0,Jd),(66,0,DE)] [] false (fun x=>[(5,Iq n x)]) Tryz.func99 rfl (by decide) ⟨hc,b2t,Nz,trivial⟩ (fun(x:List Nd×Nd)=>(∀(y:Unit),True→(True∧True∧True)∧True∧True∧True)∧Ab (!x.2.text== #[(43:UInt8)].toList) (Ab (!x.2.text== #[(45:UInt8)].toList) (Ab (!x.2.text== #[(42:UInt8)].toList) (rA (FY n) x [.tup [.int .i64 (0:Int),.bool false],.top,.top]) (eA (Iq n x) [nds x.1,.box 0 [.int .i64 x.2.kind,.str x.2.text,Ag x.2.kids,.bool x.2.blank],.int .i64 (0:Int),Ag x.2.kids,.int .i64 (↑(List.length x.2.kids):Int),.int .i64 (0:Int)]∧∀(i:Int×Int),cI x.1 x.2 i.1 i.2→Ab (decide (i.1<(↑(List.length x.2.kids):Int))) (((0:Int)≤i.1∧i.1<(↑(List.length x.2.kids):Int))∧∀(e:Int),x.2.kids[Int.toNat i.1]? =some e→cA (Fl n) [nds x.1,.int .i64 e] fun x_1 y=>Ab (!Option.isSome (cV x_1.1 x_1.2)) (rA (FY n) x [.tup [.int .i64 (0:Int),.bool false],.top,.top]) (Ab (i.1==(0:Int)) (inR IntKind.i64 (i.1+(1:Int))∧eN (Iq n x) i [nds x.1,.box 0 [.int .i64 x.2.kind,.str x.2.text,Ag x.2.kids,.bool x.2.blank],.int .i64 (oI (cV x_1.1 x_1.2)),Ag x.2.kids,.int .i64 (↑(List.length x.2.kids):Int),.int .i64 (i.1+(1:Int))]) (cA Jd [.str x.2.text,.int .i64 i.2,.int .i64 (oI (cV x_1.1 x_1.2))] fun x_2 y=>cA DE [.int .i64 (CS x_2.1 x_2.2.1 x_2.2.2),.int .i64 (-1000000000:Int),.int .i64 (1000000000:Int)] fun x_3 y=>Ab (!inn x_3.1 x_3.2.1 x_3.2.2) (rA (FY n) x [.tup [.int .i64 (0:Int),.bool false],.top,.top]) (inR IntKind.i64 (i.1+(1:Int))∧eN (Iq n x) i [nds x.1,.box 0 [.int .i64 x.2.kind,.str x.2.text,Ag x.2.kids,.bool x.2.blank],.int .i64 (CS x_2.1 x_2.2.1 x_2.2.2),Ag x.2.kids,.int .i64 (↑(List.length x.2.kids):Int),.int .i64 (i.1+(1:Int))])))) (rA (FY n) x [.tup [.int .i64 i.2,.bool true],.top,.top]))) (eA (Iq n x) [nds x.1,.box 0 [.int .i64 x.2.kind,.str x.2.text,Ag x.2.kids,.bool x.2.blank],.int .i64 (0:Int),Ag x.2.kids,.int .i64 (↑(List.length x.2.kids):Int),.int .i64 (0:Int)]∧∀(i:Int×Int),cI x.1 x.2 i.1 i.2→Ab (decide (i.1<(↑(List.length x.2.kids):Int))) (((0:Int)≤i.1∧i.1<(↑(List.length x.2.kids):Int))∧∀(e:Int),x.2.kids[Int.toNat i.1]? =some e→cA (Fl n) [nds x.1,.int .i64 e] fun x_1 y=>Ab (!Option.isSome (cV x_1.1 x_1.2)) (rA (FY n) x [.tup [.int .i64 (0:Int),.bool false],.top,.top]) (Ab (i.1==(0:Int)) (inR IntKind.i64 (i.1+(1:Int))∧eN (Iq n x) i [nds x.1,.box 0 [.int .i64 x.2.kind,.str x.2.text,Ag x.2.kids,.bool x.2.blank],.int .i64 (oI (cV x_1.1 x_1.2)),Ag x.2.kids,.int .i64 (↑(List.length x.2.kids):Int),.int .i64 (i.1+(1:Int))]) (cA Jd [.str x.2.text,.int .i64 i.2,.int .i64 (oI (cV x_1.1 x_1.2))] fun x_2 y=>cA DE [.int .i64 (CS x_2.1 x_2.2.1 x_2.2.2),.int .i64 (-1000000000:Int),.int .i64 (1000000000:Int)] fun x_3 y=>Ab (!inn x_3.1 x_3.2.1 x_3.2.2) (rA (FY n) x [.tup [.int .i64 (0:Int),.bool false],.top,.top]) (inR IntKind.i64 (i.1+(1:Int))∧eN (Iq n x) i [nds x.1,.box 0 [.int .i64 x.2.kind,.str x.2.text,Ag x.2.kids,.bool x.2.blank],.int .i64 (CS x_2.1 x_2.2.1 x_2.2.2),Ag x.2.kids,.int .i64 (↑(List.length x.2.kids):Int),.int .i64 (i.1+(1:Int))])))) (rA (FY n) x [.tup [.int .i64 i.2,.bool true],.top,.top]))) (eA (Iq n x) [nds x.1,.box 0 [.int .i64 x.2.kind,.str x.2.text,Ag x.2.kids,.bool x.2.blank],.int .i64 (0:Int),Ag x.2.kids,.int .i64 (↑(List.length x.2.kids):Int),.int .i64 (0:Int)]∧∀(i:Int×Int),cI x.1 x.2 i.1 i.2→Ab (decide (i.1<(↑(List.length x.2.kids):Int))) (((0:Int)≤i.1∧i.1<(↑(List.length x.2.kids):Int))∧∀(e:Int),x.2.kids[Int.toNat i.1]? =some e→cA (Fl n) [nds x.1,.int .i64 e] fun x_1 y=>Ab (!Option.isSome (cV x_1.1 x_1.2)) (rA (FY n) x [.tup [.int .i64 (0:Int),.bool false],.top,.top]) (Ab (i.1==(0:Int)) (inR IntKind.i64 (i.1+(1:Int))∧eN (Iq n x) i [nds x.1,.box 0 [.int .i64 x.2.kind,.str x.2.text,Ag x.2.kids,.bool x.2.blank],.int .i64 (oI (cV x_1.1 x_1.2)),Ag x.2.kids,.int .i64 (↑(List.length x.2.kids):Int),.int .i64 (i.1+(1:Int))]) (cA Jd [.str x.2.text,.int .i64 i.2,.int .i64 (oI (cV x_1.1 x_1.2))] fun x_2 y=>cA DE [.int .i64 (CS x_2.1 x_2.2.1 x_2.2.2),.int .i64 (-1000000000:Int),.int .i64 (1000000000:Int)] fun x_3 y=>Ab (!inn x_3.1 x_3.2.1 x_3.2.2) (rA (FY n) x [.tup [.int .i64 (0:Int),.bool false],.top,.top]) (inR IntKind.i64 (i.1+(1:Int))∧eN (Iq n x) i [nds x.1,.box 0 [.int .i64 x.2.kind,.str x.2.text,Ag x.2.kids,.bool x.2.blank],.int .i64 (CS x_2.1 x_2.2.1 x_2.2.2),Ag x.2.kids,.int .i64 (↑(List.length x.2.kids):Int),.int .i64 (i.1+(1:Int))])))) (rA (FY n) x [.tup [.int .i64 i.2,.bool true],.top,.top]))) (fun x=>by kernel_rfl) fun(x:List Nd×Nd) (hx:BD x.1∧x.2.kids.length<2^62∧∀c∈x.2.kids,Cj x.1 c∧c<n)=>(by
 dsimp only[cA,eA,eN,Iq,Ag,Bx,nds,rA,Fl,FY,DE,Jd,Aw,Az,mvL,lnL,mvE,lnE,Bv]
 obtain⟨h1,h2,h3⟩:=hx
 (repeat' first|(with_reducible first|rfl|exact True.intro|apply AK|apply And.intro|((first|apply AA|apply AI|apply AB|apply AJ)<;>intro _))|(apply Ax<;>intro _)|apply AH|refine Af () ?_ ?_|((first|apply AO|apply AN|apply AM|apply AL|apply AG|apply AF|apply AE|apply AD|apply AC)<;>try dsimp only)|apply Af|(refine Prod.forall.2 ?_;intro _;try dsimp only)|(intro _;try dsimp only))
 all_goals first
  |rfl
  |omega
  |exact h1
  |exact b2u
  |exact b2v ‹_› ‹_› ‹_› (h3 _ (BJ ‹_›)).1 ‹_›
  |exact b2w ‹_› ‹_› ‹_› ‹_› ‹_›
  |exact⟨h1,(h3 _ (BJ ‹_›)).1,(h3 _ (BJ ‹_›)).2⟩
  |exact(show cI _ _ _ _ by assumption).2.2.1
  |exact a1B (h3 _ (BJ ‹_›)).1
  |(have hcI:=(show cI x.1 x.2 _ _ by assumption);have:=hcI.1;have:=hcI.2.1;(try simp only[AQ]);omega)
  |(simp [Ha,NL,oI, *];done)
  |(have hcc:=b2z ‹_› ‹_›;simp [Ha,NL,hcc,oI, *];done)
  |(have hcc:=b2y ‹_› ‹_› ‹_›;simp [Ha,NL,hcc,oI, *];done)
  |(have hcc:=b2x ‹_› ‹_› ‹_› ‹_› ‹_›;simp [Ha,NL,hcc,oI, *];done)
  |skip)
theorem Ws{n:Nat}{x:List Nd×Int}{y:Nd}{c:Int}(h:Ip (n+1) x)(hy:x.1[x.2.toNat]? =some y)(hc:c∈y.kids):Cj x.1 c∧c<n:=by
 obtain⟨h1,h2,h3⟩:=h
 rw[←Bo hy] at hc
 have:=Ez h2 hc
 exact⟨this.1,by omega⟩
theorem a2O{n:Nat}{x:List Nd×Int}{y:Nd}(h:Ip (n+1) x)(hy:x.1[x.2.toNat]? =some y)(hk:y.kind=2):(y.text.all Bg=true∧1≤y.text.length∧y.text.length≤12)∧cV x.1 x.2=if 9<y.text.length then none else some (Cd y.text):=by
 have e:=Bo hy
 refine⟨?_,?_⟩
 ·have:=VZ h.2.1 (by rw[e];exact hk);rwa [e] at this
 ·rw[RQ h.2.1,e,if_pos hk]
theorem a2P{n:Nat}{x:List Nd×Int}{y:Nd}(h:Ip (n+1) x)(hy:x.1[x.2.toNat]? =some y)(hk:y.kind=11):∃c,y.kids=[c]∧cV x.1 x.2=cV x.1 c:=by
 have e:=Bo hy
 obtain⟨c,hc⟩:=NM h.2.1 (by rw[e];exact hk)
 rw[e] at hc
 refine⟨c,hc,?_⟩
 rw[RQ h.2.1,e,if_neg (by omega),if_pos hk,hc];rfl
theorem b2B{n:Nat}{x:List Nd×Int}{y:Nd}(h:Ip (n+1) x)(hy:x.1[x.2.toNat]? =some y)(hk:y.kind=7):cV x.1 x.2=Ha y.text (y.kids.map (cV x.1)):=by
 rw[RQ h.2.1,Bo hy,if_neg (by omega),if_neg (by omega),if_pos hk]
theorem b2C{n:Nat}{x:List Nd×Int}{y:Nd}(h:Ip (n+1) x)(hy:x.1[x.2.toNat]? =some y)(h2:y.kind≠2)(h11:y.kind≠11)(h7:y.kind≠7):cV x.1 x.2=none:=by
 rw[RQ h.2.1,Bo hy,if_neg h2,if_neg h11,if_neg h7]
def Se:Sig:= {X:=List Nd×Int,args:=fun x=>[nds x.1,.int .i64 x.2],pre:=fun x=>Ip 0 x,Y:=Unit,post:=fun x y=>True,res:=fun x y=> .tup [.int .i64 (oI (cV x.1 x.2)),.bool (cV x.1 x.2).isSome],outs:=fun x y=>[.top,.top],keep:=false}
theorem b2D:Al G Tryz.prog 76 Se:=
 vcFun_okP [] [] false (fun x=>[]) Tryz.func76 rfl (by decide) trivial (fun(x:List Nd×Int)=>(∀(y:Unit),True→(True∧True∧True)∧True∧True∧True)∧((0:Int)≤x.2∧x.2<(↑(List.length x.1):Int))∧∀(e:Nd),x.1[Int.toNat x.2]? =some e→Ab (e.kind==(2:Int)) (Ab (decide ((↑(List.length e.text):Int)>(9:Int))) (rA Se x [.tup [.int .i64 (0:Int),.bool false],.top,.top]) False) (Ab (e.kind==(11:Int)) (((0:Int)≤(0:Int)∧(0:Int)<(↑(List.length e.kids):Int))∧∀(e_1:Int),e.kids[(0:Nat)]? =some e_1→False) (Ab (e.kind==(7:Int)) False (rA Se x [.tup [.int .i64 (0:Int),.bool false],.top,.top])))) (fun x=>by kernel_rfl) fun(x:List Nd×Int) (hx:Ip 0 x)=>(by
 dsimp only[Bx,nds,rA,Se,Aw,Az]
 have h1:=hx.2.2;have h2:=BX.1 hx.2.1.1
 omega)
def Mi(n:Nat):Sig:= {X:=List Nd×Int,args:=fun x=>[nds x.1,.int .i64 x.2],pre:=fun x=>Ip (n+1) x,Y:=Unit,post:=fun x y=>True,res:=fun x y=> .tup [.int .i64 (oI (cV x.1 x.2)),.bool (cV x.1 x.2).isSome],outs:=fun x y=>[.top,.top],keep:=false}
theorem b2E(n:Nat)(hc:Al G Go.Proofs.Tryz.prog 76 (Fl n)):Al G Tryz.prog 76 (Mi n):=
 vcFun_okP [(76,0,(Fl n)),(99,0,(FY n)),(98,0,NR)] [] false (fun x=>[]) Tryz.func76 rfl (by decide) ⟨hc,(b2A n hc),b2s,trivial⟩ (fun(x:List Nd×Int)=>(∀(y:Unit),True→(True∧True∧True)∧True∧True∧True)∧((0:Int)≤x.2∧x.2<(↑(List.length x.1):Int))∧∀(e:Nd),x.1[Int.toNat x.2]? =some e→Ab (e.kind==(2:Int)) (Ab (decide ((↑(List.length e.text):Int)>(9:Int))) (rA (Mi n) x [.tup [.int .i64 (0:Int),.bool false],.top,.top]) (cA NR [.str e.text] fun x_1 y=>rA (Mi n) x [.tup [.int .i64 (Cd x_1),.bool true],.top,.top])) (Ab (e.kind==(11:Int)) (((0:Int)≤(0:Int)∧(0:Int)<(↑(List.length e.kids):Int))∧∀(e_1:Int),e.kids[(0:Nat)]? =some e_1→cA (Fl n) [nds x.1,.int .i64 e_1] fun x_1 y=>rA (Mi n) x [.tup [.int .i64 (oI (cV x_1.1 x_1.2)),.bool (Option.isSome (cV x_1.1 x_1.2))],.top,.top]) (Ab (e.kind==(7:Int)) (cA (FY n) [nds x.1,.agg [.int .i64 e.kind,.str e.text,Ag e.kids,.bool e.blank]] fun x_1 y=>rA (Mi n) x [.tup [.int .i64 (oI (Ha x_1.2.text (List.map (cV x_1.1) x_1.2.kids))),.bool (Option.isSome (Ha x_1.2.text (List.map (cV x_1.1) x_1.2.kids)))],.top,.top]) (rA (Mi n) x [.tup [.int .i64 (0:Int),.bool false],.top,.top])))) (fun x=>by kernel_rfl) fun(x:List Nd×Int) (hx:Ip (n+1) x)=>(by
 dsimp only[cA,Ag,Bx,nds,rA,Fl,FY,Mi,NR,Aw,Az,mvL,lnL,mvE,lnE]
 have h1:=hx.1;have hl:=h1.1;have hn:=BX.1 hx.2.1.1
 (repeat' first|(with_reducible first|rfl|exact True.intro|apply AK|apply And.intro|((first|apply AA|apply AI|apply AB|apply AJ)<;>intro _))|(apply Ax<;>intro _)|apply AH|refine Af () ?_ ?_|((first|apply AO|apply AN|apply AM|apply AL|apply AG|apply AF|apply AE|apply AD|apply AC)<;>try dsimp only)|apply Af|(refine Prod.forall.2 ?_;intro _;try dsimp only)|(intro _;try dsimp only))
 all_goals first
  |omega
  |exact h1
  |exact(VQ ‹_› h1).2
  |(have h2:=a2O hx ‹_› ‹_›;rw[h2.2];first|(rw[if_pos (by omega)];rfl)|(rw[if_neg (by omega)];rfl))
  |exact(a2O hx ‹_› ‹_›).1.1
  |(have hcc:=Ws hx ‹_› (BJ ‹_›);exact⟨h1,hcc.1,hcc.2⟩)
  |exact(Ws hx ‹_› ‹_›).1
  |exact(Ws hx ‹_› ‹_›).2
  |(rw[b2B hx ‹_› ‹_›];done)
  |(rw[b2C hx ‹_› ‹_› ‹_› ‹_›];rfl)
  |(obtain⟨c,hk,hv⟩:=a2P hx ‹_› ‹_›;have h0:=(show(Nd.kids _)[0]? =some _ by assumption);rw[hk] at h0;cases h0;rw[hv];done)
  |(obtain⟨c,hk,hv⟩:=a2P hx ‹_› ‹_›;rw[hk];simp;done)
  |skip)
theorem Wt:∀n:Nat,Al G Go.Proofs.Tryz.prog 76 (Fl n)
 |0=>b2D
 |n+1=>b2E n (Wt n)
theorem b2F{o:Option Int}:(o.isSome=true∧o=some (oI o))∨(o.isSome=false∧o=none):=by
 cases o with
 |none=>exact .inr ⟨rfl,rfl⟩
 |some v=>exact .inl ⟨rfl,rfl⟩
def KC:Sig:= {X:=List UInt8,args:=fun x=>[.str x],pre:=fun x=>x.all Bg=true∧1≤x.length∧x.length≤12,Y:=Unit,post:=fun x y=>True,res:=fun x y=> .tup [.int .i64 (if 9<x.length then 0 else Cd x),.bool (decide (x.length≤9))],outs:=fun x y=>[.top],keep:=false}
def Sf(x:List UInt8):LS:= {ι:=Int,inv:=fun i=>0≤i∧i≤x.length∧(i=0∨x.length≤9),regs:=fun i=>[(0,.str x),(4,.int .i64 (Cd (x.take i.toNat))),(5,.int .i64 i)],als:=[],meas:=fun i=>x.length-i.toNat}
theorem b2G:Al G Tryz.prog 149 KC:=
 vcFun_okP [(86,0,EQ)] [] false (fun x=>[(3,Sf x)]) Tryz.func149 rfl (by decide) ⟨Rn,trivial⟩ (fun(x:List UInt8)=>(∀(y:Unit),True→(True∧True∧True)∧True∧True)∧eA (Sf x) [.str x,.int .i64 (0:Int),.int .i64 (0:Int)]∧∀(i:Int),(0:Int)≤i∧i≤(↑(List.length x):Int)∧(i=(0:Int)∨List.length x≤(9:Nat))→Ab (decide (i<(↑(List.length x):Int))) (((0:Int)≤i∧i<(↑(List.length x):Int))∧∀(c:UInt8),x[Int.toNat i]? =some c→cA EQ [AV.int IntKind.u8 (↑(UInt8.toNat c):Int)] fun x_1 y=>Ab (!Bg x_1) (rA KC x [.tup [.int .i64 (0:Int),.bool false],.top]) (inR IntKind.i64 ((10:Int)*Cd (List.take (Int.toNat i) x))∧((0:Int)≤i∧i<(↑(List.length x):Int))∧∀(c:UInt8),x[Int.toNat i]? =some c→inR IntKind.i64 (↑(UInt8.toNat c):Int)∧inR IntKind.i64 ((10:Int)*Cd (List.take (Int.toNat i) x)+(↑(UInt8.toNat c):Int))∧inR IntKind.i64 ((10:Int)*Cd (List.take (Int.toNat i) x)+(↑(UInt8.toNat c):Int)-(48:Int))∧Ab (decide ((↑(List.length x):Int)>(9:Int))) (rA KC x [.tup [.int .i64 (0:Int),.bool false],.top]) (inR IntKind.i64 (i+(1:Int))∧eN (Sf x) i [.str x,.int .i64 ((10:Int)*Cd (List.take (Int.toNat i) x)+(↑(UInt8.toNat c):Int)-(48:Int)),.int .i64 (i+(1:Int))]))) (rA KC x [.tup [.int .i64 (Cd (List.take (Int.toNat i) x)),.bool (decide ((↑(List.length x):Int)>(0:Int)))],.top])) (fun x=>by kernel_rfl) fun(x:List UInt8) (hx:x.all Bg=true∧1≤x.length∧x.length≤12)=>(by
 dsimp only[cA,eA,eN,Sf,rA,EQ,KC,Aw,Az,mvL,lnL,mvE,lnE,Bv]
 obtain⟨h1,h2,h3⟩:=hx
 have hb:∀i:Int,i=0∨x.length≤9→0≤Cd (x.take i.toNat)∧Cd (x.take i.toNat)<1000000000:=fun i hi=>RR (List.all_eq_true.2 fun c hc=>List.all_eq_true.1 h1 c (List.mem_of_mem_take hc)) (by simp;omega)
 (repeat' first|(with_reducible first|rfl|exact True.intro|apply AK|apply And.intro|((first|apply AA|apply AI|apply AB|apply AJ)<;>intro _))|(apply Ax<;>intro _)|apply AH|refine Af () ?_ ?_|((first|apply AO|apply AN|apply AM|apply AL|apply AG|apply AF|apply AE|apply AD|apply AC)<;>try dsimp only)|apply Af|(refine Prod.forall.2 ?_;intro _;try dsimp only)|(intro _;try dsimp only))
 all_goals try(have hf:=a2M h1 (show x[Int.toNat _]? =some _ by assumption))
 all_goals try(have hbb:=hb _ (show _∧_∧_ by assumption).2.2)
 all_goals first
  |rfl
  |omega
  |((try simp only[AQ]);omega)
  |(simp [Bg] at*;omega)
  |(rw[Da (by omega),a1x ‹_›];omega)
  |(rw[List.take_of_length_le (by omega),if_neg (by omega)];done)
  |(rw[if_pos (by omega)];done)
  |(rw[decide_eq_decide];omega)
  |(symm;exact decide_eq_false (by omega))
  |skip)
def KD:Nat:=1073741825
def dgt(m:Nat):List UInt8:=if m=0 then [] else Lib.decDigits m
theorem Wu{m:Nat}(h:0<m):dgt m=dgt (m/10)++[UInt8.ofNat (48+m % 10)]:=by
 rw[dgt,if_neg (by omega),Lib.decDigits]
 split
 ·rename_i h10
  have e:m/10=0:=by omega
  have e2:m % 10=m:=by omega
  rw[e,e2,dgt,if_pos rfl];rfl
 ·rw[dgt,if_neg (by omega)]
theorem a2Q:∀(n m:Nat),m<10^n→(dgt m).length≤n
 |0,m,h=>by have:m=0:=by simpa using h
            subst this;simp [dgt]
 |n+1,m,h=>by
  by_cases h0:0<m
  ·rw[Wu h0,List.length_append]
   have:=a2Q n (m/10) (by rw[Nat.div_lt_iff_lt_mul (by omega)];rw[Nat.pow_succ] at h;exact h)
   simp;omega
  ·have:m=0:=by omega
   subst this;simp [dgt]
def FF(x:Int):List UInt8:=Lib.itoa x
theorem a2R{x:Int}(h:0<x):FF x=dgt x.toNat:=by
 rw[FF,Lib.itoa,if_neg (by omega),dgt,if_neg (by omega)]
theorem a2S:FF 0=[48]:=by
 rw[FF,Lib.itoa,if_neg (by omega),Lib.decDigits];rfl
theorem b2H{x:Int}(h0:0≤x)(h:x≤999999999):(FF x).length≤9:=by
 by_cases hx:0<x
 ·rw[a2R hx];exact a2Q 9 x.toNat (by omega)
 ·have:x=0:=by omega
  subst this;rw[a2S];simp
end Go.My
end
section
namespace Go.My
open Go.Eng
def CW(ns:List Nd)(k:Int):Bool:=decide (AS ns k=7)&&((cV ns k).isSome&&inn (oI (cV ns k)) 0 999999999)
def JF(ns:List Nd)(k:Int):Nd:=⟨2,FF (oI (cV ns k)),[],false⟩
def rFd(ns:List Nd):Rw:=⟨fun k=>if CW ns k then some (JF ns k) else none,fun _ _ c=>c,fun _ _ _=>false⟩
theorem Wv{ns:List Nd}:RU ns (rFd ns):=by
 intro n k i c hu hc hn
 exact⟨(Ez hu (BJ hc)).1,Int.le_refl _,by simp [rFd]⟩
theorem a2T{ns:List Nd}{k:Int}(h:CW ns k=true):(rFd ns).stop k=some (JF ns k):=by simp [rFd,h]
theorem Sh{ns:List Nd}{k:Int}(h:CW ns k=false):(rFd ns).stop k=none:=by simp [rFd,h]
theorem a2U{ns:List Nd}{k:Int}(h:CW ns k=true):0≤oI (cV ns k)∧oI (cV ns k)≤999999999:=by
 simp only[CW,Bool.and_eq_true] at h
 exact Ih.1 h.2.2
def Dy(f:Int→Int)(l:List Int):Int:=(l.map f).sum
theorem KE{f:Int→Int}{c:Int}{l:List Int}:Dy f (c::l)=f c+Dy f l:=by simp [Dy]
theorem a2V{f:Int→Int}:∀ {l m:List Int},Dy f (l++m)=Dy f l+Dy f m
 |[],m=>by simp [Dy]
 |c::l,m=>by rw[List.cons_append,KE,KE,a2V];omega
theorem a2W{ns:List Nd}{n:Nat}:∀ {l m:List Int},Cz ns n (l++m)=Cz ns n l+Cz ns n m
 |[],m=>by simp [Cz]
 |c::l,m=>by rw[List.cons_append,IY,IY,a2W];omega
def Ck(ns:List Nd):Nat→Int→Int
 |0,_=>0
 |n+1,k=>if CW ns k then 1 else Dy (Ck ns n) (Aa ns k).kids
theorem PP{ns:List Nd}{n:Nat}{f:Int→Int}(hf:∀k,0≤f k∧f k≤(vis ns n k).length):∀l:List Int,0≤Dy f l∧Dy f l≤Cz ns n l
 |[]=>by simp [Dy,Cz]
 |c::l=>by
  have h1:=hf c
  have h2:=PP hf l
  rw[KE,IY];omega
theorem JG{ns:List Nd}:∀(n:Nat) (k:Int),0≤Ck ns n k∧Ck ns n k≤(vis ns n k).length
 |0,k=>by simp [Ck,vis]
 |n+1,k=>by
  have h:=PP (ns:=ns) (f:=Ck ns n) (JG n) (Aa ns k).kids
  rw[JB,Ck]
  have e:Cz ns n (DG ns k)=Cz ns n (Aa ns k).kids:=rfl
  rw[e]
  split<;>omega
def fkI(ns:List Nd)(n:Nat)(k:Int)(out0:List Nd)(f0:Int)(i:Int)(out:List Nd)(ks:List Int)(f:Int):Prop:=
 (CW ns k=true∧i=0∧out=out0∧ks=[]∧f=f0+1)∨
 (CW ns k=false∧pk ns (rFd ns) n k out0 i out ks∧f+Dy (Ck ns n) ((Aa ns k).kids.drop i.toNat)=f0+Dy (Ck ns n) (Aa ns k).kids∧f0≤f)
def fNd(ns:List Nd)(k:Int):Nd:=if CW ns k then JF ns k else Aa ns k
theorem Si{ns:List Nd}{k:Int}(h:CW ns k=true):fNd ns k=JF ns k:=by rw[fNd,if_pos h]
theorem Sj{ns:List Nd}{k:Int}(h:CW ns k=false):fNd ns k=Aa ns k:=by rw[fNd,if_neg (by simp [h])]
def fdP(n:Nat)(x:List Nd×Int×List Nd×Int):Prop:=a1J rFd n (x.1,x.2.1,x.2.2.1)∧(0≤x.2.2.2∧x.2.2.2+(vis x.1 n x.2.1).length≤1048576)∧x.1.length≤2^30
theorem b2I{ns:List Nd}{n:Nat}{k:Int}{out0:List Nd}{f0:Int}:fkI ns n k out0 f0 0 out0 [] (if CW ns k then f0+1 else f0):=by
 cases h:CW ns k
 ·exact .inr ⟨h,b1y,by simp,by simp⟩
 ·exact .inl ⟨h,rfl,rfl,rfl,by simp⟩
theorem a2X{ns:List Nd}{n:Nat}{k:Int}{out0:List Nd}{f0 i c:Int}{out:List Nd}{ks:List Int}{f:Int}(h:fkI ns n k out0 f0 i out ks f)(hc:(fNd ns k).kids[i.toNat]? =some c):
 CW ns k=false∧pk ns (rFd ns) n k out0 i out ks∧f+Dy (Ck ns n) ((Aa ns k).kids.drop i.toNat)=f0+Dy (Ck ns n) (Aa ns k).kids∧f0≤f∧(Aa ns k).kids[i.toNat]? =some c:=by
 rcases h with⟨h1,h2⟩|⟨h1,h2,h3,h4⟩
 ·rw[Si h1] at hc;simp [JF] at hc
 ·rw[Sj h1] at hc;exact⟨h1,h2,h3,h4,hc⟩
theorem a2Y{ns:List Nd}{n:Nat}{k:Int}{out0:List Nd}{f0 i c:Int}{out:List Nd}{ks:List Int}{f:Int}(hx:fdP (n+1) (ns,k,out0,f0))(h:fkI ns n k out0 f0 i out ks f)(hc:(fNd ns k).kids[i.toNat]? =some c):
 fdP n (ns,c,out,f):=by
 obtain⟨h1,h2,h3,h4,h5⟩:=a2X h hc
 obtain⟨⟨p1,p2,p3,p4⟩,⟨q1,q2⟩,q3⟩:=hx
 obtain⟨g1,g2,g3⟩:=b1B Wv h2 p2 (by simpa using p3) h5 p4
 refine⟨⟨p1,g1,g2,g3⟩,⟨by simp only at q1 ⊢;omega,?_⟩,q3⟩
 have e:Cz ns n (DG ns k)=Cz ns n (Aa ns k).kids:=rfl
 simp only at q1 q2 ⊢
 rw[JB,e] at q2
 have hd:=HA h5
 have h6:=PP (JG (ns:=ns) n) ((Aa ns k).kids.take i.toNat)
 have h7:Dy (Ck ns n) (Aa ns k).kids=Dy (Ck ns n) ((Aa ns k).kids.take i.toNat)+Dy (Ck ns n) ((Aa ns k).kids.drop i.toNat):=by
  rw[←a2V,List.take_append_drop]
 have h8:Cz ns n (Aa ns k).kids=Cz ns n ((Aa ns k).kids.take i.toNat)+Cz ns n ((Aa ns k).kids.drop i.toNat):=by
  rw[←a2W,List.take_append_drop]
 have h9:Cz ns n ((Aa ns k).kids.drop i.toNat)=(vis ns n c).length+Cz ns n ((Aa ns k).kids.drop (i.toNat+1)):=b1w h5
 omega
theorem b2J{ns:List Nd}{n:Nat}{k:Int}{out0:List Nd}{f0 i c:Int}{out:List Nd}{ks:List Int}{f:Int}(hx:fdP (n+1) (ns,k,out0,f0))(h:fkI ns n k out0 f0 i out ks f)(hc:(fNd ns k).kids[i.toNat]? =some c):
 fkI ns n k out0 f0 (i+1) (Bb ns (rFd ns) n c out) (ks++[((Bb ns (rFd ns) n c out).length:Int)-1]) (f+Ck ns n c):=by
 obtain⟨h1,h2,h3,h4,h5⟩:=a2X h hc
 obtain⟨⟨p1,p2,p3,p4⟩,⟨q1,q2⟩,q3⟩:=hx
 have h6:=b1z Wv h2 p2 (by simpa using p3) h5
 have e:Fi (rFd ns) (Bb ns (rFd ns) n) k i c out=Bb ns (rFd ns) n c out:=rfl
 rw[e] at h6
 refine .inr ⟨h1,h6,?_,?_⟩
 ·have h0:=h2.1.1
  rw[Da h0,←h3,HA h5,KE];omega
 ·have:=(JG (ns:=ns) n c).1;omega
theorem a2Z{ns:List Nd}{n:Nat}{k:Int}{out0:List Nd}{f0 i:Int}{out:List Nd}{ks:List Int}{f:Int}(hx:fdP (n+1) (ns,k,out0,f0))(h:fkI ns n k out0 f0 i out ks f):
 (0≤i∧i≤(fNd ns k).kids.length)∧(fNd ns k).kids.length≤12∧ks.length=i∧out.length≤1048576∧0≤f∧f≤1048577:=by
 obtain⟨⟨p1,p2,p3,p4⟩,⟨q1,q2⟩,q3⟩:=hx
 simp only at p4 q1 q2
 rcases h with⟨h1,rfl,rfl,rfl,rfl⟩|⟨h1,h2,h3,h4⟩
 ·rw[Si h1]
  simp [JF];omega
 ·rw[Sj h1]
  obtain⟨g1,g2,g3⟩:=b1C h2 p4
  have h4':=(DZ (LX p2)).2.1
  have e:Cz ns n (DG ns k)=Cz ns n (Aa ns k).kids:=rfl
  rw[JB,e] at q2
  have h6:=PP (JG (ns:=ns) n) ((Aa ns k).kids)
  have h7:=PP (JG (ns:=ns) n) ((Aa ns k).kids.drop i.toNat)
  exact⟨g1,h4',g3,by omega,by omega,by omega⟩
theorem Ww{ns:List Nd}{n:Nat}{k:Int}{out0:List Nd}{f0 i:Int}{out:List Nd}{ks:List Int}{f:Int}(h:fkI ns n k out0 f0 i out ks f)(hl:¬i<(fNd ns k).kids.length):
 out++[⟨(fNd ns k).kind,(fNd ns k).text,ks,(fNd ns k).blank⟩]=Bb ns (rFd ns) (n+1) k out0∧f=f0+Ck ns (n+1) k:=by
 rcases h with⟨h1,rfl,rfl,rfl,rfl⟩|⟨h1,h2,h3,h4⟩
 ·rw[Si h1,Bb,a2T h1,Ck,if_pos h1];exact⟨rfl,rfl⟩
 ·rw[Sj h1] at hl ⊢
  refine⟨b1A h2 hl (Sh h1),?_⟩
  have:=h2.1
  rw[List.drop_eq_nil_of_le (by omega)] at h3
  rw[Ck,if_neg (by simp [h1]),←h3];simp [Dy]
theorem b2K{ns:List Nd}{n:Nat}{c:Int}{out:List Nd}{f:Int}(hx:fdP n (ns,c,out,f)):1≤(Bb ns (rFd ns) n c out).length∧(Bb ns (rFd ns) n c out).length≤1048576∧0≤f+Ck ns n c∧f+Ck ns n c≤1048576:=by
 obtain⟨⟨p1,p2,p3,p4⟩,⟨q1,q2⟩,q3⟩:=hx
 have h1:=Wd (@Wv ns) (n:=n) (out:=out) p2 p3
 have h2:=JG (ns:=ns) n c
 simp only at*
 omega
def Dz(ns:List Nd):List Nd:=if BB ns then Bb ns (rFd ns) De (ns.length-1) [] else ns
def DM(ns:List Nd):Int:=if BB ns then Ck ns De (ns.length-1) else 0
theorem a3a{ns:List Nd}(h:BB ns=true)(ho:BD ns):fdP De (ns,(ns.length:Int)-1,[],0):=by
 refine⟨b1I h ho,⟨Int.le_refl _,?_⟩,by have:=We h;show ns.length≤_;omega⟩
 have:= @RT ns De h
 show(0:Int)+_≤_
 simp only at*
 omega
theorem a3b{ns:List Nd}:0≤DM ns∧DM ns≤300:=by
 unfold DM
 split
 ·rename_i h
  have h1:=JG (ns:=ns) De ((ns.length:Int)-1)
  have:= @RT ns De h
  omega
 ·omega
theorem a3c:∀(n m:Nat),m≤n→(dgt m).all Bg=true∧Cd (dgt m)=m
 |n,m,hm=>by
  by_cases h0:0<m
  ·cases n with
   |zero=>omega
   |succ n=>
    obtain⟨h1,h2⟩:=a3c n (m/10) (by omega)
    have e:(UInt8.ofNat (48+m % 10)).toNat=48+m % 10:=by simp;omega
    rw[Wu h0]
    refine⟨?_,?_⟩
    ·rw[List.all_append,h1]
     simp only[List.all_cons,List.all_nil,Bool.and_true,Bool.true_and]
     unfold Bg;rw[e,decide_eq_true (by omega),decide_eq_true (by omega)];rfl
    ·rw[Wa,h2,e];omega
  ·have:m=0:=by omega
   subst this;exact⟨by simp [dgt],by simp [dgt,Cd]⟩
theorem b2L{m:Nat}(h:0<m):1≤(dgt m).length:=by rw[Wu h];simp
theorem Sk{v:Int}(h0:0≤v)(h1:v≤999999999):((FF v).all Bg=true∧Cd (FF v)=v)∧(1≤(FF v).length∧(FF v).length≤9):=by
 have hl:=b2H h0 h1
 by_cases h:0<v
 ·rw[a2R h] at hl ⊢
  obtain⟨g1,g2⟩:=a3c v.toNat v.toNat (Nat.le_refl _)
  exact⟨⟨g1,by rw[g2];omega⟩,b2L (by omega),hl⟩
 ·have:v=0:=by omega
  subst this;rw[a2S] at hl ⊢;exact⟨⟨by decide,by decide⟩,by simp,hl⟩
theorem Mj{ns:List Nd}:Jc (rFd ns):=⟨fun _ _ _=>rfl,fun _ _ _=>rfl⟩
theorem a3d:Jc rId:=⟨fun _ _ _=>rfl,fun _ _ _=>rfl⟩
theorem Sl{ns:List Nd}{k:Int}{x:Nd}(h:(rFd ns).stop k=some x):CW ns k=true∧x=JF ns k:=by
 simp only[rFd] at h;split at h
 ·rename_i e;cases h;exact⟨e,rfl⟩
 ·cases h
theorem b2M{ns:List Nd}{k:Int}(h:(rFd ns).stop k=none):CW ns k=false:=by
 simp only[rFd] at h;split at h
 ·cases h
 ·rename_i e;simpa using e
theorem PQ{ns:List Nd}{k:Int}(h:CW ns k=true):AS ns k=7∧∃v,cV ns k=some v∧0≤v∧v≤999999999:=by
 have hb:=a2U h
 simp only[CW,Bool.and_eq_true,decide_eq_true_eq] at h
 obtain⟨h1,h2,h3⟩:=h
 rcases b2F (o:=cV ns k) with e|e
 ·exact⟨h1,_,e.2,hb.1,hb.2⟩
 ·rw[e.1] at h2;cases h2
theorem Sm{ns:List Nd}{k v:Int}(h:cV ns k=some v):JF ns k=⟨2,FF v,[],false⟩:=by unfold JF;rw[h];rfl
theorem NS{ns:List Nd}:PO ns (rFd ns):=by
 intro k x h
 obtain⟨h1,rfl⟩:=Sl h
 obtain⟨h2,v,h3,h4,h5⟩:=PQ h1
 have hi:=Sk h4 h5
 rw[Sm h3]
 refine⟨h2,⟨rfl,rfl⟩,?_,rfl⟩
 show Ev 2 (FF v)=true
 simp only[Ev,Int.reduceEq,or_self,if_false,if_true,reduceIte]
 rw[Rp,hi.1.1]
 simp only[Bool.true_and,Bool.and_eq_true,decide_eq_true_eq];omega
structure Fd (ns A:List Nd) (fo:List Int):Prop where
 im:Im ns (rFd ns) A fo
 fr:Fo A 0 [(A.length:Int)-1]
 len:1≤A.length∧A.length≤300
 root:oAt fo ((A.length:Int)-1)=(ns.length:Int)-1
theorem b2N{ns:List Nd}(h:BB ns=true):∃fo,Fd ns (Dz ns) fo:=by
 obtain⟨h1,h2,h3,h4⟩:=Gw h
 have hs:∀k x,(rFd ns).stop k=some x→x.kids=[]:=fun k x hh=>(NS k x hh).2.1.2
 have hn:(ns.length:Int)-1<De:=by unfold De;omega
 obtain⟨g,g1,g2,g3⟩:=a2F hs Mj h4 hn (out:=[]) (fo:=[]) ⟨rfl,fun j a b=>by simp at b;omega⟩
 have g4:=a2x hs Mj.1 Mj.2 h4 hn (Fo.nil [])
 have g5:=a2G (ns:=ns) (R:=rFd ns) Mj (n:=De) (k:=(ns.length:Int)-1) (out:=[])
 have e:Dz ns=Bb ns (rFd ns) De ((ns.length:Int)-1) []:=by rw[Dz,if_pos h]
 rw[e]
 have hl:=g1.1
 simp only[List.nil_append] at hl g1 g3 g4
 refine⟨g,g1,g4,⟨by omega,?_⟩,by rw[←hl];exact g3⟩
 have:= @RT ns De h
 simp only[List.length_nil] at g5;omega
theorem a3e{ns:List Nd}(h:BB ns=true):AS ns ((ns.length:Int)-1)=22:=by
 simp only[BB,Bool.and_eq_true,decide_eq_true_eq] at h;exact h.2.1
theorem a3f{ns:List Nd}(h:BB ns=true){k:Int}(hk:Cj ns k):1≤Bz ns k∧Bz ns k≤14:=by
 have hb:=BX.1 hk.1
 have h1:Bz ns ((ns.length:Int)-1)≠0:=by
  simp only[BB,Bool.and_eq_true,decide_eq_true_eq,Bool.not_eq_true',decide_eq_false_iff_not] at h
  exact h.2.2.1
 obtain⟨h2,⟨ds,h3⟩,h4⟩:=Nt h1
 obtain⟨es,h5,h6⟩:=RY (n:=k.toNat+1) (by omega) h3
 have:=Vz (ns:=ns) (k:=k) hk.1 h5
 have:= @a0e ns k
 exact⟨by omega,a1S⟩
theorem Wx{ns A:List Nd}{fo:List Int}(h:BB ns=true)(hF:Fd ns A fo):BB A=true:=
 b2r (H:=Bz ns) NS hF.im hF.fr hF.len.1 hF.len.2 (by rw[hF.root];exact a3e h) (fun k hk=>a3f h hk) (fun k hk c hc=>a1P (by have:=a3f h hk;omega) hc)
theorem b2O{ns:List Nd}{n:Nat}{k:Int}(h:(Aa ns k).kind=2):cst ns (n+1) k=if 9<(Aa ns k).text.length then none else some (Cd (Aa ns k).text):=by rw[cst,if_pos h]
theorem a3g{ns A:List Nd}{fo:List Int}(hF:Fd ns A fo):∀(n:Nat) (j:Int),0≤j→j<A.length→j<n→cst A n j=cV ns (oAt fo j)
 |0,j,h0,_,hn=>by omega
 |n+1,j,h0,h1,hn=>by
  have hj:=hF.im.2 j h0 h1
  rcases hj.2 with h|⟨hst,⟨g1,g2,g3⟩,g4⟩
  ·obtain⟨f1,f2⟩:=Sl h
   obtain⟨f3,v,f4,f5,f6⟩:=PQ f1
   have hi:=Sk f5 f6
   rw[Sm f4] at f2
   rw[b2O (by rw[f2]),f2]
   simp only
   rw[if_neg (by omega),hi.1.2,f4]
  ·have hu:=hj.1.1
   have hub:=BX.1 hu.1
   rw[cV,cst,cst,g1,g2]
   have key:∀c∈(Aa A j).kids,cst A n c=cst ns (oAt fo j).toNat (oAt fo c):=by
    intro c hc
    have hc2:=hj.1.2 c hc
    have hm:=Ez hu (c:=oAt fo c) (by rw[←g4];exact List.mem_map_of_mem hc)
    rw[a3g hF n c hc2.1 (by omega) (by omega),cV]
    exact LY hm.1 (by omega) (by omega)
   by_cases e2:(Aa ns (oAt fo j)).kind=2
   ·rw[if_pos e2,if_pos e2]
   rw[if_neg e2,if_neg e2]
   by_cases e11:(Aa ns (oAt fo j)).kind=11
   ·rw[if_pos e11,if_pos e11]
    obtain⟨c,hc⟩:=NM hu e11
    rw[hc] at g4 ⊢
    cases hk:(Aa A j).kids with
    |nil=>rw[hk] at g4;cases g4
    |cons d l=>
     rw[hk] at g4
     simp only[List.map_cons,List.cons.injEq] at g4
     simp only[List.headD_cons]
     rw[←g4.1];exact key d (by rw[hk];simp)
   rw[if_neg e11,if_neg e11]
   have e:(Aa A j).kids.map (cst A n)=(Aa ns (oAt fo j)).kids.map (cst ns (oAt fo j).toNat):=by
    rw[←g4,List.map_map]
    exact List.map_congr_left fun c hc=>key c hc
   rw[e]
theorem b2P{ns A:List Nd}{fo:List Int}(hF:Fd ns A fo){j:Int}(h0:0≤j)(h1:j<A.length):cV A j=cV ns (oAt fo j):=a3g hF _ j h0 h1 (by omega)
theorem a3h{ns A:List Nd}{fo:List Int}(hF:Fd ns A fo){j:Int}(h0:0≤j)(h1:j<A.length):CW A j=false:=by
 have hj:=hF.im.2 j h0 h1
 rcases hj.2 with h|⟨hst,⟨g1,g2,g3⟩,g4⟩
 ·have:=(NS _ _ h).2.1.1
  unfold CW AS;rw[this];rfl
 ·have hf:=b2M hst
  unfold CW at hf ⊢
  rw[b2P hF h0 h1]
  have:AS A j=AS ns (oAt fo j):=g1
  rw[this];exact hf
theorem b2Q{ns A:List Nd}{fo:List Int}(h:BB ns=true)(hF:Fd ns A fo):Dz A=A:=by
 rw[Dz,if_pos (Wx h hF)]
 exact a2C Mj hF.fr (fun i h0 h1=>Sh (a3h hF h0 h1)) (by have:=hF.len;unfold De;omega)
theorem a3i{ns:List Nd}(h:∀i:Int,0≤i→i<ns.length→CW ns i=false):∀(n:Nat) (k:Int),Cj ns k→Ck ns n k=0
 |0,_,_=>rfl
 |n+1,k,hu=>by
  have hb:=BX.1 hu.1
  rw[Ck,if_neg (by rw[h k hb.1 hb.2];simp)]
  have:∀l:List Int,(∀c∈l,c∈(Aa ns k).kids)→Dy (Ck ns n) l=0:=by
   intro l
   induction l with
   |nil=>intro _;rfl
   |cons c l ih=>intro hl;rw[KE,a3i h n c (Ez hu (hl c (by simp))).1,ih fun d hd=>hl d (by simp [hd])];rfl
  exact this _ fun c hc=>hc
theorem b2R{ns A:List Nd}{fo:List Int}(h:BB ns=true)(hF:Fd ns A fo):DM A=0:=by
 have ht:=Wx h hF
 rw[DM,if_pos ht]
 exact a3i (fun i h0 h1=>a3h hF h0 h1) _ _ (Gw ht).2.2.2
theorem a3j{ns:List Nd}{n:Nat}:∀l:List Int,0≤Dy (Ck ns n) l
 |[]=>by simp [Dy]
 |c::l=>by rw[KE];have:=(JG (ns:=ns) n c).1;have:= @a3j ns n l;omega
theorem a3k{ns:List Nd}:∀ {n:Nat} {k:Int} {out:List Nd},Ck ns n k=0→Bb ns (rFd ns) n k out=Bb ns rId n k out
 |0,_,_,_=>rfl
 |n+1,k,out,h=>by
  rw[Ck] at h
  split at h
  ·cases h
  ·rename_i e
   have key:∀(l:List Int) (o:List Nd) (js:List Int),Dy (Ck ns n) l=0→BR (Bb ns (rFd ns) n) l o js=BR (Bb ns rId n) l o js:=by
    intro l
    induction l with
    |nil=>intro o js _;rfl
    |cons c l ih=>
     intro o js hl
     rw[KE] at hl
     have h1:=(JG (ns:=ns) n c).1
     have h2:=a3j (ns:=ns) (n:=n) l
     rw[BR,BR,a3k (n:=n) (k:=c) (by omega)]
     exact ih _ _ (by omega)
   have e1:(rFd ns).stop k=none:=Sh (by simpa using e)
   have e2:rId.stop k=none:=rfl
   rw[Bb,Bb,e1,e2]
   simp only
   rw[Il Mj,Il a3d,key _ _ _ h]
theorem b2S{ns:List Nd}{n:Nat}{c:Int}(h:c<n)(h0:0≤c):1≤(vis ns n c).length:=by
 obtain⟨m,rfl⟩:∃m,n=m+1:=⟨n-1,by omega⟩
 rw[JB];omega
theorem a3l{ns:List Nd}:∀ {n:Nat} {k:Int} {out:List Nd},Cj ns k→k<n→(Bb ns (rFd ns) n k out).length+Ck ns n k≤out.length+(vis ns n k).length
 |0,k,out,hu,hk=>by simp [Bb,Ck,vis]
 |n+1,k,out,hu,hk=>by
  have hb:=BX.1 hu.1
  rw[Bb,JB,Ck]
  have e:Cz ns n (DG ns k)=Cz ns n (Aa ns k).kids:=rfl
  cases hf:CW ns k with
  |true=>
   rw[a2T hf,if_pos rfl]
   have h7:(Aa ns k).kind=7:=(PQ hf).1
   have h2:=VY hu h7
   have hv:1≤Cz ns n (Aa ns k).kids:=by
    cases hk2:(Aa ns k).kids with
    |nil=>rw[hk2] at h2;simp at h2
    |cons c l=>
     have hm:=Ez hu (c:=c) (by rw[hk2];simp)
     have:=b2S (ns:=ns) (n:=n) (c:=c) (by omega) hm.2.1
     rw[IY];omega
   simp only[List.length_append,List.length_cons,List.length_nil];omega
  |false=>
   rw[Sh hf,if_neg (by simp)]
   simp only[List.length_append,List.length_cons,List.length_nil]
   rw[Il Mj]
   have key:∀(l:List Int) (o:List Nd) (js:List Int),(∀c∈l,c∈(Aa ns k).kids)→((BR (Bb ns (rFd ns) n) l o js).1.length:Int)+Dy (Ck ns n) l≤o.length+Cz ns n l:=by
    intro l
    induction l with
    |nil=>intro o js _;simp [BR,Dy,Cz]
    |cons c l ih=>
     intro o js hl
     have hm:=Ez hu (hl c (by simp))
     have h1:=ih (Bb ns (rFd ns) n c o) (js++[((Bb ns (rFd ns) n c o).length:Int)-1]) fun d hd=>hl d (by simp [hd])
     have h2:=a3l (n:=n) (k:=c) (out:=o) hm.1 (by omega)
     rw[BR,IY,KE];omega
   have:=key (Aa ns k).kids out [] fun c hc=>hc
   omega
theorem b2T{ns:List Nd}{n:Nat}(h:BB ns=true):(vis ns n ((ns.length:Int)-1)).length≤ns.length:=by
 obtain⟨h1,h2,h3,h4⟩:=Gw h
 have e:= @a1L ns n [(ns.length:Int)-1]
 have h5:=Wc h1 h2 n
 have h6:=a1G h5.1 h5.2
 have:=e.length_eq
 simp only[List.flatMap_cons,List.flatMap_nil,List.append_nil] at this
 omega
theorem b2U{ns:List Nd}(h:BB ns=true):((Dz ns).length:Int)+DM ns≤ns.length:=by
 have h4:=(Gw h).2.2.2
 have:=a3l (out:=[]) h4 (n:=De) (by unfold De;have:=(Gw h).2.2.1;omega)
 have hv:=b2T (n:=De) h
 rw[Dz,if_pos h,DM,if_pos h]
 simp only[List.length_nil] at this
 omega
theorem a3m{ns:List Nd}(h:BB ns=true)(hf:Fo ns 0 [(ns.length:Int)-1])(h0:DM ns=0):Dz ns=ns:=by
 rw[DM,if_pos h] at h0
 rw[Dz,if_pos h,a3k h0]
 exact a2C a3d hf (fun _ _ _=>rfl) (by have:=(Gw h).2.2.1;unfold De;omega)
theorem Sn{t:List UInt8}:∀l:List (Option Int),l.foldl (Gv t) none=none
 |[]=>rfl
 |_::l=>by rw[List.foldl_cons];exact Sn l
theorem a3n{ns:List Nd}{t:List UInt8}{V:Int→Be Int}{v L:Int}{m:Ms}(hm:m.code=0):∀(l:List Int) (a:Int),(∀c∈l,∀b,cV ns c=some b→∀p,V c L m=some p→p=(b,m))→(l.map (cV ns)).foldl (Gv t) (some a)=some v→∀p,Hc V t l a L m=some p→p=(v,m)
 |[],a,_,h,p,hp=>by cases h;cases hp;rfl
 |c::l,a,hV,h,p,hp=>by
  rw[List.map_cons,List.foldl_cons] at h
  cases hc:cV ns c with
  |none=>rw[hc] at h;simp only[Gv] at h;rw[Sn] at h;cases h
  |some b=>
   rw[hc] at h
   simp only[Gv] at h
   split at h
   ·rename_i hin
    rw[Hc,Cu,if_pos hm] at hp
    obtain⟨r,h1,h2⟩:=Option.bind_eq_some_iff.1 hp
    have e:=hV c (by simp) b hc r h1
    subst e
    simp only[Cu] at h2
    rw[if_pos hm] at h2
    obtain⟨s,h3,h4⟩:=Option.bind_eq_some_iff.1 h2
    rw[NQ,if_pos hin] at h3
    cases h3
    exact a3n hm l _ (fun d hd=>hV d (by simp [hd])) h p h4
   ·rw[Sn] at h;cases h
theorem So{ns:List Nd}:∀(n:Nat) {i v:Int},Cj ns i→cV ns i=some v→∀ {L:Int} {m:Ms} {p:Int×Ms},(eu ns n).val i L m=some p→p=(if m.code=0 then v else 0,m)
 |0,_,_,_,_,_,_,_,h=>by cases h
 |n+1,i,v,hu,hc,L,m,p,h=>by
  have e:(eu ns (n+1)).val i=vaU ns (eu ns n).val (eu ns n).blk i:=rfl
  rw[e,vaU,Cu] at h
  by_cases hm:m.code=0
  ·rw[if_pos hm] at h ⊢
   have hb:=BX.1 hu.1
   rw[cV,cst] at hc
   have hkk:AS ns i=(Aa ns i).kind:=rfl
   by_cases e2:(Aa ns i).kind=2
   ·rw[if_pos e2] at hc
    rw[hkk,if_pos e2] at h
    split at hc
    ·cases hc
    ·rename_i h9;rw[if_neg h9] at h
     cases hc;cases h;rfl
   rw[if_neg e2] at hc
   rw[hkk,if_neg e2] at h
   by_cases e11:(Aa ns i).kind=11
   ·rw[if_pos e11] at hc
    rw[if_neg (by omega),if_pos e11] at h
    obtain⟨c,hk⟩:=NM hu e11
    have hm2:=Ez hu (c:=c) (by rw[hk];simp)
    have hc2:cV ns c=some v:=by
     rw[←hc,hk,cV];exact LY hm2.1 (by omega) (by simp;omega)
    have hk0:Bu (Aa ns i) 0=c:=by simp [Bu,hk]
    rw[hk0] at h
    have:=So n hm2.1 hc2 h
    rw[if_pos hm] at this;exact this
   rw[if_neg e11] at hc
   by_cases e7:(Aa ns i).kind=7
   ·rw[if_pos e7] at hc
    rw[if_neg (by omega),if_neg e11,if_pos e7] at h
    unfold Ha at hc
    split at hc
    ·rename_i hop
     cases hk:(Aa ns i).kids with
     |nil=>have:=VY hu e7;rw[hk] at this;simp at this
     |cons c l=>
      have hm2:∀d∈c::l,Cj ns d∧0≤d∧d<i:=fun d hd=>Ez hu (by rw[hk];exact hd)
      have em:(Aa ns i).kids.map (cst ns i.toNat)=cV ns c::l.map (cV ns):=by
       rw[hk,←List.map_cons]
       exact List.map_congr_left fun d hd=>by
        have:=hm2 d hd
        rw[cV];exact LY this.1 (by omega) (by omega)
      rw[em,Fh] at hc
      cases ha:cV ns c with
      |none=>rw[ha,Sn] at hc;cases hc
      |some a=>
       rw[ha] at hc
       obtain⟨r,h1,h2⟩:=Option.bind_eq_some_iff.1 h
       have hk0:Bu (Aa ns i) 0=c:=by simp [Bu,hk]
       rw[hk0] at h1
       have e1:=So n (hm2 c (by simp)).1 ha h1
       rw[if_pos hm] at e1
       subst e1
       simp only[NL,Bool.or_eq_true,beq_iff_eq] at hop
       have n1:¬((Aa ns i).text=[38,38]∨(Aa ns i).text=[124,124]):=by
        rintro(x|x)<;>rw[x] at hop<;>simp at hop
       have n2:¬((Aa ns i).text=[61,61]∨(Aa ns i).text=[60]):=by
        rintro(x|x)<;>rw[x] at hop<;>simp at hop
       rw[chT,if_neg n1,if_neg n2,hk] at h2
       exact a3n hm l a (fun d hd b hb p hp=>by
        have:=So n (hm2 d (by simp [hd])).1 hb hp
        rw[if_pos hm] at this;exact this) hc p h2
    ·cases hc
   ·rw[if_neg e7] at hc;cases hc
  ·rw[if_neg hm] at h ⊢;cases h;rfl
def Rq(A:List Nd)(fo:List Int)(i j:Int):Prop:=(0≤j∧j<(A.length:Int)-1)∧oAt fo j=i
theorem a3o{A:List Nd}{fo:List Int}:∀ {l:List Int},(∀c∈l,0≤c∧c<(A.length:Int)-1)→F2 (Rq A fo) (l.map (oAt fo)) l
 |[],_=>F2.nil
 |c::l,h=>F2.cons ⟨h c (by simp),rfl⟩ (a3o fun d hd=>h d (by simp [hd]))
def stV(ns:List Nd)(R:Rw):Prop:=∀k x,Cj ns k→R.stop k=some x→∃v,(∀n L m p,(eu ns n).val k L m=some p→p=(if m.code=0 then v else 0,m))∧(¬9<x.text.length∧Cd x.text=v)
theorem b2V{ns:List Nd}{R:Rw}{A:List Nd}{fo:List Int}(hS:PO ns R)(hv:stV ns R)(hI:Im ns R A fo){i j:Int}(h:Rq A fo i j):alN ns A (Rq A fo) i j∨alF ns A i j:=by
 obtain⟨⟨h0,h1⟩,rfl⟩:=h
 have hj:=hI.2 j h0 (by omega)
 rcases hj.2 with h|⟨hst,⟨g1,g2,g3⟩,g4⟩
 ·obtain⟨s1,⟨s2,s3⟩,s4⟩:=hS _ _ h
  obtain⟨v,v1,v2⟩:=hv _ _ hj.1.1 h
  exact .inr ⟨s1,v,v1,s2,v2⟩
 ·refine .inl ⟨⟨g1.symm,g2.symm⟩,?_,(DZ (LX hj.1.1)).2.2.2.2.2.1⟩
  rw[←g4]
  exact a3o fun c hc=>by have:=hj.1.2 c hc;omega
theorem a3p{ns:List Nd}{R:Rw}{A:List Nd}{fo:List Int}(hS:PO ns R)(hI:Im ns R A fo){t:List UInt8}:∀ {l:List Int},(∀c∈l,0≤c∧c<(A.length:Int)-1)→
 (Bl ns t (l.map (oAt fo))<0∧Bl A t l<0)∨((0≤Bl ns t (l.map (oAt fo))∧0≤Bl A t l)∧Rq A fo (Bl ns t (l.map (oAt fo))) (Bl A t l))
 |[],_=> .inl ⟨by simp [Bl],by simp [Bl]⟩
 |c::l,h=>by
  have hc:=h c (by simp)
  have hj:=hI.2 c hc.1 (by omega)
  have hu:=BX.1 hj.1.1.1
  have ih:=a3p hS hI (t:=t) (l:=l) fun d hd=>h d (by simp [hd])
  rw[List.map_cons,Bl,Bl]
  by_cases e:AS A c=20∧(Aa A c).text=t
  ·have e2:AS ns (oAt fo c)=20∧(Aa ns (oAt fo c)).text=t:=by
    rcases hj.2 with h|⟨hst,⟨g1,g2,g3⟩,g4⟩
    ·have h1:=(hS _ _ h).2.1.1;have h2:(Aa A c).kind=20:=e.1;omega
    ·exact⟨by have:(Aa A c).kind=20:=e.1;rw[AS,←g1];exact this,by rw[←g2];exact e.2⟩
   rw[if_pos e,if_pos e2]
   exact .inr ⟨⟨hu.1,hc.1⟩,hc,rfl⟩
  ·have e2:¬(AS ns (oAt fo c)=20∧(Aa ns (oAt fo c)).text=t):=by
    rintro⟨k1,k2⟩
    rcases hj.2 with h|⟨hst,⟨g1,g2,g3⟩,g4⟩
    ·have:=(hS _ _ h).1;omega
    ·exact e ⟨by rw[AS,g1];exact k1,by rw[g2];exact k2⟩
   rw[if_neg e,if_neg e2];exact ih
theorem b2W{ns A:List Nd}{fo:List Int}(h:BB ns=true)(hF:Fd ns A fo):Alike ns A (Rq A fo):=by
 have hv:stV ns (rFd ns):=fun k x hu hk=>by
  obtain⟨h1,rfl⟩:=Sl hk
  obtain⟨h2,v,h3,h4,h5⟩:=PQ h1
  have hi:=Sk h4 h5
  refine⟨v,fun n L m p hp=>So n hu h3 hp,?_⟩
  rw[Sm h3]
  exact⟨by simp only;omega,hi.1.2⟩
 refine⟨fun hr=>b2V NS hv hF.im hr,fun t=> ?_⟩
 have hl:=hF.len
 have hj:=hF.im.2 ((A.length:Int)-1) (by omega) (by omega)
 rcases hj.2 with hst|⟨hst,_,g4⟩
 ·have:=(NS _ _ hst).1
  rw[hF.root,a3e h] at this;cases this
 ·have e1:(Bf ns).kids=(Bf A).kids.map (oAt fo):=by rw[hF.root] at g4;exact g4.symm
  rw[e1]
  exact a3p NS hF.im fun c hc=>by have:=hj.1.2 c hc;omega
structure Sg where
 kind:Int
 text:List UInt8
 pos:Int
 blank:Bool
def sgA:Sg→List AV:=fun s=>[.int .i64 s.kind,.str s.text,.int .i64 s.pos,.bool s.blank]
theorem Df(s:Sg):sgA s=[.int .i64 s.kind,.str s.text,.int .i64 s.pos,.bool s.blank]:=rfl
def sgs(l:List Sg):AV:= .sl false 0 4 Sg sgA l
def HH(l:List Sg):AV:= .sl true 0 4 Sg sgA l
def FG(t:List UInt8):Nat→Int→Int→Option (List Sg)
 |0,_,_=>none
 |n+1,at_,br=>match t[at_.toNat]? with
  |none=>some []
  |some c=>if c.toNat=32 then FG t n (at_+1) br
   else if c.toNat=10 then FG t n (at_+1) (br+1)
   else if(Bh (t.drop at_.toNat)).ok then(FG t n (at_+(Bh (t.drop at_.toNat)).size) 0).map (⟨(Bh (t.drop at_.toNat)).kind,(Bh (t.drop at_.toNat)).text,at_,decide (br>1)⟩:: ·)
   else none
def CT(t:List UInt8):Option (List Sg):=if 3000<t.length then none else FG t (t.length+1) 0 0
structure Ps where
 pos:Int
 deep:Int
 nodes:List Nd
abbrev PR:=Option (Int×Ps)
abbrev PL:=Option (List Int×Ps)
def ET:Sg:=⟨0,[],0,false⟩
def sgO(sg:List Sg)(i:Int):Sg:=sg.getD i.toNat ET
def isT(sg:List Sg)(s:Ps)(k:Int)(t:List UInt8):Bool:=decide ((sgO sg s.pos).kind=k)&&((sgO sg s.pos).text==t)
def isM(sg:List Sg)(s:Ps)(t:List UInt8):Bool:=isT sg s 4 t
def isW(sg:List Sg)(s:Ps)(t:List UInt8):Bool:=isT sg s 1 t
def DH(sg:List Sg)(i:Int):Bool:=decide ((sgO sg i).kind=1)&& !kw (sgO sg i).text
def adv(s:Ps):Ps:=⟨s.pos+1,s.deep,s.nodes⟩
def dp(s:Ps)(d:Int):Ps:=⟨s.pos,s.deep+d,s.nodes⟩
def BF(sg:List Sg)(t:List UInt8)(s:Ps):Option Ps:=if isM sg s t then some (adv s) else none
def Bd(x:Nd)(s:Ps):PR:=if 300≤s.nodes.length then none else some (s.nodes.length,⟨s.pos,s.deep,s.nodes++[x]⟩)
def FZ(r:PR):PR:=r.map fun p=>(p.1,adv p.2)
def FH(sg:List Sg)(k:Int)(b:Bool)(s:Ps):PR:=FZ (Bd ⟨k,(sgO sg s.pos).text,[],b⟩ s)
def BS(sg:List Sg)(s:Ps):PR:=if DH sg s.pos then FH sg 1 false s else none
def Ga(sg:List Sg)(s:Ps):Option (List UInt8×Ps):=if DH sg s.pos then some ((sgO sg s.pos).text,adv s) else none
def Bs(sg:List Sg)(m:List UInt8)(x:Nd)(s:Ps):PR:=if isM sg s m then FZ (Bd x s) else none
def Bw(sg:List Sg)(one:Ps→PR)(m:List UInt8):Nat→List Int→Ps→PL
 |0,_,_=>none
 |n+1,ks,s=>if isM sg s m then some (ks,s) else(one s).bind fun p=>if isM sg p.2 [44] then Bw sg one m n (ks++[p.1]) (adv p.2) else some (ks++[p.1],p.2)
def En(sg:List Sg):Nat→Int→Int
 |0,i=>i
 |n+1,i=>if DH sg i then(if(sgO sg (i+1)).text=[44] then En sg n (i+2) else i+1) else i
def KF(sg:List Sg)(s:Ps):Bool:=((sgO sg (En sg (sg.length+1) (s.pos+1))).text==[41])&&((sgO sg (En sg (sg.length+1) (s.pos+1)+1)).text==[61,62])
def BT(l:Nat):List (List UInt8):=match l with
 |0=>[[124,124]]
 |1=>[[38,38]]
 |2=>[[61,61]]
 |3=>[[60]]
 |4=>[[43],[45]]
 |_=>[[42]]
def JH(sg:List Sg)(l:Nat)(s:Ps):List UInt8:=((BT l).find? fun m=>isM sg s m).getD []
def Gb(sg:List Sg)(l:Nat)(one:Ps→PR):Nat→List UInt8→List Int→Ps→PR
 |0,_,_,_=>none
 |n+1,t,ks,s=>
  if t≠[]∧JH sg l s≠t then(Bd ⟨7,t,ks,false⟩ s).bind fun p=>Gb sg l one n [] [p.1] p.2
  else if JH sg l s=[] then some (ks.headD 0,s)
  else(one (adv s)).bind fun p=>Gb sg l one n (JH sg l s) (ks++[p.1]) p.2
def Dg(sg:List Sg)(val:Ps→PR)(k:Int)(s:Ps):PR:=(BF sg [40] s).bind fun s=>(Bw sg val [41] (sg.length+1) [k] s).bind fun p=>Bs sg [41] ⟨5,[],p.1,false⟩ p.2
def FI(sg:List Sg)(val:Ps→PR):Nat→Int→Ps→PR
 |0,_,_=>none
 |n+1,k,s=>
  if isM sg s [40] then(Dg sg val k s).bind fun p=>FI sg val n p.1 p.2
  else if isM sg s [46] then(if DH sg (s.pos+1) then(FZ (Bd ⟨6,(sgO sg (s.pos+1)).text,[k],false⟩ (adv s))).bind fun p=>FI sg val n p.1 p.2 else none)
  else some (k,s)
def Fm(sg:List Sg)(val:Ps→PR):Nat→List Int→Ps→PL
 |0,_,_=>none
 |n+1,ks,s=>if isM sg s [46,46] then(BS sg (adv s)).bind fun p=>(Dg sg val p.1 p.2).bind fun q=>Fm sg val n (ks++[q.1]) q.2 else some (ks,s)
inductive NT where
 |value|pick|chain (l:Nat)|fin|base
def pE(sg:List Sg):Nat→NT→Ps→PR
 |0,_,_=>none
 |n+1,.value,s=>(pE sg n .pick s).bind fun p=>if isM sg p.2 [46,46] then(Fm sg (pE sg n .value) (sg.length+1) [p.1] p.2).bind fun q=>Bd ⟨10,[],q.1,false⟩ q.2 else some p
 |n+1,.pick,s=>if 20≤s.deep then none else(pE sg n (.chain 0) (dp s 1)).bind fun p=>
   if isM sg p.2 [63] then(pE sg n .pick (adv p.2)).bind fun a=>(BF sg [58] a.2).bind fun s1=>(pE sg n .pick s1).bind fun b=>(Bd ⟨8,[],[p.1,a.1,b.1],false⟩ b.2).map fun q=>(q.1,dp q.2 (-1))
   else some (p.1,dp p.2 (-1))
 |n+1,.chain l,s=>if l=6 then pE sg n .fin s else(pE sg n (.chain (l+1)) s).bind fun p=>Gb sg l (pE sg n (.chain (l+1))) (2*sg.length+4) [] [p.1] p.2
 |n+1,.fin,s=>(pE sg n .base s).bind fun p=>FI sg (pE sg n .value) (sg.length+1) p.1 p.2
 |n+1,.base,s=>
  if(sgO sg s.pos).kind=1 then BS sg s
  else if(sgO sg s.pos).kind=2 then FH sg 2 false s
  else if(sgO sg s.pos).kind=3 then FH sg 3 false s
  else if isM sg s [91] then(Bw sg (pE sg n .value) [93] (sg.length+1) [] (adv s)).bind fun p=>Bs sg [93] ⟨4,[],p.1,false⟩ p.2
  else if isM sg s [40]&&KF sg s then(Bw sg (BS sg) [41] (sg.length+1) [] (adv s)).bind fun p=>(BF sg [41] p.2).bind fun s1=>(BF sg [61,62] s1).bind fun s2=>(pE sg n .pick s2).bind fun q=>Bd ⟨9,[],p.1++[q.1],false⟩ q.2
  else if isM sg s [40] then(pE sg n .value (adv s)).bind fun p=>Bs sg [41] ⟨11,[],[p.1],false⟩ p.2
  else none
def peN:Nat:=40000
def Cm(sg:List Sg):Ps→PR:=pE sg peN .value
def DA(sg:List Sg)(b:Bool)(s:Ps):PR:=(Ga sg s).bind fun p=>
 if isM sg p.2 [61] then(Cm sg (adv p.2)).bind fun q=>Bs sg [59] ⟨12,p.1,[q.1],b⟩ q.2 else Bs sg [59] ⟨12,p.1,[],b⟩ p.2
def DI(sg:List Sg)(s:Ps):PR:=(BF sg [40] s).bind fun s1=>(Cm sg s1).bind fun p=>(BF sg [41] p.2).map fun s2=>(p.1,s2)
def CO(sg:List Sg)(one:Bool→Ps→PR)(m:List UInt8):Nat→List Int→Ps→PL
 |0,_,_=>none
 |n+1,ks,s=>if isM sg s m then some (ks,s) else(one ((sgO sg s.pos).blank&&decide (0<ks.length)) s).bind fun p=>CO sg one m n (ks++[p.1]) p.2
def BM(sg:List Sg)(one:Bool→Ps→PR)(s:Ps):PR:=if 20≤s.deep then none else(BF sg [123] (dp s 1)).bind fun s1=>(CO sg one [125] (sg.length+1) [] s1).bind fun p=>(Bs sg [125] ⟨18,[],p.1,false⟩ p.2).map fun q=>(q.1,dp q.2 (-1))
def stR(sg:List Sg):Nat→Bool→Ps→PR
 |0,_,_=>none
 |n+1,b,s=>
  if(sgO sg s.pos).kind=5 then FH sg 19 b s
  else if isW sg s [118,97,114] then DA sg b (adv s)
  else if isW sg s [114,101,116,117,114,110] then(if isM sg (adv s) [59] then Bs sg [59] ⟨15,[],[],b⟩ (adv s) else(Cm sg (adv s)).bind fun p=>Bs sg [59] ⟨15,[],[p.1],b⟩ p.2)
  else if isW sg s [105,102] then(DI sg (adv s)).bind fun p=>(BM sg (stR sg n) p.2).bind fun q=>
   if isW sg q.2 [101,108,115,101] then(BM sg (stR sg n) (adv q.2)).bind fun r=>Bd ⟨16,[],[p.1,q.1,r.1],b⟩ r.2 else Bd ⟨16,[],[p.1,q.1],b⟩ q.2
  else if isW sg s [119,104,105,108,101] then(DI sg (adv s)).bind fun p=>(BM sg (stR sg n) p.2).bind fun q=>Bd ⟨17,[],[p.1,q.1],b⟩ q.2
  else if DH sg s.pos&&isM sg (adv s) [61] then(Cm sg (adv (adv s))).bind fun p=>Bs sg [59] ⟨13,(sgO sg s.pos).text,[p.1],b⟩ p.2
  else(Cm sg s).bind fun p=>Bs sg [59] ⟨14,[],[p.1],b⟩ p.2
def stN:Nat:=30
def FJ(sg:List Sg):Ps→PR:=BM sg (stR sg stN)
def Gy(sg:List Sg)(b:Bool)(s:Ps):PR:=(Ga sg s).bind fun p=>(BF sg [40] p.2).bind fun s1=>(Bw sg (BS sg) [41] (sg.length+1) [] s1).bind fun q=>(BF sg [41] q.2).bind fun s2=>(FJ sg s2).bind fun r=>Bd ⟨20,p.1,q.1++[r.1],b⟩ r.2
def Dk(sg:List Sg)(b:Bool)(s:Ps):PR:=
 if(sgO sg s.pos).kind=5 then FH sg 19 b s else if isW sg s [118,97,114] then DA sg b (adv s) else Gy sg b s
def Hd(sg:List Sg)(b:Bool)(s:Ps):PR:=(Ga sg s).bind fun p=>(BF sg [123] p.2).bind fun s1=>(CO sg (Dk sg) [125] (sg.length+1) [] s1).bind fun q=>Bs sg [125] ⟨21,p.1,q.1,b⟩ q.2
def Dw(sg:List Sg)(b:Bool)(s:Ps):PR:=
 if(sgO sg s.pos).kind=5 then FH sg 19 b s else if isW sg s [118,97,114] then DA sg b (adv s) else if isW sg s [99,108,97,115,115] then Hd sg b (adv s) else Gy sg b s
def JI(sg:List Sg):Nat→List Int→List (Int×Int)→Ps→Option ((List Int×List (Int×Int))×Ps)
 |0,_,_,_=>none
 |n+1,ks,ms,s=>if s.pos<sg.length then(Dw sg ((sgO sg s.pos).blank&&decide (0<ks.length)) s).bind fun p=>JI sg n (ks++[p.1]) (ms++[(s.pos,p.2.pos)]) p.2 else some ((ks,ms),s)
def ps0:Ps:=⟨0,0,[]⟩
def JJ(sg:List Sg):Option (List (Int×Int)×List Nd):=(JI sg (sg.length+1) [] [] ps0).bind fun p=>(Bd ⟨22,[],p.1.1,false⟩ p.2).bind fun q=>if BB q.2.nodes then some (p.1.2,q.2.nodes) else none
def CA(t:List UInt8):Option (List Nd):=(CT t).bind fun sg=>(JJ sg).map (·.2)
def Tn(js js2:List Int)(s s2:Ps):Prop:=∀(a:Int) (ks:List Int),Fo s.nodes a (ks++js)→Fo s2.nodes a (ks++js2)
theorem CB{j1 j2 j3:List Int}{s1 s2 s3:Ps}(h:Tn j1 j2 s1 s2)(g:Tn j2 j3 s2 s3):Tn j1 j3 s1 s3:=fun a ks hf=>g a ks (h a ks hf)
theorem HI{j1 j2:List Int}{s1 s2:Ps}(i:List Int)(h:Tn j1 j2 s1 s2):Tn (i++j1) (i++j2) s1 s2:=fun a ks hf=>by
 rw[←List.append_assoc] at hf ⊢;exact h _ _ hf
theorem NU{j:List Int}{s1 s2:Ps}(h:s2.nodes=s1.nodes):Tn j j s1 s2:=fun a ks hf=>by rw[h];exact hf
theorem CE{j1 j2:List Int}{s1 s2 s3 s4:Ps}(h:Tn j1 j2 s1 s2)(h1:s3.nodes=s1.nodes)(h2:s4.nodes=s2.nodes):Tn j1 j2 s3 s4:=fun a ks hf=>by rw[h2];rw[h1] at hf;exact h _ _ hf
def Pu(r:PR)(s:Ps):Prop:=∀ {k:Int} {s2:Ps},r=some (k,s2)→Tn [] [k] s s2
theorem HJ{x:Nd}{s s2:Ps}{k:Int}(h:Bd x s=some (k,s2)):Tn x.kids [k] s s2:=fun a ks hf=>by
 unfold Bd at h;split at h
 ·cases h
 ·cases h;exact Fo.node hf
theorem Wy{r:PR}{k:Int}{s2:Ps}(h:FZ r=some (k,s2)):∃s3,r=some (k,s3)∧s2.nodes=s3.nodes:=by
 obtain⟨p,h1,h2⟩:=Option.map_eq_some_iff.1 h
 cases h2;exact⟨p.2,h1,rfl⟩
theorem NV{sg:List Sg}{k:Int}{b:Bool}{s:Ps}:Pu (FH sg k b s) s:=fun h=>by
 obtain⟨s3,h1,h2⟩:=Wy h
 exact CE (HJ h1) rfl h2
theorem Sp{sg:List Sg}{s:Ps}:Pu (BS sg s) s:=fun h=>by
 unfold BS at h;split at h
 ·exact NV h
 ·cases h
theorem Ir{sg:List Sg}{m:List UInt8}{x:Nd}{s s2:Ps}{k:Int}(h:Bs sg m x s=some (k,s2)):Tn x.kids [k] s s2:=by
 unfold Bs at h;split at h
 ·obtain⟨s3,h1,h2⟩:=Wy h
  exact CE (HJ h1) rfl h2
 ·cases h
theorem Je{sg:List Sg}{t:List UInt8}{s s2:Ps}(h:BF sg t s=some s2):s2.nodes=s.nodes:=by
 unfold BF at h;split at h
 ·cases h;rfl
 ·cases h
theorem PS{sg:List Sg}{one:Ps→PR}{m:List UInt8}(ho:∀s,Pu (one s) s):∀ {n:Nat} {ks ks2:List Int} {s s2:Ps},Bw sg one m n ks s=some (ks2,s2)→Tn ks ks2 s s2
 |0,_,_,_,_,h=>by cases h
 |n+1,ks,ks2,s,s2,h=>by
  rw[Bw] at h;split at h
  ·cases h;exact NU rfl
  ·obtain⟨p,h1,h2⟩:=Option.bind_eq_some_iff.1 h
   have t1:Tn ks (ks++[p.1]) s p.2:=by
    have:=HI ks (ho s (k:=p.1) (s2:=p.2) h1);rwa [List.append_nil] at this
   split at h2
   ·exact CB t1 (CE (PS ho h2) rfl rfl)
   ·cases h2;exact t1
theorem Wz{sg:List Sg}{l:Nat}{one:Ps→PR}(ho:∀s,Pu (one s) s):∀ {n:Nat} {t:List UInt8} {ks:List Int} {k:Int} {s s2:Ps},(t=[]→∃j,ks=[j])→Gb sg l one n t ks s=some (k,s2)→Tn ks [k] s s2
 |0,_,_,_,_,_,_,h=>by cases h
 |n+1,t,ks,k,s,s2,ht,h=>by
  rw[Gb] at h;split at h
  ·obtain⟨p,h1,h2⟩:=Option.bind_eq_some_iff.1 h
   exact CB (HJ (k:=p.1) (s2:=p.2) h1) (Wz ho (fun _=>⟨_,rfl⟩) h2)
  ·rename_i hc
   split at h
   ·rename_i he
    have e:t=[]:=by
     rcases Classical.em (t=[]) with e|e
     ·exact e
     ·exact absurd ⟨e,by rw[he];exact fun x=>e x.symm⟩ hc
    obtain⟨j,rfl⟩:=ht e
    cases h;exact NU rfl
   ·rename_i he
    obtain⟨p,h1,h2⟩:=Option.bind_eq_some_iff.1 h
    have t1:Tn ks (ks++[p.1]) s p.2:=by
     have:=HI ks (CE (ho (adv s) (k:=p.1) (s2:=p.2) h1) (s3:=s) (s4:=p.2) rfl rfl);rwa [List.append_nil] at this
    exact CB t1 (Wz ho (fun e=>absurd e he) h2)
theorem a3q{sg:List Sg}{val:Ps→PR}(ho:∀s,Pu (val s) s){k k2:Int}{s s2:Ps}(h:Dg sg val k s=some (k2,s2)):Tn [k] [k2] s s2:=by
 obtain⟨s1,h1,h2⟩:=Option.bind_eq_some_iff.1 h
 obtain⟨p,h3,h4⟩:=Option.bind_eq_some_iff.1 h2
 exact CB (CE (PS ho (ks2:=p.1) (s2:=p.2) h3) (Je h1).symm rfl) (Ir h4)
theorem WA{sg:List Sg}{val:Ps→PR}(ho:∀s,Pu (val s) s):∀ {n:Nat} {k k2:Int} {s s2:Ps},FI sg val n k s=some (k2,s2)→Tn [k] [k2] s s2
 |0,_,_,_,_,h=>by cases h
 |n+1,k,k2,s,s2,h=>by
  rw[FI] at h;split at h
  ·obtain⟨p,h1,h2⟩:=Option.bind_eq_some_iff.1 h
   exact CB (a3q ho (k2:=p.1) (s2:=p.2) h1) (WA ho h2)
  ·split at h
   ·split at h
    ·obtain⟨p,h1,h2⟩:=Option.bind_eq_some_iff.1 h
     obtain⟨s3,h3,h4⟩:=Wy (k:=p.1) (s2:=p.2) h1
     exact CB (CE (HJ h3) rfl h4) (WA ho h2)
    ·cases h
   ·cases h;exact NU rfl
theorem a3r{sg:List Sg}{val:Ps→PR}(ho:∀s,Pu (val s) s):∀ {n:Nat} {ks ks2:List Int} {s s2:Ps},Fm sg val n ks s=some (ks2,s2)→Tn ks ks2 s s2
 |0,_,_,_,_,h=>by cases h
 |n+1,ks,ks2,s,s2,h=>by
  rw[Fm] at h;split at h
  ·obtain⟨p,h1,h2⟩:=Option.bind_eq_some_iff.1 h
   obtain⟨q,h3,h4⟩:=Option.bind_eq_some_iff.1 h2
   have t1:Tn [] [q.1] s q.2:=CB (CE (Sp (k:=p.1) (s2:=p.2) h1) rfl rfl) (a3q ho (k2:=q.1) (s2:=q.2) h3)
   have t2:=HI ks t1
   rw[List.append_nil] at t2
   exact CB t2 (a3r ho h4)
  ·cases h;exact NU rfl
theorem Gz{sg:List Sg}:∀(n:Nat) (t:NT) (s:Ps),Pu (pE sg n t s) s
 |0,_,_,k,s2,h=>by cases h
 |n+1,.value,s,k,s2,h=>by
  rw[pE] at h
  obtain⟨p,h1,h2⟩:=Option.bind_eq_some_iff.1 h
  have t1:=Gz n .pick s (k:=p.1) (s2:=p.2) h1
  split at h2
  ·obtain⟨q,h3,h4⟩:=Option.bind_eq_some_iff.1 h2
   exact CB t1 (CB (a3r (Gz n .value) (ks2:=q.1) (s2:=q.2) h3) (HJ h4))
  ·cases h2;exact t1
 |n+1,.pick,s,k,s2,h=>by
  rw[pE] at h
  split at h
  ·cases h
  ·obtain⟨p,h1,h2⟩:=Option.bind_eq_some_iff.1 h
   have t1:Tn [] [p.1] s p.2:=CE (Gz n (.chain 0) _ (k:=p.1) (s2:=p.2) h1) rfl rfl
   split at h2
   ·obtain⟨a,h3,h4⟩:=Option.bind_eq_some_iff.1 h2
    obtain⟨s1,h5,h6⟩:=Option.bind_eq_some_iff.1 h4
    obtain⟨b,h7,h8⟩:=Option.bind_eq_some_iff.1 h6
    obtain⟨q,h9,h10⟩:=Option.map_eq_some_iff.1 h8
    have t2:Tn [p.1] [p.1,a.1] p.2 a.2:=CE (HI [p.1] (Gz n .pick _ (k:=a.1) (s2:=a.2) h3)) rfl rfl
    have t3:Tn [p.1,a.1] [p.1,a.1,b.1] a.2 b.2:=CE (HI [p.1,a.1] (Gz n .pick _ (k:=b.1) (s2:=b.2) h7)) (Je h5).symm rfl
    cases h10
    exact CB t1 (CB t2 (CB t3 (CE (HJ (k:=q.1) (s2:=q.2) h9) rfl rfl)))
   ·cases h2;exact CE t1 rfl rfl
 |n+1,.chain l,s,k,s2,h=>by
  rw[pE] at h
  split at h
  ·exact Gz n .fin s h
  ·obtain⟨p,h1,h2⟩:=Option.bind_eq_some_iff.1 h
   exact CB (Gz n _ s (k:=p.1) (s2:=p.2) h1) (Wz (Gz n _) (fun _=>⟨_,rfl⟩) h2)
 |n+1,.fin,s,k,s2,h=>by
  rw[pE] at h
  obtain⟨p,h1,h2⟩:=Option.bind_eq_some_iff.1 h
  exact CB (Gz n .base s (k:=p.1) (s2:=p.2) h1) (WA (Gz n .value) h2)
 |n+1,.base,s,k,s2,h=>by
  rw[pE] at h
  split at h
  ·exact Sp h
  split at h
  ·exact NV h
  split at h
  ·exact NV h
  split at h
  ·obtain⟨p,h1,h2⟩:=Option.bind_eq_some_iff.1 h
   exact CB (CE (PS (Gz n .value) (ks2:=p.1) (s2:=p.2) h1) rfl rfl) (Ir h2)
  split at h
  ·obtain⟨p,h1,h2⟩:=Option.bind_eq_some_iff.1 h
   obtain⟨s3,h3,h4⟩:=Option.bind_eq_some_iff.1 h2
   obtain⟨s4,h5,h6⟩:=Option.bind_eq_some_iff.1 h4
   obtain⟨q,h7,h8⟩:=Option.bind_eq_some_iff.1 h6
   have t1:Tn [] p.1 s p.2:=CE (PS (fun s=>Sp) (ks2:=p.1) (s2:=p.2) h1) rfl rfl
   have t2:Tn p.1 (p.1++[q.1]) p.2 q.2:=by
    have:=CE (HI p.1 (Gz n .pick _ (k:=q.1) (s2:=q.2) h7)) (s3:=p.2) (s4:=q.2) (by rw[Je h5,Je h3]) rfl
    rwa [List.append_nil] at this
   exact CB t1 (CB t2 (HJ h8))
  split at h
  ·obtain⟨p,h1,h2⟩:=Option.bind_eq_some_iff.1 h
   exact CB (CE (Gz n .value _ (k:=p.1) (s2:=p.2) h1) rfl rfl) (Ir h2)
  ·cases h
theorem PT{sg:List Sg}(s:Ps):Pu (Cm sg s) s:=Gz _ _ _
theorem WB{sg:List Sg}{s s2:Ps}{t:List UInt8}(h:Ga sg s=some (t,s2)):s2.nodes=s.nodes:=by
 unfold Ga at h;split at h
 ·cases h;rfl
 ·cases h
theorem WC{sg:List Sg}{b:Bool}(s:Ps):Pu (DA sg b s) s:=fun h=>by
 obtain⟨p,h1,h2⟩:=Option.bind_eq_some_iff.1 h
 have e:=WB (t:=p.1) (s2:=p.2) h1
 split at h2
 ·obtain⟨q,h3,h4⟩:=Option.bind_eq_some_iff.1 h2
  exact CB (CE (PT _ (k:=q.1) (s2:=q.2) h3) e.symm rfl) (Ir h4)
 ·exact CE (Ir h2) e.symm rfl
theorem a3s{sg:List Sg}(s:Ps):Pu (DI sg s) s:=fun h=>by
 obtain⟨s1,h1,h2⟩:=Option.bind_eq_some_iff.1 h
 obtain⟨p,h3,h4⟩:=Option.bind_eq_some_iff.1 h2
 obtain⟨s3,h5,h6⟩:=Option.map_eq_some_iff.1 h4
 cases h6
 exact CE (PT _ (k:=p.1) (s2:=p.2) h3) (Je h1).symm (Je h5)
theorem WD{sg:List Sg}{one:Bool→Ps→PR}{m:List UInt8}(ho:∀b s,Pu (one b s) s):∀ {n:Nat} {ks ks2:List Int} {s s2:Ps},CO sg one m n ks s=some (ks2,s2)→Tn ks ks2 s s2
 |0,_,_,_,_,h=>by cases h
 |n+1,ks,ks2,s,s2,h=>by
  rw[CO] at h;split at h
  ·cases h;exact NU rfl
  ·obtain⟨p,h1,h2⟩:=Option.bind_eq_some_iff.1 h
   have t1:Tn ks (ks++[p.1]) s p.2:=by
    have:=HI ks (ho _ s (k:=p.1) (s2:=p.2) h1);rwa [List.append_nil] at this
   exact CB t1 (WD ho h2)
theorem Sq{sg:List Sg}{one:Bool→Ps→PR}(ho:∀b s,Pu (one b s) s)(s:Ps):Pu (BM sg one s) s:=fun h=>by
 unfold BM at h
 split at h
 ·cases h
 ·obtain⟨s1,h1,h2⟩:=Option.bind_eq_some_iff.1 h
  obtain⟨p,h3,h4⟩:=Option.bind_eq_some_iff.1 h2
  obtain⟨q,h5,h6⟩:=Option.map_eq_some_iff.1 h4
  cases h6
  exact CB (CE (WD ho (ks2:=p.1) (s2:=p.2) h3) (Je h1).symm rfl) (CE (Ir (k:=q.1) (s2:=q.2) h5) rfl rfl)
theorem Sr{sg:List Sg}:∀(n:Nat) (b:Bool) (s:Ps),Pu (stR sg n b s) s
 |0,_,_,k,s2,h=>by cases h
 |n+1,b,s,k,s2,h=>by
  rw[stR] at h
  split at h
  ·exact NV h
  split at h
  ·exact CE (WC _ h) rfl rfl
  split at h
  ·split at h
   ·exact CE (Ir h) rfl rfl
   ·obtain⟨p,h1,h2⟩:=Option.bind_eq_some_iff.1 h
    exact CB (CE (PT _ (k:=p.1) (s2:=p.2) h1) rfl rfl) (Ir h2)
  split at h
  ·obtain⟨p,h1,h2⟩:=Option.bind_eq_some_iff.1 h
   obtain⟨q,h3,h4⟩:=Option.bind_eq_some_iff.1 h2
   have t1:Tn [] [p.1] s p.2:=CE (a3s _ (k:=p.1) (s2:=p.2) h1) rfl rfl
   have t2:Tn [p.1] [p.1,q.1] p.2 q.2:=HI [p.1] (Sq (Sr n) _ (k:=q.1) (s2:=q.2) h3)
   split at h4
   ·obtain⟨r,h5,h6⟩:=Option.bind_eq_some_iff.1 h4
    have t3:Tn [p.1,q.1] [p.1,q.1,r.1] q.2 r.2:=CE (HI [p.1,q.1] (Sq (Sr n) _ (k:=r.1) (s2:=r.2) h5)) rfl rfl
    exact CB t1 (CB t2 (CB t3 (HJ h6)))
   ·exact CB t1 (CB t2 (HJ h4))
  split at h
  ·obtain⟨p,h1,h2⟩:=Option.bind_eq_some_iff.1 h
   obtain⟨q,h3,h4⟩:=Option.bind_eq_some_iff.1 h2
   have t1:Tn [] [p.1] s p.2:=CE (a3s _ (k:=p.1) (s2:=p.2) h1) rfl rfl
   have t2:Tn [p.1] [p.1,q.1] p.2 q.2:=HI [p.1] (Sq (Sr n) _ (k:=q.1) (s2:=q.2) h3)
   exact CB t1 (CB t2 (HJ h4))
  split at h
  ·obtain⟨p,h1,h2⟩:=Option.bind_eq_some_iff.1 h
   exact CB (CE (PT _ (k:=p.1) (s2:=p.2) h1) rfl rfl) (Ir h2)
  ·obtain⟨p,h1,h2⟩:=Option.bind_eq_some_iff.1 h
   exact CB (PT _ (k:=p.1) (s2:=p.2) h1) (Ir h2)
theorem a3t{sg:List Sg}{b:Bool}(s:Ps):Pu (Gy sg b s) s:=fun h=>by
 obtain⟨p,h1,h2⟩:=Option.bind_eq_some_iff.1 h
 obtain⟨s1,h3,h4⟩:=Option.bind_eq_some_iff.1 h2
 obtain⟨q,h5,h6⟩:=Option.bind_eq_some_iff.1 h4
 obtain⟨s3,h7,h8⟩:=Option.bind_eq_some_iff.1 h6
 obtain⟨r,h9,h10⟩:=Option.bind_eq_some_iff.1 h8
 have e:=WB (t:=p.1) (s2:=p.2) h1
 have t1:Tn [] q.1 s q.2:=CE (PS (fun s=>Sp) (ks2:=q.1) (s2:=q.2) h5) (by rw[Je h3,e]) rfl
 have t2:Tn q.1 (q.1++[r.1]) q.2 r.2:=by
  have:=CE (HI q.1 (Sq (Sr stN) _ (k:=r.1) (s2:=r.2) h9)) (s3:=q.2) (s4:=r.2) (Je h7).symm rfl
  rwa [List.append_nil] at this
 exact CB t1 (CB t2 (HJ h10))
theorem b2X{sg:List Sg}(b:Bool)(s:Ps):Pu (Dk sg b s) s:=fun h=>by
 unfold Dk at h
 split at h
 ·exact NV h
 split at h
 ·exact CE (WC _ h) rfl rfl
 ·exact a3t _ h
theorem b2Y{sg:List Sg}{b:Bool}(s:Ps):Pu (Hd sg b s) s:=fun h=>by
 obtain⟨p,h1,h2⟩:=Option.bind_eq_some_iff.1 h
 obtain⟨s1,h3,h4⟩:=Option.bind_eq_some_iff.1 h2
 obtain⟨q,h5,h6⟩:=Option.bind_eq_some_iff.1 h4
 exact CB (CE (WD b2X (ks2:=q.1) (s2:=q.2) h5) (by rw[Je h3,WB (t:=p.1) (s2:=p.2) h1]) rfl) (Ir h6)
theorem b2Z{sg:List Sg}(b:Bool)(s:Ps):Pu (Dw sg b s) s:=fun h=>by
 unfold Dw at h
 split at h
 ·exact NV h
 split at h
 ·exact CE (WC _ h) rfl rfl
 split at h
 ·exact CE (b2Y _ h) rfl rfl
 ·exact a3t _ h
theorem a3u{sg:List Sg}:∀ {n:Nat} {ks ks2:List Int} {ms ms2:List (Int×Int)} {s s2:Ps},JI sg n ks ms s=some ((ks2,ms2),s2)→Tn ks ks2 s s2
 |0,_,_,_,_,_,_,h=>by cases h
 |n+1,ks,ks2,ms,ms2,s,s2,h=>by
  rw[JI] at h;split at h
  ·obtain⟨p,h1,h2⟩:=Option.bind_eq_some_iff.1 h
   have t1:Tn ks (ks++[p.1]) s p.2:=by
    have:=HI ks (b2Z _ s (k:=p.1) (s2:=p.2) h1);rwa [List.append_nil] at this
   exact CB t1 (a3u h2)
  ·cases h;exact NU rfl
theorem a3v{t:List UInt8}{L:List Nd}(h:CA t=some L):Fo L 0 [(L.length:Int)-1]:=by
 unfold CA at h
 obtain⟨sg,h1,h2⟩:=Option.bind_eq_some_iff.1 h
 rw[Option.map_eq_some_iff] at h2
 obtain⟨⟨ms,L'⟩,h3,h4⟩:=h2
 simp only at h4;subst h4
 unfold JJ at h3
 obtain⟨⟨⟨ks,ms2⟩,s⟩,h5,h6⟩:=Option.bind_eq_some_iff.1 h3
 obtain⟨⟨k,s2⟩,h7,h8⟩:=Option.bind_eq_some_iff.1 h6
 simp only at h7 h8
 split at h8
 ·simp only[Option.some.injEq,Prod.mk.injEq] at h8
  rw[←h8.2]
  have f0:Fo ps0.nodes 0 ([]++[]):=Fo.nil []
  have f1:=HJ h7 _ _ (a3u h5 _ _ f0)
  have e:k=(s2.nodes.length:Int)-1:=by
   unfold Bd at h7;split at h7
   ·cases h7
   ·cases h7;simp
  rw[←e];exact f1
 ·cases h8
end Go.My
end
section
namespace Go.My
open Go.Eng Go.Proofs
variable {G:GInv}
def Ai(p:List UInt8×Int):List AV:=[.str p.1,.int .i64 p.2]
def cls(l:Cls):AV:= .sl false 0 2 (List UInt8×Int) Ai l
def KG(l:Cls):AV:= .sl true 0 2 (List UInt8×Int) Ai l
theorem a3w{a:List UInt8}{b:Int}{q:List UInt8×Int→Prop}(h:q (a,b)):∃x:List UInt8×Int,a=x.1∧b=x.2∧q x:=⟨(a,b),rfl,rfl,h⟩
def Jf(l:Cls)(t:List UInt8)(i:Int):Prop:=(0≤i∧i≤l.length)∧Cy l t=Cy (l.drop i.toNat) t
def nOf:Option Int→Int
 |some n=>n
 |none=>0
theorem b3a{α:Type}{l:List α}{i:Int}{e:α}(h:l[i.toNat]? =some e):l.drop i.toNat=e::l.drop (i.toNat+1):=by
 obtain⟨hi,he⟩:=List.getElem?_eq_some_iff.1 h
 rw[List.drop_eq_getElem_cons hi,he]
theorem GA{α:Type}{l:List α}{i:Int}{e:α}(h0:0≤i)(h:l[i.toNat]? =some e):l.drop i.toNat=e::l.drop (i+1).toNat:=by
 rw[b3a h,show(i+1).toNat=i.toNat+1 by omega]
theorem b3b{l:Cls}{t:List UInt8}:Jf l t 0:=⟨by omega,rfl⟩
theorem b3c{l:Cls}{t:List UInt8}{i:Int}(h:Jf l t i):0≤i∧i≤l.length:=h.1
theorem a3x{l:Cls}{t:List UInt8}{i:Int}{e:List UInt8×Int}(h:Jf l t i)(he:l[i.toNat]? =some e)(hq:e.1=t):Cy l t=some e.2:=by
 rw[h.2,GA h.1.1 he,Cy,if_pos hq]
theorem b3d{l:Cls}{t:List UInt8}{i:Int}{e:List UInt8×Int}(h:Jf l t i)(he:l[i.toNat]? =some e)(hq:¬e.1=t):Jf l t (i+1):=by
 have hl:=(List.getElem?_eq_some_iff.1 he).1
 exact⟨by have:=h.1;omega,by rw[h.2,GA h.1.1 he,Cy,if_neg hq]⟩
theorem a3y{l:Cls}{t:List UInt8}{i:Int}(h:Jf l t i)(hl:¬i<(l.length:Int)):Cy l t=none:=by
 rw[h.2,List.drop_eq_nil_of_le (by omega)];rfl
attribute [local irreducible] Jf
def Mk:Sig:= {X:=Cls,args:=fun x=>[cls x],pre:=fun x=>x.length≤2^30,Y:=Unit,post:=fun x y=>True,res:=fun x y=>KG x,outs:=fun x y=>[.top],keep:=false}
theorem b3e:Al G Tryz.prog 52 Mk:=
 vcFun_okP [] [(42,⟨List UInt8×Int,Ai⟩)] false (fun x=>[]) Tryz.func52 rfl (by decide) trivial (fun(x:Cls)=>(∀(y:Unit),True→(∀(x:List UInt8×Int),True∧True∧True)∧True∧True)∧∀(b:Bool),(b=true→x=[])→Ab b (rA Mk x [.nil,.top]) (∃(zs:List (List UInt8×Int)),AV.sl false 0 2 (List UInt8×Int) Ai x=AV.sl false 0 2 (List UInt8×Int) Ai zs∧Br Ai∧Ba ((0:Nat)+List.length zs) (24:Nat)∧rA Mk x [AV.sl true 0 2 (List UInt8×Int) Ai ([]++zs),.top])) (fun x=>by kernel_rfl) fun(x:Cls) (hx:x.length≤2^30)=>(by
 dsimp only[Ai,cls,KG,rA,Mk,Aw,Az]
 have hx:x.length≤2^30:=hx
 (repeat' first|(with_reducible first|rfl|exact True.intro|apply AK|apply And.intro|((first|apply AA|apply AI|apply AB|apply AJ)<;>intro _))|(apply Ax<;>intro _)|apply AH|refine Af () ?_ ?_|((first|apply AO|apply AN|apply AM|apply AL|apply AG|apply AF|apply AE|apply AD|apply AC)<;>try dsimp only)|apply Af|(refine Prod.forall.2 ?_;intro _;try dsimp only)|(intro _;try dsimp only))
 all_goals first
  |rfl
  |(rename_i h0 hb;rw[h0 hb];done)
  |((try simp only[Ba,List.length_nil]);omega)
  |skip)
def cpI(l:Cls)(t:List UInt8)(n i:Int):Prop:=((0≤i∧i≤l.length)∧l.length≤2^30)∧Cs l t n=l.take i.toNat++Cs (l.drop i.toNat) t n
theorem a3z{l:Cls}{t:List UInt8}{n:Int}(h:l.length≤2^30):cpI l t n 0:=⟨⟨by omega,h⟩,by simp⟩
theorem a3A{l:Cls}{t:List UInt8}{n i:Int}(h:cpI l t n i):(0≤i∧i≤l.length)∧l.length≤2^30:=h.1
theorem a3B{l:Cls}{t:List UInt8}{n i:Int}{e:List UInt8×Int}(h:cpI l t n i)(he:l[i.toNat]? =some e)(hq:¬e.1=t):cpI l t n (i+1):=by
 have hl:=(List.getElem?_eq_some_iff.1 he).1
 refine⟨⟨by have:=h.1;omega,h.1.2⟩,?_⟩
 rw[h.2,GA h.1.1.1 he,Cs,if_neg hq,Da h.1.1.1,EM he];simp
theorem a3C{l:Cls}{t:List UInt8}{n i:Int}{e z:List UInt8×Int}(h:cpI l t n i)(he:l[i.toNat]? =some e)(hq:e.1=t)(hz:z=(e.1,n)):l.set i.toNat z=Cs l t n:=by
 have hl:=(List.getElem?_eq_some_iff.1 he).1
 rw[h.2,GA h.1.1.1 he,Cs,if_pos hq,List.set_eq_take_append_cons_drop,if_pos hl,hz,Da h.1.1.1]
theorem a3D{l:Cls}{t:List UInt8}{n i:Int}(h:cpI l t n i)(hl:¬i<(l.length:Int)):l++[(t,n)]=Cs l t n:=by
 rw[h.2,List.drop_eq_nil_of_le (by omega),List.take_of_length_le (by omega)];rfl
attribute [local irreducible] cpI
def Ss:Sig:= {X:=Cls×List UInt8×Int,args:=fun x=>[cls x.1,.str x.2.1,.int .i64 x.2.2],pre:=fun x=>x.1.length≤2^30,Y:=Unit,post:=fun x y=>True,res:=fun x y=>cls (Cs x.1 x.2.1 x.2.2),outs:=fun x y=>[.top,.top,.top],keep:=true}
def b3f(x:Cls×List UInt8×Int):LS:= {ι:=Int,inv:=fun i=>cpI x.1 x.2.1 x.2.2 i,regs:=fun i=>[(1,.str x.2.1),(2,.int .i64 x.2.2),(7,KG x.1),(13,.int .i64 x.1.length),(14,.int .i64 i)],als:=[(12,7)],meas:=fun i=>x.1.length-i.toNat}
theorem cPut_ok:Al G Tryz.prog 22 Ss:=
 vcFun_okP [(52,0,Mk)] [(42,⟨List UInt8×Int,Ai⟩)] false (fun x=>[(3,b3f x)]) Tryz.func22 rfl (by decide) ⟨b3e,trivial⟩ (fun(x:Cls×List UInt8×Int)=>True∧cA Mk [AV.sl false 0 2 (List UInt8×Int) Ai x.1] fun x_1 y=>(∃(i:Int),cpI x.1 x.2.1 x.2.2 i∧(x.2.1=x.2.1∧x.2.2=x.2.2∧AV.sl true 0 2 (List UInt8×Int) Ai x_1=AV.sl true 0 2 (List UInt8×Int) Ai x.1∧(↑(List.length x_1):Int)=(↑(List.length x.1):Int)∧(0:Int)=i∧True)∧True∧True)∧∀(i:Int),cpI x.1 x.2.1 x.2.2 i→Ab (decide (i<(↑(List.length x.1):Int))) (((0:Int)≤i∧i<(↑(List.length x.1):Int))∧Int.toNat i<List.length x.1∧∀(x_2:List UInt8×Int),x.1[Int.toNat i]? =some x_2→Ab (x_2.1==x.2.1) (((0:Int)≤i∧i<(↑(List.length x.1):Int))∧Int.toNat i<List.length x.1∧∀(x_3:List UInt8×Int),x.1[Int.toNat i]? =some x_3→∃(x':List UInt8×Int),([AV.str x'.1]=[.str x_3.1]∧(@List.nil AV)=[])∧x.2.2=x'.2∧rA Ss x [AV.sl true 0 2 (List UInt8×Int) Ai (List.set x.1 (Int.toNat i) x'),.top,.top,.top]) (inR IntKind.i64 (i+(1:Int))∧∃(i':Int),cpI x.1 x.2.1 x.2.2 i'∧List.length x.1-Int.toNat i'<List.length x.1-Int.toNat i∧(x.2.1=x.2.1∧x.2.2=x.2.2∧AV.sl true 0 2 (List UInt8×Int) Ai x.1=AV.sl true 0 2 (List UInt8×Int) Ai x.1∧(↑(List.length x.1):Int)=(↑(List.length x.1):Int)∧i+(1:Int)=i'∧True)∧True∧True)) (∃(x_2:List UInt8×Int),x.2.1=x_2.1∧x.2.2=x_2.2∧∃(zs:List (List UInt8×Int)),AV.sl true 0 2 (List UInt8×Int) Ai [x_2]=AV.sl true 0 2 (List UInt8×Int) Ai zs∧Br Ai∧Ba (List.length x.1+List.length zs) (24:Nat)∧rA Ss x [AV.sl true 0 2 (List UInt8×Int) Ai (x.1++zs),.top,.top,.top])) (fun x=>by kernel_rfl) fun(x:Cls×List UInt8×Int) (hx:x.1.length≤2^30)=>(by
 dsimp only[cA,Ai,cls,KG,rA,Ss,Mk,Aw,Az,mvL,lnL,mvE,lnE]
 obtain⟨l,t,n⟩:=x;dsimp only at hx ⊢
 have hx:l.length≤2^30:=hx
 (repeat' first|refine a3w ?_|(with_reducible first|rfl|exact True.intro|apply AK|apply And.intro|((first|apply AA|apply AI|apply AB|apply AJ)<;>intro _))|(apply Ax<;>intro _)|apply AH|refine Af () ?_ ?_|((first|apply AO|apply AN|apply AM|apply AL|apply AG|apply AF|apply AE|apply AD|apply AC)<;>try dsimp only)|apply Af|(refine Prod.forall.2 ?_;intro _;try dsimp only)|(intro _;try dsimp only))
 all_goals(try(have hB:=a3A (show cpI _ _ _ _ by assumption)))
 all_goals(try(repeat(rename(_:List (List UInt8×Int))[_]? =some _=>hq;revert hq;rename(_:List (List UInt8×Int))[_]? =some _=>hr;intro hq;rw[hr] at hq;cases hq)))
 all_goals first
  |rfl
  |exact hx
  |exact a3C ‹_› ‹_› ‹_› rfl
  |exact a3z hx
  |exact a3B ‹_› ‹_› ‹_›
  |exact a3D ‹_› ‹_›
  |((try simp only[AQ,Ba,List.length_append,List.length_cons,List.length_nil]);omega)
  |skip)
def DU:Sig:= {X:=Cls×List UInt8×Int,args:=fun x=>[cls x.1,.str x.2.1,.int .i64 x.2.2],pre:=fun x=>x.1.length≤2^30,Y:=Unit,post:=fun x y=>True,res:=fun x y=>cls (Cs x.1 x.2.1 x.2.2),outs:=fun x y=>[.top,.top,.top],keep:=true}
def Su(x:Cls×List UInt8×Int):LS:= {ι:=Int,inv:=fun i=>cpI x.1 x.2.1 x.2.2 i,regs:=fun i=>[(1,.str x.2.1),(2,.int .i64 x.2.2),(7,KG x.1),(8,.int .i64 i)],als:=[],meas:=fun i=>x.1.length-i.toNat}
theorem a3E:Al G Tryz.prog 26 DU:=
 vcFun_okP [] [(42,⟨List UInt8×Int,Ai⟩)] false (fun x=>[(3,Su x)]) Tryz.func26 rfl (by decide) trivial (fun(x:Cls×List UInt8×Int)=>True∧∃(zs:List (List UInt8×Int)),AV.sl false 0 2 (List UInt8×Int) Ai x.1=AV.sl false 0 2 (List UInt8×Int) Ai zs∧Br Ai∧Ba ((0:Nat)+List.length zs) (24:Nat)∧eA (Su x) [.str x.2.1,.int .i64 x.2.2,AV.sl true 0 2 (List UInt8×Int) Ai ([]++zs),.int .i64 (0:Int)]∧∀(i:Int),cpI x.1 x.2.1 x.2.2 i→Ab (decide (i<(↑(List.length x.1):Int))) (((0:Int)≤i∧i<(↑(List.length x.1):Int))∧Int.toNat i<List.length x.1∧∀(x_1:List UInt8×Int),x.1[Int.toNat i]? =some x_1→Ab (x_1.1==x.2.1) (((0:Int)≤i∧i<(↑(List.length x.1):Int))∧Int.toNat i<List.length x.1∧∀(x_2:List UInt8×Int),x.1[Int.toNat i]? =some x_2→∃(x':List UInt8×Int),([AV.str x'.1]=[.str x_2.1]∧(@List.nil AV)=[])∧x.2.2=x'.2∧rA DU x [AV.sl true 0 2 (List UInt8×Int) Ai (List.set x.1 (Int.toNat i) x'),.top,.top,.top]) (inR IntKind.i64 (i+(1:Int))∧eN (Su x) i [.str x.2.1,.int .i64 x.2.2,AV.sl true 0 2 (List UInt8×Int) Ai x.1,.int .i64 (i+(1:Int))])) (∃(x_1:List UInt8×Int),x.2.1=x_1.1∧x.2.2=x_1.2∧∃(zs:List (List UInt8×Int)),AV.sl true 0 2 (List UInt8×Int) Ai [x_1]=AV.sl true 0 2 (List UInt8×Int) Ai zs∧Br Ai∧Ba (List.length x.1+List.length zs) (24:Nat)∧rA DU x [AV.sl true 0 2 (List UInt8×Int) Ai (x.1++zs),.top,.top,.top])) (fun x=>by kernel_rfl) fun(x:Cls×List UInt8×Int) (hx:x.1.length≤2^30)=>(by
 dsimp only[Ai,cls,eA,eN,Su,KG,rA,DU,Aw,Az,Bv]
 obtain⟨l,t,n⟩:=x;dsimp only at hx ⊢
 have hx:l.length≤2^30:=hx
 (repeat' first|refine a3w ?_|(with_reducible first|rfl|exact True.intro|apply AK|apply And.intro|((first|apply AA|apply AI|apply AB|apply AJ)<;>intro _))|(apply Ax<;>intro _)|apply AH|refine Af () ?_ ?_|((first|apply AO|apply AN|apply AM|apply AL|apply AG|apply AF|apply AE|apply AD|apply AC)<;>try dsimp only)|apply Af|(refine Prod.forall.2 ?_;intro _;try dsimp only)|(intro _;try dsimp only))
 all_goals(try(have hB:=a3A (show cpI _ _ _ _ by assumption)))
 all_goals(try(repeat(rename(_:List (List UInt8×Int))[_]? =some _=>hq;revert hq;rename(_:List (List UInt8×Int))[_]? =some _=>hr;intro hq;rw[hr] at hq;cases hq)))
 all_goals first
  |rfl
  |exact hx
  |exact a3C ‹_› ‹_› ‹_› rfl
  |exact a3z hx
  |exact a3B ‹_› ‹_› ‹_›
  |exact a3D ‹_› ‹_›
  |((try simp only[AQ,Ba,List.length_append,List.length_cons,List.length_nil]);omega)
  |skip)
def mtI(ns:List Nd)(t:List UInt8)(i:Int):Prop:=(0≤i∧i≤(Bf ns).kids.length)∧(Bf ns).kids.length≤12∧Bl ns t (Bf ns).kids=Bl ns t ((Bf ns).kids.drop i.toNat)
theorem b3g{ns:List Nd}(h:tOk ns):(Bf ns).kids.length≤12:=(HG h (k:=(ns.length:Int)-1) (by have:=h.2;omega)).1
theorem b3h{ns:List Nd}{t:List UInt8}(h:tOk ns):mtI ns t 0:=⟨by omega,b3g h,rfl⟩
theorem b3i{ns:List Nd}{t:List UInt8}{i:Int}(h:mtI ns t i):(0≤i∧i≤(Bf ns).kids.length)∧(Bf ns).kids.length≤12:=⟨h.1,h.2.1⟩
theorem WE{ns:List Nd}{i c:Int}(h:tOk ns)(hc:(Bf ns).kids[i.toNat]? =some c):0≤c∧c<ns.length:=(a1U h (BJ hc)).1
theorem a3F{ns:List Nd}{t:List UInt8}{i c:Int}{e:Nd}(h:mtI ns t i)(hc:(Bf ns).kids[i.toNat]? =some c)(he:ns[c.toNat]? =some e)(hk:e.kind=20)(ht:e.text=t):Bl ns t (Bf ns).kids=c:=by
 rw[h.2.2,GA h.1.1 hc,Bl,if_pos ⟨by rw[AS,Bo he];exact hk,by rw[Bo he];exact ht⟩]
theorem a3G{ns:List Nd}{t:List UInt8}{i c:Int}{e:Nd}(h:mtI ns t i)(hc:(Bf ns).kids[i.toNat]? =some c)(he:ns[c.toNat]? =some e)(hn:¬(e.kind=20∧e.text=t)):mtI ns t (i+1):=by
 have hl:=(List.getElem?_eq_some_iff.1 hc).1
 exact⟨by have:=h.1;omega,h.2.1,by rw[h.2.2,GA h.1.1 hc,Bl,if_neg (by rw[AS,Bo he];exact hn)]⟩
theorem b3j{ns:List Nd}{t:List UInt8}{i:Int}(h:mtI ns t i)(hl:¬i<((Bf ns).kids.length:Int)):Bl ns t (Bf ns).kids= -1:=by
 rw[h.2.2,List.drop_eq_nil_of_le (by omega)];rfl
attribute [local irreducible] mtI Bl
end Go.My
end
section
namespace Go.My
open Go.Eng Go.Proofs
variable {G:GInv}
def mcA(s:ZS)(m:Mc):AV:= .box 0 [nds s.ns,.int .i64 s.L,Ad m.out,.int .i64 0,.int .i64 m.code,.int .i64 m.steps,.int .i64 m.deep]
def frA(f:Fr):AV:= .box 0 [cls f.cells,.bool f.ended,.int .i64 f.ret]
abbrev zh {α:Type} (x:ZS×List Int×Int×Int×Int×α):Mc:=⟨x.2.1,x.2.2.1,x.2.2.2.1,x.2.2.2.2.1⟩
abbrev yM (y:List Int×Int×Int×Int):Mc:=⟨y.1,y.2.1,y.2.2.1,y.2.2.2⟩
abbrev yV {α:Type} (y:α×List Int×Int×Int×Int):α×Mc:=(y.1,⟨y.2.1,y.2.2.1,y.2.2.2.1,y.2.2.2.2⟩)
def HK(n:Int):Int:=if inn n (-1000000000) 1000000000 then n else 0
end Go.My
end
section
namespace Go.My
open Go.Eng
structure Gs where
 pos:Int
 deep:Int
 bad:Bool
 nodes:List Nd
def Dl(x:Nd):Prop:=x.text.length≤3000∧x.kids.length≤4000
def sgB(sg:List Sg):Prop:=sg.length≤3000∧∀e∈sg,e.text.length≤3000
def gsOk(sg:List Sg)(g:Gs):Prop:=(0≤g.pos∧g.pos≤sg.length)∧(0≤g.deep∧g.deep≤21)∧g.nodes.length≤300∧∀x∈g.nodes,Dl x
def pur(g:Gs):Option Ps:=if g.bad then none else some ⟨g.pos,g.deep,g.nodes⟩
theorem Ec{g:Gs}(h:g.bad=true):pur g=none:=by simp [pur,h]
theorem Dm{g:Gs}(h:g.bad=false):pur g=some ⟨g.pos,g.deep,g.nodes⟩:=by simp [pur,h]
theorem a3H{g:Gs}:pur g=none↔g.bad=true:=by
 cases h:g.bad<;>simp [pur,h]
theorem EU{g:Gs}{s:Ps}:pur g=some s↔g.bad=false∧s=⟨g.pos,g.deep,g.nodes⟩:=by
 cases h:g.bad<;>simp [pur,h,eq_comm]
def WF(sg:List Sg)(x:Gs)(f:Ps→Option Ps)(y:Gs):Prop:=gsOk sg y∧y.deep=x.deep∧x.pos≤y.pos∧pur y=(pur x).bind f
def BG{α:Type}(sg:List Sg)(x:Gs)(f:Ps→Option (α×Ps))(y:α×Gs):Prop:=
 gsOk sg y.2∧y.2.deep=x.deep∧x.pos≤y.2.pos∧pur y.2=((pur x).bind f).map (·.2)∧∀p,(pur x).bind f=some p→y.1=p.1
def Ah{α:Type}(sg:List Sg)(x:Gs)(f:Ps→Option (α×Ps))(y:α×Gs):Prop:=BG sg x f y∧(y.2.bad=false→x.pos<y.2.pos)
def pkG(sg:List Sg)(g:Gs)(n:Int):Sg:=if g.bad=true∨(sg.length:Int)≤g.pos+n then ET else sgO sg (g.pos+n)
theorem b3k{sg:List Sg}{i:Int}(h:(sg.length:Int)≤i):sgO sg i=ET:=by
 unfold sgO;rw[List.getD_eq_getElem?_getD,List.getElem?_eq_none (by omega)];rfl
theorem JK{sg:List Sg}{i:Int}{e:Sg}(h:sg[i.toNat]? =some e):sgO sg i=e:=by simp [sgO,List.getD,h]
theorem JL{sg:List Sg}{g:Gs}{n:Int}(h:g.bad=false):pkG sg g n=sgO sg (g.pos+n):=by
 unfold pkG
 split
 ·rename_i hh
  rcases hh with hh|hh
  ·rw[h] at hh;cases hh
  ·exact(b3k hh).symm
 ·rfl
theorem b3l{sg:List Sg}{g:Gs}{n:Int}(h:g.bad=true):pkG sg g n=ET:=by unfold pkG;rw[if_pos (.inl h)]
def isG(sg:List Sg)(g:Gs)(k:Int)(t:List UInt8):Bool:=decide ((pkG sg g 0).kind=k)&&((pkG sg g 0).text==t)
def nmG(sg:List Sg)(g:Gs)(n:Int):Bool:=decide ((pkG sg g n).kind=1)&& !kw (pkG sg g n).text
theorem Sv{sg:List Sg}{g:Gs}{s:Ps}{k:Int}{t:List UInt8}(h:pur g=some s):isG sg g k t=isT sg s k t:=by
 obtain⟨h1,rfl⟩:=EU.1 h
 simp [isG,isT,JL h1]
theorem a3I{sg:List Sg}{g:Gs}{k:Int}{t:List UInt8}(h:pur g=none)(hk:k≠0):isG sg g k t=false:=by
 simp [isG,b3l (a3H.1 h),ET,Ne.symm hk]
theorem Ml{sg:List Sg}{g:Gs}{s:Ps}{n:Int}(h:pur g=some s):nmG sg g n=DH sg (s.pos+n):=by
 obtain⟨h1,rfl⟩:=EU.1 h
 simp [nmG,DH,JL h1]
theorem Dn{sg:List Sg}{g:Gs}{k:Int}{t:List UInt8}(h:isG sg g k t=true)(hk:k≠0):g.bad=false∧g.pos<sg.length:=by
 unfold isG pkG at h
 split at h
 ·simp [ET,Ne.symm hk] at h
 ·rename_i hh
  simp only[Int.add_zero] at hh
  exact⟨by cases hb:g.bad<;>simp_all,by omega⟩
theorem Sw{sg:List Sg}{g:Gs}{n:Int}(h:nmG sg g n=true):g.bad=false∧g.pos+n<sg.length:=by
 unfold nmG pkG at h
 split at h
 ·simp [ET] at h
 ·rename_i hh;exact⟨by cases hb:g.bad<;>simp_all,by omega⟩
def Aq(g:Gs):Gs:=⟨g.pos+1,g.deep,g.bad,g.nodes⟩
def Bt(g:Gs):Gs:=⟨g.pos,g.deep,true,g.nodes⟩
def gDp(g:Gs)(d:Int):Gs:=⟨g.pos,g.deep+d,g.bad,g.nodes⟩
def Au(sg:List Sg)(g:Gs)(m:List UInt8):Gs:=if isG sg g 4 m then Aq g else g
def As(sg:List Sg)(g:Gs)(m:List UInt8):Gs:=if isG sg g 4 m then Aq g else Bt g
def Dp(g:Gs):Gs:=if g.bad then g else Aq g
def DN(g:Gs):Bool:=g.bad||decide (g.nodes.length=300)
def An(g:Gs)(x:Nd):Gs:=if DN g then Bt g else⟨g.pos,g.deep,g.bad,g.nodes++[x]⟩
def AW(g:Gs):Int:=if DN g then 0 else g.nodes.length
def CP(sg:List Sg)(g:Gs)(m:List UInt8)(x:Nd):Gs:=if isG sg g 4 m then Dp (An g x) else Bt g
def CQ(sg:List Sg)(g:Gs)(m:List UInt8):Int:=if isG sg g 4 m then AW g else 0
def EA(sg:List Sg)(g:Gs)(k:Int)(b:Bool):Gs:=Dp (An g ⟨k,(pkG sg g 0).text,[],b⟩)
def Ed(sg:List Sg)(g:Gs):Gs:=if nmG sg g 0 then EA sg g 1 false else Bt g
def Eo(sg:List Sg)(g:Gs):Int:=if nmG sg g 0 then AW g else 0
def CU(sg:List Sg)(g:Gs):Gs:=if nmG sg g 0 then Aq g else Bt g
def Dh(sg:List Sg)(g:Gs):List UInt8:=if nmG sg g 0 then(pkG sg g 0).text else []
theorem GB{sg:List Sg}{g:Gs}(h:gsOk sg g)(hl:g.pos<sg.length):gsOk sg (Aq g):=by
 obtain⟨h1,h2⟩:=h
 exact⟨by simp only[Aq];omega,h2⟩
theorem Mm{sg:List Sg}{g:Gs}(h:gsOk sg g):gsOk sg (Bt g):=h
theorem WG{g:Gs}:pur (Aq g)=(pur g).map adv:=by
 cases h:g.bad<;>simp [pur,Aq,h,adv]
theorem JM{g:Gs}:pur (Bt g)=none:=by simp [pur,Bt]
theorem a3J{sg:List Sg}{g:Gs}{k:Int}{m:List UInt8}(h:gsOk sg g)(hk:k≠0)(hm:isG sg g k m=true):WF sg g (fun s=>if isT sg s k m then some (adv s) else none) (Aq g)∧(Aq g).bad=false∧g.pos<(Aq g).pos:=by
 obtain⟨h1,h2⟩:=Dn hm hk
 refine⟨⟨GB h h2,rfl,by simp only[Aq];omega,?_⟩,h1,by simp only[Aq];omega⟩
 rw[WG,Dm h1]
 have:isT sg ⟨g.pos,g.deep,g.nodes⟩ k m=true:=by rw[←Sv (Dm h1)];exact hm
 simp [this]
theorem Sx{sg:List Sg}{g:Gs}{s:Ps}{k:Int}{m:List UInt8}(hm:isG sg g k m=false)(hs:pur g=some s):isT sg s k m=false:=by rw[←Sv hs];exact hm
theorem WH{sg:List Sg}{g:Gs}{s:Ps}{k:Int}{m:List UInt8}(hm:isG sg g k m=true)(hs:pur g=some s):isT sg s k m=true:=by rw[←Sv hs];exact hm
theorem PU{sg:List Sg}{g:Gs}{m:List UInt8}(h:gsOk sg g):WF sg g (BF sg m) (As sg g m)∧((As sg g m).bad=false→g.pos<(As sg g m).pos):=by
 unfold As
 cases hm:isG sg g 4 m with
 |true=>
  obtain⟨h1,h2,h3⟩:=a3J h (by omega) hm
  simp only[if_true]
  exact⟨h1,fun _=>h3⟩
 |false=>
  simp only[Bool.false_eq_true,if_false]
  refine⟨⟨Mm h,rfl,Int.le_refl _,?_⟩,fun hb=>by simp [Bt] at hb⟩
  rw[JM]
  cases hs:pur g with
  |none=>rfl
  |some s=>
   simp only[Option.bind_some,BF,isM,Sx hm hs];rfl
theorem Sy{g:Gs}(h:DN g=false):g.bad=false∧g.nodes.length≠300:=by
 simpa [DN] using h
theorem PV{sg:List Sg}{g:Gs}{x:Nd}(h:gsOk sg g)(hx:Dl x):gsOk sg (An g x):=by
 unfold An
 cases hf:DN g with
 |true=>exact Mm h
 |false=>
  obtain⟨h1,h2⟩:=Sy hf
  obtain⟨a,b,c,d⟩:=h
  refine⟨a,b,?_,?_⟩
  ·simp;omega
  ·simp only[Bool.false_eq_true,if_false]
   intro y hy
   rcases List.mem_append.1 hy with hy|hy
   ·exact d y hy
   ·simp at hy;subst hy;exact hx
theorem a3K{sg:List Sg}{g:Gs}{x:Nd}(h:gsOk sg g):pur (An g x)=((pur g).bind (Bd x)).map (·.2)∧∀p,(pur g).bind (Bd x)=some p→AW g=p.1:=by
 unfold An AW
 cases hf:DN g with
 |true=>
  simp only[if_true,JM]
  have:(pur g).bind (Bd x)=none:=by
   cases hs:pur g with
   |none=>rfl
   |some s=>
    obtain⟨h1,rfl⟩:=EU.1 hs
    have h3:g.nodes.length=300:=by simpa [DN,h1] using hf
    simp [Bd,h3]
  rw[this];exact⟨rfl,fun p hp=>by cases hp⟩
 |false=>
  obtain⟨h1,h2⟩:=Sy hf
  have h3:g.nodes.length≤300:=h.2.2.1
  have h4:¬300≤g.nodes.length:=by omega
  simp [pur,h1,Bd,h4]
theorem Sz{sg:List Sg}{g:Gs}{x:Nd}(h:gsOk sg g)(hx:Dl x):BG sg g (Bd x) (AW g,An g x):=by
 refine⟨PV h hx,?_,?_,(a3K h).1,(a3K h).2⟩
 ·simp only[An];split<;>rfl
 ·simp only[An];split<;>exact Int.le_refl _
theorem WI{sg:List Sg}{g:Gs}{x:Nd}(h:gsOk sg g)(hx:Dl x)(hl:g.bad=false→g.pos<sg.length):Ah sg g (fun s=>FZ (Bd x s)) (AW g,Dp (An g x)):=by
 obtain⟨h1,h2,h3,h4,h5⟩:=Sz h hx
 simp only at h1 h2 h3 h4 h5
 have hp:pur (Dp (An g x))=(pur (An g x)).map adv:=by
  unfold Dp
  cases hb:(An g x).bad with
  |true=>rw[Ec hb];simp [Ec hb]
  |false=>simp only[Bool.false_eq_true,if_false];exact WG
 have hpos:(An g x).pos=g.pos:=by simp only[An];split<;>rfl
 have hbad:(An g x).bad=false→g.bad=false:=by
  intro hb;simp only[An] at hb;split at hb
  ·simp [Bt] at hb
  ·exact hb
 refine⟨⟨?_,?_,?_,?_,?_⟩,?_⟩
 ·simp only[Dp];split
  ·exact h1
  ·rename_i hb
   exact GB h1 (by rw[hpos];exact hl (hbad (by simpa using hb)))
 ·simp only[Dp];split<;>simpa [Aq] using h2
 ·simp only[Dp];split
  ·exact h3
  ·simp only[Aq];omega
 ·simp only;rw[hp,h4]
  cases hs:pur g with
  |none=>rfl
  |some s=>simp only[Option.bind_some,FZ];cases Bd x s<;>rfl
 ·intro p hp2
  simp only
  cases hs:pur g with
  |none=>rw[hs] at hp2;cases hp2
  |some s=>
   rw[hs] at hp2 h5
   simp only[Option.bind_some,FZ,Option.map_eq_some_iff] at hp2
   obtain⟨q,hq,rfl⟩:=hp2
   exact h5 q (by simpa using hq)
 ·simp only[Dp]
  split
  ·rename_i hb;intro hh;rw[hb] at hh;cases hh
  ·intro _;simp only[Aq];omega
theorem NW{sg:List Sg}{g:Gs}{m:List UInt8}{x:Nd}(h:gsOk sg g)(hx:Dl x):Ah sg g (Bs sg m x) (CQ sg g m,CP sg g m x):=by
 unfold CP CQ
 cases hm:isG sg g 4 m with
 |true=>
  obtain⟨hb,hl⟩:=Dn hm (by omega)
  have:=WI h hx (fun _=>hl)
  simp only[if_true]
  have e:(pur g).bind (Bs sg m x)=(pur g).bind fun s=>FZ (Bd x s):=by
   rw[Dm hb]
   have:isM sg ⟨g.pos,g.deep,g.nodes⟩ m=true:=WH hm (Dm hb)
   simp [Bs,this]
  obtain⟨⟨a1,a2,a3,a4,a5⟩,a6⟩:=this
  exact⟨⟨a1,a2,a3,by rw[e];exact a4,by rw[e];exact a5⟩,a6⟩
 |false=>
  simp only[Bool.false_eq_true,if_false]
  have e:(pur g).bind (Bs sg m x)=none:=by
   cases hs:pur g with
   |none=>rfl
   |some s=>
    have:isM sg s m=false:=Sx hm hs
    simp [Bs,this]
  refine⟨⟨Mm h,rfl,Int.le_refl _,by rw[e];exact JM,fun p hp=>by rw[e] at hp;cases hp⟩,fun hb=>by simp [Bt] at hb⟩
theorem b3m{sg:List Sg}(h:sgB sg){i:Int}:(sgO sg i).text.length≤3000:=by
 unfold sgO;rw[List.getD]
 cases hx:sg[i.toNat]? with
 |none=>simp [ET]
 |some e=>exact h.2 e (BJ hx)
theorem PW{sg:List Sg}(h:sgB sg){g:Gs}{n:Int}:(pkG sg g n).text.length≤3000:=by
 unfold pkG;split
 ·simp [ET]
 ·exact b3m h
theorem PX{sg:List Sg}{g:Gs}{k:Int}{b:Bool}(hs:sgB sg)(h:gsOk sg g)(hl:g.bad=false→g.pos<sg.length):Ah sg g (FH sg k b) (AW g,EA sg g k b):=by
 have hx:Dl ⟨k,(pkG sg g 0).text,[],b⟩:=⟨PW hs,by simp⟩
 have:=WI (x:=⟨k,(pkG sg g 0).text,[],b⟩) h hx hl
 have e:(pur g).bind (FH sg k b)=(pur g).bind fun s=>FZ (Bd ⟨k,(pkG sg g 0).text,[],b⟩ s):=by
  cases hs:pur g with
  |none=>rfl
  |some s=>
   obtain⟨h1,rfl⟩:=EU.1 hs
   simp [FH,JL h1]
 obtain⟨⟨a1,a2,a3,a4,a5⟩,a6⟩:=this
 exact⟨⟨a1,a2,a3,by rw[e];exact a4,by rw[e];exact a5⟩,a6⟩
theorem SA{sg:List Sg}{g:Gs}(hs:sgB sg)(h:gsOk sg g):Ah sg g (BS sg) (Eo sg g,Ed sg g):=by
 unfold Ed Eo
 cases hm:nmG sg g 0 with
 |true=>
  obtain⟨hb,hl⟩:=Sw hm
  simp only[if_true]
  obtain⟨⟨a1,a2,a3,a4,a5⟩,a6⟩:=PX (k:=1) (b:=false) hs h (fun _=>by omega)
  have e:(pur g).bind (BS sg)=(pur g).bind (FH sg 1 false):=by
   rw[Dm hb]
   have:DH sg g.pos=true:=by have:=Ml (sg:=sg) (n:=0) (Dm hb);rw[hm] at this;simpa using this.symm
   simp [BS,this]
  exact⟨⟨a1,a2,a3,by rw[e];exact a4,by rw[e];exact a5⟩,a6⟩
 |false=>
  simp only[Bool.false_eq_true,if_false]
  have e:(pur g).bind (BS sg)=none:=by
   cases hs:pur g with
   |none=>rfl
   |some s=>
    have:DH sg s.pos=false:=by have:=Ml (sg:=sg) (n:=0) hs;rw[hm] at this;simpa using this.symm
    simp [BS,this]
  refine⟨⟨Mm h,rfl,Int.le_refl _,by rw[e];exact JM,fun p hp=>by rw[e] at hp;cases hp⟩,fun hb=>by simp [Bt] at hb⟩
theorem NX{sg:List Sg}{g:Gs}(h:gsOk sg g):Ah sg g (Ga sg) (Dh sg g,CU sg g):=by
 unfold CU Dh
 cases hm:nmG sg g 0 with
 |true=>
  obtain⟨hb,hl⟩:=Sw hm
  simp only[if_true]
  have hn:DH sg g.pos=true:=by have:=Ml (sg:=sg) (n:=0) (Dm hb);rw[hm] at this;simpa using this.symm
  refine⟨⟨GB h (by omega),rfl,by simp only[Aq];omega,?_,?_⟩,fun _=>by simp only[Aq];omega⟩
  ·simp only;rw[WG,Dm hb];simp [Ga,hn]
  ·intro p hp;rw[Dm hb] at hp
   simp [Ga,hn] at hp
   rw[←hp,JL hb];simp
 |false=>
  simp only[Bool.false_eq_true,if_false]
  have e:(pur g).bind (Ga sg)=none:=by
   cases hs:pur g with
   |none=>rfl
   |some s=>
    have:DH sg s.pos=false:=by have:=Ml (sg:=sg) (n:=0) hs;rw[hm] at this;simpa using this.symm
    simp [Ga,this]
  refine⟨⟨Mm h,rfl,Int.le_refl _,by rw[e];exact JM,fun p hp=>by rw[e] at hp;cases hp⟩,fun hb=>by simp [Bt] at hb⟩
end Go.My
end
section
namespace Go.My
open Go.Eng Go.Proofs
variable {G:GInv}
theorem b3n{a:Int}{b:List UInt8}{c:List Int}{d:Bool}{o:Bool}{i:Nat}{q:Nd→Prop}(h:q ⟨a,b,c,d⟩):∃x:Nd,a=x.kind∧b=x.text∧AV.sl o i 1 Int Bc c=AV.sl o i 1 Int Bc x.kids∧d=x.blank∧q x:=⟨⟨a,b,c,d⟩,rfl,rfl,rfl,rfl,h⟩
theorem AL{α β γ δ ε ζ η:Type}{p q:α×β×γ×δ×ε×ζ×η→Prop}(a:α)(b:β)(c:γ)(d:δ)(e:ε)(f:ζ)(g:η)(h2:q (a,b,c,d,e,f,g))(h1:p (a,b,c,d,e,f,g)):∃x,p x∧q x:=⟨_,h1,h2⟩
theorem AM{α β γ δ ε ζ η θ:Type}{p q:α×β×γ×δ×ε×ζ×η×θ→Prop}(a:α)(b:β)(c:γ)(d:δ)(e:ε)(f:ζ)(g:η)(h:θ)(h2:q (a,b,c,d,e,f,g,h))(h1:p (a,b,c,d,e,f,g,h)):∃x,p x∧q x:=⟨_,h1,h2⟩
theorem AN{α β γ δ ε ζ η θ ι:Type}{p q:α×β×γ×δ×ε×ζ×η×θ×ι→Prop}(a:α)(b:β)(c:γ)(d:δ)(e:ε)(f:ζ)(g:η)(h:θ)(i:ι)(h2:q (a,b,c,d,e,f,g,h,i))(h1:p (a,b,c,d,e,f,g,h,i)):∃x,p x∧q x:=⟨_,h1,h2⟩
theorem AO{α β γ δ ε ζ η θ ι κ:Type}{p q:α×β×γ×δ×ε×ζ×η×θ×ι×κ→Prop}(a:α)(b:β)(c:γ)(d:δ)(e:ε)(f:ζ)(g:η)(h:θ)(i:ι)(j:κ)(h2:q (a,b,c,d,e,f,g,h,i,j))(h1:p (a,b,c,d,e,f,g,h,i,j)):∃x,p x∧q x:=⟨_,h1,h2⟩
structure ST where
 sg:List Sg
 z:Int
 ms:List (Int×Int)
def mbs(ms:List (Int×Int)):AV:= .sl true 0 2 (Int×Int) (fun p=>[.int .i64 p.1,.int .i64 p.2]) ms
def rdG(s:ST)(g:Gs):AV:= .box 0 [sgs s.sg,.int .i64 s.z,.int .i64 g.pos,.int .i64 g.deep,.bool g.bad,AZ g.nodes,mbs s.ms]
abbrev xg (x:ST×Int×Int×Bool×List Nd):Gs:=⟨x.2.1,x.2.2.1,x.2.2.2.1,x.2.2.2.2⟩
abbrev xh {α:Type} (x:ST×Int×Int×Bool×List Nd×α):Gs:=⟨x.2.1,x.2.2.1,x.2.2.2.1,x.2.2.2.2.1⟩
abbrev yG (y:Int×Int×Bool×List Nd):Gs:=⟨y.1,y.2.1,y.2.2.1,y.2.2.2⟩
abbrev yS {α:Type} (y:α×Int×Int×Bool×List Nd):α×Gs:=(y.1,⟨y.2.1,y.2.2.1,y.2.2.2.1,y.2.2.2.2⟩)
def rOk(s:ST)(g:Gs):Prop:=sgB s.sg∧gsOk s.sg g
theorem He{s:ST}{g:Gs}(h:rOk s g):((0≤g.pos∧g.pos≤s.sg.length)∧(0≤g.deep∧g.deep≤21))∧g.nodes.length≤300∧s.sg.length≤3000:=⟨⟨h.2.1,h.2.2.1⟩,h.2.2.2.1,h.1.1⟩
theorem b3o{sg:List Sg}{g:Gs}{n:Int}(h:g.bad=true∨(sg.length:Int)≤g.pos+n):pkG sg g n=ET:=if_pos h
theorem b3p{sg:List Sg}{g:Gs}{n:Int}{e:Sg}(he:sg[(g.pos+n).toNat]? =some e)(hb:g.bad=false)(hl:¬(sg.length:Int)≤g.pos+n):pkG sg g n=e:=by
 rw[pkG,if_neg (by simp [hb];omega),JK he]
def zB(s:ZS):Prop:=tOk s.ns∧s.L≤1000
def vPz(n:Nat)(s:ZS)(m:Mc)(cs:Cls)(k:Int):Prop:=(zB s∧(mOk m∧Mb cs m))∧(kOk s.ns m n k∧wK s.ns k≤pot m)
def vQz(n:Nat)(s:ZS)(m:Mc)(cs:Cls)(k:Int)(y:Int×Mc):Prop:=((ev s.ns n).val cs k s.L m=some y∧bdd y.1)∧El m y.2 (wK s.ns k)
def bPz(n:Nat)(s:ZS)(m:Mc)(f:Fr)(k:Int):Prop:=(zB s∧(mOk m∧fOk f m))∧(((0≤k∧k<s.ns.length)∧Bz s.ns k≤12)∧Ct s.ns m n k)
def bQz(n:Nat)(s:ZS)(m:Mc)(f:Fr)(k:Int)(y:Fr×Mc):Prop:=((ev s.ns n).blk f k s.L m=some y∧fOk y.1 y.2)∧El m y.2 0
abbrev ZX (α:Type):=ZS×List Int×Int×Int×Int×Cls×Bool×Int×α
abbrev zf {α:Type} (x:ZX α):Fr:=⟨x.2.2.2.2.2.1,x.2.2.2.2.2.2.1,x.2.2.2.2.2.2.2.1⟩
abbrev zl {α:Type} (x:ZX α):α:=x.2.2.2.2.2.2.2.2
abbrev yB (y:List Int×Int×Int×Int×Cls×Bool×Int):Fr×Mc:=(⟨y.2.2.2.2.1,y.2.2.2.2.2.1,y.2.2.2.2.2.2⟩,⟨y.1,y.2.1,y.2.2.1,y.2.2.2.1⟩)
def b3q(n:Nat):Sig:= {X:=ZX Int,args:=fun x=>[mcA x.1 (zh x),frA (zf x),.int .i64 (zl x)],pre:=fun x=>vPz n x.1 (zh x) (zf x).cells (zl x),Y:=Int×List Int×Int×Int×Int,post:=fun x y=>vQz n x.1 (zh x) (zf x).cells (zl x) (yV y),res:=fun x y=> .int .i64 y.1,outs:=fun x y=>[mcA x.1 (yM y.2),frA (zf x),.top],keep:=true}
def b3r(n:Nat):Sig:= {X:=ZX Int,args:=fun x=>[mcA x.1 (zh x),frA (zf x),.int .i64 (zl x)],pre:=fun x=>bPz n x.1 (zh x) (zf x) (zl x),Y:=List Int×Int×Int×Int×Cls×Bool×Int,post:=fun x y=>bQz n x.1 (zh x) (zf x) (zl x) (yB y),res:=fun x y=> .tup [],outs:=fun x y=>[mcA x.1 (yB y).2,frA (yB y).1,.top],keep:=true}
structure zAll (G:GInv) (n:Nat):Prop where
 val:Al G Go.Proofs.Tryz.prog 179 (b3q n)
 blk:Al G Go.Proofs.Tryz.prog 106 (b3r n)
def lpI(s:ZS)(m0 m:Mc)(ks:List Int)(i e:Int):Prop:=((0≤i∧i≤ks.length)∧(mOk m∧m.deep=m0.deep))∧m0.steps≤m.steps∧pot m0-e≤pot m-wS s.ns (ks.drop i.toNat)
theorem WJ{s:ZS}{m:Mc}{ks:List Int}(h:mOk m):lpI s m m ks 0 (wS s.ns ks):=⟨⟨by omega,h,rfl⟩,Int.le_refl _,by simp⟩
theorem a3L{s:ZS}{m0 m:Mc}{ks:List Int}{i e c:Int}(h:lpI s m0 m ks i e)(hc:ks[i.toNat]? =some c)(he:e≤pot m0):wK s.ns c≤pot m:=by
 have h3:=h.2.2;have h0:=h.1.1
 rw[GA h0.1 hc,wS] at h3
 have:= @PH s.ns (ks.drop (i+1).toNat);omega
theorem Mn{s:ZS}{m0 m m2:Mc}{ks:List Int}{i e c:Int}(h:lpI s m0 m ks i e)(hc:ks[i.toNat]? =some c)(g:El m m2 (wK s.ns c)):lpI s m0 m2 ks (i+1) e:=by
 have h3:=h.2.2;have h0:=h.1.1
 have hl:=(List.getElem?_eq_some_iff.1 hc).1
 rw[GA h0.1 hc,wS] at h3
 exact⟨⟨by omega,g.1.1,by rw[g.1.2,h.1.2.2]⟩,Int.le_trans h.2.1 g.2.1,by have:=g.2.2;omega⟩
theorem PY{s:ZS}{m0 m:Mc}{ks:List Int}{i e:Int}(h:lpI s m0 m ks i e):El m0 m e:=
 ⟨h.1.2,h.2.1,by have:=h.2.2;have:= @PH s.ns (ks.drop i.toNat);omega⟩
theorem b3s{s:ZS}{m0 m m2:Mc}{ks:List Int}{i e c:Int}(h:lpI s m0 m ks i e)(hc:ks[i.toNat]? =some c)(g:El m m2 (wK s.ns c)):El m0 m2 e:=PY (Mn h hc g)
theorem WK{cs:Cls}{m m2:Mc}(h:Mb cs m)(hs:m.steps≤m2.steps):Mb cs m2:=⟨h.1,by have:=h.2;omega⟩
theorem Hf:bdd 0:=by unfold bdd;omega
theorem a3M{b:Bool}:bdd (tr b):=by cases b<;>(unfold tr bdd;simp)
def cPz(n:Nat)(s:ZS)(m:Mc)(cs:Cls)(x:Nd):Prop:=(zB s∧(mOk m∧Mb cs m))∧((∀c∈x.kids,kOk s.ns m n c)∧(x.kids.length≤12∧wS s.ns x.kids≤pot m))
def cQz(c:Run Int)(s:ZS)(m:Mc)(e:Int)(y:Int×Mc):Prop:=(c s.L m=some y∧bdd y.1)∧El m y.2 e
def lgI(n:Nat)(s:ZS)(m0:Mc)(cs:Cls)(x:Nd)(i:Int)(m:Mc):Prop:=
 (lpI s m0 m x.kids i (wS s.ns x.kids)∧x.kids.length≤12)∧PF ((ev s.ns n).val cs) x.text x.kids s.L m0=PF ((ev s.ns n).val cs) x.text (x.kids.drop i.toNat) s.L m
attribute [local irreducible] lgI vQz vPz cQz
end Go.My
end
