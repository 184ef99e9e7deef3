/- joined -/
import Derived.Test.YtblmpjljedglaaaGreatDoorQF
set_option linter.unusedSimpArgs false
set_option linter.unusedVariables false
section
namespace Go.My
open Go.Eng Go.Proofs
variable {G:GInv}
def koI(ns:List Nd)(x:Nd)(i:Int):Prop:=0≤i∧i≤x.kids.length∧∀(j:Nat) c,(j:Int)<i→x.kids[j]? =some c→DK ns x j c=true
theorem b2v{ns:List Nd}{x:Nd}:koI ns x 0:=⟨by omega,by omega,fun j c h=>by omega⟩
theorem a1T{ns:List Nd}{x:Nd}{i c:Int}(h:koI ns x i)(hc:x.kids[i.toNat]? =some c)(hk:DK ns x i c=true):koI ns x (i+1):=by
 obtain⟨h1,h2,h3⟩:=h
 have:=(Cm hc).1
 refine⟨by omega,by omega,fun j d hj hd=> ?_⟩
 by_cases e:(j:Int)<i
 ·exact h3 j d e hd
 ·obtain rfl:j=i.toNat:=by omega
  rw[hc] at hd;cases hd
  rwa [show((i.toNat:Nat):Int)=i by omega]
theorem b2w{ns:List Nd}{x:Nd}{i:Int}(h:koI ns x i)(hl:¬i<x.kids.length):BE (DK ns x) x.kids 0=true:=by
 rw[VK];intro j c hc
 exact h.2.2 j c (by have:=(Cm hc).1;omega) hc
theorem QN{ns:List Nd}{x:Nd}{i c:Int}(h0:0≤i)(hc:x.kids[i.toNat]? =some c)(hk:DK ns x i c=false):BE (DK ns x) x.kids 0=false:=by
 rw[Bool.eq_false_iff];intro h
 rw[VK] at h
 have:=h _ _ hc
 rw[show((i.toNat:Nat):Int)=i by omega,hk] at this;cases this
theorem ko1{ns:List Nd}{x y:Nd}{i c:Int}(hy:ns[c.toNat]? =some y)(h:y.kind=5)(h0:(y.kids.length:Int)=0):DK ns x i c=false:=by
 have h0:=List.length_eq_zero_iff.1 (show y.kids.length=0 by omega)
 simp [DK,Al,Bd hy,h,h0]
theorem Ip{ns:List Nd}{d:Int}:inn d 0 (ns.length-1)=Bh ns d:=by
 rw[Bool.eq_iff_iff];simp only[inn,Bh,Bool.and_eq_true,decide_eq_true_eq];omega
theorem ko2{ns:List Nd}{x y:Nd}{i c d:Int}(hy:ns[c.toNat]? =some y)(h:y.kind=5)(h0:y.kids[0]? =some d)(hd:inn d 0 (ns.length-1)=false):DK ns x i c=false:=by
 rw[Ip] at hd
 match hk:y.kids with
 |[]=>rw[hk] at h0;cases h0
 |e::t=>rw[hk] at h0;cases h0;simp [DK,Al,Bd hy,h,hk,hd]
theorem ko3{ns:List Nd}{x y:Nd}{i c d:Int}(hy:ns[c.toNat]? =some y)(h:y.kind=5)(h0:y.kids[0]? =some d)(hd:inn d 0 (ns.length-1)=true):DK ns x i c=Kt ns x i c:=by
 rw[Ip] at hd
 match hk:y.kids with
 |[]=>rw[hk] at h0;cases h0
 |e::t=>rw[hk] at h0;cases h0;simp [DK,Al,Bd hy,h,hk,hd]
theorem ko4{ns:List Nd}{x y:Nd}{i c:Int}(hy:ns[c.toNat]? =some y)(h:y.kind≠5):DK ns x i c=Kt ns x i c:=by
 simp [DK,Al,Bd hy,h]
theorem QO{ns:List Nd}{x:Nd}{k i c:Int}{b:Bool}(hx:ns[k.toNat]? =some x)(hc:x.kids[i.toNat]? =some c)(hb:KH (ns,k,i)=b):Kt ns x i c=b:=by
 rw[←hb,KH,Bd hx,List.getD,hc,Option.getD_some]
theorem b2x{ns:List Nd}{x y:Nd}{k i c d:Int}(h1:CH ns)(hn:Bh ns k=true)(hx:ns[k.toNat]? =some x)(hin:DI x.kids k=true)(hi:koI ns x i)(hc:x.kids[i.toNat]? =some c)(hy:ns[c.toNat]? =some y)(h0:y.kids[0]? =some d)(hd:inn d 0 (ns.length-1)=true):Ha (ns,k,i):=by
 have hk:=Bc.1 hn
 have:=(Cm hc).1
 unfold Ha;simp only[Bd hx]
 refine⟨h1,hn,fun h10 c' hc' h5=> ?_,⟨hi.1,by omega⟩,fun c' hc'=> ?_⟩
 ·rw[hc] at hc';cases hc'
  rw[Bd hy]
  match hkk:y.kids with
  |[]=>rw[hkk] at h0;cases h0
  |e::t=>rw[hkk] at h0;cases h0;exact⟨_,_,rfl,by rw[←Ip];exact hd⟩
 ·simp only[DI,List.all_eq_true,Bool.and_eq_true,decide_eq_true_eq] at hin
  have:=hin c' (AY hc');omega
theorem b2y{ns:List Nd}{x y:Nd}{k i c:Int}(h1:CH ns)(hn:Bh ns k=true)(hx:ns[k.toNat]? =some x)(hin:DI x.kids k=true)(hi:koI ns x i)(hc:x.kids[i.toNat]? =some c)(hy:ns[c.toNat]? =some y)(h5:y.kind≠5):Ha (ns,k,i):=by
 have hk:=Bc.1 hn
 have:=(Cm hc).1
 unfold Ha;simp only[Bd hx]
 refine⟨h1,hn,fun h10 c' hc' h5'=> ?_,⟨hi.1,by omega⟩,fun c' hc'=> ?_⟩
 ·rw[hc] at hc';cases hc'
  rw[Al,Bd hy] at h5';exact(h5 h5').elim
 ·simp only[DI,List.all_eq_true,Bool.and_eq_true,decide_eq_true_eq] at hin
  have:=hin c' (AY hc');omega
theorem a1U{k:Int}:GW k=(CN k||(decide (k=20)||decide (k=21))):=by
 rw[Bool.eq_iff_iff]
 simp only[GW,CN,CG,Gv,inn,Bool.or_eq_true,Bool.and_eq_true,decide_eq_true_eq];omega
theorem a1V{ns:List Nd}{k:Int}(h:inn k 0 (ns.length-1)=false):false=Cc ns k:=by rw[Ip] at h;exact a1s h
theorem Oi{ns:List Nd}{k:Int}{x:Nd}(hx:ns[k.toNat]? =some x)(h:inn k 0 (ns.length-1)=true):Cc ns k=(inn x.kind 1 22&&(inn x.kids.length (CO x.kind).1 (CO x.kind).2&&(Dy x.kind x.text&&((GW x.kind|| !x.blank)&&((DI x.kids k&&decide x.kids.Nodup)&&BE (DK ns x) x.kids 0))))):=by
 rw[Ip] at h;rw[Mo hx h,b1r]
theorem b2z{ns:List Nd}{k:Int}{x:Nd}(hx:ns[k.toNat]? =some x)(h:inn k 0 (ns.length-1)=true)(h1:DI x.kids k=false):false=Cc ns k:=by
 rw[Oi hx h,h1];simp
theorem b2A{ns:List Nd}{k:Int}{x:Nd}(hx:ns[k.toNat]? =some x)(h:inn k 0 (ns.length-1)=true)(h1:¬x.kids.Nodup):false=Cc ns k:=by
 rw[Oi hx h,decide_eq_false h1];simp
theorem QP{ns:List Nd}{k:Int}{x:Nd}(hx:ns[k.toNat]? =some x)(h:inn k 0 (ns.length-1)=true)(h1:BE (DK ns x) x.kids 0=false):false=Cc ns k:=by
 rw[Oi hx h,h1];simp
theorem b2B{ns:List Nd}{k:Int}{x:Nd}(hx:ns[k.toNat]? =some x)(h:inn k 0 (ns.length-1)=true)(h1:inn x.kind 1 22=true)(h2:inn x.kids.length (CO x.kind).1 (CO x.kind).2=true)(h3:Dy x.kind x.text=true)(h4:(GW x.kind|| !x.blank)=true)
 (h5:DI x.kids k=true∧x.kids.Nodup) (h6:BE (DK ns x) x.kids 0=true):true=Cc ns k:=by
 rw[Oi hx h,h1,h2,h3,h4,h5.1,h6,decide_eq_true h5.2];rfl
theorem b2C{k c:Int}{l:List Int}{n:Nat}(hc:l[n]? =some c)(h:inn c 0 (k-1)=false):DI l k=false:=by
 rw[Bool.eq_false_iff];intro hh;simp only[DI,List.all_eq_true,Bool.and_eq_true,decide_eq_true_eq] at hh
 have:=hh c (AY hc)
 have:inn c 0 (k-1)=true:=Br.2 (by omega)
 rw[h] at this;cases this
def djI(l:List Int)(i j:Int):Prop:=0≤j∧j≤i∧∀c,l[i.toNat]? =some c→(l.take j.toNat).elem c=false
theorem b2D{l:List Int}{i:Int}(h:0≤i):djI l i 0:=⟨by omega,h,by simp⟩
theorem b2E{l:List Int}{i j c d:Int}(h:djI l i j)(hl:j<i)(hc:l[i.toNat]? =some c)(hd:l[j.toNat]? =some d)(hne:c≠d):djI l i (j+1):=by
 refine⟨by have:=h.1;omega,by omega,fun c' hc'=> ?_⟩
 have h3:=h.2.2 c' hc'
 rw[hc] at hc';cases hc'
 rw[BD h.1,CT hd]
 simp at h3 ⊢
 exact⟨h3,hne⟩
theorem b2F{l:List Int}{i j c d:Int}(h0:djI l i j)(hl:j<i)(hc:l[i.toNat]? =some c)(hd:l[j.toNat]? =some d)(he:c=d):¬l.Nodup:=by
 refine a1r hc ?_
 subst he
 rw[List.elem_iff]
 rw[List.mem_take_iff_getElem]
 obtain⟨hj,e⟩:=Cm hd
 have:=h0.1
 exact⟨j.toNat,by omega,e⟩
theorem b2G{k:Int}{l:List Int}{i j c:Int}(h:nkI k l i)(hd:djI l i j)(hl:¬j<i)(hc:l[i.toNat]? =some c)(hin:inn c 0 (k-1)=true):nkI k l (i+1):=by
 have:=Br.1 hin
 have h3:=hd.2.2 c hc
 obtain rfl:j=i:=by have:=hd.2.1;omega
 exact a1q h hc (by omega) (by omega) h3
def QQ(x:List Nd×Int)(i:Int):LS:= {
 ι:=Int,inv:=djI (Aa x.1 x.2).kids i,
 regs:=fun j=>[(0,nds x.1),(1,.int .i64 x.2),(5,.box 0 (ndA false (Aa x.1 x.2))),(8,.int .i64 i),(9,.int .i64 j)],als:=[],meas:=fun j=>i.toNat-j.toNat}
def QR(x:List Nd×Int):LS:= {
 ι:=Int,inv:=nkI x.2 (Aa x.1 x.2).kids,
 regs:=fun i=>[(0,nds x.1),(1,.int .i64 x.2),(5,.box 0 (ndA false (Aa x.1 x.2))),(8,.int .i64 i)],als:=[],meas:=fun i=>(Aa x.1 x.2).kids.length-i.toNat,sub:=fun i=>[(15,QQ x i)]}
def Oj(x:List Nd×Int):LS:= {
 ι:=Int,inv:=koI x.1 (Aa x.1 x.2),
 regs:=fun i=>[(0,nds x.1),(1,.int .i64 x.2),(5,.box 0 (ndA false (Aa x.1 x.2))),(10,.int .i64 i)],als:=[],meas:=fun i=>(Aa x.1 x.2).kids.length-i.toNat}
def jI(x:Nd):Prop:=inn x.kind 1 22=true∧inn x.kids.length (CO x.kind).1 (CO x.kind).2=true∧Dy x.kind x.text=true∧(GW x.kind|| !x.blank)=true
def Mq(x:List Nd×Int):LS:= {
 ι:=Unit,inv:=fun _=>jI (Aa x.1 x.2),
 regs:=fun _=>[(0,nds x.1),(1,.int .i64 x.2),(5,.box 0 (ndA false (Aa x.1 x.2)))],als:=[],meas:=fun _=>0}
def EH:Sig:= {X:=List Nd×Int,args:=fun x=>[nds x.1,.int .i64 x.2],pre:=fun x=>CH x.1,Y:=Unit,post:=fun x y=>True,res:=fun x y=> .bool (Cc x.1 x.2),outs:=fun x y=>[.top,.top],keep:=false}
set_option maxHeartbeats 4000000 in
theorem b2H:Ah G Tryz.prog 119 EH:=
 vcFun_okP [(45,0,Bq),(143,0,Dm),(144,0,ET),(145,0,HF),(146,0,Dd)] [] false (fun x=>[(10,QR x),(20,Oj x),(200009,Mq x)]) Tryz.func119 rfl (by decide) ⟨Gx,b2t,b1p,a1N,b2u,trivial⟩ (fun(x:List Nd×Int)=>(∀(y:Unit),True→True∧True∧True∧True)∧inR IntKind.i64 ((↑(List.length x.1):Int)-(1:Int))∧cA Bq [.int .i64 x.2,.int .i64 (0:Int),.int .i64 ((↑(List.length x.1):Int)-(1:Int))] fun x_1 y=>Ab (!inn x_1.1 x_1.2.1 x_1.2.2) (rA EH x [.bool false,.top,.top]) (((0:Int)≤x.2∧x.2<(↑(List.length x.1):Int))∧∀(e:Nd),x.1[Int.toNat x.2]? =some e→cA Bq [.int .i64 e.kind,.int .i64 (1:Int),.int .i64 (22:Int)] fun x_2 y=>Ab (!inn x_2.1 x_2.2.1 x_2.2.2) (rA EH x [.bool false,.top,.top]) (((0:Int)≤x.2∧x.2<(↑(List.length x.1):Int))∧∀(e:Nd),x.1[Int.toNat x.2]? =some e→cA Dm [.int .i64 e.kind] fun x_3 y=>cA Bq [.int .i64 (↑(List.length e.kids):Int),.int .i64 (CO x_3).1,.int .i64 (CO x_3).2] fun x_4 y=>Ab (!inn x_4.1 x_4.2.1 x_4.2.2) (rA EH x [.bool false,.top,.top]) (cA ET [.int .i64 e.kind,.str e.text] fun x_5 y=>Ab (!Dy x_5.1 x_5.2) (rA EH x [.bool false,.top,.top]) (Ab e.blank (cA HF [.int .i64 e.kind] fun x_6 y=>Ab (!CN x_6) (Ab (e.kind != (20:Int)) (Ab (e.kind != (21:Int)) (rA EH x [.bool false,.top,.top]) (eA (Mq x) [nds x.1,.int .i64 x.2,.box 0 [.int .i64 e.kind,.str e.text,Ad e.kids,.bool e.blank]])) (eA (Mq x) [nds x.1,.int .i64 x.2,.box 0 [.int .i64 e.kind,.str e.text,Ad e.kids,.bool e.blank]])) (eA (Mq x) [nds x.1,.int .i64 x.2,.box 0 [.int .i64 e.kind,.str e.text,Ad e.kids,.bool e.blank]])) (eA (Mq x) [nds x.1,.int .i64 x.2,.box 0 [.int .i64 e.kind,.str e.text,Ad e.kids,.bool e.blank]])∧∀(i:Unit),jI (Aa x.1 x.2)→eA (QR x) [nds x.1,.int .i64 x.2,.box 0 [.int .i64 (Aa x.1 x.2).kind,.str (Aa x.1 x.2).text,Ad (Aa x.1 x.2).kids,.bool (Aa x.1 x.2).blank],.int .i64 (0:Int)]∧∀(i:Int),nkI x.2 (Aa x.1 x.2).kids i→Ab (decide (i<(↑(List.length (Aa x.1 x.2).kids):Int))) (((0:Int)≤i∧i<(↑(List.length (Aa x.1 x.2).kids):Int))∧∀(e:Int),(Aa x.1 x.2).kids[Int.toNat i]? =some e→inR IntKind.i64 (x.2-(1:Int))∧cA Bq [.int .i64 e,.int .i64 (0:Int),.int .i64 (x.2-(1:Int))] fun x_6 y=>Ab (!inn x_6.1 x_6.2.1 x_6.2.2) (rA EH x [.bool false,.top,.top]) (eA (QQ x i) [nds x.1,.int .i64 x.2,.box 0 [.int .i64 (Aa x.1 x.2).kind,.str (Aa x.1 x.2).text,Ad (Aa x.1 x.2).kids,.bool (Aa x.1 x.2).blank],.int .i64 i,.int .i64 (0:Int)]∧∀(i_1:Int),djI (Aa x.1 x.2).kids i i_1→Ab (decide (i_1<i)) (true=true∧true=true∧((0:Int)≤i∧i<(↑(List.length (Aa x.1 x.2).kids):Int))∧∀(e:Int),(Aa x.1 x.2).kids[Int.toNat i]? =some e→((0:Int)≤i_1∧i_1<(↑(List.length (Aa x.1 x.2).kids):Int))∧∀(e_1:Int),(Aa x.1 x.2).kids[Int.toNat i_1]? =some e_1→Ab (e==e_1) (rA EH x [.bool false,.top,.top]) (inR IntKind.i64 (i_1+(1:Int))∧eN (QQ x i) i_1 [nds x.1,.int .i64 x.2,.box 0 [.int .i64 (Aa x.1 x.2).kind,.str (Aa x.1 x.2).text,Ad (Aa x.1 x.2).kids,.bool (Aa x.1 x.2).blank],.int .i64 i,.int .i64 (i_1+(1:Int))])) (inR IntKind.i64 (i+(1:Int))∧eN (QR x) i [nds x.1,.int .i64 x.2,.box 0 [.int .i64 (Aa x.1 x.2).kind,.str (Aa x.1 x.2).text,Ad (Aa x.1 x.2).kids,.bool (Aa x.1 x.2).blank],.int .i64 (i+(1:Int))]))) (eA (Oj x) [nds x.1,.int .i64 x.2,.box 0 [.int .i64 (Aa x.1 x.2).kind,.str (Aa x.1 x.2).text,Ad (Aa x.1 x.2).kids,.bool (Aa x.1 x.2).blank],.int .i64 (0:Int)]∧∀(i:Int),koI x.1 (Aa x.1 x.2) i→Ab (decide (i<(↑(List.length (Aa x.1 x.2).kids):Int))) (((0:Int)≤i∧i<(↑(List.length (Aa x.1 x.2).kids):Int))∧∀(e:Int),(Aa x.1 x.2).kids[Int.toNat i]? =some e→((0:Int)≤e∧e<(↑(List.length x.1):Int))∧∀(e_1:Nd),x.1[Int.toNat e]? =some e_1→Ab (e_1.kind==(5:Int)) (Ab ((↑(List.length e_1.kids):Int)==(0:Int)) (rA EH x [.bool false,.top,.top]) (((0:Int)≤(0:Int)∧(0:Int)<(↑(List.length e_1.kids):Int))∧∀(e:Int),e_1.kids[(0:Nat)]? =some e→inR IntKind.i64 ((↑(List.length x.1):Int)-(1:Int))∧cA Bq [.int .i64 e,.int .i64 (0:Int),.int .i64 ((↑(List.length x.1):Int)-(1:Int))] fun x_6 y=>Ab (!inn x_6.1 x_6.2.1 x_6.2.2) (rA EH x [.bool false,.top,.top]) (cA Dd [nds x.1,.int .i64 x.2,.int .i64 i] fun x_7 y=>Ab (!KH x_7) (rA EH x [.bool false,.top,.top]) (inR IntKind.i64 (i+(1:Int))∧(eN (Oj x) i [nds x.1,.int .i64 x.2,.box 0 [.int .i64 (Aa x.1 x.2).kind,.str (Aa x.1 x.2).text,Ad (Aa x.1 x.2).kids,.bool (Aa x.1 x.2).blank],.int .i64 (i+(1:Int))]))))) (cA Dd [nds x.1,.int .i64 x.2,.int .i64 i] fun x_6 y=>Ab (!KH x_6) (rA EH x [.bool false,.top,.top]) (inR IntKind.i64 (i+(1:Int))∧(eN (Oj x) i [nds x.1,.int .i64 x.2,.box 0 [.int .i64 (Aa x.1 x.2).kind,.str (Aa x.1 x.2).text,Ad (Aa x.1 x.2).kids,.bool (Aa x.1 x.2).blank],.int .i64 (i+(1:Int))])))) (rA EH x [.bool true,.top,.top]))))))) (fun x=>by kernel_rfl) fun(x:List Nd×Int) (hx:CH x.1)=>(by
 dsimp only[cA,eA,eN,Ad,Mq,QR,QQ,Oj,Bg,nds,rA,Bq,Dm,Dd,HF,ET,EH,Aq,Aw,mvL,lnL,mvE,lnE,mvG,mvH,lnG,lnH,AZ]
 have h1:CH x.1:=hx;have hl:=h1.1
 by_cases hn:Bh x.1 x.2=true
 case neg=>
  (repeat' first|(with_reducible first|rfl|exact True.intro|apply AG|apply And.intro|((first|apply Au|apply AE|apply Av|apply AF)<;>intro _))|(apply As<;>intro _)|apply AD|refine Af () ?_ ?_|((first|apply AK|apply AJ|apply AI|apply AH|apply AC|apply AB|apply AA|apply Az|apply Ax)<;>try dsimp only)|apply Af|(refine Prod.forall.2 ?_;intro _;try dsimp only)|(intro _;try dsimp only))
  all_goals first
   |exact a1V ‹_›
   |(have hh:=(show inn x.2 0 (x.1.length-1)=true by assumption);rw[Ip] at hh;exact(hn hh).elim)
   |((try simp only[Ai]);omega)
 case pos=>
 have hr:=Bc.1 hn
 obtain⟨z,hz⟩:∃z,x.1[x.2.toNat]? =some z:=⟨x.1[x.2.toNat],by simp⟩
 have hzo:=h1.2 _ (AY hz)
 have hi:inn x.2 0 (x.1.length-1)=true:=by rw[Ip];exact hn
 simp only[hz,Option.some.injEq,forall_eq',Bd hz]
 (repeat' first|(with_reducible first|rfl|exact True.intro|apply AG|apply And.intro|((first|apply Au|apply AE|apply Av|apply AF)<;>intro _))|(apply As<;>intro _)|apply AD|refine Af () ?_ ?_|((first|apply AK|apply AJ|apply AI|apply AH|apply AC|apply AB|apply AA|apply Az|apply Ax)<;>try dsimp only)|apply Af|(refine Prod.forall.2 ?_;intro _;try dsimp only)|(intro _;try dsimp only))
 all_goals first
  |rfl
  |assumption
  |exact a1p
  |exact b2v
  |exact b2D (‹nkI _ _ _›.1)
  |exact a1V ‹_›
  |exact⟨by assumption,by assumption,by assumption,by simp [a1U, *]⟩
  |exact b2z hz hi (b2C ‹_› ‹_›)
  |exact b2A hz hi (b2F ‹_› ‹_› ‹_› ‹_› ‹_›)
  |exact b2E ‹_› ‹_› ‹_› ‹_› ‹_›
  |exact b2G ‹_› ‹_› ‹_› ‹_› ‹_›
  |exact QP hz hi (QN (‹koI _ _ _›.1) ‹_› (ko1 ‹_› ‹_› ‹_›))
  |exact QP hz hi (QN (‹koI _ _ _›.1) ‹_› (ko2 ‹_› ‹_› ‹_› ‹_›))
  |exact QP hz hi (QN (‹koI _ _ _›.1) ‹_› ((ko4 ‹_› ‹_›).trans (QO hz ‹_› ‹_›)))
  |exact QP hz hi (QN (‹koI _ _ _›.1) ‹_› ((ko3 ‹_› ‹_› ‹_› ‹_›).trans (QO hz ‹_› ‹_›)))
  |exact a1T ‹_› ‹_› ((ko4 ‹_› ‹_›).trans (QO hz ‹_› ‹_›))
  |exact a1T ‹_› ‹_› ((ko3 ‹_› ‹_› ‹_› ‹_›).trans (QO hz ‹_› ‹_›))
  |exact b2x h1 hn hz (Of ‹_› ‹_›).1 ‹_› ‹_› ‹_› ‹_› ‹_›
  |exact b2y h1 hn hz (Of ‹_› ‹_›).1 ‹_› ‹_› ‹_› ‹_›
  |exact b2B hz hi (‹jI _›.1) (‹jI _›.2.1) (‹jI _›.2.2.1) (‹jI _›.2.2.2) (Of ‹_› ‹_›) (b2w ‹_› ‹_›)
  |(rw[Oi hz hi];simp [a1U, *];done)
  |exact hzo.1
  |(have:=VO ‹_› ‹_› hr.2 (AY (show z.kids[_]? =some _ by assumption));omega)
  |((try simp only[Ai]);omega)
  |(have hko:=(show koI _ _ _ by assumption);have hk2:=hzo.2;have:=hko.1;have:=hko.2.1;(try simp only[Ai]);omega)
  |(have hko:=(show djI _ _ _ by assumption);have hk1:=(show nkI _ _ _ by assumption);have hk2:=hzo.2;have:=hko.1;have:=hko.2.1;have:=hk1.1;have:=hk1.2.1;(try simp only[Ai]);omega)
  |(have hk1:=(show nkI _ _ _ by assumption);have hk2:=hzo.2;have:=hk1.1;have:=hk1.2.1;(try simp only[Ai]);omega)
  |skip)
def sdp(ns:List Nd)(i:Nat)(ds:List Int):Int:=
 if Cc ns i=true∧(i=0∨ds.getD (i-1) 0≠0) then(if 14≤mx ds (Aa ns i).kids 0 then 0 else mx ds (Aa ns i).kids 0+1) else 0
def sds(ns:List Nd):Nat→List Int
 |0=>[]
 |n+1=>sds ns n++[sdp ns n (sds ns n)]
theorem Hb{ns:List Nd}:∀ {n:Nat},(sds ns n).length=n
 |0=>rfl
 |n+1=>by rw[sds,List.length_append,Hb];rfl
theorem a1W{ns:List Nd}:∀ {n:Nat},(match BN ns n with|some ds=>sds ns n=ds|none=>0<n∧(sds ns n).getD (n-1) 0=0)
 |0=>by simp [BN,sds]
 |n+1=>by
  have ih:= @a1W ns n
  unfold BN
  cases hd:BN ns n with
  |none=>
   rw[hd] at ih
   simp only
   refine⟨by omega,?_⟩
   have hz:sdp ns n (sds ns n)=0:=by
    unfold sdp;rw[if_neg];rintro⟨_,h|h⟩
    ·omega
    ·exact h ih.2
   rw[sds,hz,List.getD,List.getElem?_append_right (by rw[Hb];omega),Hb];simp
  |some ds=>
   rw[hd] at ih
   simp only at ih ⊢
   by_cases hn:Cc ns n=true
   ·rw[if_pos hn]
    have hprev:n=0∨(sds ns n).getD (n-1) 0≠0:=by
     by_cases e:n=0
     ·exact .inl e
     ·right
      rw[ih,List.getD]
      have hl:=Jl hd
      have:ds[n-1]? =some ds[n-1]:=by simp
      rw[this];have:=Mc hd ds[n-1] (by simp);simp;omega
    have hs:sdp ns n (sds ns n)=if 14≤mx ds (Aa ns n).kids 0 then 0 else mx ds (Aa ns n).kids 0+1:=by
     unfold sdp;rw[if_pos ⟨hn,hprev⟩,ih]
    by_cases hm:14≤mx ds (Aa ns n).kids 0
    ·rw[if_pos hm];simp only
     refine⟨by omega,?_⟩
     rw[sds,hs,if_pos hm,List.getD,List.getElem?_append_right (by rw[Hb];omega),Hb];simp
    ·rw[if_neg hm];simp only
     rw[sds,hs,if_neg hm,ih]
   ·rw[if_neg hn];simp only
    refine⟨by omega,?_⟩
    have hz:sdp ns n (sds ns n)=0:=by unfold sdp;rw[if_neg (fun h=>hn h.1)]
    rw[sds,hz,List.getD,List.getElem?_append_right (by rw[Hb];omega),Hb];simp
theorem b2I{ns:List Nd}{k:Int}{v:Int}(h:Bh ns k=true)(hv:(sds ns (k.toNat+1))[k.toNat]? =some v):v=BA ns k:=by
 have ih:= @a1W ns (k.toNat+1)
 unfold BA;rw[if_pos h]
 cases hd:BN ns (k.toNat+1) with
 |none=>rw[hd] at ih;simp only at ih ⊢;have:=ih.2;rw[List.getD] at this;simp [hv] at this;exact this
 |some ds=>rw[hd] at ih;simp only at ih ⊢;rw[←ih,List.getD,hv];rfl
theorem VS{ns:List Nd}:∀ {n:Nat},∀d∈sds ns n,0≤d∧d≤14
 |0,d,h=>by simp [sds] at h
 |n+1,d,h=>by
  rw[sds] at h
  rcases List.mem_append.1 h with h|h
  ·exact VS d h
  ·simp at h;subst h
   have:=Qq (sds ns n) (Aa ns n).kids 0
   unfold sdp;split
   ·split<;>omega
   ·omega
def okB(ns:List Nd)(i:Int):Bool:=Cc ns i&&(decide (i=0)|| !decide ((sds ns i.toNat).getD (i.toNat-1) 0=0))
theorem a1X{ns:List Nd}{i:Int}(h:0≤i):sdp ns i.toNat (sds ns i.toNat)=if okB ns i then(if 14≤mx (sds ns i.toNat) (Aa ns i).kids 0 then 0 else mx (sds ns i.toNat) (Aa ns i).kids 0+1) else 0:=by
 have e:((i.toNat:Nat):Int)=i:=by omega
 unfold sdp;rw[e]
 have hb:okB ns i=true↔Cc ns i=true∧(i.toNat=0∨(sds ns i.toNat).getD (i.toNat-1) 0≠0):=by
  unfold okB
  simp only[Bool.and_eq_true,Bool.or_eq_true,decide_eq_true_eq,Bool.not_eq_true',decide_eq_false_iff_not]
  constructor
  ·rintro⟨h1,h2⟩;exact⟨h1,h2.imp (fun h=>by omega) id⟩
  ·rintro⟨h1,h2⟩;exact⟨h1,h2.imp (fun h=>by omega) id⟩
 by_cases h1:okB ns i=true
 ·rw[if_pos h1,if_pos (hb.1 h1)]
 ·rw[if_neg h1,if_neg (fun h2=>h1 (hb.2 h2))]
def eI(ns:List Nd)(i j d:Int):Prop:=(okB ns i=true→j≤(Aa ns i).kids.length∧1≤d∧d≤15∧mx (sds ns i.toNat) ((Aa ns i).kids.drop j.toNat) (d-1)=mx (sds ns i.toNat) (Aa ns i).kids 0)∧0≤j∧(okB ns i=false→d=0)
theorem b2J{ns:List Nd}{i:Int}:eI ns i 0 (if okB ns i then 1 else 0):=by
 refine⟨fun h=> ?_,by omega,fun h=> ?_⟩
 ·rw[if_pos h];refine⟨by omega,by omega,by omega,by simp⟩
 ·rw[h];rfl
theorem QS{ns:List Nd}{i j d:Int}(h:eI ns i j d)(hd:d>0):okB ns i=true:=by
 cases hb:okB ns i
 ·have:=h.2.2 hb;omega
 ·rfl
theorem a1Y{ns:List Nd}{i:Int}(h:okB ns i=true):Cc ns i=true:=by
 simp only[okB,Bool.and_eq_true] at h;exact h.1
theorem b2K{ns:List Nd}{i j d c:Int}{y:Nd}(h:eI ns i j d)(hd:d>0)(hy:ns[i.toNat]? =some y)(hc:y.kids[j.toNat]? =some c):0≤c∧c<i:=by
 have:=(Dc (a1Y (QS h hd))).2.2.2.1
 rw[Bd hy] at this;exact this c (AY hc)
theorem b2L{ns:List Nd}{i j d:Int}{y:Nd}(h:eI ns i j d)(hd:d>0)(hy:ns[i.toNat]? =some y):y.kids.length≤12:=by
 have:=(Dc (a1Y (QS h hd))).2.1
 rwa [Bd hy] at this
theorem b2M{ns:List Nd}{i j d c v d':Int}{y:Nd}(h:eI ns i j d)(hd:d>0)(hy:ns[i.toNat]? =some y)(hc:y.kids[j.toNat]? =some c)(hv:(sds ns i.toNat)[c.toNat]? =some v)(hd':d'-1=max (d-1) v):eI ns i (j+1) d':=by
 have hb:=QS h hd
 obtain⟨h1,h2,h3,h4⟩:=h.1 hb
 have h0:=h.2.1
 have hr:=VS v (AY hv)
 rw[Bd hy] at h4 h1
 have:=(Cm hc).1
 refine⟨fun _=> ?_,by omega,fun hh=>by rw[hb] at hh;cases hh⟩
 rw[Bd hy]
 refine⟨by omega,by omega,by omega,?_⟩
 rw[←h4,Dq hc,BD h0,mx,List.getD,hv,Option.getD_some,hd']
theorem b2N{ns:List Nd}{i:Int}{c:Nat}{v:Int}(hv:(sds ns i.toNat)[c]? =some v):0≤v∧v≤14:=VS v (AY hv)
theorem b2O{ns:List Nd}{i j d:Int}{y:Nd}(hi:0≤i)(h:eI ns i j d)(hd:d>0)(hy:ns[i.toNat]? =some y)(hl:¬j<y.kids.length):sds ns i.toNat++[if d>14 then 0 else d]=sds ns (i+1).toNat:=by
 have hb:=QS h hd
 obtain⟨h1,h2,h3,h4⟩:=h.1 hb
 rw[Bd hy,List.drop_eq_nil_of_le (by omega),mx] at h4
 rw[BD hi,sds,a1X hi,if_pos hb,Bd hy,←h4]
 congr 2
 by_cases h5:d>14
 ·rw[if_pos h5,if_pos (by omega)]
 ·rw[if_neg h5,if_neg (by omega)];omega
theorem b2P{ns:List Nd}{i j d:Int}(hi:0≤i)(h:eI ns i j d)(hd:¬d>0):sds ns i.toNat++[d]=sds ns (i+1).toNat:=by
 have hb:okB ns i=false:=by
  cases hb:okB ns i
  ·rfl
  ·have:=(h.1 hb).2.1;omega
 rw[BD hi,sds,a1X hi,hb,h.2.2 hb];rfl
theorem b2Q{ns:List Nd}{i:Int}(h:Cc ns i=false):0=if okB ns i=true then(1:Int) else 0:=by simp [okB,h]
theorem b2R{ns:List Nd}{i v:Int}(h:i>0)(hv:(sds ns i.toNat)[(i-1).toNat]? =some v)(h0:v=0):0=if okB ns i=true then(1:Int) else 0:=by
 have e:(i-1).toNat=i.toNat-1:=by omega
 rw[e] at hv;subst h0
 have:(sds ns i.toNat).getD (i.toNat-1) 0=0:=by rw[List.getD,hv];rfl
 simp only[okB,this,decide_true,Bool.not_true,Bool.or_false]
 rw[decide_eq_false (by omega)];simp
theorem b2S{ns:List Nd}{i:Int}(h:Cc ns i=true)(h0:0≤i)(h1:¬i>0):1=if okB ns i=true then(1:Int) else 0:=by
 obtain rfl:i=0:=by omega
 simp [okB,h]
theorem b2T{ns:List Nd}{i v:Int}(h:Cc ns i=true)(h0:i>0)(hv:(sds ns i.toNat)[(i-1).toNat]? =some v)(h1:v≠0):1=if okB ns i=true then(1:Int) else 0:=by
 have e:(i-1).toNat=i.toNat-1:=by omega
 rw[e] at hv
 have:(sds ns i.toNat).getD (i.toNat-1) 0≠0:=by rw[List.getD,hv];exact h1
 simp only[okB,h,this,decide_false,Bool.not_false,Bool.or_true,Bool.and_true,if_true]
def Ok(x:List Nd×Int)(o:Int):LS:= {
 ι:=Int×Int,inv:=fun i=>eI x.1 o i.1 i.2,
 regs:=fun i=>[(0,nds x.1),(1,.int .i64 x.2),(5,AW (sds x.1 o.toNat)),(6,.int .i64 o),(7,.int .i64 i.2),(8,.int .i64 i.1)],als:=[],meas:=fun i=>(Aa x.1 o).kids.length-i.1.toNat}
def Mr(x:List Nd×Int)(o:Int):LS:= {
 ι:=Unit,inv:=fun _=>True,
 regs:=fun i=>[(0,nds x.1),(1,.int .i64 x.2),(5,AW (sds x.1 o.toNat)),(6,.int .i64 o),(7,.int .i64 (if okB x.1 o then 1 else 0))],als:=[],meas:=fun i=>0}
def lDs(x:List Nd×Int):LS:= {
 ι:=Int,inv:=fun i=>0≤i∧i≤x.2+1,
 regs:=fun i=>[(0,nds x.1),(1,.int .i64 x.2),(5,AW (sds x.1 i.toNat)),(6,.int .i64 i)],als:=[],meas:=fun i=>(x.2+1-i).toNat,sub:=fun i=>[(9,Ok x i),(200008,Mr x i)]}
def KI:Sig:= {X:=List Nd×Int,args:=fun x=>[nds x.1,.int .i64 x.2],pre:=fun x=>CH x.1∧x.1.length≤2^30∧Bh x.1 x.2=true,Y:=Unit,post:=fun x y=>True,res:=fun x y=>AW (sds x.1 (x.2.toNat+1)),outs:=fun x y=>[.top,.top],keep:=false}
def Ol(x:List Nd×Int)(i:Int)(x_1:Int):Prop:=∃(zs:List Int),AW [x_1]=AW zs∧(BH CE∧(Bb (List.length (sds x.1 (Int.toNat i))+List.length zs) (8:Nat)∧inR IntKind.i64 (i+(1:Int))∧(eN (lDs x) i [nds x.1,.int .i64 x.2,AW (sds x.1 (Int.toNat i)++zs),.int .i64 (i+(1:Int))])))
theorem b2U:Ah G Tryz.prog 84 KI:=
 vcFun_okP [(119,0,EH)] [(38,⟨Int,CE⟩)] false (fun x=>[(3,lDs x)]) Tryz.func84 rfl (by decide) ⟨b2H,trivial⟩ (fun(x:List Nd×Int)=>(∀(y:Unit),True→(∀(x:Int),True∧True)∧True∧True∧True)∧eA (lDs x) [nds x.1,.int .i64 x.2,AW [],.int .i64 (0:Int)]∧∀(i:Int),(0:Int)≤i∧i≤x.2+(1:Int)→Ab (decide (i≤x.2)) (Ab (decide (i<(↑(List.length x.1):Int))) ((cA EH [nds x.1,.int .i64 i] fun x_1 y=>Ab (!Cc x_1.1 x_1.2) (eA (Mr x i) [nds x.1,.int .i64 x.2,AW (sds x.1 (Int.toNat i)),.int .i64 i,.int .i64 (0:Int)]) (Ab (decide (i>(0:Int))) (inR IntKind.i64 (i-(1:Int))∧((0:Int)≤i-(1:Int)∧i-(1:Int)<(↑(List.length (sds x.1 (Int.toNat i))):Int))∧Int.toNat (i-(1:Int))<List.length (sds x.1 (Int.toNat i))∧∀(x_2:Int),(sds x.1 (Int.toNat i))[Int.toNat (i-(1:Int))]? =some x_2→Ab (x_2==(0:Int)) (eA (Mr x i) [nds x.1,.int .i64 x.2,AW (sds x.1 (Int.toNat i)),.int .i64 i,.int .i64 (0:Int)]) (eA (Mr x i) [nds x.1,.int .i64 x.2,AW (sds x.1 (Int.toNat i)),.int .i64 i,.int .i64 (1:Int)])) (eA (Mr x i) [nds x.1,.int .i64 x.2,AW (sds x.1 (Int.toNat i)),.int .i64 i,.int .i64 (1:Int)])))∧∀(i_1:Unit),True→eA (Ok x i) [nds x.1,.int .i64 x.2,AW (sds x.1 (Int.toNat i)),.int .i64 i,.int .i64 (if okB x.1 i=true then(1:Int) else(0:Int)),.int .i64 (0:Int)]∧∀(i_2:Int×Int),eI x.1 i i_2.1 i_2.2→Ab (decide (i_2.2>(0:Int))) (((0:Int)≤i∧i<(↑(List.length x.1):Int))∧∀(e:Nd),x.1[Int.toNat i]? =some e→Ab (decide (i_2.1<(↑(List.length e.kids):Int))) (((0:Int)≤i∧i<(↑(List.length x.1):Int))∧∀(e:Nd),x.1[Int.toNat i]? =some e→((0:Int)≤i_2.1∧i_2.1<(↑(List.length e.kids):Int))∧∀(e_1:Int),e.kids[Int.toNat i_2.1]? =some e_1→((0:Int)≤e_1∧e_1<(↑(List.length (sds x.1 (Int.toNat i))):Int))∧Int.toNat e_1<List.length (sds x.1 (Int.toNat i))∧∀(x_1:Int),(sds x.1 (Int.toNat i))[Int.toNat e_1]? =some x_1→inR IntKind.i64 (x_1+(1:Int))∧Ab (decide (x_1+(1:Int)>i_2.2)) (((0:Int)≤i∧i<(↑(List.length x.1):Int))∧∀(e:Nd),x.1[Int.toNat i]? =some e→((0:Int)≤i_2.1∧i_2.1<(↑(List.length e.kids):Int))∧∀(e_2:Int),e.kids[Int.toNat i_2.1]? =some e_2→((0:Int)≤e_2∧e_2<(↑(List.length (sds x.1 (Int.toNat i))):Int))∧Int.toNat e_2<List.length (sds x.1 (Int.toNat i))∧∀(x_2:Int),(sds x.1 (Int.toNat i))[Int.toNat e_2]? =some x_2→inR IntKind.i64 (x_2+(1:Int))∧inR IntKind.i64 (i_2.1+(1:Int))∧eN (Ok x i) i_2 [nds x.1,.int .i64 x.2,AW (sds x.1 (Int.toNat i)),.int .i64 i,.int .i64 (x_2+(1:Int)),.int .i64 (i_2.1+(1:Int))]) (inR IntKind.i64 (i_2.1+(1:Int))∧eN (Ok x i) i_2 [nds x.1,.int .i64 x.2,AW (sds x.1 (Int.toNat i)),.int .i64 i,.int .i64 i_2.2,.int .i64 (i_2.1+(1:Int))])) (Ab (decide (i_2.2>(14:Int))) (∃(x_1:Int),(0:Int)=x_1∧(Ol x i x_1)) (∃(x_1:Int),i_2.2=x_1∧(Ol x i x_1)))) (Ab (decide (i_2.2>(14:Int))) (∃(x_1:Int),(0:Int)=x_1∧(Ol x i x_1)) (∃(x_1:Int),i_2.2=x_1∧(Ol x i x_1)))) (rA KI x [AW (sds x.1 (Int.toNat i)),.top,.top])) (rA KI x [AW (sds x.1 (Int.toNat i)),.top,.top])) (fun x=>by kernel_rfl) fun(x:List Nd×Int) (hx:CH x.1∧x.1.length≤2^30∧Bh x.1 x.2=true)=>(by
 dsimp only[Ol,cA,eA,eN,lDs,Ok,Mr,Bg,nds,AW,rA,KI,EH,Aq,Aw,mvL,lnL,mvE,lnE,mvG,mvH,lnG,lnH,AZ]
 obtain⟨h1,h2,h3⟩:=hx;have hl:=h1.1;have hn:=Bc.1 h3
 (repeat' first|(with_reducible first|rfl|exact True.intro|apply AG|apply And.intro|((first|apply Au|apply AE|apply Av|apply AF)<;>intro _))|(apply As<;>intro _)|apply AD|refine Af () ?_ ?_|((first|apply AK|apply AJ|apply AI|apply AH|apply AC|apply AB|apply AA|apply Az|apply Ax)<;>try dsimp only)|apply Af|(refine Prod.forall.2 ?_;intro _;try dsimp only)|(intro _;try dsimp only))
 all_goals first
  |rfl
  |omega
  |exact b2Q ‹_›
  |exact b2R ‹_› ‹_› ‹_›
  |exact b2S ‹_› (by omega) ‹_›
  |exact b2T ‹_› ‹_› ‹_› ‹_›
  |exact b2J
  |(rw[Hb];omega)
  |skip
 all_goals try(repeat(rename x.1[Int.toNat _]? =some _=>hq;revert hq;rename x.1[Int.toNat _]? =some _=>hr;intro hq;rw[hr] at hq;cases hq))
 all_goals try(repeat(rename(Nd.kids _)[Int.toNat _]? =some _=>hq;revert hq;rename(Nd.kids _)[Int.toNat _]? =some _=>hr;intro hq;rw[hr] at hq;cases hq))
 all_goals try(rename(sds x.1 _)[Int.toNat _]? =some _=>hq;revert hq;rename(sds x.1 _)[Int.toNat _]? =some _=>hr2;intro hq;have hqq:=hr2.symm.trans hq;simp only[Option.some.injEq] at hqq;subst hqq)
 all_goals try(have hke:=b2K ‹_› ‹_› ‹_› ‹_›)
 all_goals try(have hle:=b2L ‹_› ‹_› ‹_›)
 all_goals try(have hve:=b2N ‹_›)
 all_goals try(have hse:=(show eI _ _ _ _ by assumption).2.1)
 all_goals first
  |omega
  |(rw[Hb];omega)
  |((try simp only[Ai]);omega)
  |exact b2M ‹_› ‹_› ‹_› ‹_› ‹_› (by omega)
  |(rw[←b2O (by omega) ‹_› ‹_› ‹_› ‹_›];simp [*];done)
  |exact b2P (by omega) ‹_› ‹_›
  |(rw[Bd ‹_›];omega)
  |(congr 1;omega)
  |(simp only[Bb,Hb,List.length_cons,List.length_nil];omega)
  |skip)
def EU:Sig:= {X:=List Nd×Int,args:=fun x=>[nds x.1,.int .i64 x.2],pre:=fun x=>CH x.1∧x.1.length≤2^30,Y:=Unit,post:=fun x y=>True,res:=fun x y=> .int .i64 (BA x.1 x.2),outs:=fun x y=>[.top,.top],keep:=false}
theorem QT:Ah G Tryz.prog 44 EU:=
 vcFun_okP [(45,0,Bq),(84,0,KI)] [] false (fun x=>[]) Tryz.func44 rfl (by decide) ⟨Gx,b2U,trivial⟩ (fun(x:List Nd×Int)=>(∀(y:Unit),True→True∧True∧True∧True)∧inR IntKind.i64 ((↑(List.length x.1):Int)-(1:Int))∧cA Bq [.int .i64 x.2,.int .i64 (0:Int),.int .i64 ((↑(List.length x.1):Int)-(1:Int))] fun x_1 y=>Ab (!inn x_1.1 x_1.2.1 x_1.2.2) (rA EU x [.int .i64 (0:Int),.top,.top]) (cA KI [nds x.1,.int .i64 x.2] fun x_2 y=>((0:Int)≤x.2∧x.2<(↑(List.length (sds x_2.1 (Int.toNat x_2.2+(1:Nat)))):Int))∧Int.toNat x.2<List.length (sds x_2.1 (Int.toNat x_2.2+(1:Nat)))∧∀(x_3:Int),(sds x_2.1 (Int.toNat x_2.2+(1:Nat)))[Int.toNat x.2]? =some x_3→rA EU x [.int .i64 x_3,.top,.top])) (fun x=>by kernel_rfl) fun(x:List Nd×Int) (hx:CH x.1∧x.1.length≤2^30)=>(by
 dsimp only[cA,Bg,nds,AW,rA,Bq,KI,EU,Aq,Aw,mvL,lnL,mvE,lnE,mvG,mvH,lnG,lnH]
 obtain⟨h1,h2⟩:=hx;have hl:=h1.1
 (repeat' first|(with_reducible first|rfl|exact True.intro|apply AG|apply And.intro|((first|apply Au|apply AE|apply Av|apply AF)<;>intro _))|(apply As<;>intro _)|apply AD|refine Af () ?_ ?_|((first|apply AK|apply AJ|apply AI|apply AH|apply AC|apply AB|apply AA|apply Az|apply Ax)<;>try dsimp only)|apply Af|(refine Prod.forall.2 ?_;intro _;try dsimp only)|(intro _;try dsimp only))
 all_goals first
  |exact h1
  |exact h2
  |((try simp only[Ai]);omega)
  |(rw[Ip] at*;exact a1y ‹_›)
  |(have hh:=(show inn x.2 0 (x.1.length-1)=true by assumption);rw[Ip] at hh;have:=Bc.1 hh;first|exact hh|omega|exact b2I hh ‹_› |(rw[Hb];omega))
  |skip)
theorem a1Z{ns:List Nd}{i v:Int}(hv:(cnt ns.length (Cd ns))[i.toNat]? =some v)(h0:0≤i):((Cd ns).count i:Int)=v:=by
 have h:i.toNat<ns.length:=by have:=(Cm hv).1;rwa [FW] at this
 rw[KG h] at hv
 have e2:((i.toNat:Nat):Int)=i:=by omega
 rw[e2] at hv;exact Option.some.inj hv
theorem b2V{ns:List Nd}{i v:Int}(h:tE ns i)(hl:i+1<(ns.length:Int))(hv:(cnt ns.length (Cd ns))[i.toNat]? =some v)(h1:v=1):tE ns (i+1):=by
 have:=a1Z hv h.1
 refine⟨by have:=h.1;omega,by omega,fun c hc=> ?_⟩
 by_cases e:(c:Int)<i
 ·exact h.2.2 c e
 ·have:=h.1
  obtain rfl:i=(c:Int):=by omega
  omega
theorem VT{ns:List Nd}{i j c:Int}{y:Nd}(h:tI ns)(hy:ns[i.toNat]? =some y)(hc:y.kids[j.toNat]? =some c):0≤c∧c<ns.length:=(Og h hy).2 c (AY hc)
theorem b2W{ns:List Nd}{i:Int}{y:Nd}(h:tI ns)(hy:ns[i.toNat]? =some y):y.kids.length≤12:=(Og h hy).1
theorem b2X{ns:List Nd}{i j c:Int}{y:Nd}(h0:0≤j)(hy:ns[i.toNat]? =some y)(hc:y.kids[j.toNat]? =some c):tk ns i (j+1)=tk ns i j++[c]:=a1C h0 (by rw[Bd hy];exact hc)
theorem b2Y{ns:List Nd}{i j:Int}{y:Nd}(h0:0≤i)(hy:ns[i.toNat]? =some y)(hl:¬j<y.kids.length):tk ns i j=Cd (ns.take (i+1).toNat):=a1D h0 hy (by rw[Bd hy];exact hl)
def QU(x:List Nd)(o:Int):LS:= {
 ι:=Int,inv:=fun j=>0≤j∧j≤(Aa x o).kids.length,
 regs:=fun j=>[(0,nds x),(3,.int .i64 x.length),(4,AW (cnt x.length (tk x o j))),(5,.int .i64 o),(6,.int .i64 j)],als:=[],meas:=fun j=>(Aa x o).kids.length-j.toNat}
def QV(x:List Nd):LS:= {
 ι:=Int,inv:=fun i=>0≤i∧i≤x.length,
 regs:=fun i=>[(0,nds x),(3,.int .i64 x.length),(4,AW (cnt x.length (Cd (x.take i.toNat)))),(5,.int .i64 i)],als:=[],meas:=fun i=>x.length-i.toNat,
 sub:=fun i=>[(9,QU x i)]}
def QW(x:List Nd):LS:= {
 ι:=Int,inv:=tE x,
 regs:=fun i=>[(3,.int .i64 x.length),(4,AW (cnt x.length (Cd x))),(7,.int .i64 i)],als:=[],meas:=fun i=>x.length-i.toNat}
def HG:Sig:= {X:=List Nd,args:=fun x=>[nds x],pre:=fun x=>CH x∧x.length≤2^30,Y:=Unit,post:=fun x y=>True,res:=fun x y=> .bool (DZ x),outs:=fun x y=>[.top],keep:=false}
theorem b2Z:Ah G Tryz.prog 68 HG:=
 vcFun_okP [(45,0,Bq),(44,0,EU)] [(38,⟨Int,CE⟩)] false (fun x=>[(6,QV x),(13,QW x)]) Tryz.func68 rfl (by decide) ⟨Gx,QT,trivial⟩ (fun(x:List Nd)=>(∀(y:Unit),True→True∧True∧True)∧cA Bq [.int .i64 (↑(List.length x):Int),.int .i64 (1:Int),.int .i64 (300:Int)] fun x_1 y=>Ab (!inn x_1.1 x_1.2.1 x_1.2.2) (rA HG x [.bool false,.top]) (inR IntKind.i64 ((↑(List.length x):Int)-(1:Int))∧((0:Int)≤(↑(List.length x):Int)-(1:Int)∧(↑(List.length x):Int)-(1:Int)<(↑(List.length x):Int))∧∀(e:Nd),x[Int.toNat ((↑(List.length x):Int)-(1:Int))]? =some e→Ab (e.kind != (22:Int)) (rA HG x [.bool false,.top]) (inR IntKind.i64 ((↑(List.length x):Int)-(1:Int))∧cA EU [nds x,.int .i64 ((↑(List.length x):Int)-(1:Int))] fun x_2 y=>Ab (BA x_2.1 x_2.2==(0:Int)) (rA HG x [.bool false,.top]) (((0:Int)≤(↑(List.length x):Int)∧(↑(List.length x):Int)≤(↑(List.length x):Int)∧(↑(8:Nat):Int)*(↑(List.length x):Int)≤(2:Int)^(46:Nat)∧(↑(List.length x):Int)≤(2:Int)^(46:Nat))∧∃(x_3:Int),(0:Int)=x_3∧eA (QV x) [nds x,.int .i64 (↑(List.length x):Int),AW (List.replicate (Int.toNat (↑(List.length x):Int)) x_3),.int .i64 (0:Int)]∧∀(i:Int),(0:Int)≤i∧i≤(↑(List.length x):Int)→Ab (decide (i<(↑(List.length x):Int))) (eA (QU x i) [nds x,.int .i64 (↑(List.length x):Int),AW (cnt (List.length x) (Cd (List.take (Int.toNat i) x))),.int .i64 i,.int .i64 (0:Int)]∧∀(i_1:Int),(0:Int)≤i_1∧i_1≤(↑(List.length (Aa x i).kids):Int)→((0:Int)≤i∧i<(↑(List.length x):Int))∧∀(e:Nd),x[Int.toNat i]? =some e→Ab (decide (i_1<(↑(List.length e.kids):Int))) (((0:Int)≤i∧i<(↑(List.length x):Int))∧∀(e:Nd),x[Int.toNat i]? =some e→((0:Int)≤i_1∧i_1<(↑(List.length e.kids):Int))∧∀(e_1:Int),e.kids[Int.toNat i_1]? =some e_1→((0:Int)≤e_1∧e_1<(↑(List.length (cnt (List.length x) (tk x i i_1))):Int))∧Int.toNat e_1<List.length (cnt (List.length x) (tk x i i_1))∧∀(x_4:Int),(cnt (List.length x) (tk x i i_1))[Int.toNat e_1]? =some x_4→inR IntKind.i64 (x_4+(1:Int))∧((0:Int)≤e_1∧e_1<(↑(List.length (cnt (List.length x) (tk x i i_1))):Int))∧Int.toNat e_1<List.length (cnt (List.length x) (tk x i i_1))∧∀(x_5:Int),(cnt (List.length x) (tk x i i_1))[Int.toNat e_1]? =some x_5→∃(x':Int),((@List.nil AV)=[]∧(@List.nil AV)=[])∧x_4+(1:Int)=x'∧inR IntKind.i64 (i_1+(1:Int))∧eN (QU x i) i_1 [nds x,.int .i64 (↑(List.length x):Int),AW (List.set (cnt (List.length x) (tk x i i_1)) (Int.toNat e_1) x'),.int .i64 i,.int .i64 (i_1+(1:Int))]) (inR IntKind.i64 (i+(1:Int))∧eN (QV x) i [nds x,.int .i64 (↑(List.length x):Int),AW (cnt (List.length x) (tk x i i_1)),.int .i64 (i+(1:Int))])) (eA (QW x) [.int .i64 (↑(List.length x):Int),AW (cnt (List.length x) (Cd (List.take (Int.toNat i) x))),.int .i64 (0:Int)]∧∀(i:Int),tE x i→inR IntKind.i64 (i+(1:Int))∧Ab (decide (i+(1:Int)<(↑(List.length x):Int))) (((0:Int)≤i∧i<(↑(List.length (cnt (List.length x) (Cd x))):Int))∧Int.toNat i<List.length (cnt (List.length x) (Cd x))∧∀(x_4:Int),(cnt (List.length x) (Cd x))[Int.toNat i]? =some x_4→Ab (x_4 != (1:Int)) (rA HG x [.bool false,.top]) (inR IntKind.i64 (i+(1:Int))∧eN (QW x) i [.int .i64 (↑(List.length x):Int),AW (cnt (List.length x) (Cd x)),.int .i64 (i+(1:Int))])) (rA HG x [.bool true,.top])))))) (fun x=>by kernel_rfl) fun(x:List Nd) (hx:CH x∧x.length≤2^30)=>(by
 dsimp only[cA,eA,eN,QV,QU,QW,Bg,nds,AW,rA,Bq,EU,HG,Aq,Aw,mvL,lnL,mvE,lnE,mvG,mvH,lnG,lnH,AZ]
 obtain⟨h1,h2⟩:=hx;have hl:=h1.1
 (repeat' first|(with_reducible first|rfl|exact True.intro|apply AG|apply And.intro|((first|apply Au|apply AE|apply Av|apply AF)<;>intro _))|(apply As<;>intro _)|apply AD|refine Af () ?_ ?_|((first|apply AK|apply AJ|apply AI|apply AH|apply AC|apply AB|apply AA|apply Az|apply Ax)<;>try dsimp only)|apply Af|(refine Prod.forall.2 ?_;intro _;try dsimp only)|(intro _;try dsimp only))
 all_goals try(have t1:=Br.1 (show inn x.length 1 300=true by assumption))
 all_goals try(have t0:=a1J ‹_› ‹_› ‹_› ‹_›)
 all_goals try(repeat(rename x[Int.toNat _]? =some _=>hq;revert hq;rename x[Int.toNat _]? =some _=>hr;intro hq;rw[hr] at hq;cases hq))
 all_goals try(repeat(rename(Nd.kids _)[Int.toNat _]? =some _=>hq;revert hq;rename(Nd.kids _)[Int.toNat _]? =some _=>hr;intro hq;rw[hr] at hq;cases hq))
 all_goals try(simp only[Bd (show x[Int.toNat _]? =some _ by assumption)] at*)
 all_goals first
  |rfl
  |exact Mp (a1K ‹_›)
  |exact Mp (a1L ‹_› ‹_›)
  |exact Mp (fun h=>h.2.2.2 ‹_›)
  |exact a1z
  |(rw[a1B];done)
  |(have:=VT ‹_› ‹_› (show(Nd.kids _)[Int.toNat _]? =some _ by assumption);(try rw[FW]);omega)
  |(rw[b2X (by omega) ‹_› ‹_›];exact a1A (VT ‹_› ‹_› ‹_›).1 (VT ‹_› ‹_› ‹_›).2 ‹_›)
  |(rw[b2Y (by omega) ‹_› ‹_›];done)
  |(rw[a1M ‹_›];done)
  |(have:=a1I ‹_› ‹_› ‹_›;omega)
  |exact a1F ‹_› ‹_› (by omega)
  |exact a1G (a1Z ‹_› (‹tE _ _›.1)) (‹tE _ _›.1) (by omega) ‹_›
  |exact b2V ‹_› ‹_› ‹_› ‹_›
  |exact⟨by omega,by omega,fun c hc=>by omega⟩
  |((try simp only[Ai,Bb,List.length_replicate,FW] at*);omega)
  |(have:=b2W ‹_› ‹_›;(try simp only[Ai] at*);omega)
  |(have hte:=(show tE x _ by assumption);have:=hte.1;have:=hte.2.1;(try rw[FW]);(try simp only[Ai] at*);omega)
  |skip)
end Go.My
end
section
namespace Go.My
open Go.Eng
def Bv(ns:List Nd)(k:Int):Prop:=Bh ns k=true∧∀i:Nat,(i:Int)≤k→Cc ns i=true
theorem HH{ns:List Nd}{k:Int}(h:BA ns k≠0):Bv ns k:=⟨(Oa h).1,(Oa h).2.2⟩
theorem Ed{ns:List Nd}{k:Int}(h:Bv ns k):Cc ns k=true:=by
 have:=Bc.1 h.1
 have h2:=h.2 k.toNat (by omega)
 rwa [show((k.toNat:Nat):Int)=k by omega] at h2
theorem Cv{ns:List Nd}{k c:Int}(h:Bv ns k)(hc:c∈(Aa ns k).kids):Bv ns c∧0≤c∧c<k:=by
 have h1:=(Dc (Ed h)).2.2.2.1 c hc
 have h2:=Bc.1 h.1
 exact⟨⟨Bc.2 (by omega),fun i hi=>h.2 i (by omega)⟩,h1⟩
theorem VU(f:Int→Nat):∀(n:Nat) (V:List Int),V.Nodup→(∀p∈V,0≤p∧p<n)→(V.map f).sum≤((List.range n).map fun i:Nat=>f i).sum
 |0,V,_,h=>by
  have:V=[]:=by
   cases V with
   |nil=>rfl
   |cons p V=>have:=h p (by simp);omega
  subst this;simp
 |n+1,V,hn,h=>by
  rw[List.range_succ,List.map_append,List.sum_append]
  by_cases hm:(n:Int)∈V
  ·have hp:=List.perm_cons_erase hm
   have e:(V.map f).sum=f n+((V.erase n).map f).sum:=by
    have:=(hp.map f).sum_nat
    rw[this];simp
   have h2:=VU f n (V.erase n) (hn.erase _) (fun p hp=>by
    have h3:=(List.Nodup.mem_erase_iff hn).1 hp
    have:=h p h3.2
    have h4:=h3.1
    omega)
   rw[e];simp;omega
  ·have h2:=VU f n V hn (fun p hp=>by
    have:=h p hp
    have:p≠n:=fun e=>hm (e▸hp)
    omega)
   simp;omega
structure Sg where
 kind:Int
 text:List UInt8
 pos:Int
 blank:Bool
def kd(x:Nd)(i:Nat):Int:=x.kids.getD i 0
theorem Ct{x:Nd}{i:Nat}{c:Int}(h:x.kids[i]? =some c):kd x i=c:=by simp [kd,List.getD,h]
theorem Iq{ns:List Nd}{k:Int}(h:Bv ns k):(1≤(Aa ns k).kind∧(Aa ns k).kind≤22)∧(CO (Aa ns k).kind).1≤(Aa ns k).kids.length∧(Aa ns k).kids.length≤(CO (Aa ns k).kind).2:=by
 have h1:=Dc (Ed h)
 have hk:=h1.2.2.2.2.2.1
 have hin:inn (Aa ns k).kind 1 22=true:=by
  cases hh:inn (Aa ns k).kind 1 22
  ·rw[a1j hh] at hk;cases hk
  ·rfl
 have h2:=Br.1 hin
 have hb:=a1i (l:=(Aa ns k).kids.map (Al ns)) h2.1 h2.2
 rw[hk] at hb
 have hl:decide (((Aa ns k).kids.map (Al ns)).length≤12)=true:=decide_eq_true (by rw[List.length_map];exact h1.2.1)
 rw[hl] at hb
 simp only[Bool.and_true,Bool.and_eq_true,List.length_map] at hb
 exact⟨h2,Br.1 hb.1⟩
structure Ru where
 vals:Int
 cost:Int
structure Ch where
 text:List UInt8
 rule:Int
 fr:Int
 space:Bool
 nest:Int
structure Sn where
 fr:Int
 tuu:Int
 cost:Int
structure Ti where
 kid:Int
 up:Int
structure Pc where
 ind:Int
 rules:List Ru
 chunks:List Ch
 spans:List Sn
 ties:List Ti
def ruA:Ru→List AV:=fun r=>[.int .i64 r.vals,.int .i64 r.cost]
def chA:Ch→List AV:=fun c=>[.str c.text,.int .i64 c.rule,.int .i64 c.fr,.bool c.space,.int .i64 c.nest]
def snA:Sn→List AV:=fun s=>[.int .i64 s.fr,.int .i64 s.tuu,.int .i64 s.cost]
def tiA:Ti→List AV:=fun t=>[.int .i64 t.kid,.int .i64 t.up]
theorem Bj(r:Ru):ruA r=[.int .i64 r.vals,.int .i64 r.cost]:=rfl
theorem Bl(c:Ch):chA c=[.str c.text,.int .i64 c.rule,.int .i64 c.fr,.bool c.space,.int .i64 c.nest]:=rfl
theorem Bm(s:Sn):snA s=[.int .i64 s.fr,.int .i64 s.tuu,.int .i64 s.cost]:=rfl
theorem Bn(t:Ti):tiA t=[.int .i64 t.kid,.int .i64 t.up]:=rfl
def pcA(o:Bool)(p:Pc):List AV:=[.int .i64 p.ind,.sl o 0 2 Ru ruA p.rules,.sl o 0 5 Ch chA p.chunks,.sl o 0 3 Sn snA p.spans,.sl o 0 2 Ti tiA p.ties]
structure Bs where
 rules:List Ru
 chunks:List Ch
 spans:List Sn
 ties:List Ti
 text:List UInt8
def FX(rd:Bool)(s:Bs):Bool:=rd&&decide (s.rules.length<8)
def Be(rd:Bool)(v c:Int)(s:Bs):Bs:=if FX rd s then⟨s.rules++[⟨v,c⟩],s.chunks,s.spans,s.ties,s.text⟩ else s
def AM(rd:Bool)(s:Bs):Int:=if FX rd s then s.rules.length else-1
def Am(t:List UInt8)(s:Bs):Bs:=⟨s.rules,s.chunks,s.spans,s.ties,s.text++t⟩
def AU(r fr:Int)(sp:Bool)(nest:Int)(s:Bs):Bs:=
 if 0≤r∧s.chunks.length<79 then⟨s.rules,s.chunks++[⟨s.text,r,fr,sp,min nest 40⟩],s.spans,s.ties,[]⟩
 else if sp then Am [32] s else s
def CI(kid up:Int)(s:Bs):Bs:=if(0≤kid∧0≤up)∧s.ties.length<20 then⟨s.rules,s.chunks,s.spans,s.ties++[⟨kid,up⟩],s.text⟩ else s
def Fk(fr:Int)(s:Bs):Bs:=if fr≤(s.chunks.length:Int)-1∧s.spans.length<40 then⟨s.rules,s.chunks,s.spans++[⟨fr,(s.chunks.length:Int)-1,1⟩],s.ties,s.text⟩ else s
def DB(n:Nat)(s:Bs):Int:=if n<s.rules.length then n else-1
def up4(a:Int):Int:=min (a+4) 40
def itL(f:Int→Int→Bs→Bs)(r g inner:Int):List Int→Bool→Bs→Bs
 |[],_,s=>s
 |c::l,first,s=>itL f r g inner l false (f c inner (if first then s else AU r g true inner (Am [44] s)))
def Ee(rd:Bool)(f:Int→Int→Bs→Bs)(op:List UInt8)(ks:List Int)(en:List UInt8)(a:Int)(s:Bs):Bs:=
 if ks=[] then Am en (Am op s)
 else Am en (AU (AM rd (Am op s)) 1 false a
  (itL f (AM rd (Am op s)) (min ks.length 2) (up4 a) ks true (AU (AM rd (Am op s)) 1 false (up4 a) (Be rd (min ks.length 2+1) 1 (Am op s)))))
def Ir(ns:List Nd)(f:Int→Int→Bs→Bs)(r inner:Int)(c:Int)(s:Bs):Bs:=
 (fun s2=>if Al ns c=1∨Al ns c=2∨Al ns c=3 then s2 else Fk s.chunks.length s2)
   (if Al ns c=7 then CI (DB s.rules.length (f c inner s)) r (f c inner s) else f c inner s)
def chL(ns:List Nd)(f:Int→Int→Bs→Bs)(r inner:Int)(t:List UInt8):List Int→Bool→Bs→Bs
 |[],_,s=>s
 |c::l,first,s=>chL ns f r inner t l false (Ir ns f r inner c (if first then s else AU r 1 true inner (Am (32::t) s)))
def KJ(ns:List Nd)(rd:Bool)(f:Int→Int→Bs→Bs)(x:Nd)(inner:Int)(s:Bs):Bs:=chL ns f (AM rd s) inner x.text x.kids true (Be rd 2 1 s)
def pkT(i:Int):List UInt8:=if i=0 then [] else if i=1 then [63,32] else [58,32]
def It(ns:List Nd)(f:Int→Int→Bs→Bs)(r inner:Int)(c:Int)(s:Bs):Bs:=
 if Al ns c=8 then CI (DB s.rules.length (f c inner s)) r (f c inner s) else f c inner s
def pkL(ns:List Nd)(f:Int→Int→Bs→Bs)(r inner:Int):List Int→Int→Bs→Bs
 |[],_,s=>s
 |c::l,i,s=>pkL ns f r inner l (i+1) (It ns f r inner c (if i=0 then s else Am (pkT i) (AU r 1 true inner s)))
def Ms(ns:List Nd)(rd:Bool)(f:Int→Int→Bs→Bs)(x:Nd)(inner:Int)(s:Bs):Bs:=pkL ns f (AM rd s) inner x.kids 0 (Be rd 2 1 s)
def DC(ns:List Nd):List Int→Bool→List UInt8
 |[],_=>[]
 |c::l,first=>(if first then [] else [44,32])++(Aa ns c).text++DC ns l false
def CW(ns:List Nd)(x:Nd):List UInt8:=40::(DC ns (x.kids.take (x.kids.length-1)) true++[41])
def bFn(ns:List Nd)(rd:Bool)(f:Int→Int→Bs→Bs)(x:Nd)(inner:Int)(s:Bs):Bs:=
 f (kd x (x.kids.length-1)) inner (AU (AM rd (Am (CW ns x++[32,61,62]) s)) 1 true inner (Be rd 2 2 (Am (CW ns x++[32,61,62]) s)))
def caL(f:Int→Int→Bs→Bs)(r inner:Int):List Int→Bs→Bs
 |[],s=>s
 |c::l,s=>caL f r inner l (f c inner (Am [46,46] (AU r 1 false inner s)))
def b3a(rd:Bool)(f:Int→Int→Bs→Bs)(x:Nd)(a:Int)(s:Bs):Bs:=caL f (AM rd s) (up4 a) (x.kids.drop 1) (f (kd x 0) a (Be rd 2 1 s))
def bV1(ns:List Nd)(rd:Bool)(f:Int→Int→Bs→Bs)(x:Nd)(a:Int)(s:Bs):Bs:=
 if x.kind=1∨x.kind=2∨x.kind=3 then Am x.text s
 else if x.kind=11 then Am [41] (f (kd x 0) a (Am [40] s))
 else if x.kind=6 then Am (46::x.text) (f (kd x 0) a s)
 else if x.kind=4 then Ee rd f [91] x.kids [93] a s
 else if x.kind=5 then Ee rd f [40] (x.kids.drop 1) [41] a (f (kd x 0) a s)
 else if x.kind=7 then KJ ns rd f x (up4 a) s
 else if x.kind=8 then Ms ns rd f x (up4 a) s
 else if x.kind=9 then bFn ns rd f x (up4 a) s
 else b3a rd f x a s
def bV(ns:List Nd)(rd:Bool):Nat→Int→Int→Bs→Bs
 |0,_,_,s=>s
 |n+1,k,a,s=>bV1 ns rd (bV ns rd n) (Aa ns k) a s
def GF(rd:Bool)(x:Nd)(s:Bs):Int:=if x.kind=7∨x.kind=8 then AM rd s else-1
def Ck(l:List Ch):Nat:=(l.map fun c=>c.text.length).sum
def tot(s:Bs):Nat:=Ck s.chunks+s.text.length
structure bLe (rd:Bool) (m:Nat) (s t:Bs):Prop where
 ru:s.rules.length≤t.rules.length
 ch:s.chunks.length≤t.chunks.length
 sp:s.spans.length≤t.spans.length
 ti:s.ties.length≤t.ties.length
 tt:tot t≤tot s+m
 fu:FX rd s=false→t.rules=s.rules
theorem FB{rd:Bool}{s:Bs}:bLe rd 0 s s:=⟨Nat.le_refl _,Nat.le_refl _,Nat.le_refl _,Nat.le_refl _,by omega,fun _=>rfl⟩
theorem b3b{rd:Bool}{s t:Bs}(h:t.rules=s.rules):FX rd t=FX rd s:=by simp [FX,h]
theorem BP{rd:Bool}{m n:Nat}{s t u:Bs}(h:bLe rd m s t)(g:bLe rd n t u):bLe rd (m+n) s u:=
 ⟨by have:=h.ru;have:=g.ru;omega,by have:=h.ch;have:=g.ch;omega,by have:=h.sp;have:=g.sp;omega,by have:=h.ti;have:=g.ti;omega,by have:=h.tt;have:=g.tt;omega,
   fun hr=>by have h1:=h.fu hr;rw[g.fu (by rw[b3b h1];exact hr),h1]⟩
theorem Cw{rd:Bool}{m n:Nat}{s t:Bs}(h:bLe rd m s t)(hm:m≤n):bLe rd n s t:=⟨h.ru,h.ch,h.sp,h.ti,by have:=h.tt;omega,h.fu⟩
theorem a2a{l m:List Ch}:Ck (l++m)=Ck l+Ck m:=by simp [Ck]
theorem Ef{rd:Bool}{t:List UInt8}{s:Bs}:bLe rd t.length s (Am t s):=
 ⟨Nat.le_refl _,Nat.le_refl _,Nat.le_refl _,Nat.le_refl _,by simp [tot,Am];omega,fun _=>rfl⟩
theorem Mt{rd:Bool}{v c:Int}{s:Bs}:bLe rd 0 s (Be rd v c s):=by
 unfold Be
 split
 ·rename_i h
  exact⟨by simp,Nat.le_refl _,Nat.le_refl _,Nat.le_refl _,by simp [tot],fun hf=>by rw[h] at hf;cases hf⟩
 ·exact FB
theorem GG{rd:Bool}{r fr nest:Int}{sp:Bool}{s:Bs}:bLe rd 1 s (AU r fr sp nest s):=by
 unfold AU
 split
 ·exact⟨Nat.le_refl _,by simp,Nat.le_refl _,Nat.le_refl _,by simp [tot,a2a,Ck],fun _=>rfl⟩
 ·split
  ·exact Ef (t:=[32])
  ·exact Cw FB (by omega)
theorem VV{rd:Bool}{k u:Int}{s:Bs}:bLe rd 0 s (CI k u s):=by
 unfold CI
 split
 ·exact⟨Nat.le_refl _,Nat.le_refl _,Nat.le_refl _,by simp,by simp [tot],fun _=>rfl⟩
 ·exact FB
theorem b3c{rd:Bool}{f:Int}{s:Bs}:bLe rd 0 s (Fk f s):=by
 unfold Fk
 split
 ·exact⟨Nat.le_refl _,Nat.le_refl _,by simp,Nat.le_refl _,by simp [tot],fun _=>rfl⟩
 ·exact FB
structure bOk (s:Bs):Prop where
 ru:s.rules.length≤8
 ch:s.chunks.length≤79
 sp:s.spans.length≤40
 ti:s.ties.length≤20
theorem Eg{t:List UInt8}{s:Bs}(h:bOk s):bOk (Am t s):=⟨h.ru,h.ch,h.sp,h.ti⟩
theorem Mu{rd:Bool}{v c:Int}{s:Bs}(h:bOk s):bOk (Be rd v c s):=by
 unfold Be;split
 ·rename_i hr
  simp [FX] at hr
  exact⟨by simp;omega,h.ch,h.sp,h.ti⟩
 ·exact h
theorem GH{r fr nest:Int}{sp:Bool}{s:Bs}(h:bOk s):bOk (AU r fr sp nest s):=by
 unfold AU;split
 ·exact⟨h.ru,by simp;omega,h.sp,h.ti⟩
 ·split
  ·exact Eg h
  ·exact h
theorem VW{k u:Int}{s:Bs}(h:bOk s):bOk (CI k u s):=by
 unfold CI;split
 ·exact⟨h.ru,h.ch,h.sp,by simp;omega⟩
 ·exact h
theorem b3d{f:Int}{s:Bs}(h:bOk s):bOk (Fk f s):=by
 unfold Fk;split
 ·exact⟨h.ru,h.ch,by simp;omega,h.ti⟩
 ·exact h
def stp(rd:Bool)(w:Int→Nat)(f:Int→Int→Bs→Bs)(l:List Int):Prop:=∀c∈l,∀a s,bLe rd (w c) s (f c a s)∧(bOk s→bOk (f c a s))
def wL(w:Int→Nat)(l:List Int):Nat:=(l.map w).sum
theorem De{w:Int→Nat}{c:Int}{l:List Int}:wL w (c::l)=w c+wL w l:=by simp [wL]
theorem b3e{w:Int→Nat}{l m:List Int}:wL w (l++m)=wL w l+wL w m:=by simp [wL]
theorem QX{rd:Bool}{w:Int→Nat}{f:Int→Int→Bs→Bs}{c:Int}{l:List Int}(h:stp rd w f (c::l)):stp rd w f l:=fun d hd=>h d (by simp [hd])
theorem a2b{rd:Bool}{w:Int→Nat}{f:Int→Int→Bs→Bs}{r g inner:Int}:∀ {l:List Int} {first:Bool} {s:Bs},stp rd w f l→
 bLe rd (2*l.length+wL w l) s (itL f r g inner l first s)∧(bOk s→bOk (itL f r g inner l first s))
 |[],first,s,h=>⟨Cw FB (by simp),id⟩
 |c::l,first,s,h=>by
  have h1:bLe rd 2 s (if first then s else AU r g true inner (Am [44] s))∧(bOk s→bOk (if first then s else AU r g true inner (Am [44] s))):=by
   split
   ·exact⟨Cw FB (by omega),id⟩
   ·exact⟨BP (m:=1) (n:=1) (Ef (t:=[44])) GG,fun ho=>GH (Eg ho)⟩
  have h2:=h c (by simp) inner (if first then s else AU r g true inner (Am [44] s))
  have h3:=a2b (r:=r) (g:=g) (inner:=inner) (first:=false) (s:=f c inner (if first then s else AU r g true inner (Am [44] s))) (QX h)
  rw[itL]
  exact⟨Cw (BP (BP h1.1 h2.1) h3.1) (by rw[De,List.length_cons];omega),fun ho=>h3.2 (h2.2 (h1.2 ho))⟩
theorem a2c{rd:Bool}{w:Int→Nat}{f:Int→Int→Bs→Bs}{op en:List UInt8}{ks:List Int}{a:Int}{s:Bs}(h:stp rd w f ks)(ho:op.length≤1)(he:en.length≤1)(hk:ks.length≤12):
 bLe rd (28+wL w ks) s (Ee rd f op ks en a s)∧(bOk s→bOk (Ee rd f op ks en a s)):=by
 unfold Ee
 split
 ·exact⟨Cw (BP Ef Ef) (by omega),fun h=>Eg (Eg h)⟩
 ·have h3:=a2b (r:=AM rd (Am op s)) (g:=min ks.length 2) (inner:=up4 a) (first:=true) (s:=AU (AM rd (Am op s)) 1 false (up4 a) (Be rd (min ks.length 2+1) 1 (Am op s))) h
  refine⟨Cw (BP (BP (BP (BP (BP Ef Mt) GG) h3.1) GG) Ef) (by omega),fun hh=>Eg (GH (h3.2 (GH (Mu (Eg hh)))))⟩
theorem a2d{rd:Bool}{w:Int→Nat}{ns:List Nd}{f:Int→Int→Bs→Bs}{r inner c:Int}{s:Bs}(h:∀a s,bLe rd (w c) s (f c a s)∧(bOk s→bOk (f c a s))):
 bLe rd (w c) s (Ir ns f r inner c s)∧(bOk s→bOk (Ir ns f r inner c s)):=by
 have h1:=h inner s
 have h2:bLe rd (w c) s (if Al ns c=7 then CI (DB s.rules.length (f c inner s)) r (f c inner s) else f c inner s)∧(bOk s→bOk (if Al ns c=7 then CI (DB s.rules.length (f c inner s)) r (f c inner s) else f c inner s)):=by
  split
  ·exact⟨BP (n:=0) h1.1 VV,fun ho=>VW (h1.2 ho)⟩
  ·exact h1
 unfold Ir
 simp only
 split
 ·exact h2
 ·exact⟨BP (n:=0) h2.1 b3c,fun ho=>b3d (h2.2 ho)⟩
theorem VX{rd:Bool}{w:Int→Nat}{ns:List Nd}{f:Int→Int→Bs→Bs}{r inner:Int}{t:List UInt8}(ht:t.length≤2):∀ {l:List Int} {first:Bool} {s:Bs},stp rd w f l→
 bLe rd (4*l.length+wL w l) s (chL ns f r inner t l first s)∧(bOk s→bOk (chL ns f r inner t l first s))
 |[],first,s,h=>⟨Cw FB (by simp),id⟩
 |c::l,first,s,h=>by
  have h1:bLe rd 4 s (if first then s else AU r 1 true inner (Am (32::t) s))∧(bOk s→bOk (if first then s else AU r 1 true inner (Am (32::t) s))):=by
   split
   ·exact⟨Cw FB (by omega),id⟩
   ·exact⟨Cw (BP (n:=1) Ef GG) (by simp;omega),fun ho=>GH (Eg ho)⟩
  have h2:=a2d (ns:=ns) (r:=r) (inner:=inner) (s:=if first then s else AU r 1 true inner (Am (32::t) s)) (h c (by simp))
  have h3:=VX (ns:=ns) (r:=r) (inner:=inner) ht (first:=false) (s:=Ir ns f r inner c (if first then s else AU r 1 true inner (Am (32::t) s))) (QX h)
  rw[chL]
  exact⟨Cw (BP (BP h1.1 h2.1) h3.1) (by rw[De,List.length_cons];omega),fun ho=>h3.2 (h2.2 (h1.2 ho))⟩
theorem a2e{rd:Bool}{w:Int→Nat}{ns:List Nd}{f:Int→Int→Bs→Bs}{r inner c:Int}{s:Bs}(h:∀a s,bLe rd (w c) s (f c a s)∧(bOk s→bOk (f c a s))):
 bLe rd (w c) s (It ns f r inner c s)∧(bOk s→bOk (It ns f r inner c s)):=by
 have h1:=h inner s
 unfold It
 split
 ·exact⟨BP (n:=0) h1.1 VV,fun ho=>VW (h1.2 ho)⟩
 ·exact h1
theorem VY{i:Int}:(pkT i).length≤2:=by
 unfold pkT;split
 ·simp
 ·split<;>simp
theorem VZ{rd:Bool}{w:Int→Nat}{ns:List Nd}{f:Int→Int→Bs→Bs}{r inner:Int}:∀ {l:List Int} {i:Int} {s:Bs},stp rd w f l→
 bLe rd (3*l.length+wL w l) s (pkL ns f r inner l i s)∧(bOk s→bOk (pkL ns f r inner l i s))
 |[],i,s,h=>⟨Cw FB (by simp),id⟩
 |c::l,i,s,h=>by
  have h1:bLe rd 3 s (if i=0 then s else Am (pkT i) (AU r 1 true inner s))∧(bOk s→bOk (if i=0 then s else Am (pkT i) (AU r 1 true inner s))):=by
   split
   ·exact⟨Cw FB (by omega),id⟩
   ·exact⟨Cw (BP (m:=1) GG Ef) (by have:= @VY i;omega),fun ho=>Eg (GH ho)⟩
  have h2:=a2e (ns:=ns) (r:=r) (inner:=inner) (s:=if i=0 then s else Am (pkT i) (AU r 1 true inner s)) (h c (by simp))
  have h3:=VZ (ns:=ns) (r:=r) (inner:=inner) (i:=i+1) (s:=It ns f r inner c (if i=0 then s else Am (pkT i) (AU r 1 true inner s))) (QX h)
  rw[pkL]
  exact⟨Cw (BP (BP h1.1 h2.1) h3.1) (by rw[De,List.length_cons];omega),fun ho=>h3.2 (h2.2 (h1.2 ho))⟩
theorem a2f{rd:Bool}{w:Int→Nat}{f:Int→Int→Bs→Bs}{r inner:Int}:∀ {l:List Int} {s:Bs},stp rd w f l→
 bLe rd (3*l.length+wL w l) s (caL f r inner l s)∧(bOk s→bOk (caL f r inner l s))
 |[],s,h=>⟨Cw FB (by simp),id⟩
 |c::l,s,h=>by
  have h1:bLe rd 3 s (Am [46,46] (AU r 1 false inner s))∧(bOk s→bOk (Am [46,46] (AU r 1 false inner s))):=
   ⟨Cw (BP (m:=1) GG Ef) (by simp),fun ho=>Eg (GH ho)⟩
  have h2:=h c (by simp) inner (Am [46,46] (AU r 1 false inner s))
  have h3:=a2f (r:=r) (inner:=inner) (s:=f c inner (Am [46,46] (AU r 1 false inner s))) (QX h)
  rw[caL]
  exact⟨Cw (BP (BP h1.1 h2.1) h3.1) (by rw[De,List.length_cons];omega),fun ho=>h3.2 (h2.2 (h1.2 ho))⟩
def tW(ns:List Nd):Nat→Int→Nat
 |0,_=>0
 |n+1,k=>(Aa ns k).text.length+80+wL (tW ns n) (Aa ns k).kids
theorem a2g{ns:List Nd}{n:Nat}{k:Int}:(Aa ns k).text.length≤tW ns (n+1) k:=by rw[tW];omega
theorem KK{ns:List Nd}{w:Int→Nat}:∀ {l:List Int} {first:Bool},(∀c∈l,(Aa ns c).text.length≤w c)→(DC ns l first).length≤2*l.length+wL w l
 |[],_,_=>by simp [DC]
 |c::l,first,h=>by
  have h1:=KK (l:=l) (first:=false) fun d hd=>h d (by simp [hd])
  have h2:=h c (by simp)
  rw[DC,De,List.length_cons,List.length_append,List.length_append]
  split<;>simp<;>omega
theorem DS{x:Nd}{i:Nat}(h:i<x.kids.length):kd x i∈x.kids:=by
 have e:x.kids[i]? =some x.kids[i]:=List.getElem?_eq_getElem h
 rw[Ct e];exact List.getElem_mem h
theorem Om{w:Int→Nat}{c:Int}:∀ {l:List Int},c∈l→w c≤wL w l
 |[],h=>by cases h
 |d::l,h=>by
  rw[De]
  rcases List.mem_cons.1 h with rfl|h
  ·omega
  ·have:=Om (w:=w) h;omega
theorem Wa{w:Int→Nat}{x:Nd}(h:0<x.kids.length):w (kd x 0)+wL w (x.kids.drop 1)=wL w x.kids:=by
 obtain⟨k,t,ks,b⟩:=x
 match ks,h with
 |c::l,_=>simp [kd,wL]
theorem QY{w:Int→Nat}{x:Nd}(h:0<x.kids.length):wL w (x.kids.take (x.kids.length-1))+w (kd x (x.kids.length-1))=wL w x.kids:=by
 have e:x.kids.drop (x.kids.length-1)=[kd x (x.kids.length-1)]:=by
  have hi:x.kids.length-1<x.kids.length:=by omega
  rw[List.drop_eq_getElem_cons hi,List.drop_of_length_le (by omega),Ct (List.getElem?_eq_getElem hi)]
 have:=b3e (w:=w) (l:=x.kids.take (x.kids.length-1)) (m:=x.kids.drop (x.kids.length-1))
 rw[List.take_append_drop,e] at this
 rw[this];simp [wL]
theorem b3f{rd:Bool}{w:Int→Nat}{ns:List Nd}{f:Int→Int→Bs→Bs}{x:Nd}{a:Int}{s:Bs}(h:stp rd w f x.kids)(hk:x.kids.length≤12)(hlo:(CO x.kind).1≤x.kids.length)(hv:AX x.kind=true)
 (hn:∀c∈x.kids,(Aa ns c).text.length≤w c) (h7:x.kind=7→x.text.length≤2):
 bLe rd (x.text.length+80+wL w x.kids) s (bV1 ns rd f x a s)∧(bOk s→bOk (bV1 ns rd f x a s)):=by
 have hv:=Br.1 hv
 have hpos:x.kind≠1→x.kind≠2→x.kind≠3→x.kind≠4→0<x.kids.length:=by
  intro h1 h2 h3 h4
  unfold CO at hlo
  split at hlo
  ·omega
  ·split at hlo
   ·simp only at hlo;omega
   ·split at hlo
    ·simp only at hlo;omega
    ·split at hlo
     ·simp only at hlo;omega
     ·split at hlo
      ·simp only at hlo;omega
      ·omega
 unfold bV1
 split
 ·exact⟨Cw Ef (by omega),Eg⟩
 rename_i n1
 split
 ·rename_i hk
  have hm:=DS (hpos (by omega) (by omega) (by omega) (by omega))
  have h1:=h _ hm a (Am [40] s)
  have:=Om (w:=w) hm
  exact⟨Cw (BP (BP Ef h1.1) Ef) (by simp;omega),fun ho=>Eg (h1.2 (Eg ho))⟩
 split
 ·have hm:=DS (hpos (by omega) (by omega) (by omega) (by omega))
  have h1:=h _ hm a s
  have:=Om (w:=w) hm
  exact⟨Cw (BP h1.1 Ef) (by simp;omega),fun ho=>Eg (h1.2 ho)⟩
 split
 ·have h1:=a2c (op:=[91]) (en:=[93]) (a:=a) (s:=s) h (by simp) (by simp) hk
  exact⟨Cw h1.1 (by omega),h1.2⟩
 split
 ·have hp:=hpos (by omega) (by omega) (by omega) (by omega)
  have h1:=h _ (DS hp) a s
  have h2:=a2c (rd:=rd) (w:=w) (f:=f) (ks:=x.kids.drop 1) (op:=[40]) (en:=[41]) (a:=a) (s:=f (kd x 0) a s) (fun c hc=>h c (List.mem_of_mem_drop hc)) (by simp) (by simp) (by rw[List.length_drop];omega)
  have:=Wa (w:=w) hp
  exact⟨Cw (BP h1.1 h2.1) (by omega),fun ho=>h2.2 (h1.2 ho)⟩
 split
 ·have h1:=VX (ns:=ns) (r:=AM rd s) (inner:=up4 a) (t:=x.text) (h7 ‹_›) (first:=true) (s:=Be rd 2 1 s) h
  exact⟨Cw (BP (m:=0) Mt h1.1) (by omega),fun ho=>h1.2 (Mu ho)⟩
 split
 ·have h1:=VZ (ns:=ns) (r:=AM rd s) (inner:=up4 a) (i:=0) (s:=Be rd 2 1 s) h
  exact⟨Cw (BP (m:=0) Mt h1.1) (by omega),fun ho=>h1.2 (Mu ho)⟩
 split
 ·have hp:=hpos (by omega) (by omega) (by omega) (by omega)
  have h1:=h _ (DS (x:=x) (i:=x.kids.length-1) (by omega)) (up4 a) (AU (AM rd (Am (CW ns x++[32,61,62]) s)) 1 true (up4 a) (Be rd 2 2 (Am (CW ns x++[32,61,62]) s)))
  have h2:=KK (ns:=ns) (w:=w) (l:=x.kids.take (x.kids.length-1)) (first:=true) fun c hc=>hn c (List.mem_of_mem_take hc)
  have h3:=QY (w:=w) hp
  have h4:(x.kids.take (x.kids.length-1)).length≤12:=by rw[List.length_take];omega
  refine⟨Cw (BP (BP (BP (n:=0) Ef Mt) GG) h1.1) ?_,fun ho=>h1.2 (GH (Mu (Eg ho)))⟩
  simp only[CW,List.length_append,List.length_cons,List.length_nil];omega
 ·have hp:=hpos (by omega) (by omega) (by omega) (by omega)
  have h1:=h _ (DS hp) a (Be rd 2 1 s)
  have h2:=a2f (rd:=rd) (w:=w) (f:=f) (r:=AM rd s) (inner:=up4 a) (l:=x.kids.drop 1) (s:=f (kd x 0) a (Be rd 2 1 s)) fun c hc=>h c (List.mem_of_mem_drop hc)
  have:=Wa (w:=w) hp
  have h4:(x.kids.drop 1).length≤12:=by rw[List.length_drop];omega
  exact⟨Cw (BP (BP (m:=0) Mt h1.1) h2.1) (by omega),fun ho=>h2.2 (h1.2 (Mu ho))⟩
theorem Wb{ns:List Nd}{l:List Int}(h:(l.map (Al ns)).all AX=true):∀c∈l,AX (Al ns c)=true:=by
 intro c hc
 rw[List.all_eq_true] at h
 exact h _ (List.mem_map.2 ⟨c,hc,rfl⟩)
theorem b3g{k:Int}(h:Dz k=true):AX k=true:=by
 simp [Dz] at h;subst h;rfl
theorem b3h{k:Int}(h:EC k=true):AX k=true:=by
 simp [EC] at h;subst h;rfl
theorem b3i{ns:List Nd}{x:Nd}(h:CV x.kind (x.kids.map (Al ns))=true)(hv:AX x.kind=true):∀c∈x.kids,AX (Al ns c)=true:=by
 have hv:=Br.1 hv
 have hc:x.kind=1∨x.kind=2∨x.kind=3∨x.kind=4∨x.kind=5∨x.kind=6∨x.kind=7∨x.kind=8∨x.kind=9∨x.kind=10∨x.kind=11:=by omega
 have h0:∀l:List Int,l.length=0→∀c∈l,AX (Al ns c)=true:=fun l hl c hc=>by
  have:=List.eq_nil_of_length_eq_zero hl;subst this;cases hc
 have ha:∀(p:Bool),(p&&(x.kids.map (Al ns)).all AX)=true→∀c∈x.kids,AX (Al ns c)=true:=fun p hp=>by
  rw[Bool.and_eq_true] at hp;exact Wb hp.2
 have e1:∀k:Int,x.kind=k→CV k (x.kids.map (Al ns))=true:=fun k e=>by rw[←e];exact h
 rcases hc with e|e|e|e|e|e|e|e|e|e|e
 ·have h:=e1 _ e
  simp only[CV,true_or,or_true,if_true,decide_eq_true_eq,List.length_map] at h
  exact h0 _ h
 ·have h:=e1 _ e
  simp only[CV,true_or,or_true,if_true,decide_eq_true_eq,List.length_map] at h
  exact h0 _ h
 ·have h:=e1 _ e
  simp only[CV,true_or,or_true,if_true,decide_eq_true_eq,List.length_map] at h
  exact h0 _ h
 ·exact Wb (e1 _ e)
 ·exact ha _ (e1 _ e)
 ·exact ha _ (e1 _ e)
 ·exact ha _ (e1 _ e)
 ·exact ha _ (e1 _ e)
 ·have h:ED AX (x.kids.map (Al ns))=true:=e1 _ e
  unfold ED at h
  split at h
  ·rename_i k hk
   rw[Bool.and_eq_true,List.all_eq_true] at h
   intro c hc
   have hm:Al ns c∈x.kids.map (Al ns):=List.mem_map.2 ⟨c,hc,rfl⟩
   rw[a1f hk] at hm
   rcases List.mem_append.1 hm with hm|hm
   ·exact b3g (h.2 _ hm)
   ·simp at hm;rw[hm];exact h.1
  ·cases h
 ·have h:(decide (2≤(x.kids.map (Al ns)).length)&&(AX ((x.kids.map (Al ns)).headD 0)&&((x.kids.map (Al ns)).drop 1).all EC))=true:=e1 _ e
  simp only[Bool.and_eq_true,List.all_eq_true] at h
  intro c hc
  match hx:x.kids with
  |[]=>rw[hx] at hc;cases hc
  |d::l=>
   rw[hx] at h hc
   simp only[List.map_cons,List.headD_cons,List.drop_succ_cons,List.drop_zero] at h
   rcases List.mem_cons.1 hc with rfl|hc
   ·exact h.2.1
   ·exact b3h (h.2.2 _ (List.mem_map.2 ⟨c,hc,rfl⟩))
 ·exact ha _ (e1 _ e)
theorem Mv{ns:List Nd}{k c:Int}(h:Bv ns k)(hv:AX (Al ns k)=true)(hc:c∈(Aa ns k).kids):AX (Al ns c)=true:=
 b3i (Dc (Ed h)).2.2.2.2.2.1 hv c hc
theorem a2h{s:List UInt8}(h:Il s=true):s.length≤2:=by
 simp only[Il,Bool.or_eq_true,beq_iff_eq] at h
 rcases h with rfl|rfl|rfl|rfl|rfl|rfl|rfl<;>simp
theorem Wc{ns:List Nd}{k:Int}(h:Bv ns k)(hk:(Aa ns k).kind=7):(Aa ns k).text.length≤2:=by
 have:=(Dc (Ed h)).2.2.1
 rw[hk] at this
 exact a2h (by simpa [Dy] using this)
theorem Mw{ns:List Nd}{rd:Bool}:∀ {n:Nat} {k a:Int} {s:Bs},Bv ns k→k<n→AX (Al ns k)=true→bLe rd (tW ns n k) s (bV ns rd n k a s)∧(bOk s→bOk (bV ns rd n k a s))
 |0,k,a,s,h,hk,_=>by have:=Bc.1 h.1;omega
 |n+1,k,a,s,h,hk,hv=>by
  rw[bV,tW]
  refine b3f (fun c hc a s=> ?_) (Dc (Ed h)).2.1 (Iq h).2.1 hv (fun c hc=> ?_) (Wc h)
  ·have hm:=Cv h hc
   exact Mw hm.1 (by omega) (Mv h hv hc)
  ·have hm:=Cv h hc
   have hr:=Bc.1 h.1
   have:n=(n-1)+1:=by omega
   rw[this];exact a2g
theorem b3j{ns:List Nd}{rd:Bool}{n:Nat}{k:Int}(h:Bv ns k)(hk:k<(n+1:Nat))(hv:AX (Al ns k)=true){l:List Int}(hl:∀c∈l,c∈(Aa ns k).kids):stp rd (tW ns n) (bV ns rd n) l:=by
 intro c hc a s
 have hm:=Cv h (hl c hc)
 exact Mw hm.1 (by omega) (Mv h hv (hl c hc))
theorem a2i{ds:List Int}:∀ {l:List Int} {d c:Int},c∈l→ds.getD c.toNat 0≤mx ds l d
 |[],_,_,h=>by cases h
 |e::l,d,c,h=>by
  rw[mx]
  rcases List.mem_cons.1 h with rfl|h
  ·have:=Qq ds l (max d (ds.getD c.toNat 0));omega
  ·exact a2i h
theorem Wd{l m:List Int}{i:Nat}(h:i<l.length):(l++m).getD i 0=l.getD i 0:=by
 simp [List.getD,List.getElem?_append_left h]
theorem Js{ns:List Nd}:∀ {n:Nat} {ds:List Int},BN ns n=some ds→∀i:Nat,i<n→(1≤ds.getD i 0∧ds.getD i 0≤14)∧∀c∈(Aa ns i).kids,ds.getD c.toNat 0+1≤ds.getD i 0
 |0,_,_,i,hi=>by omega
 |n+1,ds,h,i,hi=>by
  have hall:=Mc h
  have hlen:=Jl h
  have h0:1≤ds.getD i 0∧ds.getD i 0≤14:=by
   have:ds[i]? =some ds[i]:=by simp
   simp only[List.getD,this,Option.getD_some]
   exact hall _ (by simp)
  refine⟨h0,?_⟩
  unfold BN at h
  split at h
  ·cases h
  ·rename_i ds' hd
   have hl:=Jl hd
   split at h
   ·rename_i hok
    split at h
    ·cases h
    ·simp at h
     have hp:=(Dc hok).2.2.2.1
     by_cases e:i=n
     ·subst e
      intro c hc
      have hcr:=hp c hc
      rw[←h,Wd (by omega)]
      have:(ds'++[mx ds' (Aa ns i).kids 0+1]).getD i 0=mx ds' (Aa ns i).kids 0+1:=by
       simp [List.getD,List.getElem?_append_right,hl]
      rw[this]
      have:= @a2i ds' (Aa ns i).kids 0 c hc
      omega
     ·intro c hc
      have hi2:i<n:=by omega
      have hcr:=(Dc (Vu hd i hi2)).2.2.2.1 c hc
      rw[←h,Wd (by omega),Wd (by omega)]
      exact(Js hd i hi2).2 c hc
   ·cases h
def txS(ns:List Nd):Nat:=((List.range ns.length).map fun i:Nat=>(Aa ns i).text.length).sum
theorem a2j{ns:List Nd}{V:List Int}(hn:V.Nodup)(h:∀p∈V,0≤p∧p<ns.length):(V.map fun c=>(Aa ns c).text.length).sum≤txS ns:=VU _ _ V hn h
theorem a2k{ns:List Nd}{k:Int}(h:0≤k∧k<ns.length):(Aa ns k).text.length≤txS ns:=by
 have:=a2j (ns:=ns) (V:=[k]) (by simp) (by simpa using h)
 simpa using this
theorem QZ{s:List UInt8}(h:Da s=true):s.length≤30:=by
 simp only[Da,Bool.and_eq_true] at h
 have:=h.1
 rw[VA] at this
 cases s with
 |nil=>simp
 |cons c t=>
  simp only[Bool.and_eq_true,decide_eq_true_eq] at this
  omega
theorem b3k{ns:List Nd}{k:Int}(h:Bv ns k)(hv:AX (Al ns k)=true)(h4:4≤Al ns k):(Aa ns k).text.length≤30:=by
 have ht:=(Dc (Ed h)).2.2.1
 have hv:=Br.1 hv
 unfold Al at hv h4
 unfold Dy at ht
 split at ht
 ·exact QZ ht
 split at ht
 ·omega
 split at ht
 ·omega
 split at ht
 ·omega
 split at ht
 ·have:=a2h ht;omega
 ·simp at ht;simp [ht]
theorem b3l{ns:List Nd}{k:Int}(h:Bv ns k)(hv:AX (Al ns k)=true)(h4:¬4≤Al ns k):(Aa ns k).kids=[]:=by
 have hs:=(Iq h).2.2
 have hv:=Br.1 hv
 unfold Al at hv h4
 have:(CO (Aa ns k).kind).2=0:=by
  have:(Aa ns k).kind=1∨(Aa ns k).kind=2∨(Aa ns k).kind=3:=by omega
  rcases this with e|e|e<;>rw[e]<;>rfl
 rw[this] at hs
 exact List.eq_nil_of_length_eq_zero (by omega)
theorem Jt{w:Int→Nat}{b:Nat}:∀ {l:List Int},(∀c∈l,w c≤b)→wL w l≤l.length*b
 |[],_=>by simp [wL]
 |c::l,h=>by
  have h1:=h c (by simp)
  have h2:=Jt (w:=w) (l:=l) fun d hd=>h d (by simp [hd])
  rw[De,List.length_cons,Nat.succ_mul];omega
theorem We{ns:List Nd}{K:Nat}{ds:List Int}(hd:BN ns K=some ds):∀ {n:Nat} {k:Int} (d:Nat),Bv ns k→k<n→k<K→AX (Al ns k)=true→ds.getD k.toNat 0≤d→
 (d≤1→tW ns n k≤(Aa ns k).text.length+80)∧(2≤d→tW ns n k+10≤12^(d-2)*(txS ns+1200))
 |0,k,d,h,hk,_,_,_=>by have:=Bc.1 h.1;omega
 |n+1,k,d,h,hk,hK,hv,hle=>by
  have hr:=Bc.1 h.1
  have hat:=Js hd k.toNat (by omega)
  rw[show((k.toNat:Nat):Int)=k by omega] at hat
  have hkid:∀c∈(Aa ns k).kids,Bv ns c∧(0≤c∧c<k)∧AX (Al ns c)=true∧ds.getD c.toNat 0≤(d-1:Nat)∧1≤ds.getD c.toNat 0:=by
   intro c hc
   have hm:=Cv h hc
   have h1:=hat.2 c hc
   have h2:=(Js hd c.toNat (by omega)).1
   exact⟨hm.1,hm.2,Mv h hv hc,by omega,by omega⟩
  have hlen:=(Dc (Ed h)).2.1
  have hT:=a2k hr
  refine⟨fun h1=> ?_,fun h2=> ?_⟩
  ·have:(Aa ns k).kids=[]:=by
    match hx:(Aa ns k).kids with
    |[]=>rfl
    |c::l=>
     have:=hkid c (by rw[hx];simp)
     omega
   rw[tW,this];simp [wL]
  ·by_cases h4:4≤Al ns k
   ·have ht:=b3k h hv h4
    by_cases e:d=2
    ·subst e
     have h3:∀l:List Int,(∀c∈l,c∈(Aa ns k).kids)→wL (tW ns n) l≤(l.map fun c=>(Aa ns c).text.length).sum+l.length*80:=by
      intro l
      induction l with
      |nil=>intro _;simp [wL]
      |cons c l ih=>
       intro hl
       have hc:=hkid c (hl c (by simp))
       have h5:=(We hd (n:=n) (k:=c) 1 hc.1 (by omega) (by omega) hc.2.2.1 (by omega)).1 (by omega)
       have h6:=ih fun e he=>hl e (by simp [he])
       rw[De,List.map_cons,List.sum_cons,List.length_cons];omega
     have h7:=h3 _ (fun c hc=>hc)
     have h8:=a2j (ns:=ns) (Dc (Ed h)).2.2.2.2.1 (fun c hc=>by have:=(hkid c hc).2.1;omega)
     rw[tW]
     have:12^(2-2)=1:=rfl
     rw[this];omega
    ·have h3:∀c∈(Aa ns k).kids,tW ns n c≤12^(d-1-2)*(txS ns+1200)-10:=by
      intro c hc
      have hc':=hkid c hc
      have h5:=(We hd (n:=n) (k:=c) (d-1) hc'.1 (by omega) (by omega) hc'.2.2.1 (by omega)).2 (by omega)
      omega
     have h5:=Jt h3
     have h6:(Aa ns k).kids.length*(12^(d-1-2)*(txS ns+1200)-10)≤12*(12^(d-1-2)*(txS ns+1200)-10):=Nat.mul_le_mul_right _ hlen
     have h7:12^(d-2)*(txS ns+1200)=12*(12^(d-1-2)*(txS ns+1200)):=by
      rw[show d-2=(d-1-2)+1 by omega,Nat.pow_succ,Nat.mul_comm (12^(d-1-2)) 12,Nat.mul_assoc]
     have h8:1200≤12^(d-1-2)*(txS ns+1200):=by
      have:1≤12^(d-1-2):=Nat.one_le_pow _ _ (by omega)
      calc 1200≤1*(txS ns+1200):=by omega
       _≤_:=Nat.mul_le_mul_right _ this
     rw[tW,h7];omega
   ·rw[tW,b3l h hv h4]
    have:1≤12^(d-2):=Nat.one_le_pow _ _ (by omega)
    have h9:txS ns+1200≤12^(d-2)*(txS ns+1200):=by
     calc txS ns+1200=1*(txS ns+1200):=by omega
      _≤_:=Nat.mul_le_mul_right _ this
    simp [wL];omega
theorem b3m{ns:List Nd}{K:Nat}{ds:List Int}(hd:BN ns K=some ds){n:Nat}{k:Int}(h:Bv ns k)(hk:k<n)(hK:k<K)(hv:AX (Al ns k)=true)(hle:ds.getD k.toNat 0≤13)(hT:txS ns≤1048576):
 tW ns n k≤1000000000000000000:=by
 have h1:=(We hd (n:=n) (k:=k) 13 h hk hK hv (by omega)).2 (by omega)
 have h2:12^(13-2)*(txS ns+1200)≤12^(13-2)*(1048576+1200):=Nat.mul_le_mul_left _ (by omega)
 have h3:12^(13-2)*(1048576+1200)≤1000000000000000000:=by decide
 omega
def ru0:Ru:=⟨0,0⟩
def ch0:Ch:=⟨[],0,0,false,0⟩
def CJ(p:Pc)(i:Int):Ru:=p.rules.getD i.toNat ru0
def Eu(r:Ru):Bool:=inn r.vals 2 3&&inn r.cost 0 9
def Eh(p:Pc)(c:Ch):Bool:=inn c.rule 0 ((p.rules.length:Int)-1)&&(inn c.fr 1 ((CJ p c.rule).vals-1)&&inn c.nest 0 40)
def Bf(s:List UInt8):Bool:=s.all Bx
def Ev(p:Pc):List Ch→Bool
 |[]=>true
 |[c]=>Bf c.text
 |c::d::l=>Bf c.text&&(Eh p c&&Ev p (d::l))
def On(c:Ch):Bool:=decide (c.rule=0)&&(decide (c.fr=0)&&(c.space==false&&decide (c.nest=0)))
def DT(p:Pc)(s:Sn):Bool:=(decide (0≤s.fr)&&decide (s.fr≤s.tuu))&&(decide (s.tuu<(p.chunks.length:Int)-1)&&inn s.cost 0 9)
def FY(p:Pc)(t:Ti):Bool:=inn t.kid 0 ((p.rules.length:Int)-1)&&(inn t.up 0 ((p.rules.length:Int)-1)&& !decide (t.kid=t.up))
def FC(p:Pc):Bool:=decide (p.rules.length≤8)&&p.rules.all Eu
def EI(p:Pc):Bool:=inn p.chunks.length 1 80&&(Ev p p.chunks&&On (p.chunks.getLast?.getD ch0))
def Bo(p:Pc):Bool:=
 inn p.ind 0 60&&(FC p&&(EI p&&((decide (p.spans.length≤40)&&decide (p.ties.length≤20))&&(p.spans.all (DT p)&&p.ties.all (FY p)))))
theorem b3n{p:Pc}{c:Ch}{l:List Ch}:Ev p (c::l)=(Bf c.text&&((l.isEmpty||Eh p c)&&Ev p l)):=by
 cases l<;>simp [Ev]
structure pcOk (p:Pc):Prop where
 ind:0≤p.ind∧p.ind≤60
 rl:p.rules.length≤8
 ru:∀r∈p.rules,(2≤r.vals∧r.vals≤3)∧0≤r.cost∧r.cost≤9
 cl:1≤p.chunks.length∧p.chunks.length≤80
 sp:∀(i:Nat) c,p.chunks[i]? =some c→i+1<p.chunks.length→(0≤c.rule∧c.rule<p.rules.length)∧(1≤c.fr∧c.fr<(CJ p c.rule).vals)∧0≤c.nest∧c.nest≤40
 snl:p.spans.length≤40
 til:p.ties.length≤20
 sn:∀s∈p.spans,(0≤s.fr∧s.fr≤s.tuu∧s.tuu<(p.chunks.length:Int)-1)∧0≤s.cost∧s.cost≤9
 ti:∀t∈p.ties,(0≤t.kid∧t.kid<p.rules.length)∧0≤t.up∧t.up<p.rules.length
theorem Ra{p:Pc}:∀ {l:List Ch},Ev p l=true→∀(i:Nat) c,l[i]? =some c→Bf c.text=true∧(i+1<l.length→Eh p c=true)
 |[],_,i,c,hi=>by simp at hi
 |[d],h,i,c,hi=>by
  match i,hi with
  |0,hi=>simp at hi;subst hi;exact⟨h,fun hl=>by simp at hl⟩
 |d::e::l,h,0,c,hi=>by
  simp only[Ev,Bool.and_eq_true] at h
  simp at hi;subst hi;exact⟨h.1,fun _=>h.2.1⟩
 |d::e::l,h,i+1,c,hi=>by
  simp only[Ev,Bool.and_eq_true] at h
  have:=Ra h.2.2 i c (by simpa using hi)
  exact⟨this.1,fun hl=>this.2 (by simpa using hl)⟩
theorem a2l{p:Pc}:∀ {l:List Ch},Ev p l=true↔∀(i:Nat) c,l[i]? =some c→Bf c.text=true∧(i+1<l.length→Eh p c=true)
 |[]=>by simp [Ev]
 |[d]=>by
  refine⟨Ra,fun h=>(h 0 d rfl).1⟩
 |d::e::l=>by
  refine⟨Ra,fun h=> ?_⟩
  simp only[Ev,Bool.and_eq_true]
  have h0:=h 0 d rfl
  refine⟨h0.1,h0.2 (by simp),a2l.2 fun i c hi=> ?_⟩
  have:=h (i+1) c (by simpa using hi)
  exact⟨this.1,fun hl=>this.2 (by simpa using hl)⟩
theorem EV{p:Pc}(h:Bo p=true):pcOk p:=by
 simp only[Bo,FC,EI,Bool.and_eq_true,decide_eq_true_eq,List.all_eq_true] at h
 obtain⟨h1,⟨h2,h3⟩,⟨h4,h5,h6⟩,⟨h7,h8⟩,h9,h10⟩:=h
 have h4:=Br.1 h4
 refine⟨Br.1 h1,h2,fun r hr=> ?_,by omega,fun i c hi hl=> ?_,h7,h8,fun s hs=> ?_,fun t ht=> ?_⟩
 ·have:=h3 r hr
  simp only[Eu,Bool.and_eq_true] at this
  exact⟨Br.1 this.1,Br.1 this.2⟩
 ·have:=(Ra h5 i c hi).2 hl
  simp only[Eh,Bool.and_eq_true] at this
  have a:=Br.1 this.1;have b:=Br.1 this.2.1;have c:=Br.1 this.2.2
  exact⟨by omega,by omega,c⟩
 ·have:=h9 s hs
  simp only[DT,Bool.and_eq_true,decide_eq_true_eq] at this
  exact⟨⟨this.1.1,this.1.2,this.2.1⟩,Br.1 this.2.2⟩
 ·have:=h10 t ht
  simp only[FY,Bool.and_eq_true] at this
  have a:=Br.1 this.1;have b:=Br.1 this.2.1
  exact⟨by omega,by omega⟩
def vAt(v:List Int)(i:Int):Int:=v.getD i.toNat 0
def vOk(p:Pc)(v:List Int):Prop:=v.length≤p.rules.length∧∀(i:Nat) n,v[i]? =some n→0≤n∧n<(CJ p i).vals
def Cf(v:List Int)(c:Ch):Bool:=decide (c.fr≤vAt v c.rule)
def blk(n:Int):List UInt8:=List.replicate n.toNat 32
def rnL(ind:Int)(v:List Int):List Ch→List UInt8→List (List UInt8)
 |[],s=>[s]
 |[c],s=>[s++c.text]
 |c::d::l,s=>if Cf v c then(s++c.text)::rnL ind v (d::l) (blk (ind+c.nest)) else rnL ind v (d::l) (s++c.text++(if c.space then [32] else []))
def BF(p:Pc)(v:List Int):List (List UInt8):=rnL p.ind v p.chunks (blk p.ind)
def ovL(w:Int)(l:List (List UInt8)):Int:=(l.map fun s=>max ((s.length:Int)-w) 0).sum
def wdF(w:Int):Int:=max 0 (min w 100000)
def FD(p:Pc)(v:List Int)(c:Ch):Bool:=decide (c.rule<v.length)&&Cf v c
def snS(p:Pc)(v:List Int)(s:Sn):Bool:=((p.chunks.take (s.tuu+1).toNat).drop s.fr.toNat).any (FD p v)
def ruS(p:Pc)(v:List Int):Int:=(v.zipIdx.map fun q=>q.1*(CJ p q.2).cost).sum
def Cl(p:Pc)(v:List Int):Int:=ruS p v+(p.spans.map fun s=>if snS p v s then s.cost else 0).sum
structure Co where
 over:Int
 sum:Int
def Bi(p:Pc)(v:List Int)(w:Int):Co:=⟨ovL (wdF w) (BF p v),Cl p v⟩
def GI(a b:Co):Bool:=decide (a.over<b.over)||(decide (a.over=b.over)&&decide (a.sum<b.sum))
def Cy:List Int→List Int→Int
 |[],[]=>0
 |[],_::_=> -1
 |_::_,[]=>1
 |a::l,b::m=>if a<b then-1 else if b<a then 1 else Cy l m
def Df(p:Pc):List Int:=p.rules.map fun r=>r.vals-1
def Fl(v:List Int)(t:Ti):Bool:= !((inn t.kid 0 ((v.length:Int)-1)&&inn t.up 0 ((v.length:Int)-1))&&(decide (0<vAt v t.kid)&&decide (vAt v t.up=0)))
def KL(p:Pc)(v:List Int):Bool:=p.ties.all (Fl v)
def lnS(l:List (List UInt8)):Nat:=(l.map List.length).sum
theorem Wf{ind:Int}{v:List Int}(h0:0≤ind∧ind≤60):∀ {l:List Ch} {s:List UInt8},(∀(i:Nat) c,l[i]? =some c→i+1<l.length→0≤c.nest∧c.nest≤40)→
 lnS (rnL ind v l s)≤s.length+Ck l+101*l.length∧(rnL ind v l s).length≤l.length+1
 |[],s,_=>by simp [rnL,lnS,Ck]
 |[c],s,_=>by simp [rnL,lnS,Ck]
 |c::d::l,s,h=>by
  have hn:=h 0 c rfl (by simp)
  have h':∀(i:Nat) e,(d::l)[i]? =some e→i+1<(d::l).length→0≤e.nest∧e.nest≤40:=fun i e hi hl=>h (i+1) e (by simpa using hi) (by simpa using hl)
  have hc:Ck (c::d::l)=c.text.length+Ck (d::l):=by simp [Ck]
  rw[rnL]
  split
  ·have h1:=Wf (v:=v) h0 (s:=blk (ind+c.nest)) h'
   have hb:(blk (ind+c.nest)).length≤100:=by simp [blk];omega
   have e:lnS ((s++c.text)::rnL ind v (d::l) (blk (ind+c.nest)))=s.length+c.text.length+lnS (rnL ind v (d::l) (blk (ind+c.nest))):=by simp [lnS]
   rw[e,hc]
   simp only[List.length_cons] at*
   omega
  ·have h1:=Wf (v:=v) h0 (s:=s++c.text++(if c.space then [32] else [])) h'
   have hb:(if c.space then [(32:UInt8)] else []).length≤1:=by split<;>simp
   rw[hc]
   simp only[List.length_cons,List.length_append] at*
   omega
theorem Oo{p:Pc}{v:List Int}(h:pcOk p):lnS (BF p v)≤Ck p.chunks+8200∧(BF p v).length≤81:=by
 have h1:=Wf (v:=v) h.ind (l:=p.chunks) (s:=blk p.ind) fun i c hi hl=>(h.sp i c hi hl).2.2
 have h2:=h.cl
 have h3:(blk p.ind).length≤60:=by simp [blk];have:=h.ind;omega
 unfold BF
 omega
theorem b3o{l:List (List UInt8)}{s:List UInt8}(h:s∈l):s.length≤lnS l:=by
 induction l with
 |nil=>cases h
 |cons t l ih=>
  simp only[lnS,List.map_cons,List.sum_cons]
  rcases List.mem_cons.1 h with rfl|h
  ·omega
  ·have:=ih h;simp only[lnS] at this;omega
theorem Wg{w:Int}(hw:0≤w):∀ {l:List (List UInt8)},0≤ovL w l∧ovL w l≤lnS l
 |[]=>by simp [ovL,lnS]
 |s::l=>by
  have:=Wg hw (l:=l)
  simp only[ovL,lnS,List.map_cons,List.sum_cons] at this ⊢
  omega
theorem b3p{w:Int}{l m:List (List UInt8)}:ovL w (l++m)=ovL w l+ovL w m:=by simp [ovL]
theorem a2m{l m:List (List UInt8)}:lnS (l++m)=lnS l+lnS m:=by simp [lnS]
structure StW where
 vals:List Int
 sum:Int
def stA:StW→List AV:=fun s=>[Ad s.vals,.int .i64 s.sum]
theorem HI(s:StW):stA s=[Ad s.vals,.int .i64 s.sum]:=rfl
def Bt(a b:StW):Bool:=decide (a.sum<b.sum)||(decide (a.sum=b.sum)&&decide (Cy a.vals b.vals<0))
def st0:StW:=⟨[],0⟩
def AN(l:List StW)(i:Int):StW:=l.getD i.toNat st0
theorem Ei{l:List StW}{i:Int}{x:StW}(h:l[i.toNat]? =some x):AN l i=x:=by simp [AN,List.getD,h]
theorem KM{l:List StW}{i:Int}(h0:0≤i)(h:i<l.length):l[i.toNat]? =some (AN l i):=by
 have:l[i.toNat]? =some l[i.toNat]:=List.getElem?_eq_getElem (by omega)
 rw[Ei this];exact this
def swp(l:List StW)(i j:Int):List StW:=(l.set i.toNat (AN l j)).set j.toNat (AN l i)
def abv(i:Int):Int:=(i+1).tdiv 2-1
def sUp:Nat→List StW→Int→List StW
 |0,l,_=>l
 |n+1,l,i=>if 0<i∧Bt (AN l i) (AN l (abv i))=true then sUp n (swp l i (abv i)) (abv i) else l
def DD(l:List StW)(x:StW):List StW:=sUp (l.length+1) (l++[x]) l.length
def dnK(l:List StW)(i:Int):Int:=if 2*i+1+1<l.length∧Bt (AN l (2*i+1+1)) (AN l (2*i+1))=true then 2*i+1+1 else 2*i+1
def sDn:Nat→List StW→Int→List StW
 |0,l,_=>l
 |n+1,l,i=>if 2*i+1<l.length∧Bt (AN l (dnK l i)) (AN l i)=true then sDn n (swp l i (dnK l i)) (dnK l i) else l
def HJ(l:List StW):List StW:=(l.set 0 (AN l ((l.length:Int)-1))).take (l.length-1)
def BJ(l:List StW):List StW:=sDn l.length (HJ l) 0
def hS(f:StW→Nat)(l:List StW):Nat:=(l.map f).sum
theorem Rb{f:StW→Nat}:∀ {l:List StW} {i:Nat} {y x:StW},l[i]? =some x→hS f (l.set i y)+f x=hS f l+f y
 |[],i,y,x,h=>by simp at h
 |a::l,0,y,x,h=>by simp at h;subst h;simp [hS];omega
 |a::l,i+1,y,x,h=>by
  have:=Rb (f:=f) (l:=l) (i:=i) (y:=y) (x:=x) (by simpa using h)
  simp only[hS,List.set_cons_succ,List.map_cons,List.sum_cons] at this ⊢;omega
theorem KN{l:List StW}{i j:Int}:(swp l i j).length=l.length:=by simp [swp]
theorem a2n{f:StW→Nat}{l:List StW}{i j:Int}(hi0:0≤i)(hi:i<l.length)(hj0:0≤j)(hj:j<l.length):hS f (swp l i j)=hS f l:=by
 have h1:=Rb (f:=f) (y:=AN l j) (KM hi0 hi)
 have h2:(l.set i.toNat (AN l j))[j.toNat]? =some (AN l j):=by
  by_cases e:i.toNat=j.toNat
  ·rw[e,List.getElem?_set_self (by omega)]
  ·rw[List.getElem?_set_ne e];exact KM hj0 hj
 have h3:=Rb (f:=f) (y:=AN l i) h2
 unfold swp;omega
theorem Rc{l:List StW}{i j:Int}{x:StW}(hi0:0≤i)(hi:i<l.length)(hj0:0≤j)(hj:j<l.length)(h:x∈swp l i j):x∈l:=by
 unfold swp at h
 rcases List.mem_or_eq_of_mem_set h with h|rfl
 ·rcases List.mem_or_eq_of_mem_set h with h|rfl
  ·exact h
  ·exact AY (KM hj0 hj)
 ·exact AY (KM hi0 hi)
theorem Rd{i:Int}(h:0<i):0≤abv i∧abv i<i:=by
 unfold abv
 rw[Int.tdiv_eq_ediv_of_nonneg (by omega)];omega
theorem Mx{l:List StW}{i:Int}(h0:0≤i)(h:2*i+1<l.length):i<dnK l i∧dnK l i<l.length:=by
 unfold dnK;split<;>omega
theorem a2o{f:StW→Nat}:∀ {n:Nat} {l:List StW} {i:Int},0≤i→i<l.length→hS f (sUp n l i)=hS f l∧(sUp n l i).length=l.length∧∀x∈sUp n l i,x∈l
 |0,l,i,_,_=>⟨rfl,rfl,fun _ h=>h⟩
 |n+1,l,i,h0,h1=>by
  rw[sUp]
  split
  ·rename_i h
   have ha:=Rd h.1
   have h2:=a2o (f:=f) (n:=n) (l:=swp l i (abv i)) (i:=abv i) ha.1 (by rw[KN];omega)
   rw[KN,a2n h0 h1 ha.1 (by omega)] at h2
   exact⟨h2.1,h2.2.1,fun x hx=>Rc h0 h1 ha.1 (by omega) (h2.2.2 x hx)⟩
  ·exact⟨rfl,rfl,fun _ h=>h⟩
theorem a2p{f:StW→Nat}:∀ {n:Nat} {l:List StW} {i:Int},0≤i→hS f (sDn n l i)=hS f l∧(sDn n l i).length=l.length∧∀x∈sDn n l i,x∈l
 |0,l,i,_=>⟨rfl,rfl,fun _ h=>h⟩
 |n+1,l,i,h0=>by
  rw[sDn]
  split
  ·rename_i h
   have ha:=Mx h0 h.1
   have h2:=a2p (f:=f) (n:=n) (l:=swp l i (dnK l i)) (i:=dnK l i) (by omega)
   rw[KN,a2n h0 (by omega) (by omega) (by omega)] at h2
   exact⟨h2.1,h2.2.1,fun x hx=>Rc h0 (by omega) (by omega) (by omega) (h2.2.2 x hx)⟩
  ·exact⟨rfl,rfl,fun _ h=>h⟩
theorem Wh{f:StW→Nat}{l:List StW}{x:StW}:hS f (DD l x)=hS f l+f x∧(DD l x).length=l.length+1∧∀y∈DD l x,y∈l∨y=x:=by
 have h:=a2o (f:=f) (n:=l.length+1) (l:=l++[x]) (i:=l.length) (by omega) (by simp;omega)
 refine⟨by rw[DD,h.1];simp [hS],by rw[DD,h.2.1];simp,fun y hy=> ?_⟩
 have:=h.2.2 y hy
 simpa using this
theorem a2q{f:StW→Nat}{l:List StW}(hl:0<l.length):hS f (HJ l)+f (AN l 0)=hS f l∧(HJ l).length=l.length-1∧∀y∈HJ l,y∈l:=by
 have hz:l[(0:Nat)]? =some (AN l 0):=by have:=KM (l:=l) (i:=0) (by omega) (by omega);simpa using this
 have hlast:=KM (l:=l) (i:=(l.length:Int)-1) (by omega) (by omega)
 have h1:=Rb (f:=f) (y:=AN l ((l.length:Int)-1)) hz
 refine⟨?_,by rw[HJ,List.length_take,List.length_set];omega,fun y hy=> ?_⟩
 ·have h2:(l.set 0 (AN l ((l.length:Int)-1)))[l.length-1]? =some (AN l ((l.length:Int)-1)):=by
   by_cases e:0=l.length-1
   ·rw[←e,List.getElem?_set_self hl]
   ·rw[List.getElem?_set_ne e]
    rw[show((l.length:Int)-1).toNat=l.length-1 by omega] at hlast;exact hlast
  have h3:=CT h2
  have h4:(l.set 0 (AN l ((l.length:Int)-1))).take (l.length-1+1)=l.set 0 (AN l ((l.length:Int)-1)):=List.take_of_length_le (by rw[List.length_set];omega)
  rw[h4] at h3
  have h5:hS f (l.set 0 (AN l ((l.length:Int)-1)))=hS f (HJ l)+f (AN l ((l.length:Int)-1)):=by
   conv=>lhs;rw[h3]
   simp [hS,HJ]
  omega
 ·have:=List.mem_of_mem_take hy
  rcases List.mem_or_eq_of_mem_set this with h|rfl
  ·exact h
  ·exact AY hlast
theorem Wi{f:StW→Nat}{l:List StW}(hl:0<l.length):hS f (BJ l)+f (AN l 0)=hS f l∧(BJ l).length=l.length-1∧∀y∈BJ l,y∈l:=by
 have h1:=a2q (f:=f) hl
 have h2:=a2p (f:=f) (n:=l.length) (l:=HJ l) (i:=0) (by omega)
 unfold BJ
 refine⟨by rw[h2.1];exact h1.1,by rw[h2.2.1];exact h1.2.1,fun y hy=>h1.2.2 y (h2.2.2 y hy)⟩
structure Hu where
 best:List Int
 cost:Co
 heap:List StW
 pops:Int
def Fm(c d:Co)(v b:List Int):Bool:=GI c d||((decide (c.over=d.over)&&decide (c.sum=d.sum))&&decide (Cy v b<0))
def EJ(p:Pc)(w:Int)(v:List Int)(h:Hu):Hu:=if Fm (Bi p v w) h.cost v h.best then⟨v,Bi p v w,h.heap,h.pops⟩ else h
def Hc(p:Pc)(c:Co)(v:List Int):Bool:= !KL p v||(decide (c.over=0)&&decide (c.sum<Cl p v))
def opN(p:Pc)(c:Co)(x:List Int):Nat→Int→List StW→List StW
 |0,_,l=>l
 |r+1,i,l=>opN p c x r (i+1) (if Hc p c (x++[i]) then l else DD l ⟨x++[i],Cl p (x++[i])⟩)
def Ju(p:Pc)(w:Int)(h:Hu):Hu:=
 if(AN h.heap 0).vals.length=p.rules.length then EJ p w (AN h.heap 0).vals ⟨h.best,h.cost,BJ h.heap,h.pops+1⟩
 else⟨h.best,h.cost,opN p h.cost (AN h.heap 0).vals (CJ p (AN h.heap 0).vals.length).vals.toNat 0 (BJ h.heap),h.pops+1⟩
def HK(p:Pc)(w bud:Int):Nat→Hu→Hu×Int
 |0,h=>(h,0)
 |n+1,h=>if h.heap=[] then(h,1) else if bud≤h.pops then(h,2) else HK p w bud n (Ju p w h)
def hu0(p:Pc)(w:Int):Hu:=⟨Df p,Bi p (Df p) w,[st0],0⟩
def srF(p:Pc)(w bud:Int):Hu×Int:=HK p w bud 9842 (hu0 p w)
def wt:Nat→Nat
 |0=>1
 |n+1=>1+3*wt n
theorem Wj:∀ {n:Nat},1≤wt n
 |0=>Nat.le_refl _
 |n+1=>by rw[wt];omega
def wtS(p:Pc)(s:StW):Nat:=wt (p.rules.length-s.vals.length)
def hM(p:Pc)(l:List StW):Nat:=hS (wtS p) l
theorem a2r{p:Pc}:∀ {l:List StW},l.length≤hM p l
 |[]=>Nat.zero_le _
 |s::l=>by
  have:=a2r (p:=p) (l:=l)
  have h1:1≤wtS p s:=Wj
  simp only[hM,hS,List.map_cons,List.sum_cons,List.length_cons] at this ⊢;omega
def Wk(p:Pc)(s:StW):Prop:=vOk p s.vals∧0≤s.sum∧s.sum≤1000
def Hd(p:Pc)(l:List StW):Prop:=∀s∈l,Wk p s
theorem a2s{p:Pc}{l:List StW}{x:StW}(h:Hd p l)(hx:Wk p x):Hd p (DD l x):=fun y hy=>by
 rcases(Wh (f:=fun _=>0)).2.2 y hy with h1|rfl
 ·exact h y h1
 ·exact hx
theorem a2t{p:Pc}{l:List StW}(h:Hd p l)(hl:0<l.length):Hd p (BJ l):=fun y hy=>h y ((Wi (f:=fun _=>0) hl).2.2 y hy)
theorem Oq{α:Type}{f:α→Int}{b:Int}:∀ {l:List α},(∀x∈l,0≤f x∧f x≤b)→0≤(l.map f).sum∧(l.map f).sum≤l.length*b
 |[],_=>by simp
 |x::l,h=>by
  have h1:=h x (by simp)
  have h2:=Oq (l:=l) fun y hy=>h y (by simp [hy])
  simp only[List.map_cons,List.sum_cons,List.length_cons]
  have:(((l.length+1:Nat):Int))*b=l.length*b+b:=by rw[Int.natCast_add,Int.add_mul];simp
  omega
theorem Mz{p:Pc}(h:pcOk p){i:Int}(h0:0≤i)(hi:i<p.rules.length):(2≤(CJ p i).vals∧(CJ p i).vals≤3)∧0≤(CJ p i).cost∧(CJ p i).cost≤9:=by
 have e:p.rules[i.toNat]? =some p.rules[i.toNat]:=List.getElem?_eq_getElem (by omega)
 have:CJ p i=p.rules[i.toNat]:=by simp [CJ,List.getD,e]
 rw[this];exact h.ru _ (List.getElem_mem _)
theorem a2u{p:Pc}{v:List Int}(h:pcOk p)(hv:vOk p v):0≤Cl p v∧Cl p v≤1000:=by
 have h1:∀q∈v.zipIdx,0≤q.1*(CJ p q.2).cost∧q.1*(CJ p q.2).cost≤27:=by
  intro q hq
  obtain⟨n,i⟩:=q
  have hi:=List.mem_zipIdx_iff_getElem?.1 hq
  have h2:=hv.2 i n hi
  have hlt:=(Cm hi).1
  have h3:=Mz h (i:=(i:Int)) (by omega) (by have:=hv.1;omega)
  simp only at h2 ⊢
  have a:0≤n*(CJ p (i:Int)).cost:=Int.mul_nonneg h2.1 h3.2.1
  have b:n*(CJ p (i:Int)).cost≤3*9:=Int.mul_le_mul (by omega) h3.2.2 h3.2.1 (by omega)
  exact⟨a,by omega⟩
 have h2:∀s∈p.spans,0≤(if snS p v s then s.cost else 0)∧(if snS p v s then s.cost else 0)≤9:=by
  intro s hs
  have:=(h.sn s hs).2
  split<;>omega
 have h3:=Oq h1
 have h4:=Oq h2
 have h5:=hv.1;have h6:=h.rl;have h7:=h.snl
 simp only[List.length_zipIdx] at h3
 unfold Cl ruS
 omega
theorem b3q{p:Pc}:vOk p []:=⟨by simp,fun i n h=>by simp at h⟩
theorem Wl{p:Pc}{v:List Int}{i:Int}(h:vOk p v)(hl:v.length<p.rules.length)(h0:0≤i)(hi:i<(CJ p v.length).vals):vOk p (v++[i]):=by
 refine⟨by simp;omega,fun j n hj=> ?_⟩
 by_cases e:j<v.length
 ·rw[List.getElem?_append_left e] at hj;exact h.2 j n hj
 ·rw[List.getElem?_append_right (by omega)] at hj
  have hj2:j-v.length=0:=by
   rcases Nat.eq_zero_or_pos (j-v.length) with h|h
   ·exact h
   ·rw[List.getElem?_eq_none (by simp;omega)] at hj;cases hj
  rw[hj2] at hj
  simp at hj;subst hj
  rw[show j=v.length by omega];exact⟨h0,hi⟩
theorem Ot{p:Pc}(h:pcOk p):vOk p (Df p)∧(Df p).length=p.rules.length:=by
 refine⟨⟨by simp [Df],fun i n hi=> ?_⟩,by simp [Df]⟩
 simp only[Df,List.getElem?_map,Option.map_eq_some_iff] at hi
 obtain⟨r,hr,rfl⟩:=hi
 have hlt:=(Cm hr).1
 have:=Mz h (i:=(i:Int)) (by omega) (by omega)
 have e:CJ p (i:Int)=r:=by simp [CJ,List.getD,hr]
 rw[e] at this ⊢;omega
end Go.My
end
section
namespace Go.My
open Go.Eng Go.Proofs
variable {G:GInv}
theorem Iu{q:Pc→Prop}(p:Pc)(h:q p):∃x,q x:=⟨p,h⟩
theorem Ds{β:Type}{q:Pc×β→Prop}(p:Pc)(h:∃b,q (p,b)):∃x,q x:=let⟨b,hb⟩:=h;⟨(p,b),hb⟩
def Bz{α:Type}(p:α→Bool)(l:List α)(i:Int):Prop:=(0≤i∧i≤l.length)∧(l.take i.toNat).all p=true
theorem MA{α:Type}{p:α→Bool}{l:List α}:Bz p l 0:=⟨by omega,by simp⟩
theorem Fo{α:Type}{p:α→Bool}{l:List α}{i:Int}{e:α}(h:Bz p l i)(hi:i<l.length)(he:l[i.toNat]? =some e)(hp:p e=true):Bz p l (i+1):=
 ⟨by have:=h.1;omega,by rw[BD h.1.1,CT he,List.all_append,h.2];simp [hp]⟩
theorem FE{α:Type}{p:α→Bool}{l:List α}{i:Int}{e:α}(he:l[i.toNat]? =some e)(hp:p e=false):l.all p=false:=by
 rw[List.all_eq_false];exact⟨e,AY he,by simp [hp]⟩
theorem He{α:Type}{p:α→Bool}{l:List α}{i:Int}(h:Bz p l i)(hi:¬i<l.length):l.all p=true:=by
 have:=h.2;rwa [List.take_of_length_le (by have:=h.1;omega)] at this
def MB(l:List Ru):AV:= .sl false 0 2 Ru ruA l
def chs(l:List Ch):AV:= .sl false 0 5 Ch chA l
def sns(l:List Sn):AV:= .sl false 0 3 Sn snA l
def tis(l:List Ti):AV:= .sl false 0 2 Ti tiA l
def pcS(p:Pc):Prop:=(p.rules.length<2^40∧p.chunks.length<2^40)∧((p.spans.length<2^40∧p.ties.length<2^40)∧Ck p.chunks≤2^61)∧∀r∈p.rules,-4611686018427387904≤r.vals∧r.vals≤4611686018427387904
theorem Ou{c:Ch}:∀ {l:List Ch},c∈l→c.text.length≤Ck l
 |[],h=>by cases h
 |d::l,h=>by
  have e:Ck (d::l)=d.text.length+Ck l:=by simp [Ck]
  rcases List.mem_cons.1 h with rfl|h
  ·omega
  ·have:=Ou h;omega
def Jv:Sig:= {X:=Pc,args:=fun x=>[.agg (pcA false x)],pre:=fun x=>pcS x,Y:=Unit,post:=fun x y=>True,res:=fun x y=> .bool (FC x),outs:=fun x y=>[.top],keep:=false}
def Re(x:Pc):LS:= {ι:=Int,inv:=fun i=>Bz Eu x.rules i,regs:=fun i=>[(1,.box 0 (pcA false x)),(6,MB x.rules),(7,.int .i64 x.rules.length),(8,.int .i64 i)],als:=[],meas:=fun i=>x.rules.length-i.toNat}
theorem b3r:Ah G Tryz.prog 116 Jv:=
 vcFun_okP [(36,0,BG)] [] false (fun x=>[(2,Re x)]) Tryz.func116 rfl (by decide) ⟨Gw,trivial⟩ (fun(x:Pc)=>(∀(y:Unit),True→True∧True∧True)∧eA (Re x) [.box 0 [.int .i64 x.ind,AV.sl false 0 2 Ru ruA x.rules,AV.sl false 0 5 Ch chA x.chunks,AV.sl false 0 3 Sn snA x.spans,AV.sl false 0 2 Ti tiA x.ties],AV.sl false 0 2 Ru ruA x.rules,.int .i64 (↑(List.length x.rules):Int),.int .i64 (0:Int)]∧∀(i:Int),Bz Eu x.rules i→Ab (decide (i<(↑(List.length x.rules):Int))) (((0:Int)≤i∧i<(↑(List.length x.rules):Int))∧∀(e:Ru),x.rules[Int.toNat i]? =some e→cA BG [.int .i64 e.vals,.int .i64 (2:Int),.int .i64 (3:Int)] fun x_1 y=>Ab (!inn x_1.1 x_1.2.1 x_1.2.2) (rA Jv x [.bool false,.top]) (cA BG [.int .i64 e.cost,.int .i64 (0:Int),.int .i64 (9:Int)] fun x_2 y=>Ab (!inn x_2.1 x_2.2.1 x_2.2.2) (rA Jv x [.bool false,.top]) (inR IntKind.i64 (i+(1:Int))∧eN (Re x) i [.box 0 [.int .i64 x.ind,AV.sl false 0 2 Ru ruA x.rules,AV.sl false 0 5 Ch chA x.chunks,AV.sl false 0 3 Sn snA x.spans,AV.sl false 0 2 Ti tiA x.ties],AV.sl false 0 2 Ru ruA x.rules,.int .i64 (↑(List.length x.rules):Int),.int .i64 (i+(1:Int))]))) (rA Jv x [.bool (decide ((↑(List.length x.rules):Int)≤(8:Int))),.top])) (fun x=>by kernel_rfl) fun(x:Pc) (hx:pcS x)=>(by
 dsimp only[cA,Bl,eA,eN,Re,pcA,rA,Bj,MB,BG,Jv,Bm,Bn,Aq,Aw,mvL,lnL,mvE,lnE,mvG,mvH,lnG,lnH,AZ]
 have hz:=hx.1
 (repeat' first|(with_reducible first|rfl|exact True.intro|apply AG|apply And.intro|((first|apply Au|apply AE|apply Av|apply AF)<;>intro _))|(apply As<;>intro _)|apply AD|refine Af () ?_ ?_|((first|apply AK|apply AJ|apply AI|apply AH|apply AC|apply AB|apply AA|apply Az|apply Ax)<;>try dsimp only)|apply Af|(refine Prod.forall.2 ?_;intro _;try dsimp only)|(intro _;try dsimp only))
 all_goals first
  |rfl
  |exact MA
  |exact Fo ‹_› ‹_› ‹_› (by simp [Eu, *])
  |(have hq:=FE (p:=Eu) (show x.rules[_]? =some _ by assumption) (by simp [Eu, *]);simp [FC,hq];done)
  |(have hq:=He (p:=Eu) ‹_› ‹_›;rw[FC,hq,Bool.and_true];exact decide_eq_decide.2 (by omega))
  |(have hq:=(show Bz _ _ _ by assumption).1;(try simp only[Ai]);omega)
  |((try simp only[Ai]);omega)
  |skip)
theorem Ov{p:Pc}{i:Int}{e:Ru}(h:p.rules[i.toNat]? =some e):CJ p i=e:=by simp [CJ,List.getD,h]
theorem a2v{a b c:Int}(h:inn a b c=false):¬(b≤a∧a≤c):=fun hh=>by rw[Br.2 hh] at h;cases h
def Jw:Sig:= {X:=Pc×Int×Int×Bool×Int,args:=fun x=>[.agg (pcA false x.1),.agg [.int .i64 x.2.1,.int .i64 x.2.2.1,.bool x.2.2.2.1,.int .i64 x.2.2.2.2]],pre:=fun x=>pcS x.1,Y:=Unit,post:=fun x y=>True,res:=fun x y=> .bool (Eh x.1 ⟨[],x.2.1,x.2.2.1,x.2.2.2.1,x.2.2.2.2⟩),outs:=fun x y=>[.top,.top],keep:=false}
theorem b3s:Ah G Tryz.prog 142 Jw:=
 vcFun_okP [(36,0,BG)] [] false (fun x=>[]) Tryz.func142 rfl (by decide) ⟨Gw,trivial⟩ (fun(x:Pc×Int×Int×Bool×Int)=>(∀(y:Unit),True→True∧True∧True∧True)∧inR IntKind.i64 ((↑(List.length x.1.rules):Int)-(1:Int))∧cA BG [.int .i64 x.2.1,.int .i64 (0:Int),.int .i64 ((↑(List.length x.1.rules):Int)-(1:Int))] fun x_1 y=>Ab (!inn x_1.1 x_1.2.1 x_1.2.2) (rA Jw x [.bool false,.top,.top]) (cA BG [.int .i64 x.2.2.2.2,.int .i64 (0:Int),.int .i64 (40:Int)] fun x_2 y=>Ab (!inn x_2.1 x_2.2.1 x_2.2.2) (rA Jw x [.bool false,.top,.top]) (true=true∧true=true∧((0:Int)≤x.2.1∧x.2.1<(↑(List.length x.1.rules):Int))∧∀(e:Ru),x.1.rules[Int.toNat x.2.1]? =some e→inR IntKind.i64 (e.vals-(1:Int))∧∃(x_3:Int×Int×Int),True∧x.2.2.1=x_3.1∧(1:Int)=x_3.2.1∧e.vals-(1:Int)=x_3.2.2∧∃(y0:Unit),(∀(y:Unit),True→AV.bool (inn x_3.1 x_3.2.1 x_3.2.2)=AV.bool (inn x_3.1 x_3.2.1 x_3.2.2))∧true=true∧rA Jw x [.bool (inn x_3.1 x_3.2.1 x_3.2.2),.top,.top]))) (fun x=>by kernel_rfl) fun(x:Pc×Int×Int×Bool×Int) (hx:pcS x.1)=>(by
 dsimp only[cA,Bl,pcA,rA,Bj,BG,Jw,Bm,Bn,Aq,Aw,mvL,lnL,mvE,lnE,mvG,mvH,lnG,lnH]
 obtain⟨p,r,f,s,n⟩:=x;dsimp only at hx ⊢
 have hx:pcS p:=hx
 have hz:=hx.1;have hv:=hx.2.2
 (repeat' first|(with_reducible first|rfl|exact True.intro|apply AG|apply And.intro|((first|apply Au|apply AE|apply Av|apply AF)<;>intro _))|(apply As<;>intro _)|apply AD|refine Af () ?_ ?_|((first|apply AK|apply AJ|apply AI|apply AH|apply AC|apply AB|apply AA|apply Az|apply Ax)<;>try dsimp only)|apply Af|(refine Prod.forall.2 ?_;intro _;try dsimp only)|(intro _;try dsimp only))
 all_goals first
  |rfl
  |((try simp only[Br] at*);omega)
  |(simp [Eh, *];done)
  |(have hm:=hv _ (AY ‹_›);omega)
  |(rename p.rules[_]? =some _=>hq;have hr:=Ov hq;simp [Eh,hr, *];done)
  |skip)
theorem a2w{p:Pc}:(0≤(0:Int)∧(0:Int)≤p.chunks.length)∧Ev p p.chunks=Ev p (p.chunks.drop (Int.toNat 0)):=⟨by omega,rfl⟩
def chI(p:Pc)(i:Int):Prop:=(0≤i∧i≤p.chunks.length)∧Ev p p.chunks=Ev p (p.chunks.drop i.toNat)
theorem a2x{p:Pc}{i:Int}{c:Ch}(h:chI p i)(hc:p.chunks[i.toNat]? =some c):Ev p p.chunks=(Bf c.text&&((decide (p.chunks.length≤i+1)||Eh p c)&&Ev p (p.chunks.drop (i+1).toNat))):=by
 rw[h.2,Dq hc,b3n,BD h.1.1]
 congr 3
 have hl:(p.chunks.drop (i.toNat+1)).length=p.chunks.length-(i.toNat+1):=List.length_drop
 have h0:=h.1.1
 by_cases e:(p.chunks.length:Int)≤i+1
 ·rw[decide_eq_true e,List.isEmpty_iff,List.eq_nil_iff_length_eq_zero];omega
 ·rw[decide_eq_false e,Bool.eq_false_iff,ne_eq,List.isEmpty_iff,List.eq_nil_iff_length_eq_zero];omega
theorem Rf{p:Pc}{i:Int}{c:Ch}(h:chI p i)(hi:i<p.chunks.length)(hc:p.chunks[i.toNat]? =some c)(h1:Bf c.text=true)(h2:i<(p.chunks.length:Int)-1→Eh p c=true):chI p (i+1):=by
 refine⟨by have:=h.1;omega,?_⟩
 rw[a2x h hc,h1]
 by_cases e:(p.chunks.length:Int)≤i+1
 ·simp [e]
 ·rw[h2 (by omega)];simp
theorem Rg{p:Pc}{i:Int}{c:Ch}(h:chI p i)(hc:p.chunks[i.toNat]? =some c)(h1:Bf c.text=false∨(i<(p.chunks.length:Int)-1∧Eh p c=false)):EI p=false:=by
 have:=a2x h hc
 unfold EI
 rcases h1 with h1|⟨h1,h2⟩
 ·rw[this,h1];simp
 ·rw[this,h2,decide_eq_false (by omega)];simp
theorem Wm{p:Pc}{i:Int}{c:Ch}(h:chI p i)(hi:¬i<p.chunks.length)(hc:p.chunks[((p.chunks.length:Int)-1).toNat]? =some c)(hn:inn p.chunks.length 1 80=true):EI p=On c:=by
 have h2:=h.2
 rw[List.drop_of_length_le (by omega)] at h2
 have hl:p.chunks.getLast? =some c:=by
  rw[List.getLast?_eq_getElem?,show p.chunks.length-1=((p.chunks.length:Int)-1).toNat by omega];exact hc
 unfold EI
 rw[hn,h2,hl];simp [Ev]
theorem b3t{p:Pc}(h:inn p.chunks.length 1 80=false):EI p=false:=by simp [EI,h]
theorem Wn{c:Ch}:(true&&c.rule==0&&c.fr==0&&c.space==false&&c.nest==0)=On c:=by
 rw[Bool.eq_iff_iff];simp [On,and_assoc]
def Iv:Sig:= {X:=Pc,args:=fun x=>[.agg (pcA false x)],pre:=fun x=>pcS x,Y:=Unit,post:=fun x y=>True,res:=fun x y=> .bool (EI x),outs:=fun x y=>[.top],keep:=false}
def Ow(x:Pc):LS:= {ι:=Int,inv:=fun i=>chI x i∧inn x.chunks.length 1 80=true,regs:=fun i=>[(1,.box 0 (pcA false x)),(3,.int .i64 x.chunks.length),(13,chs x.chunks),(14,.int .i64 x.chunks.length),(15,.int .i64 i)],als:=[],meas:=fun i=>x.chunks.length-i.toNat}
theorem b3u:Ah G Tryz.prog 117 Iv:=
 vcFun_okP [(36,0,BG),(77,0,EE),(142,0,Jw)] [] false (fun x=>[(5,Ow x)]) Tryz.func117 rfl (by decide) ⟨Gw,Qs,b3s,trivial⟩ (fun(x:Pc)=>(∀(y:Unit),True→True∧True∧True)∧cA BG [.int .i64 (↑(List.length x.chunks):Int),.int .i64 (1:Int),.int .i64 (80:Int)] fun x_1 y=>Ab (!inn x_1.1 x_1.2.1 x_1.2.2) (rA Iv x [.bool false,.top]) (eA (Ow x) [.box 0 [.int .i64 x.ind,AV.sl false 0 2 Ru ruA x.rules,AV.sl false 0 5 Ch chA x.chunks,AV.sl false 0 3 Sn snA x.spans,AV.sl false 0 2 Ti tiA x.ties],.int .i64 (↑(List.length x.chunks):Int),AV.sl false 0 5 Ch chA x.chunks,.int .i64 (↑(List.length x.chunks):Int),.int .i64 (0:Int)]∧∀(i:Int),chI x i∧inn (↑(List.length x.chunks):Int) (1:Int) (80:Int)=true→Ab (decide (i<(↑(List.length x.chunks):Int))) (((0:Int)≤i∧i<(↑(List.length x.chunks):Int))∧∀(e:Ch),x.chunks[Int.toNat i]? =some e→cA EE [.str e.text] fun x_2 y=>Ab (!List.all x_2 Bx) (rA Iv x [.bool false,.top]) (inR IntKind.i64 ((↑(List.length x.chunks):Int)-(1:Int))∧Ab (decide (i<(↑(List.length x.chunks):Int)-(1:Int))) (cA Jw [.agg [.int .i64 x.ind,AV.sl false 0 2 Ru ruA x.rules,AV.sl false 0 5 Ch chA x.chunks,AV.sl false 0 3 Sn snA x.spans,AV.sl false 0 2 Ti tiA x.ties],.agg [.int .i64 e.rule,.int .i64 e.fr,.bool e.space,.int .i64 e.nest]] fun x_3 y=>Ab (!Eh x_3.1 {text:=[],rule:=x_3.2.1,fr:=x_3.2.2.1,space:=x_3.2.2.2.1,nest:=x_3.2.2.2.2}) (rA Iv x [.bool false,.top]) (inR IntKind.i64 (i+(1:Int))∧(eN (Ow x) i [.box 0 [.int .i64 x.ind,AV.sl false 0 2 Ru ruA x.rules,AV.sl false 0 5 Ch chA x.chunks,AV.sl false 0 3 Sn snA x.spans,AV.sl false 0 2 Ti tiA x.ties],.int .i64 (↑(List.length x.chunks):Int),AV.sl false 0 5 Ch chA x.chunks,.int .i64 (↑(List.length x.chunks):Int),.int .i64 (i+(1:Int))]))) (inR IntKind.i64 (i+(1:Int))∧(eN (Ow x) i [.box 0 [.int .i64 x.ind,AV.sl false 0 2 Ru ruA x.rules,AV.sl false 0 5 Ch chA x.chunks,AV.sl false 0 3 Sn snA x.spans,AV.sl false 0 2 Ti tiA x.ties],.int .i64 (↑(List.length x.chunks):Int),AV.sl false 0 5 Ch chA x.chunks,.int .i64 (↑(List.length x.chunks):Int),.int .i64 (i+(1:Int))])))) (inR IntKind.i64 ((↑(List.length x.chunks):Int)-(1:Int))∧((0:Int)≤(↑(List.length x.chunks):Int)-(1:Int)∧(↑(List.length x.chunks):Int)-(1:Int)<(↑(List.length x.chunks):Int))∧∀(e:Ch),x.chunks[Int.toNat ((↑(List.length x.chunks):Int)-(1:Int))]? =some e→rA Iv x [.bool (true&&e.rule==(0:Int)&&e.fr==(0:Int)&&e.space==false&&e.nest==(0:Int)),.top]))) (fun x=>by kernel_rfl) fun(x:Pc) (hx:pcS x)=>(by
 dsimp only[cA,Bl,chs,eA,eN,Ow,pcA,rA,Bj,BG,EE,Iv,Jw,Bm,Bn,Aq,Aw,mvL,lnL,mvE,lnE,mvG,mvH,lnG,lnH,AZ]
 have hz:=hx.1;have ht:=hx.2.1.2
 (repeat' first|refine Ds x ?_|(with_reducible first|rfl|exact True.intro|apply AG|apply And.intro|((first|apply Au|apply AE|apply Av|apply AF)<;>intro _))|(apply As<;>intro _)|apply AD|refine Af () ?_ ?_|((first|apply AK|apply AJ|apply AI|apply AH|apply AC|apply AB|apply AA|apply Az|apply Ax)<;>try dsimp only)|apply Af|(refine Prod.forall.2 ?_;intro _;try dsimp only)|(intro _;try dsimp only))
 all_goals first
  |rfl
  |assumption
  |exact a2w
  |exact hx
  |exact(b3t ‹_›).symm
  |(have hq:=(show chI _ _∧_ by assumption).1.1;(try simp only[Ai]);omega)
  |(have hq:=Ou (AY (show x.chunks[_]? =some _ by assumption));omega)
  |exact(Rg (show chI _ _∧_ by assumption).1 ‹_› (.inl ‹_›)).symm
  |exact(Rg (show chI _ _∧_ by assumption).1 ‹_› (.inr ⟨by assumption,by assumption⟩)).symm
  |exact Rf (show chI _ _∧_ by assumption).1 ‹_› ‹_› ‹_› (fun _=>by assumption)
  |exact Rf (show chI _ _∧_ by assumption).1 ‹_› ‹_› ‹_› (fun _=>by omega)
  |(rw[Wm (show chI _ _∧_ by assumption).1 ‹_› ‹_› ‹_›];exact Wn)
  |((try simp only[Br] at*);omega)
  |skip)
def KO:Sig:= {X:=Pc×Int,args:=fun x=>[.agg (pcA false x.1),.int .i64 x.2],pre:=fun x=>pcS x.1,Y:=Unit,post:=fun x y=>True,res:=fun x y=> .bool (inn x.2 0 ((x.1.rules.length:Int)-1)),outs:=fun x y=>[.top,.top],keep:=false}
theorem b3v:Ah G Tryz.prog 118 KO:=
 vcFun_okP [(36,0,BG)] [] false (fun x=>[]) Tryz.func118 rfl (by decide) ⟨Gw,trivial⟩ (fun(x:Pc×Int)=>(∀(y:Unit),True→True∧True∧True∧True)∧inR IntKind.i64 ((↑(List.length x.1.rules):Int)-(1:Int))∧cA BG [.int .i64 x.2,.int .i64 (0:Int),.int .i64 ((↑(List.length x.1.rules):Int)-(1:Int))] fun x_1 y=>rA KO x [.bool (inn x_1.1 x_1.2.1 x_1.2.2),.top,.top]) (fun x=>by kernel_rfl) fun(x:Pc×Int) (hx:pcS x.1)=>(by
 dsimp only[cA,Bl,pcA,rA,Bj,BG,KO,Bm,Bn,Aq,Aw,mvL,lnL,mvE,lnE,mvG,mvH,lnG,lnH]
 obtain⟨p,r⟩:=x;dsimp only at hx ⊢
 have hx:pcS p:=hx
 have hz:=hx.1
 (repeat' first|(with_reducible first|rfl|exact True.intro|apply AG|apply And.intro|((first|apply Au|apply AE|apply Av|apply AF)<;>intro _))|(apply As<;>intro _)|apply AD|refine Af () ?_ ?_|((first|apply AK|apply AJ|apply AI|apply AH|apply AC|apply AB|apply AA|apply Az|apply Ax)<;>try dsimp only)|apply Af|(refine Prod.forall.2 ?_;intro _;try dsimp only)|(intro _;try dsimp only))
 all_goals first
  |rfl
  |((try simp only[Ai]);omega))
theorem Rh{p:Pc}{s:Sn}(h:((s.fr<0∨s.fr>s.tuu)∨s.tuu≥(p.chunks.length:Int)-1)∨inn s.cost 0 9=false):DT p s=false:=by
 unfold DT
 rw[Bool.eq_false_iff]
 simp only[ne_eq,Bool.and_eq_true,decide_eq_true_eq,not_and]
 intro h1 h2
 rcases h with h|h
 ·omega
 ·rw[h];simp
theorem a2y{p:Pc}{s:Sn}(h1:¬s.fr<0)(h2:¬s.fr>s.tuu)(h3:¬s.tuu≥(p.chunks.length:Int)-1)(h4:inn s.cost 0 9=true):DT p s=true:=by
 unfold DT
 simp only[Bool.and_eq_true,decide_eq_true_eq]
 exact⟨⟨by omega,by omega⟩,by omega,h4⟩
def poA(p:Pc):Prop:=((inn p.ind 0 60=true∧FC p=true)∧EI p=true)∧p.spans.length≤40∧p.ties.length≤20
theorem KP{p:Pc}(h:((inn p.ind 0 60=false∨FC p=false)∨EI p=false)∨(p.spans.length:Int)>40∨(p.ties.length:Int)>20):false=Bo p:=by
 symm
 rw[Bool.eq_false_iff]
 simp only[Bo,ne_eq,Bool.and_eq_true,decide_eq_true_eq,not_and]
 intro h1 h2 h3 h4
 rw[h1,h2,h3] at h
 simp at h;omega
theorem Iw{p:Pc}(h:p.spans.all (DT p)=false∨p.ties.all (FY p)=false):false=Bo p:=by
 symm
 unfold Bo
 rcases h with h|h<;>rw[h]<;>simp
theorem a2z{p:Pc}(h:poA p)(h1:p.spans.all (DT p)=true)(h2:p.ties.all (FY p)=true):true=Bo p:=by
 obtain⟨⟨⟨a,b⟩,c⟩,d,e⟩:=h
 unfold Bo
 rw[a,b,c,h1,h2];simp [d,e]
def DE:Sig:= {X:=Pc,args:=fun x=>[.agg (pcA false x)],pre:=fun x=>pcS x,Y:=Unit,post:=fun x y=>True,res:=fun x y=> .bool (Bo x),outs:=fun x y=>[.top],keep:=false}
def Ri(x:Pc):LS:= {ι:=Int,inv:=fun i=>poA x∧Bz (DT x) x.spans i,regs:=fun i=>[(1,.box 0 (pcA false x)),(34,sns x.spans),(35,.int .i64 x.spans.length),(36,.int .i64 i)],als:=[],meas:=fun i=>x.spans.length-i.toNat}
def Rj(x:Pc):LS:= {ι:=Int,inv:=fun i=>(poA x∧x.spans.all (DT x)=true)∧Bz (FY x) x.ties i,regs:=fun i=>[(1,.box 0 (pcA false x)),(67,tis x.ties),(68,.int .i64 x.ties.length),(69,.int .i64 i)],als:=[],meas:=fun i=>x.ties.length-i.toNat}
theorem a2A:Ah G Tryz.prog 82 DE:=
 vcFun_okP [(36,0,BG),(116,0,Jv),(117,0,Iv),(118,0,KO)] [] false (fun x=>[(4,Ri x),(10,Rj x)]) Tryz.func82 rfl (by decide) ⟨Gw,b3r,b3u,b3v,trivial⟩ (fun(x:Pc)=>(∀(y:Unit),True→True∧True∧True)∧cA BG [.int .i64 x.ind,.int .i64 (0:Int),.int .i64 (60:Int)] fun x_1 y=>Ab (!inn x_1.1 x_1.2.1 x_1.2.2) (rA DE x [.bool false,.top]) (cA Jv [.agg [.int .i64 x.ind,AV.sl false 0 2 Ru ruA x.rules,AV.sl false 0 5 Ch chA x.chunks,AV.sl false 0 3 Sn snA x.spans,AV.sl false 0 2 Ti tiA x.ties]] fun x_2 y=>Ab (!FC x_2) (rA DE x [.bool false,.top]) (cA Iv [.agg [.int .i64 x.ind,AV.sl false 0 2 Ru ruA x.rules,AV.sl false 0 5 Ch chA x.chunks,AV.sl false 0 3 Sn snA x.spans,AV.sl false 0 2 Ti tiA x.ties]] fun x_3 y=>Ab (!EI x_3) (rA DE x [.bool false,.top]) (Ab (decide ((↑(List.length x.spans):Int)>(40:Int))) (rA DE x [.bool false,.top]) (Ab (decide ((↑(List.length x.ties):Int)>(20:Int))) (rA DE x [.bool false,.top]) (eA (Ri x) [.box 0 [.int .i64 x.ind,AV.sl false 0 2 Ru ruA x.rules,AV.sl false 0 5 Ch chA x.chunks,AV.sl false 0 3 Sn snA x.spans,AV.sl false 0 2 Ti tiA x.ties],AV.sl false 0 3 Sn snA x.spans,.int .i64 (↑(List.length x.spans):Int),.int .i64 (0:Int)]∧∀(i:Int),poA x∧Bz (DT x) x.spans i→Ab (decide (i<(↑(List.length x.spans):Int))) (((0:Int)≤i∧i<(↑(List.length x.spans):Int))∧∀(e:Sn),x.spans[Int.toNat i]? =some e→Ab (decide (e.fr<(0:Int))) (rA DE x [.bool false,.top]) (Ab (decide (e.fr>e.tuu)) (rA DE x [.bool false,.top]) (inR IntKind.i64 ((↑(List.length x.chunks):Int)-(1:Int))∧Ab (decide (e.tuu≥(↑(List.length x.chunks):Int)-(1:Int))) (rA DE x [.bool false,.top]) (cA BG [.int .i64 e.cost,.int .i64 (0:Int),.int .i64 (9:Int)] fun x_4 y=>Ab (!inn x_4.1 x_4.2.1 x_4.2.2) (rA DE x [.bool false,.top]) (inR IntKind.i64 (i+(1:Int))∧eN (Ri x) i [.box 0 [.int .i64 x.ind,AV.sl false 0 2 Ru ruA x.rules,AV.sl false 0 5 Ch chA x.chunks,AV.sl false 0 3 Sn snA x.spans,AV.sl false 0 2 Ti tiA x.ties],AV.sl false 0 3 Sn snA x.spans,.int .i64 (↑(List.length x.spans):Int),.int .i64 (i+(1:Int))]))))) (eA (Rj x) [.box 0 [.int .i64 x.ind,AV.sl false 0 2 Ru ruA x.rules,AV.sl false 0 5 Ch chA x.chunks,AV.sl false 0 3 Sn snA x.spans,AV.sl false 0 2 Ti tiA x.ties],AV.sl false 0 2 Ti tiA x.ties,.int .i64 (↑(List.length x.ties):Int),.int .i64 (0:Int)]∧∀(i:Int),(poA x∧List.all x.spans (DT x)=true)∧Bz (FY x) x.ties i→Ab (decide (i<(↑(List.length x.ties):Int))) (((0:Int)≤i∧i<(↑(List.length x.ties):Int))∧∀(e:Ti),x.ties[Int.toNat i]? =some e→cA KO [.agg [.int .i64 x.ind,AV.sl false 0 2 Ru ruA x.rules,AV.sl false 0 5 Ch chA x.chunks,AV.sl false 0 3 Sn snA x.spans,AV.sl false 0 2 Ti tiA x.ties],.int .i64 e.kid] fun x_4 y=>Ab (!inn x_4.2 (0:Int) ((↑(List.length x_4.1.rules):Int)-(1:Int))) (rA DE x [.bool false,.top]) (cA KO [.agg [.int .i64 x.ind,AV.sl false 0 2 Ru ruA x.rules,AV.sl false 0 5 Ch chA x.chunks,AV.sl false 0 3 Sn snA x.spans,AV.sl false 0 2 Ti tiA x.ties],.int .i64 e.up] fun x_5 y=>Ab (!inn x_5.2 (0:Int) ((↑(List.length x_5.1.rules):Int)-(1:Int))) (rA DE x [.bool false,.top]) (Ab (e.kid==e.up) (rA DE x [.bool false,.top]) (inR IntKind.i64 (i+(1:Int))∧eN (Rj x) i [.box 0 [.int .i64 x.ind,AV.sl false 0 2 Ru ruA x.rules,AV.sl false 0 5 Ch chA x.chunks,AV.sl false 0 3 Sn snA x.spans,AV.sl false 0 2 Ti tiA x.ties],AV.sl false 0 2 Ti tiA x.ties,.int .i64 (↑(List.length x.ties):Int),.int .i64 (i+(1:Int))])))) (rA DE x [.bool true,.top])))))))) (fun x=>by kernel_rfl) fun(x:Pc) (hx:pcS x)=>(by
 dsimp only[cA,Bl,chs,eA,eN,Rj,Ri,pcA,rA,Bj,MB,BG,Iv,KO,DE,Jv,Bm,sns,Bn,tis,Aq,Aw,mvL,lnL,mvE,lnE,mvG,mvH,lnG,lnH,AZ]
 have hz:=hx.1;have hz2:=hx.2.1.1
 (repeat' first|refine Iu x ?_|refine Ds x ?_|(with_reducible first|rfl|exact True.intro|apply AG|apply And.intro|((first|apply Au|apply AE|apply Av|apply AF)<;>intro _))|(apply As<;>intro _)|apply AD|refine Af () ?_ ?_|((first|apply AK|apply AJ|apply AI|apply AH|apply AC|apply AB|apply AA|apply Az|apply Ax)<;>try dsimp only)|apply Af|(refine Prod.forall.2 ?_;intro _;try dsimp only)|(intro _;try dsimp only))
 all_goals first
  |rfl
  |assumption
  |exact hx
  |exact MA
  |exact KP (.inl (.inl (.inl ‹_›)))
  |exact KP (.inl (.inl (.inr ‹_›)))
  |exact KP (.inl (.inr ‹_›))
  |exact KP (.inr (.inl ‹_›))
  |exact KP (.inr (.inr ‹_›))
  |exact⟨⟨⟨by assumption,by assumption⟩,by assumption⟩,by omega,by omega⟩
  |exact(show poA _∧_ by assumption).1
  |(have hq:=(show poA _∧Bz _ _ _ by assumption).2.1;(try simp only[Ai]);omega)
  |(have hq:=(show(poA _∧_)∧Bz _ _ _ by assumption).2.1;(try simp only[Ai]);omega)
  |exact Iw (.inl (FE ‹_› (Rh (.inl (.inl (.inl ‹_›))))))
  |exact Iw (.inl (FE ‹_› (Rh (.inl (.inl (.inr ‹_›))))))
  |exact Iw (.inl (FE ‹_› (Rh (.inl (.inr ‹_›)))))
  |exact Iw (.inl (FE ‹_› (Rh (.inr ‹_›))))
  |exact Fo (show poA _∧Bz _ _ _ by assumption).2 ‹_› ‹_› (a2y ‹_› ‹_› ‹_› ‹_›)
  |exact⟨(show poA _∧Bz _ _ _ by assumption).1,He (show poA _∧Bz _ _ _ by assumption).2 ‹_›⟩
  |exact He (show poA _∧Bz _ _ _ by assumption).2 ‹_›
  |exact Iw (.inr (FE ‹_› (by simp [FY, *])))
  |exact Fo (show(poA _∧_)∧Bz _ _ _ by assumption).2 ‹_› ‹_› (by simp [FY, *])
  |exact a2z (show(poA _∧_)∧Bz _ _ _ by assumption).1.1 (show(poA _∧_)∧Bz _ _ _ by assumption).1.2 (He (show(poA _∧_)∧Bz _ _ _ by assumption).2 ‹_›)
  |((try simp only[Ai]);omega)
  |skip)
end Go.My
end
