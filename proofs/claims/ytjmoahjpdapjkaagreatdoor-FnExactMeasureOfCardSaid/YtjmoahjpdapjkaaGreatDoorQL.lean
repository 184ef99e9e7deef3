/- A part of the proof: the engine and the contracts, joined. -/
import Derived.Test.YtjmoahjpdapjkaaGreatDoorQK
section
set_option linter.unusedVariables false
set_option linter.unusedSimpArgs false
namespace Go.My
open Go.Eng Go.Proofs
variable {G:GInv}
theorem a2m{c:UInt8}(h1:Cp c=false)(h2:Bq c=false):BN c=false:=by simp [BN,h1,h2]
theorem b2E{c:UInt8}(h1:Cp c=true):BN c=true:=by simp [BN,h1]
theorem b2F{c:UInt8}(h1:Bq c=true):BN c=true:=by simp [BN,h1]
theorem b2G{s:List UInt8}:Cx s≤s.length:=by
 unfold Cx
 cases h:DG isQ (s.drop 1) with
 |none=>simp
 |some i=>
  simp only
  split
  ·have:=SW h;simp at this;omega
  ·omega
theorem b2H{s:List UInt8}:Co s≤s.length:=by
 unfold Co
 split
 ·split
  ·exact Qu
  ·omega
 ·omega
theorem b2I{s:List UInt8}:(Fu s).length≤2:=by
 rw[a1b]
 split
 ·simp;omega
 ·split
  ·simp;omega
  ·simp
theorem b2J{x:List UInt8×Int}(h0:0≤x.2)(h1:x.2<x.1.length):(Co (x.1.drop x.2.toNat):Int)≤x.1.length-x.2∧(Cx (x.1.drop x.2.toNat):Int)≤x.1.length-x.2:=by
 have a:= @b2H (x.1.drop x.2.toNat);have b:= @b2G (x.1.drop x.2.toNat)
 simp at a b;omega
theorem a2n{x:List UInt8×Int}{i:Int}{c d e:UInt8}(h0:0≤x.2)(hf:Cp c=false)(hc:x.1[x.2.toNat]? =some c)(hg:Bq d=true)(hd:x.1[x.2.toNat]? =some d)(h:rwI Bq x i)(hz:Bq e=false)(he:x.1[i.toNat]? =some e):
 (i-x.2>12→sgR x 0 [] 0 false 0)∧(¬i-x.2>12→sgR x 2 (List.drop (Int.toNat x.2) (List.take (Int.toNat i) x.1)) x.2 false (i-x.2)):=by
 rw[hc] at hd;cases hd
 exact NS h0 hc hf hg h (.inr ⟨_,he,hz⟩)
theorem a2o{t:List UInt8}{i br:Int}{l:List Sg}{n:Nat}{c c2:UInt8}{k p m:Int}{tx:List UInt8}{b:Bool}(h32:(c.toNat:Int)≠32)(hc:t[i.toNat]? =some c)(h10:(c2.toNat:Int)≠10)(hc2:t[i.toNat]? =some c2)(h:sgJ t i br l n)(hi:i<t.length)(hs:sgR (t,i) k tx p b m)(hm:m≠0):
 sgJ t (i+m) 0 (l++[⟨k,tx,p,decide (br>1)⟩]) (n-1)∧n-1<n:=by
 rw[hc] at hc2;cases hc2
 rcases hs with⟨h1,⟨rfl,rfl,rfl,rfl⟩,rfl⟩|hs
 ·exact Ui hc h hi (by omega) (by omega) h1
 ·exact(hm hs.2).elim
theorem a2p{t:List UInt8}{i br:Int}{l:List Sg}{n:Nat}{c c2:UInt8}{k p m:Int}{tx:List UInt8}{b:Bool}(h32:(c.toNat:Int)≠32)(hc:t[i.toNat]? =some c)(h10:(c2.toNat:Int)≠10)(hc2:t[i.toNat]? =some c2)(h:sgJ t i br l n)(hi:i<t.length)(hs:sgR (t,i) k tx p b m)(hm:m=0):BX t=none:=by
 rw[hc] at hc2;cases hc2
 rcases hs with⟨h1,_,h2⟩|hs
 ·have a:=(a0T h1).1;rw[hm] at h2;rw[←h2] at a;omega
 ·exact Uj hc h hi (by omega) (by omega) hs.1
theorem b2K{t:List UInt8}{i br:Int}{l:List Sg}{n:Nat}{k p m:Int}{tx:List UInt8}{b:Bool}(h:sgJ t i br l n)(hs:sgR (t,i) k tx p b m):0≤m∧m≤t.length-i:=by
 rcases hs with⟨h1,_,h2⟩|hs
 ·have a:=Uh h h1;simp only at h2;omega
 ·have:=IT h;omega
attribute [local irreducible] rwI sgR Bb Co Cx Fu
def Ra:Sig:= {X:=List UInt8×Int,args:=fun x=>[.str x.1,.int .i64 x.2],pre:=fun x=>0≤x.2∧x.2<x.1.length∧x.1.length<2^62,Y:=Int×List UInt8×Int×Bool×Int,post:=fun x y=>sgR x y.1 y.2.1 y.2.2.1 y.2.2.2.1 y.2.2.2.2,res:=fun x y=> .tup [.agg [.int .i64 y.1,.str y.2.1,.int .i64 y.2.2.1,.bool y.2.2.2.1],.int .i64 y.2.2.2.2],outs:=fun x y=>[.top,.top],keep:=false}
def Oc(x:List UInt8×Int):LS:= {ι:=Int,inv:=fun i=>rwI BN x i,regs:=fun i=>[(0,.str x.1),(1,.int .i64 x.2),(4,.box 0 [.int .i64 0,.str [],.int .i64 0,.bool false]),(6,.int .i64 i)],als:=[],meas:=fun i=>x.1.length-i.toNat}
def Rb(x:List UInt8×Int):LS:= {ι:=Int,inv:=fun i=>rwI Bq x i,regs:=fun i=>[(0,.str x.1),(1,.int .i64 x.2),(4,.box 0 [.int .i64 0,.str [],.int .i64 0,.bool false]),(6,.int .i64 i)],als:=[],meas:=fun i=>x.1.length-i.toNat}
theorem b2L:Aq G Tryz.prog 45 Ra:=
 vcFun_okP [(76,0,Gc),(77,0,HW),(78,0,EH),(79,0,Fi),(80,0,Hj),(81,0,Lb)] [] false (fun x=>[(6,Oc x),(12,Rb x)]) Tryz.func45 rfl (by decide) ⟨XJ,XE,Xo,SV,XI,b0a,trivial⟩ (fun(x:List UInt8×Int)=>(∀(y:Int×List UInt8×Int×Bool×Int),sgR x y.1 y.2.1 y.2.2.1 y.2.2.2.1 y.2.2.2.2→((True∧True∧True∧True∧True)∧True∧True)∧True∧True∧True)∧cA Gc [.str x.1,.int .i64 x.2] fun x_1 y=>Aa (decide ((↑(Co (List.drop (Int.toNat x_1.2) x_1.1)):Int)>(0:Int))) (inR IntKind.i64 (x.2+(↑(Co (List.drop (Int.toNat x_1.2) x_1.1)):Int))∧((0:Int)≤x.2∧x.2≤x.2+(↑(Co (List.drop (Int.toNat x_1.2) x_1.1)):Int)∧x.2+(↑(Co (List.drop (Int.toNat x_1.2) x_1.1)):Int)≤(↑(List.length x.1):Int))∧cA HW [.str (List.drop (Int.toNat x.2) (List.take (Int.toNat (x.2+(↑(Co (List.drop (Int.toNat x_1.2) x_1.1)):Int))) x.1))] fun x_2 y=>∃(y:Int×List UInt8×Int×Bool×Int),sgR x y.1 y.2.1 y.2.2.1 y.2.2.2.1 y.2.2.2.2∧(5:Int)=y.1∧CC x_2=y.2.1∧x.2=y.2.2.1∧false=y.2.2.2.1∧(↑(Co (List.drop (Int.toNat x_1.2) x_1.1)):Int)=y.2.2.2.2∧True) (((0:Int)≤x.2∧x.2<(↑(List.length x.1):Int))∧∀(c:UInt8),x.1[Int.toNat x.2]? =some c→cA EH [AV.int IntKind.u8 (↑(UInt8.toNat c):Int)] fun x_2 y=>Aa (Cp x_2) (eA (Oc x) [.str x.1,.int .i64 x.2,.box 0 [.int .i64 (0:Int),.str #[].toList,.int .i64 (0:Int),.bool false],.int .i64 x.2]∧∀(i:Int),rwI BN x i→Aa (decide (i<(↑(List.length x.1):Int))) (((0:Int)≤i∧i<(↑(List.length x.1):Int))∧∀(c:UInt8),x.1[Int.toNat i]? =some c→cA EH [AV.int IntKind.u8 (↑(UInt8.toNat c):Int)] fun x_3 y=>Aa (Cp x_3) (inR IntKind.i64 (i+(1:Int))∧eN (Oc x) i [.str x.1,.int .i64 x.2,.box 0 [.int .i64 (0:Int),.str [],.int .i64 (0:Int),.bool false],.int .i64 (i+(1:Int))]) (((0:Int)≤i∧i<(↑(List.length x.1):Int))∧∀(c:UInt8),x.1[Int.toNat i]? =some c→cA Fi [AV.int IntKind.u8 (↑(UInt8.toNat c):Int)] fun x_4 y=>Aa (Bq x_4) (inR IntKind.i64 (i+(1:Int))∧eN (Oc x) i [.str x.1,.int .i64 x.2,.box 0 [.int .i64 (0:Int),.str [],.int .i64 (0:Int),.bool false],.int .i64 (i+(1:Int))]) (inR IntKind.i64 (i-x.2)∧Aa (decide (i-x.2>(30:Int))) (∃(y:Int×List UInt8×Int×Bool×Int),sgR x y.1 y.2.1 y.2.2.1 y.2.2.2.1 y.2.2.2.2∧(0:Int)=y.1∧ #[].toList=y.2.1∧(0:Int)=y.2.2.1∧false=y.2.2.2.1∧(0:Int)=y.2.2.2.2∧True) (((0:Int)≤x.2∧x.2≤i∧i≤(↑(List.length x.1):Int))∧inR IntKind.i64 (i-x.2)∧∃(y:Int×List UInt8×Int×Bool×Int),sgR x y.1 y.2.1 y.2.2.1 y.2.2.2.1 y.2.2.2.2∧(1:Int)=y.1∧List.drop (Int.toNat x.2) (List.take (Int.toNat i) x.1)=y.2.1∧x.2=y.2.2.1∧false=y.2.2.2.1∧i-x.2=y.2.2.2.2∧True)))) (inR IntKind.i64 (i-x.2)∧Aa (decide (i-x.2>(30:Int))) (∃(y:Int×List UInt8×Int×Bool×Int),sgR x y.1 y.2.1 y.2.2.1 y.2.2.2.1 y.2.2.2.2∧(0:Int)=y.1∧ #[].toList=y.2.1∧(0:Int)=y.2.2.1∧false=y.2.2.2.1∧(0:Int)=y.2.2.2.2∧True) (((0:Int)≤x.2∧x.2≤i∧i≤(↑(List.length x.1):Int))∧inR IntKind.i64 (i-x.2)∧∃(y:Int×List UInt8×Int×Bool×Int),sgR x y.1 y.2.1 y.2.2.1 y.2.2.2.1 y.2.2.2.2∧(1:Int)=y.1∧List.drop (Int.toNat x.2) (List.take (Int.toNat i) x.1)=y.2.1∧x.2=y.2.2.1∧false=y.2.2.2.1∧i-x.2=y.2.2.2.2∧True))) (((0:Int)≤x.2∧x.2<(↑(List.length x.1):Int))∧∀(c:UInt8),x.1[Int.toNat x.2]? =some c→cA Fi [AV.int IntKind.u8 (↑(UInt8.toNat c):Int)] fun x_3 y=>Aa (Bq x_3) (eA (Rb x) [.str x.1,.int .i64 x.2,.box 0 [.int .i64 (0:Int),.str #[].toList,.int .i64 (0:Int),.bool false],.int .i64 x.2]∧∀(i:Int),rwI Bq x i→Aa (decide (i<(↑(List.length x.1):Int))) (((0:Int)≤i∧i<(↑(List.length x.1):Int))∧∀(c:UInt8),x.1[Int.toNat i]? =some c→cA Fi [AV.int IntKind.u8 (↑(UInt8.toNat c):Int)] fun x_4 y=>Aa (Bq x_4) (inR IntKind.i64 (i+(1:Int))∧eN (Rb x) i [.str x.1,.int .i64 x.2,.box 0 [.int .i64 (0:Int),.str [],.int .i64 (0:Int),.bool false],.int .i64 (i+(1:Int))]) (inR IntKind.i64 (i-x.2)∧Aa (decide (i-x.2>(12:Int))) (∃(y:Int×List UInt8×Int×Bool×Int),sgR x y.1 y.2.1 y.2.2.1 y.2.2.2.1 y.2.2.2.2∧(0:Int)=y.1∧ #[].toList=y.2.1∧(0:Int)=y.2.2.1∧false=y.2.2.2.1∧(0:Int)=y.2.2.2.2∧True) (((0:Int)≤x.2∧x.2≤i∧i≤(↑(List.length x.1):Int))∧inR IntKind.i64 (i-x.2)∧∃(y:Int×List UInt8×Int×Bool×Int),sgR x y.1 y.2.1 y.2.2.1 y.2.2.2.1 y.2.2.2.2∧(2:Int)=y.1∧List.drop (Int.toNat x.2) (List.take (Int.toNat i) x.1)=y.2.1∧x.2=y.2.2.1∧false=y.2.2.2.1∧i-x.2=y.2.2.2.2∧True))) (inR IntKind.i64 (i-x.2)∧Aa (decide (i-x.2>(12:Int))) (∃(y:Int×List UInt8×Int×Bool×Int),sgR x y.1 y.2.1 y.2.2.1 y.2.2.2.1 y.2.2.2.2∧(0:Int)=y.1∧ #[].toList=y.2.1∧(0:Int)=y.2.2.1∧false=y.2.2.2.1∧(0:Int)=y.2.2.2.2∧True) (((0:Int)≤x.2∧x.2≤i∧i≤(↑(List.length x.1):Int))∧inR IntKind.i64 (i-x.2)∧∃(y:Int×List UInt8×Int×Bool×Int),sgR x y.1 y.2.1 y.2.2.1 y.2.2.2.1 y.2.2.2.2∧(2:Int)=y.1∧List.drop (Int.toNat x.2) (List.take (Int.toNat i) x.1)=y.2.1∧x.2=y.2.2.1∧false=y.2.2.2.1∧i-x.2=y.2.2.2.2∧True))) (((0:Int)≤x.2∧x.2<(↑(List.length x.1):Int))∧∀(c:UInt8),x.1[Int.toNat x.2]? =some c→Aa ((↑(UInt8.toNat c):Int)==(39:Int)) (cA Hj [.str x.1,.int .i64 x.2] fun x_4 y=>inR IntKind.i64 (x.2+(↑(Cx (List.drop (Int.toNat x_4.2) x_4.1)):Int))∧((0:Int)≤x.2∧x.2≤x.2+(↑(Cx (List.drop (Int.toNat x_4.2) x_4.1)):Int)∧x.2+(↑(Cx (List.drop (Int.toNat x_4.2) x_4.1)):Int)≤(↑(List.length x.1):Int))∧∃(y:Int×List UInt8×Int×Bool×Int),sgR x y.1 y.2.1 y.2.2.1 y.2.2.2.1 y.2.2.2.2∧(3:Int)=y.1∧List.drop (Int.toNat x.2) (List.take (Int.toNat (x.2+(↑(Cx (List.drop (Int.toNat x_4.2) x_4.1)):Int))) x.1)=y.2.1∧x.2=y.2.2.1∧false=y.2.2.2.1∧(↑(Cx (List.drop (Int.toNat x_4.2) x_4.1)):Int)=y.2.2.2.2∧True) (cA Lb [.str x.1,.int .i64 x.2] fun x_4 y=>∃(y:Int×List UInt8×Int×Bool×Int),sgR x y.1 y.2.1 y.2.2.1 y.2.2.2.1 y.2.2.2.2∧(4:Int)=y.1∧Fu (List.drop (Int.toNat x_4.2) x_4.1)=y.2.1∧x.2=y.2.2.1∧false=y.2.2.2.1∧(↑(List.length (Fu (List.drop (Int.toNat x_4.2) x_4.1))):Int)=y.2.2.2.2∧True))))) (fun x=>by kernel_rfl) fun(x:List UInt8×Int) (hx:0≤x.2∧x.2<x.1.length∧x.1.length<2^62)=>(by
 dsimp only[cA,eA,eN,Rb,Oc,Fi,EH,Gc,Hj,Lb,HW,Av,Az,mvL,lnL,mvE,lnE,BA]
 obtain⟨h1,h2,h3⟩:=hx
 have hn:=b2J h1 h2
 (repeat' first|(with_reducible first|rfl|exact True.intro|apply AK|apply And.intro|((first|apply AA|apply AI|apply AB|apply AJ)<;>intro _))|(apply Ax<;>intro _)|apply AH|refine Af () ?_ ?_|((first|apply AO|apply AN|apply AM|apply AL|apply AG|apply AF|apply AE|apply AD|apply AC)<;>try dsimp only)|apply Af|(refine Prod.forall.2 ?_;intro _;try dsimp only)|(intro _;try dsimp only))
 all_goals(try((repeat(rename x.1[_]? =some _=>hq;revert hq;rename x.1[_]? =some _=>hr;intro hq;rw[hr] at hq;cases hq))))
 all_goals first
  |rfl
  |omega
  |exact b0d h1 ‹_›
  |exact b0b (by omega)
  |exact Up h1 ‹_› ‹_› ‹_› (b2E ‹_›)
  |exact Up h1 ‹_› ‹_› ‹_› (b2F ‹_›)
  |exact Up h1 ‹_› ‹_› ‹_› ‹_›
  |exact(QD h1 ‹_› ‹_› ‹_› (.inl ‹_›)).1 ‹_›
  |exact(QD h1 ‹_› ‹_› ‹_› (.inl ‹_›)).2 ‹_›
  |exact(QD h1 ‹_› ‹_› ‹_› (.inr ⟨_,by assumption,a2m ‹_› ‹_›⟩)).1 ‹_›
  |exact(QD h1 ‹_› ‹_› ‹_› (.inr ⟨_,by assumption,a2m ‹_› ‹_›⟩)).2 ‹_›
  |exact(NS h1 ‹_› ‹_› ‹_› ‹_› (.inl ‹_›)).1 ‹_›
  |exact(NS h1 ‹_› ‹_› ‹_› ‹_› (.inl ‹_›)).2 ‹_›
  |exact(NS h1 ‹_› ‹_› ‹_› ‹_› (.inr ⟨_,by assumption,by assumption⟩)).1 ‹_›
  |exact(NS h1 ‹_› ‹_› ‹_› ‹_› (.inr ⟨_,by assumption,by assumption⟩)).2 ‹_›
  |exact(a2n h1 ‹_› ‹_› ‹_› ‹_› ‹_› ‹_› ‹_›).1 ‹_›
  |exact(a2n h1 ‹_› ‹_› ‹_› ‹_› ‹_› ‹_› ‹_›).2 ‹_›
  |exact b0f h1 ‹_› ‹_› ‹_› ‹_›
  |exact b0g h1 ‹_› ‹_› ‹_› ‹_› ‹_›
  |(have hq:=b0c (show rwI _ _ _ by assumption);(try simp only[AR]);omega)
  |(have hq:= @b2I (x.1.drop x.2.toNat);(try simp only[AR]);omega)
  |(simp only[List.length_drop,List.length_take];omega)
  |skip)
attribute [local irreducible] sgJ BX
def JU:Sig:= {X:=List UInt8,args:=fun x=>[.str x],pre:=fun x=>x.length<2^62,Y:=List Sg×Int,post:=fun x y=>sgQ x y.1,res:=fun x y=> .tup [sgs y.1,.int .i64 y.2,.bool (BX x).isSome],outs:=fun x y=>[.top],keep:=true}
def MA(x:List UInt8):LS:= {ι:=Int×Int×List Sg×Nat,inv:=fun i=>sgJ x i.1 i.2.1 i.2.2.1 i.2.2.2,regs:=fun i=>[(0,.str x),(5,DL i.2.2.1),(6,.int .i64 i.1),(7,.int .i64 i.2.1)],als:=[],meas:=fun i=>i.2.2.2}
theorem b2M:Aq G Tryz.prog 18 JU:=
 vcFun_okP [(45,0,Ra)] [(36,⟨Sg,sgA⟩)] false (fun x=>[(6,MA x)]) Tryz.func18 rfl (by decide) ⟨b2L,trivial⟩ (fun(x:List UInt8)=>True∧Aa (decide ((↑(List.length x):Int)>(3000:Int))) (rA JU x [.tup [DL [],.int .i64 (3000:Int),.bool false],.top]) (eA (MA x) [.str x,DL [],.int .i64 (0:Int),.int .i64 (0:Int)]∧∀(i:Int×Int×List Sg×Nat),sgJ x i.1 i.2.1 i.2.2.1 i.2.2.2→Aa (decide (i.1<(↑(List.length x):Int))) (((0:Int)≤i.1∧i.1<(↑(List.length x):Int))∧∀(c:UInt8),x[Int.toNat i.1]? =some c→Aa ((↑(UInt8.toNat c):Int)==(32:Int)) (inR IntKind.i64 (i.1+(1:Int))∧eN (MA x) i [.str x,DL i.2.2.1,.int .i64 (i.1+(1:Int)),.int .i64 i.2.1]) (((0:Int)≤i.1∧i.1<(↑(List.length x):Int))∧∀(c:UInt8),x[Int.toNat i.1]? =some c→Aa ((↑(UInt8.toNat c):Int)==(10:Int)) (inR IntKind.i64 (i.2.1+(1:Int))∧inR IntKind.i64 (i.1+(1:Int))∧eN (MA x) i [.str x,DL i.2.2.1,.int .i64 (i.1+(1:Int)),.int .i64 (i.2.1+(1:Int))]) (cA Ra [.str x,.int .i64 i.1] fun x_1 y=>Aa (y.2.2.2.2==(0:Int)) (rA JU x [.tup [DL [],.int .i64 i.1,.bool false],.top]) (∃(x_2:Sg),y.1=x_2.kind∧y.2.1=x_2.text∧y.2.2.1=x_2.pos∧decide (i.2.1>(1:Int))=x_2.blank∧∃(zs:List Sg),DL [x_2]=DL zs∧Bt sgA∧AW (List.length i.2.2.1+List.length zs) (40:Nat)∧inR IntKind.i64 (i.1+y.2.2.2.2)∧eN (MA x) i [.str x,DL (i.2.2.1++zs),.int .i64 (i.1+y.2.2.2.2),.int .i64 (0:Int)])))) (rA JU x [.tup [DL i.2.2.1,.int .i64 (0:Int),.bool true],.top]))) (fun x=>by kernel_rfl) fun(x:List UInt8) (hx:x.length<2^62)=>(by
 dsimp only[cA,eA,eN,MA,DL,rA,Ra,JU,Br,sgs,Av,Az,mvL,lnL,mvE,lnE,BA]
 have hx:x.length<2^62:=hx
 (repeat' first|(with_reducible first|rfl|exact True.intro|apply AK|apply And.intro|((first|apply AA|apply AI|apply AB|apply AJ)<;>intro _))|(apply Ax<;>intro _)|apply AH|refine Af () ?_ ?_|((first|apply AO|apply AN|apply AM|apply AL|apply AG|apply AF|apply AE|apply AD|apply AC)<;>try dsimp only)|apply Af|(refine Prod.forall.2 ?_;intro _;try dsimp only)|(intro _;try dsimp only))
 all_goals first
  |(show Nat;skip)
  |rfl
  |exact a0U ‹_›
  |exact(JK (Qy ‹_›)).2
  |exact(JK (Qy ‹_›)).1.symm
  |exact(Qv ‹_› ‹_› ‹_› (by omega)).1
  |exact(Qw ‹_› ‹_› ‹_› (by omega)).1
  |exact(a2o ‹_› ‹_› ‹_› ‹_› ‹_› ‹_› ‹_› ‹_›).1
  |exact(JK (a2p ‹_› ‹_› ‹_› ‹_› ‹_› ‹_› ‹_› ‹_›)).2
  |exact(JK (a2p ‹_› ‹_› ‹_› ‹_› ‹_› ‹_› ‹_› ‹_›)).1.symm
  |exact(Qx ‹_› ‹_›).2
  |exact(Qx ‹_› ‹_›).1.symm
  |(have hq:=IT (show sgJ _ _ _ _ _ by assumption);(try simp only[AR]);omega)
  |(have hj:=(show sgJ _ _ _ _ _ by assumption);have hq:=IT hj;have hz:=b2K hj ‹_›;(try simp only[AR]);omega)
  |(have hq:=IT (show sgJ _ _ _ _ _ by assumption);(try simp only[AW,List.length_append,List.length_cons,List.length_nil]);omega)
  |(simp [AW];done)
  |skip
 all_goals first
  |exact(Qv ‹_› ‹_› ‹_› (by omega)).2
  |exact(Qw ‹_› ‹_› ‹_› (by omega)).2
  |exact(a2o ‹_› ‹_› ‹_› ‹_› ‹_› ‹_› ‹_› ‹_›).2
  |rfl
  |skip)
end Go.My
end
section
set_option linter.unusedVariables false
set_option linter.unusedSimpArgs false
namespace Go.My
open Go.Eng Go.Proofs
variable {G:GInv}
theorem b2N{s:List UInt8}:CC s <+: s:=by
 have h:=List.dropWhile_suffix (fun c:UInt8=>decide (c.toNat=32)) (l:=s.reverse)
 unfold CC
 rw[←List.reverse_suffix,List.reverse_reverse];exact h
theorem Vg{c:UInt8}{a s t:List UInt8}(h:t <+: c::s)(ht:t=a)(ha:a≠[]):a.head? =some c:=by
 subst ht
 match t with
 |[]=>exact(ha rfl).elim
 |d::r=>
  obtain⟨k,hk⟩:=h
  simp at hk
  simp [hk.1]
theorem b2O{s:List UInt8}(h:(Bb s).ok=true)(ht:(Bb s).text=[41]∨(Bb s).text=[61,62]∨(Bb s).text=[44]):(Bb s).kind=4:=by
 match s with
 |[]=>cases h
 |b::s=>
  have key:∀t:List UInt8,t <+: b::s→(t=[41]∨t=[61,62]∨t=[44])→b=41∨b=61∨b=44:=by
   intro t hp ht
   rcases ht with ht|ht|ht
   ·have:=Vg hp ht (by simp);simp at this;exact .inl this.symm
   ·have:=Vg hp ht (by simp);simp at this;exact .inr (.inl this.symm)
   ·have:=Vg hp ht (by simp);simp at this;exact .inr (.inr this.symm)
  unfold Bb at h ht ⊢
  simp only at h ht ⊢
  split
  ·rename_i hb
   rw[if_pos hb] at ht
   rcases key _ (List.takeWhile_prefix _) ht with rfl|rfl|rfl<;>exact absurd hb (by decide)
  ·rename_i hb
   rw[if_neg hb] at h ht
   split
   ·rename_i hb2
    rw[if_pos hb2] at ht
    rcases key _ (List.takeWhile_prefix _) ht with rfl|rfl|rfl<;>exact absurd hb2 (by decide)
   ·rename_i hb2
    rw[if_neg hb2] at h ht
    split
    ·rename_i hb3
     rw[if_pos hb3] at ht h
     simp only at ht h
     have hp:(Dm (b::s)).1 <+: b::s:=by
      unfold Dm;split
      ·exact List.nil_prefix
      ·exact List.take_prefix _ _
     rcases key _ hp ht with rfl|rfl|rfl<;>exact absurd hb3 (by decide)
    ·rename_i hb3
     rw[if_neg hb3] at h ht
     split
     ·rename_i hb4
      rw[if_pos hb4] at ht
      have hb5:b=47:=by
       cases s with
       |nil=>simp at hb4
       |cons c s=>simp at hb4;exact hb4.1
      rcases key _ (b2N.trans (List.takeWhile_prefix _)) ht with rfl|rfl|rfl<;>exact absurd hb5 (by decide)
     ·rename_i hb4
      rw[if_neg hb4] at h
      split
      ·rfl
      ·rename_i hb5
       rw[if_neg hb5] at h
       split
       ·rfl
       ·rename_i hb6
        rw[if_neg hb6] at h;cases h
theorem Rc{t:List UInt8}:∀(n:Nat) (i br:Int) (l:List Sg),EV t n i br=some l→sgM l
 |0,_,_,_,h=>by cases h
 |n+1,i,br,l,h=>by
  rw[EV] at h
  split at h
  ·simp at h;subst h;intro e he;simp at he
  ·split at h
   ·exact Rc n _ _ _ h
   ·split at h
    ·exact Rc n _ _ _ h
    ·split at h
     ·rename_i hok
      rw[Option.map_eq_some_iff] at h
      obtain⟨l',h1,rfl⟩:=h
      intro e he ht
      simp only[List.mem_cons] at he
      rcases he with rfl|he
      ·exact b2O hok ht
      ·exact Rc n _ _ _ h1 e he ht
     ·cases h
theorem b2P{t:List UInt8}{l:List Sg}(h:BX t=some l):sgM l:=by
 rw[BX] at h
 split at h
 ·cases h
 ·exact Rc _ _ _ _ h
def frI(t:List UInt8)(l:List Sg)(y:Gs)(ks:List Int)(ms:List (Int×Int))(N:Nat):Prop:=(BX t=some l∧sgB l)∧Dj l y ks ms N
theorem b2Q{t:List UInt8}{l:List Sg}(h:sgQ t l)(hn:(BX t).isSome=true):frI t l ⟨0,0,false,[]⟩ [] [] (l.length+1):=⟨JM h hn,a0V⟩
theorem Vh{t:List UInt8}{s:ST}{y:Gs}{ks:List Int}{ms:List (Int×Int)}{N:Nat}(h:frI t s.sg y ks ms N):okQ s y:=⟨Ul h.1.2 h.2,b2P h.1.1⟩
theorem Rd{t:List UInt8}{l:List Sg}{y:Gs}{ks:List Int}{ms:List (Int×Int)}{N:Nat}{b:Bool}{z:Int×Gs}(h:frI t l y ks ms N)(hb:y.bad=false)(hl:y.pos<l.length)(hz:Ae l y (De l false) z)(e:b=(blG l y&&decide (0<(ks.length:Int)))):
 frI t l (gBl z.2 z.1 b) (ks++[z.1]) (ms++[(y.pos,(gBl z.2 z.1 b).pos)]) (N-1)∧N-1<N:=by
 rw[UY hb] at e
 have hz2:Ae l y (De l b) (z.1,gBl z.2 z.1 b):=UX UW hz
 obtain⟨a,c⟩:=Uk h.2 hb hl hz2 e
 exact⟨⟨h.1,a⟩,c⟩
theorem b2R{t:List UInt8}{l:List Sg}{y:Gs}{ks:List Int}{ms:List (Int×Int)}{N:Nat}(h:frI t l y ks ms N):ks.length≤3001∧0≤y.pos∧y.pos≤l.length:=by
 have:=Um h.1.2 h.2;omega
def frE(l:List Sg)(y:Gs):Prop:=y.bad=true∨¬y.pos<l.length
theorem MB{l:List Sg}{y:Gs}(h:y.bad=true):frE l y:= .inl h
theorem MC{l:List Sg}{y:Gs}(h:¬y.pos<l.length):frE l y:= .inr h
theorem MD:Cy []:=⟨by simp,by simp⟩
theorem Re{t:List UInt8}{l:List Sg}{y:Gs}{ks:List Int}{ms:List (Int×Int)}{N:Nat}(h:frI t l y ks ms N):sgQ t l∧(BX t).isSome=true:=⟨.inl h.1,by rw[h.1.1];rfl⟩
theorem Rf{t:List UInt8}{l:List Sg}{y:Gs}{ks:List Int}{ms:List (Int×Int)}{N:Nat}(h:frI t l y ks ms N)(he:frE l y)(hb:(Ah y ⟨22,[],ks,false⟩).bad=true):CI t=none:=QA (a0X (Re h).1 (Re h).2 ⟨h.2,he⟩ hb) hb
theorem JV{t:List UInt8}{l:List Sg}{y:Gs}{ks:List Int}{ms:List (Int×Int)}{N:Nat}(h:frI t l y ks ms N)(he:frE l y)(hb:(Ah y ⟨22,[],ks,false⟩).bad=false):
 (Dn (Ah y ⟨22,[],ks,false⟩).nodes=false→CI t=none)∧(Dn (Ah y ⟨22,[],ks,false⟩).nodes=true→CI t=some (Ah y ⟨22,[],ks,false⟩).nodes):=by
 have a:=a0Y (Re h).1 (Re h).2 ⟨h.2,he⟩ hb
 refine⟨fun h2=>QA a (by simp only[BJ,h2];rfl),fun h2=>(Mp a (by simp only[BJ,h2];rfl)).1⟩
theorem Od{t:List UInt8}{l:List Sg}{y:Gs}{ks:List Int}{ms:List (Int×Int)}{N:Nat}(h:frI t l y ks ms N):Cy (Ah y ⟨22,[],ks,false⟩).nodes∧(Ah y ⟨22,[],ks,false⟩).nodes.length≤1073741824∧0≤(Ah y ⟨22,[],ks,false⟩).pos:=by
 have a:=Ib h.2.1 (Qz h.1.2 h.2)
 have b:=Un a
 exact⟨b.1,by omega,a.1.1⟩
theorem a2q{t:List UInt8}(h:(BX t).isSome=false):CI t=none:=by
 rw[CI]
 cases hs:BX t with
 |none=>rfl
 |some l=>rw[hs] at h;cases h
theorem b2S{T0 T1 T2 T3:Type}{p q:ST×T0×T1×T2×T3→Prop}(a:List Sg)(v0:T0)(v1:T1)(v2:T2)(v3:T3)(h2:q (⟨a,0,[]⟩,v0,v1,v2,v3))(h1:p (⟨a,0,[]⟩,v0,v1,v2,v3)):∃x,p x∧q x:=⟨_,h1,h2⟩
theorem b2T{T0 T1 T2 T3 T4 T5:Type}{p q:ST×T0×T1×T2×T3×T4×T5→Prop}(a:List Sg)(v0:T0)(v1:T1)(v2:T2)(v3:T3)(v4:T4)(v5:T5)(h2:q (⟨a,0,[]⟩,v0,v1,v2,v3,v4,v5))(h1:p (⟨a,0,[]⟩,v0,v1,v2,v3,v4,v5)):∃x,p x∧q x:=⟨_,h1,h2⟩
theorem b2U{T0 T1 T2 T3 T4 T5 T6:Type}{p q:ST×T0×T1×T2×T3×T4×T5×T6→Prop}(a:List Sg)(v0:T0)(v1:T1)(v2:T2)(v3:T3)(v4:T4)(v5:T5)(v6:T6)(h2:q (⟨a,0,[]⟩,v0,v1,v2,v3,v4,v5,v6))(h1:p (⟨a,0,[]⟩,v0,v1,v2,v3,v4,v5,v6)):∃x,p x∧q x:=⟨_,h1,h2⟩
attribute [local irreducible] frI frE gBl blG Ah Au gsOk Ae De CI BX Dn sgM okQ
def FW:Sig:= {X:=List UInt8,args:=fun x=>[.str x],pre:=fun x=>x.length<2^62,Y:=List Nd×Int,post:=fun x y=>y.1=(CI x).getD []∧Cy y.1,res:=fun x y=> .tup [nds y.1,.int .i64 y.2,.bool (CI x).isSome],outs:=fun x y=>[.top],keep:=true}
def Oe(x:List UInt8):LS:= {ι:=List Sg×Int×Int×Bool×List Nd×List Int×List (Int×Int)×Nat,inv:=fun i=>frI x i.1 (iF i.2) i.2.2.2.2.2.1 i.2.2.2.2.2.2.1 i.2.2.2.2.2.2.2,regs:=fun i=>[(0,.str x),(5,As []),(6,sgs i.1),(9,srd ⟨i.1,0,[]⟩ (iF i.2)),(10,Ad i.2.2.2.2.2.1)],als:=[],meas:=fun i=>i.2.2.2.2.2.2.2}
theorem b2V:Aq G Tryz.prog 16 FW:=
 vcFun_okP [(18,0,JU),(40,0,Fv),(41,0,HI),(42,0,DY),(43,0,Bm),(44,0,Ho)] [(36,⟨Sg,sgA⟩),(45,⟨Int,Ba⟩),(32,⟨Nd,ndA true⟩)] false (fun x=>[(7,Oe x)]) Tryz.func16 rfl (by decide) ⟨b2M,QH,b2D,QI,GV,a7n,trivial⟩ (fun(x:List UInt8)=>True∧cA JU [.str x] fun x_1 y=>Aa (!Option.isSome (BX x_1)) (rA FW x [.tup [As [],.int .i64 y.2,.bool false],.top]) (eA (Oe x) [.str x,As [],sgs y.1,.box 0 [sgs y.1,.int .i64 (0:Int),.bool false,.int .i64 (0:Int),.nil],Ad []]∧∀(i:List Sg×Int×Int×Bool×List Nd×List Int×List (Int×Int)×Nat),frI x i.1 (iF i.2) i.2.2.2.2.2.1 i.2.2.2.2.2.2.1 i.2.2.2.2.2.2.2→Aa (!(iF i.2).bad) (Aa (decide ((iF i.2).pos<(↑(List.length i.1):Int))) (cA Fv [.box 0 [sgs i.1,.int .i64 (iF i.2).pos,.bool (iF i.2).bad,.int .i64 (iF i.2).deep,As (iF i.2).nodes]] fun x_2 y=>Aa (blG x_2.1.sg (xg x_2)) (cA HI [srd x_2.1 (xg x_2),.bool true] fun x_3 y=>cA DY [srd x_3.1 (yG y.2),.int .i64 y.1,.bool (decide ((↑(List.length i.2.2.2.2.2.1):Int)>(0:Int)))] fun x_4 y_1=>∃(x_5:Int),y.1=x_5∧∃(zs:List Int),Ad [x_5]=Ad zs∧Bt Ba∧AW (List.length i.2.2.2.2.2.1+List.length zs) (8:Nat)∧eN (Oe x) i [.str x,As [],sgs i.1,srd x_4.1 (gBl (xh x_4) x_4.2.2.2.2.2.1 x_4.2.2.2.2.2.2),Ad (i.2.2.2.2.2.1++zs)]) (cA HI [srd x_2.1 (xg x_2),.bool true] fun x_3 y=>cA DY [srd x_3.1 (yG y.2),.int .i64 y.1,.bool false] fun x_4 y_1=>∃(x_5:Int),y.1=x_5∧∃(zs:List Int),Ad [x_5]=Ad zs∧Bt Ba∧AW (List.length i.2.2.2.2.2.1+List.length zs) (8:Nat)∧eN (Oe x) i [.str x,As [],sgs i.1,srd x_4.1 (gBl (xh x_4) x_4.2.2.2.2.2.1 x_4.2.2.2.2.2.2),Ad (i.2.2.2.2.2.1++zs)])) (cA Bm [.box 0 [sgs i.1,.int .i64 (iF i.2).pos,.bool (iF i.2).bad,.int .i64 (iF i.2).deep,As (iF i.2).nodes],.int .i64 (22:Int),.str #[].toList,Ad i.2.2.2.2.2.1] fun x_2 y=>Aa (Ah (xh x_2) {kind:=x_2.2.2.2.2.2.1,text:=x_2.2.2.2.2.2.2.1,kids:=x_2.2.2.2.2.2.2.2,blank:=false}).bad (Aa (decide ((Ah (xh x_2) {kind:=x_2.2.2.2.2.2.1,text:=x_2.2.2.2.2.2.2.1,kids:=x_2.2.2.2.2.2.2.2,blank:=false}).pos<(↑(List.length i.1):Int))) (true=true∧true=true∧((0:Int)≤(Ah (xh x_2) {kind:=x_2.2.2.2.2.2.1,text:=x_2.2.2.2.2.2.2.1,kids:=x_2.2.2.2.2.2.2.2,blank:=false}).pos∧(Ah (xh x_2) {kind:=x_2.2.2.2.2.2.1,text:=x_2.2.2.2.2.2.2.1,kids:=x_2.2.2.2.2.2.2.2,blank:=false}).pos<(↑(List.length i.1):Int))∧∀(e:Sg),i.1[Int.toNat (Ah (xh x_2) {kind:=x_2.2.2.2.2.2.1,text:=x_2.2.2.2.2.2.2.1,kids:=x_2.2.2.2.2.2.2.2,blank:=false}).pos]? =some e→rA FW x [.tup [As [],.int .i64 e.pos,.bool false],.top]) (rA FW x [.tup [As [],.int .i64 (↑(List.length x):Int),.bool false],.top])) (cA Ho [As (Ah (xh x_2) {kind:=x_2.2.2.2.2.2.1,text:=x_2.2.2.2.2.2.2.1,kids:=x_2.2.2.2.2.2.2.2,blank:=false}).nodes] fun x_3 y=>Aa (!Dn x_3) (rA FW x [.tup [As [],.int .i64 (0:Int),.bool false],.top]) (rA FW x [.tup [As (Ah (xh x_2) {kind:=x_2.2.2.2.2.2.1,text:=x_2.2.2.2.2.2.2.1,kids:=x_2.2.2.2.2.2.2.2,blank:=false}).nodes,.int .i64 (0:Int),.bool true],.top])))) (cA Bm [.box 0 [sgs i.1,.int .i64 (iF i.2).pos,.bool (iF i.2).bad,.int .i64 (iF i.2).deep,As (iF i.2).nodes],.int .i64 (22:Int),.str #[].toList,Ad i.2.2.2.2.2.1] fun x_2 y=>Aa (Ah (xh x_2) {kind:=x_2.2.2.2.2.2.1,text:=x_2.2.2.2.2.2.2.1,kids:=x_2.2.2.2.2.2.2.2,blank:=false}).bad (Aa (decide ((Ah (xh x_2) {kind:=x_2.2.2.2.2.2.1,text:=x_2.2.2.2.2.2.2.1,kids:=x_2.2.2.2.2.2.2.2,blank:=false}).pos<(↑(List.length i.1):Int))) (true=true∧true=true∧((0:Int)≤(Ah (xh x_2) {kind:=x_2.2.2.2.2.2.1,text:=x_2.2.2.2.2.2.2.1,kids:=x_2.2.2.2.2.2.2.2,blank:=false}).pos∧(Ah (xh x_2) {kind:=x_2.2.2.2.2.2.1,text:=x_2.2.2.2.2.2.2.1,kids:=x_2.2.2.2.2.2.2.2,blank:=false}).pos<(↑(List.length i.1):Int))∧∀(e:Sg),i.1[Int.toNat (Ah (xh x_2) {kind:=x_2.2.2.2.2.2.1,text:=x_2.2.2.2.2.2.2.1,kids:=x_2.2.2.2.2.2.2.2,blank:=false}).pos]? =some e→rA FW x [.tup [As [],.int .i64 e.pos,.bool false],.top]) (rA FW x [.tup [As [],.int .i64 (↑(List.length x):Int),.bool false],.top])) (cA Ho [As (Ah (xh x_2) {kind:=x_2.2.2.2.2.2.1,text:=x_2.2.2.2.2.2.2.1,kids:=x_2.2.2.2.2.2.2.2,blank:=false}).nodes] fun x_3 y=>Aa (!Dn x_3) (rA FW x [.tup [As [],.int .i64 (0:Int),.bool false],.top]) (rA FW x [.tup [As (Ah (xh x_2) {kind:=x_2.2.2.2.2.2.1,text:=x_2.2.2.2.2.2.2.1,kids:=x_2.2.2.2.2.2.2.2,blank:=false}).nodes,.int .i64 (0:Int),.bool true],.top]))))) (fun x=>by kernel_rfl) fun(x:List UInt8) (hx:x.length<2^62)=>(by
 dsimp only[cA,eA,eN,Oe,Bf,nds,Ad,As,DL,rA,Fv,DY,HI,Bm,FW,JU,Ho,Br,sgs,srd,Av,Az,mvL,lnL,mvE,lnE,BA]
 have hx:x.length<2^62:=hx
 (repeat' first|(apply b2U<;>try dsimp only)|(apply b2T<;>try dsimp only)|(apply b2S<;>try dsimp only)|(with_reducible first|rfl|exact True.intro|apply AK|apply And.intro|((first|apply AA|apply AI|apply AB|apply AJ)<;>intro _))|(apply Ax<;>intro _)|apply AH|refine Af () ?_ ?_|((first|apply AO|apply AN|apply AM|apply AL|apply AG|apply AF|apply AE|apply AD|apply AC)<;>try dsimp only)|apply Af|(refine Prod.forall.2 ?_;intro _;try dsimp only)|(intro _;try dsimp only))
 all_goals(try dsimp only[xg,xh,yG,yS,iG,iF] at*)
 all_goals(try simp only[CG] at*)
 all_goals first
  |(show Nat;skip)
  |(show List (Int×Int);skip)
  |rfl
  |exact hx
  |exact b2Q ‹_› ‹_›
  |(rw[a2q ‹_›];rfl)
  |(rw[a2q ‹_›];exact MD)
  |exact(Rd ‹_› ‹_› ‹_› ‹_› (Gn ‹_›)).1
  |exact(Rd ‹_› ‹_› ‹_› ‹_› (Gp ‹_›)).1
  |exact Vh (s:=⟨_,0,[]⟩) ‹_›
  |exact(Eo (Vh (s:=⟨_,0,[]⟩) ‹_›)).1
  |exact Dg (Eo (Vh (s:=⟨_,0,[]⟩) ‹_›)).1 ‹_›
  |exact Mw UW ‹_›
  |exact Mw UW ‹_› ‹_›
  |assumption
  |omega
  |exact(Od ‹_›).1
  |exact(Od ‹_›).2.1
  |(rw[Rf ‹_› (MB ‹_›) ‹_›];rfl)
  |(rw[Rf ‹_› (MB ‹_›) ‹_›];exact MD)
  |(rw[(JV ‹_› (MB ‹_›) ‹_›).1 ‹_›];rfl)
  |(rw[(JV ‹_› (MB ‹_›) ‹_›).2 ‹_›];rfl)
  |(rw[(JV ‹_› (MB ‹_›) ‹_›).1 ‹_›];exact MD)
  |(rw[(JV ‹_› (MB ‹_›) ‹_›).2 ‹_›];exact(Od ‹_›).1)
  |(rw[Rf ‹_› (MC ‹_›) ‹_›];rfl)
  |(rw[Rf ‹_› (MC ‹_›) ‹_›];exact MD)
  |(rw[(JV ‹_› (MC ‹_›) ‹_›).1 ‹_›];rfl)
  |(rw[(JV ‹_› (MC ‹_›) ‹_›).2 ‹_›];rfl)
  |(rw[(JV ‹_› (MC ‹_›) ‹_›).1 ‹_›];exact MD)
  |(rw[(JV ‹_› (MC ‹_›) ‹_›).2 ‹_›];exact(Od ‹_›).1)
  |(have hq:=(Od (show frI _ _ _ _ _ _ by assumption)).2.2;omega)
  |exact MD
  |(simp [AW];done)
  |(have hq:=b2R (show frI _ _ _ _ _ _ by assumption);(try simp only[AW,List.length_append,List.length_cons,List.length_nil]);omega)
  |skip
 all_goals first
  |exact(Rd ‹_› ‹_› ‹_› ‹_› (Gn ‹_›)).2
  |exact(Rd ‹_› ‹_› ‹_› ‹_› (Gp ‹_›)).2
  |rfl
  |skip)
end Go.My
end
section
set_option linter.unusedVariables false
set_option linter.unusedSimpArgs false
namespace Go.My
open Go.Eng Go.Proofs
variable {G:GInv}
def eqF{α:Type}(p:α→α→Bool):List α→List α→Bool
 |[],[]=>true
 |x::a,y::b=>p x y&&eqF p a b
 |_,_=>false
def eqW{α:Type}(p:α→α→Bool)(a b:List α)(i:Int):Prop:=((0≤i∧i≤a.length)∧a.length=b.length)∧eqF p a b=eqF p (a.drop i.toNat) (b.drop i.toNat)
def b2W(x y:Sg):Bool:=decide (x.kind=y.kind)&&(x.text==y.text)
attribute [local irreducible] eqW
end Go.My
end
section
set_option linter.unusedVariables false
set_option linter.unusedSimpArgs false
namespace Go.My
open Go.Eng Go.Proofs
variable {G:GInv}
def Gv(l:List Sg)(i:Int):Bool:=decide (i+1<l.length)&&(Fr l i 4 [44]&&(Fr l (i+1) 4 [41]||Fr l (i+1) 4 [93]))
def Of(l:List Sg):Nat→List Sg
 |0=>[]
 |n+1=>if Gv l n then Of l n else Of l n++[sgO l n]
def Og(l:List Sg):Nat→List (List UInt8)
 |0=>[]
 |n+1=>if(sgO l n).kind=5 then Og l n++[(sgO l n).text] else Og l n
def Vi(l:List Sg):List Sg:=Of l l.length
def b2X(l:List Sg):List (List UInt8):=Og l l.length
def lfI(l:List Sg)(i:Int)(o:List Sg):Prop:=(0≤i∧i≤l.length)∧o=Of l i.toNat
def ntI(l:List Sg)(i:Int)(o:List (List UInt8)):Prop:=(0≤i∧i≤l.length)∧o=Og l i.toNat
attribute [local irreducible] Of Og lfI ntI Vi b2X
def kwF(p q:List Sg):Bool:=eqF b2W (Vi p) (Vi q)
def sgD(t:List UInt8):List Sg:=(BX t).getD []
attribute [local irreducible] CI BX kwF sgD eqF
end Go.My
end
section
set_option linter.unusedVariables false
set_option linter.unusedSimpArgs false
namespace Go.My
open Go.Eng
def sgT(e:Sg):Sg:=sg0 e.kind e.text
def lbN(sg:List Sg):Int→Nat→List Sg
 |_,0=>[]
 |i,n+1=>(if Gv sg i then [] else [sgT (sgO sg i)])++lbN sg (i+1) n
def lb(sg:List Sg)(i j:Int):List Sg:=lbN sg i (j-i).toNat
theorem a2r{sg:List Sg}:∀ {m n:Nat} {i:Int},lbN sg i (m+n)=lbN sg i m++lbN sg (i+m) n
 |0,n,i=>by simp [lbN]
 |m+1,n,i=>by
  rw[show m+1+n=(m+n)+1 by omega,lbN,lbN,a2r,List.append_assoc]
  congr 3;omega
theorem Bz{sg:List Sg}{i j k:Int}(h1:i≤j)(h2:j≤k):lb sg i k=lb sg i j++lb sg j k:=by
 unfold lb
 rw[show(k-i).toNat=(j-i).toNat+(k-j).toNat by omega,a2r]
 congr 2;omega
theorem a2s{sg:List Sg}{i:Int}:lb sg i i=[]:=by simp [lb,lbN]
theorem a2t{sg:List Sg}{i:Int}:lb sg i (i+1)=if Gv sg i then [] else [sgT (sgO sg i)]:=by
 unfold lb
 rw[show(i+1-i).toNat=0+1 by omega,lbN,lbN];simp
theorem Oh{sg:List Sg}{i:Int}(h:(sgO sg i).kind=4→(sgO sg i).text≠[44]):Gv sg i=false:=by
 cases hs:Gv sg i with
 |false=>rfl
 |true=>
  simp only[Gv,Fr,Bool.and_eq_true,decide_eq_true_eq,beq_iff_eq] at hs
  exact(h hs.2.1.1 hs.2.1.2).elim
theorem Vj{sg:List Sg}{i:Int}(h:(sgO sg i).kind=4→(sgO sg i).text≠[44]):lb sg i (i+1)=[sgT (sgO sg i)]:=by rw[a2t,Oh h];rfl
theorem Il{sg:List Sg}{s:Ps}{k:Int}{t:List UInt8}:isT sg s k t=true↔(sgO sg s.pos).kind=k∧(sgO sg s.pos).text=t:=by simp [isT]
theorem DR{sg:List Sg}{s:Ps}{t:List UInt8}(h:isM sg s t=true)(ht:t≠[44]):lb sg s.pos (s.pos+1)=[mkS t]:=by
 obtain⟨h1,h2⟩:=Il.1 h
 rw[Vj (fun _=>by rw[h2];exact ht),sgT,h1,h2];rfl
theorem Jb{sg:List Sg}{s:Ps}{t:List UInt8}(h:isW sg s t=true):lb sg s.pos (s.pos+1)=[wdS t]:=by
 obtain⟨h1,h2⟩:=Il.1 h
 rw[Vj (fun h4=>by rw[h1] at h4;cases h4),sgT,h1,h2];rfl
theorem Oi{sg:List Sg}{i k:Int}(h:(sgO sg i).kind=k)(hk:k≠4):lb sg i (i+1)=[sg0 k (sgO sg i).text]:=by
 rw[Vj (fun h4=>by rw[h] at h4;exact(hk h4).elim),sgT,h]
theorem ME{sg:List Sg}{i:Int}(h:CY sg i=true):(sgO sg i).kind=1:=by
 simp only[CY,Bool.and_eq_true,decide_eq_true_eq] at h;exact h.1
def FL(L:List Nd)(k:Int):List Sg:=IA L (L.length+1) k
theorem Vk{f g:Int→List Sg}:∀ {l:List Int},(∀c∈l,f c=g c)→l.flatMap f=l.flatMap g
 |[],_=>rfl
 |c::l,h=>by rw[List.flatMap_cons,List.flatMap_cons,h c (by simp),Vk fun d hd=>h d (by simp [hd])]
theorem Vl{f g:Int→List Sg}{m:List UInt8}:∀ {l:List Int},(∀c∈l,f c=g c)→CH f m l=CH g m l
 |[],_=>rfl
 |c::l,h=>by
  rw[CH,CH,h c (by simp)]
  congr 1
  exact Vk (f:=fun d=>mkS m::f d) (g:=fun d=>mkS m::g d) fun d hd=>by show mkS m::f d=mkS m::g d;rw[h d (by simp [hd])]
theorem a2u{f g:Int→List Sg}{x:Nd}(hl:(DB x.kind).1≤x.kids.length)(h:∀c∈x.kids,f c=g c):Di f x=Di g x:=by
 have h0:∀i:Nat,i<x.kids.length→f (kd x i)=g (kd x i):=fun i hi=>by
  refine h _ ?_
  have e:x.kids[i]? =some x.kids[i]:=List.getElem?_eq_getElem hi
  rw[a7q e];exact List.getElem_mem hi
 have hs:∀m,CH f m x.kids=CH g m x.kids:=fun m=>Vl h
 have hd:∀m,CH f m (x.kids.drop 1)=CH g m (x.kids.drop 1):=fun m=>Vl fun c hc=>h c (List.mem_of_mem_drop hc)
 have ht:∀m n,CH f m (x.kids.take n)=CH g m (x.kids.take n):=fun m n=>Vl fun c hc=>h c (List.mem_of_mem_take hc)
 have hf:x.kids.flatMap f=x.kids.flatMap g:=Vk h
 have hk:x.kind=5∨x.kind=9∨x.kind=20∨x.kind=6∨x.kind=11∨x.kind=13∨x.kind=14→1≤x.kids.length:=by
  intro hk
  have:(DB x.kind).1=1:=by rcases hk with e|e|e|e|e|e|e<;>rw[e]<;>rfl
  omega
 have h8:x.kind=8→3≤x.kids.length:=by intro e;have:(DB x.kind).1=3:=(by rw[e];rfl);omega
 have h16:x.kind=16∨x.kind=17→2≤x.kids.length:=by
  intro hk
  have:(DB x.kind).1=2:=by rcases hk with e|e<;>rw[e]<;>rfl
  omega
 unfold Di
 refine ite_congr rfl (fun _=>rfl) fun _=> ?_
 refine ite_congr rfl (fun _=>rfl) fun _=> ?_
 refine ite_congr rfl (fun _=>rfl) fun _=> ?_
 refine ite_congr rfl (fun _=>by rw[hs]) fun _=> ?_
 refine ite_congr rfl (fun e=>by rw[h0 0 (by have:=hk (by omega);omega),hd]) fun _=> ?_
 refine ite_congr rfl (fun e=>by rw[h0 0 (by have:=hk (by omega);omega)]) fun _=> ?_
 refine ite_congr rfl (fun _=>by rw[hs]) fun _=> ?_
 refine ite_congr rfl (fun e=>by have:=h8 e;rw[h0 0 (by omega),h0 1 (by omega),h0 2 (by omega)]) fun _=> ?_
 refine ite_congr rfl (fun e=>by have:=hk (by omega);rw[ht,h0 _ (by omega)]) fun _=> ?_
 refine ite_congr rfl (fun _=>by rw[hs]) fun _=> ?_
 refine ite_congr rfl (fun e=>by rw[h0 0 (by have:=hk (by omega);omega)]) fun _=> ?_
 refine ite_congr rfl (fun _=>by rw[hf]) fun _=> ?_
 refine ite_congr rfl (fun _=>by rw[hf]) fun _=> ?_
 refine ite_congr rfl (fun _=>by rw[hf]) fun _=> ?_
 refine ite_congr rfl (fun _=>by rw[hf]) fun _=> ?_
 refine ite_congr rfl (fun e=> ?_) fun _=> ?_
 ·have:=h16 (by omega)
  rw[h0 0 (by omega),h0 1 (by omega)]
  congr 1
  exact ite_congr rfl (fun e3=>by rw[h0 2 (by omega)]) fun _=>rfl
 refine ite_congr rfl (fun e=>by have:=h16 (by omega);rw[h0 0 (by omega),h0 1 (by omega)]) fun _=> ?_
 refine ite_congr rfl (fun _=>by rw[hf]) fun _=> ?_
 refine ite_congr rfl (fun _=>rfl) fun _=> ?_
 refine ite_congr rfl (fun e=>by have:=hk (by omega);rw[ht,h0 _ (by omega)]) fun _=> ?_
 exact ite_congr rfl (fun _=>by rw[hf]) fun _=>by rw[hf]
theorem a2v{L:List Nd}:∀ {n m:Nat} {k:Int},Iz L k→k<n→k<m→IA L n k=IA L m k
 |0,_,k,h,h1,_=>by have:=Dv.1 h.1;omega
 |_,0,k,h,_,h2=>by have:=Dv.1 h.1;omega
 |n+1,m+1,k,h,h1,h2=>by
  rw[IA,IA]
  have hs:=YK h
  have hm:∀c∈(Ag L k).kids,IA L n c=IA L m c:=fun c hc=>by
   have:=YJ h hc
   exact a2v this.1 (by omega) (by omega)
  exact a2u hs.2.1 hm
def Dr(L:List Nd):Prop:=∀i:Nat,i<L.length→Ch L i=true
theorem a2w{L:List Nd}(h:Dr L){k:Int}(h0:0≤k)(hk:k<L.length):Iz L k:=⟨Dv.2 ⟨h0,hk⟩,fun i hi=>h i (by omega)⟩
theorem b2Y{L:List Nd}(h:Dr L){k:Int}(h0:0≤k)(hk:k<L.length):FL L k=Di (FL L) (Ag L k):=by
 have hu:=a2w h h0 hk
 rw[FL,IA]
 refine a2u (YK hu).2.1 fun c hc=> ?_
 have:=YJ hu hc
 exact a2v this.1 (by omega) (by omega)
theorem a2x{L a:List Nd}{x:Nd}(h:a++[x] <+: L):Ag L (a.length:Int)=x∧(a.length:Int)<L.length:=by
 obtain⟨t,rfl⟩:=h
 refine⟨?_,by simp;omega⟩
 simp [Ag,List.getD,List.getElem?_append_left,List.getElem?_append_right]
theorem DE{L a:List Nd}{x:Nd}(hL:Dr L)(h:a++[x] <+: L):FL L (a.length:Int)=Di (FL L) x:=by
 have:=a2x h
 rw[b2Y hL (by omega) this.2,this.1]
theorem FX{x:Nd}{s s':Ps}{k:Int}(h:AZ x s=some (k,s')):k=s.nodes.length∧s'=⟨s.pos,s.deep,s.nodes++[x]⟩:=by
 unfold AZ at h
 split at h
 ·cases h
 ·simp only[Option.some.injEq,Prod.mk.injEq] at h;exact⟨h.1.symm,h.2.symm⟩
def tel(L:List Nd)(sg:List Sg)(s:Ps)(k:Int)(s':Ps):Prop:=s.nodes <+: s'.nodes∧s.pos≤s'.pos∧(s'.nodes <+: L→FL L k=lb sg s.pos s'.pos)
def GX(L:List Nd)(sg:List Sg)(f:Ps→PR):Prop:=∀s k s',0≤s.pos→f s=some (k,s')→tel L sg s k s'
def Lj(sg:List Sg)(s:Ps):Prop:=isM sg s [41]=false∧isM sg s [93]=false
def Lk(sg:List Sg)(f:Ps→PR):Prop:=∀s r,f s=some r→Lj sg s
theorem Rg{sg:List Sg}{s:Ps}(h:(sgO sg s.pos).kind≠4):Lj sg s:=by simp [Lj,isM,isT,h]
theorem Vm{sg:List Sg}{s:Ps}{t:List UInt8}(h:isM sg s t=true)(h1:t≠[41])(h2:t≠[93]):Lj sg s:=by
 obtain⟨e1,e2⟩:=Il.1 h
 simp [Lj,isM,isT,e1,e2,h1,h2]
theorem Vn{L:List Nd}(hL:Dr L){sg:List Sg}{k:Int}{b:Bool}{s s':Ps}{c:Int}(h:DM sg k b s=some (c,s'))(hk:(sgO sg s.pos).kind=k)(hv:k=1∨k=2∨k=3):tel L sg s c s':=by
 unfold DM Ef at h
 rw[Option.map_eq_some_iff] at h
 obtain⟨⟨c',s1⟩,h1,h2⟩:=h
 obtain⟨rfl,rfl⟩:=FX h1
 simp only[Prod.mk.injEq] at h2
 obtain⟨rfl,rfl⟩:=h2
 refine⟨⟨_,rfl⟩,by simp only[adv];omega,fun hp=> ?_⟩
 rw[DE hL hp]
 simp only[adv]
 rw[Oi hk (by omega)]
 rcases hv with rfl|rfl|rfl<;>rfl
theorem a2y{L:List Nd}(hL:Dr L){sg:List Sg}{b:Bool}{s s':Ps}{c:Int}(h:DM sg 19 b s=some (c,s'))(hk:(sgO sg s.pos).kind=5):tel L sg s c s':=by
 unfold DM Ef at h
 rw[Option.map_eq_some_iff] at h
 obtain⟨⟨c',s1⟩,h1,h2⟩:=h
 obtain⟨rfl,rfl⟩:=FX h1
 simp only[Prod.mk.injEq] at h2
 obtain⟨rfl,rfl⟩:=h2
 refine⟨⟨_,rfl⟩,by simp only[adv];omega,fun hp=> ?_⟩
 rw[DE hL hp]
 simp only[adv]
 rw[Oi hk (by omega)]
 rfl
theorem Rh{L:List Nd}(hL:Dr L){sg:List Sg}:GX L sg (Bu sg):=by
 intro s k s' _ h
 unfold Bu at h
 split at h
 ·rename_i hn;exact Vn hL h (ME hn) (.inl rfl)
 ·cases h
theorem a2z{sg:List Sg}:Lk sg (Bu sg):=by
 intro s r h
 unfold Bu at h
 split at h
 ·rename_i hn;exact Rg (by rw[ME hn];decide)
 ·cases h
theorem a2A{sg:List Sg}{s s':Ps}{t:List UInt8}(h:EW sg s=some (t,s')):CY sg s.pos=true∧t=(sgO sg s.pos).text∧s'=adv s:=by
 unfold EW at h
 split at h
 ·rename_i hn
  simp only[Option.some.injEq,Prod.mk.injEq] at h
  exact⟨hn,h.1.symm,h.2.symm⟩
 ·cases h
theorem Vo{sg:List Sg}{s s':Ps}{t:List UInt8}(h:EW sg s=some (t,s')):lb sg s.pos s'.pos=[wdS t]∧s'.pos=s.pos+1∧s'.nodes=s.nodes:=by
 obtain⟨h1,rfl,rfl⟩:=a2A h
 refine⟨?_,rfl,rfl⟩
 simp only[adv]
 rw[Oi (ME h1) (by omega)];rfl
theorem b2Z{sg:List Sg}{t:List UInt8}{s s':Ps}(h:BC sg t s=some s'):isM sg s t=true∧s'=adv s:=by
 unfold BC at h
 split at h
 ·rename_i hm;simp only[Option.some.injEq] at h;exact⟨hm,h.symm⟩
 ·cases h
theorem Im{sg:List Sg}{t:List UInt8}{s s':Ps}(h:BC sg t s=some s')(ht:t≠[44]):lb sg s.pos s'.pos=[mkS t]∧s'.pos=s.pos+1∧s'.nodes=s.nodes:=by
 obtain⟨h1,rfl⟩:=b2Z h
 exact⟨DR h1 ht,rfl,rfl⟩
theorem HJ{sg:List Sg}{m:List UInt8}{x:Nd}{s s':Ps}{k:Int}(h:Bl sg m x s=some (k,s')):isM sg s m=true∧k=s.nodes.length∧s'=⟨s.pos+1,s.deep,s.nodes++[x]⟩:=by
 unfold Bl at h
 split at h
 ·rename_i hm
  unfold Ef at h
  rw[Option.map_eq_some_iff] at h
  obtain⟨⟨c',s1⟩,h1,h2⟩:=h
  obtain⟨rfl,rfl⟩:=FX h1
  simp only[Prod.mk.injEq] at h2
  exact⟨hm,h2.1.symm,h2.2.symm⟩
 ·cases h
theorem Ri{a:List Nd}:a <+: a:=List.prefix_refl _
def Rj(L:List Nd)(sg:List Sg)(g:List Int→List Sg)(s:Ps)(ks:List Int)(s':Ps):Prop:=s.nodes <+: s'.nodes∧s.pos≤s'.pos∧(s'.nodes <+: L→g ks=lb sg s.pos s'.pos)
theorem b3a{sg:List Sg}{s:Ps}{t:List UInt8}(h:isM sg s t=true)(hn:0≤s.pos):s.pos<sg.length:=by
 obtain⟨h1,h2⟩:=Il.1 h
 by_cases hh:s.pos<sg.length
 ·exact hh
 ·rw[YQ (by omega)] at h1;cases h1
theorem b3b{sg:List Sg}{s:Ps}{m:List UInt8}(h:isM sg s [44]=true)(h2:isM sg (adv s) m=true)(hm:m=[41]∨m=[93])(hn:0≤s.pos):Gv sg s.pos=true:=by
 have hi:=b3a h2 (by simp only[adv];omega)
 obtain⟨a1,a2⟩:=Il.1 h
 obtain⟨b1,b2⟩:=Il.1 h2
 simp only[adv] at hi b1 b2
 rcases hm with rfl|rfl<;>simp [Gv,Fr,a1,a2,b1,b2,hi]
theorem b3c{sg:List Sg}{s:Ps}(h:Lj sg (adv s)):Gv sg s.pos=false:=by
 obtain⟨h1,h2⟩:=h
 simp only[isM,isT,adv,Bool.and_eq_false_iff,decide_eq_false_iff_not,beq_eq_false_iff_ne] at h1 h2
 cases hs:Gv sg s.pos with
 |false=>rfl
 |true=>
  simp only[Gv,Fr,Bool.and_eq_true,decide_eq_true_eq,beq_iff_eq,Bool.or_eq_true] at hs
  obtain⟨_,_,h3⟩:=hs
  rcases h3 with⟨k,t⟩|⟨k,t⟩
  ·rcases h1 with h1|h1
   ·exact(of_decide_eq_false h1 k).elim
   ·exact(h1 t).elim
  ·rcases h2 with h2|h2
   ·exact(of_decide_eq_false h2 k).elim
   ·exact(h2 t).elim
theorem Oj{L:List Nd}{sg:List Sg}{one:Ps→PR}{m:List UInt8}(ht:GX L sg one)(hf:Lk sg one)(hm:m=[41]∨m=[93]):∀ {n:Nat} {ks ks':List Int} {s s':Ps},0≤s.pos→Bg sg one m n ks s=some (ks',s')→
 ∃new,ks'=ks++new∧Rj L sg (CH (FL L) [44]) s new s'∧(new=[]→isM sg s m=true∧s'=s)∧(new≠[]→Lj sg s)
 |0,_,_,_,_,_,h=>by cases h
 |n+1,ks,ks',s,s',h0,h=>by
  rw[Bg] at h
  split at h
  ·rename_i hq
   simp only[Option.some.injEq,Prod.mk.injEq] at h
   obtain⟨rfl,rfl⟩:=h
   exact⟨[],by simp,⟨Ri,Int.le_refl _,fun _=>by rw[a2s];rfl⟩,fun _=>⟨hq,rfl⟩,fun h=>(h rfl).elim⟩
  ·rw[Option.bind_eq_some_iff] at h
   obtain⟨⟨c,s1⟩,h1,h2⟩:=h
   obtain⟨p1,p2,p3⟩:=ht _ _ _ h0 h1
   have hfi:=hf _ _ h1
   simp only at h2
   split at h2
   ·rename_i hq
    obtain⟨new,rfl,⟨q1,q2,q3⟩,q4,q5⟩:=Oj ht hf hm (by simp only[adv];omega) h2
    simp only[adv] at q1 q2 q3
    refine⟨c::new,by simp,⟨p1.trans q1,by omega,fun hp=> ?_⟩,(fun h=>by cases h),fun _=>hfi⟩
    rw[Bz (j:=s1.pos) p2 (by omega),Bz (j:=s1.pos+1) (i:=s1.pos) (by omega) q2,←p3 (q1.trans hp),←q3 hp,a2t]
    match new with
    |[]=>
     obtain⟨r1,r2⟩:=q4 rfl
     rw[b3b hq r1 hm (by omega)];simp [CH]
    |d::l=>
     rw[b3c (q5 (by simp))]
     obtain⟨a1,a2⟩:=Il.1 hq
     simp [CH,sgT,a1,a2,mkS]
   ·simp only[Option.some.injEq,Prod.mk.injEq] at h2
    obtain⟨rfl,rfl⟩:=h2
    exact⟨[c],rfl,⟨p1,p2,fun hp=>by rw[←p3 hp];simp [CH]⟩,fun h=>(by cases h),fun _=>hfi⟩
end Go.My
end
section
set_option linter.unusedVariables false
set_option linter.unusedSimpArgs false
namespace Go.My
open Go.Eng
theorem bind_some{α β:Type}{o:Option α}{f:α→Option β}{r:β}(h:o.bind f=some r):∃a,o=some a∧f a=some r:=Option.bind_eq_some_iff.1 h
theorem a2B{L:List Nd}(hL:Dr L){sg:List Sg}{val:Ps→PR}(ht:GX L sg val)(hf:Lk sg val){s0:Ps}{k:Int}{s s':Ps}{c:Int}(hk:s0.nodes <+: s.nodes∧s0.pos≤s.pos∧0≤s0.pos)(hq:s.nodes <+: L→FL L k=lb sg s0.pos s.pos)
 (h:CL sg val k s=some (c,s')):tel L sg s0 c s'∧s.nodes <+: s'.nodes∧s.pos<s'.pos:=by
 unfold CL at h
 obtain⟨s1,h1,h⟩:=bind_some h
 obtain⟨⟨ks,s2⟩,h2,h3⟩:=bind_some h
 obtain⟨a1,a2,a3⟩:=Im h1 (by decide)
 obtain⟨new,e,⟨b1,b2,b3⟩,_,_⟩:=Oj ht hf (.inl rfl) (by omega) h2
 simp only at h3
 obtain⟨c1,rfl,rfl⟩:=HJ h3
 have hm:=DR c1 (by decide)
 rw[a3] at b1
 refine⟨⟨(hk.1.trans b1).trans ⟨_,rfl⟩,by simp only;omega,fun hp=> ?_⟩,b1.trans ⟨_,rfl⟩,by simp only;omega⟩
 have hp2:s2.nodes <+: L:=List.IsPrefix.trans ⟨_,rfl⟩ hp
 rw[DE hL hp,e]
 simp only
 rw[Bz (j:=s.pos) (by omega) (by omega),Bz (j:=s1.pos) (i:=s.pos) (by omega) (by omega),Bz (j:=s2.pos) (i:=s1.pos) b2 (by omega),a1,hm,←b3 hp2,←hq (b1.trans hp2)]
 simp [Di,kd]
theorem Vp{L:List Nd}(hL:Dr L){sg:List Sg}{val:Ps→PR}(ht:GX L sg val)(hf:Lk sg val):∀ {n:Nat} {s0 s s':Ps} {k c:Int},(s0.nodes <+: s.nodes∧s0.pos≤s.pos∧0≤s0.pos)→(s.nodes <+: L→FL L k=lb sg s0.pos s.pos)→
 EX sg val n k s=some (c,s')→tel L sg s0 c s'
 |0,_,_,_,_,_,_,_,h=>by cases h
 |n+1,s0,s,s',k,c,hk,hq,h=>by
  rw[EX] at h
  split at h
  ·obtain⟨⟨c1,s1⟩,h1,h2⟩:=bind_some h
   obtain⟨a,b,b2⟩:=a2B hL ht hf hk hq h1
   exact Vp hL ht hf ⟨a.1,a.2.1,hk.2.2⟩ a.2.2 h2
  ·split at h
   ·rename_i hm
    split at h
    ·rename_i hn
     obtain⟨⟨c1,s1⟩,h1,h2⟩:=bind_some h
     unfold Ef at h1
     rw[Option.map_eq_some_iff] at h1
     obtain⟨⟨c',s2⟩,h3,h4⟩:=h1
     obtain⟨rfl,rfl⟩:=FX h3
     simp only[Prod.mk.injEq] at h4
     obtain⟨rfl,rfl⟩:=h4
     refine Vp hL ht hf ⟨hk.1.trans ⟨_,rfl⟩,by simp only[adv];omega,hk.2.2⟩ (fun hp=> ?_) h2
     simp only[adv] at hp ⊢
     rw[DE hL hp,Bz (j:=s.pos) (by omega) (by omega),Bz (i:=s.pos) (j:=s.pos+1) (by omega) (by omega),DR hm (by decide),Oi (ME hn) (by omega),←hq (List.IsPrefix.trans ⟨_,rfl⟩ hp)]
     simp [Di,kd,wdS]
    ·cases h
   ·simp only[Option.some.injEq,Prod.mk.injEq] at h
    obtain⟨rfl,rfl⟩:=h
    exact⟨hk.1,hk.2.1,hq⟩
theorem a2C{f:Int→List Sg}{m:List UInt8}{l:List Int}{c:Int}(h:l≠[]):CH f m (l++[c])=CH f m l++([mkS m]++f c):=by
 cases l with
 |nil=>exact(h rfl).elim
 |cons d l=>simp [CH]
theorem a2D{L:List Nd}(hL:Dr L){sg:List Sg}{val:Ps→PR}(ht:GX L sg val)(hf:Lk sg val):∀ {n:Nat} {s0 s s':Ps} {ks ks':List Int},ks≠[]→(s0.nodes <+: s.nodes∧s0.pos≤s.pos∧0≤s0.pos)→(s.nodes <+: L→CH (FL L) [46,46] ks=lb sg s0.pos s.pos)→
 EJ sg val n ks s=some (ks',s')→Rj L sg (CH (FL L) [46,46]) s0 ks' s'
 |0,_,_,_,_,_,_,_,_,h=>by cases h
 |n+1,s0,s,s',ks,ks',hks,hk,hq,h=>by
  rw[EJ] at h
  split at h
  ·rename_i hm
   obtain⟨⟨c1,s1⟩,h1,h2⟩:=bind_some h
   obtain⟨⟨c2,s2⟩,h3,h4⟩:=bind_some h2
   obtain⟨p1,p2,p3⟩:=Rh hL _ _ _ (by simp only[adv];omega) h1
   simp only[adv] at p1 p2 p3 h3
   obtain⟨⟨a1,a2,a3⟩,a4,a5⟩:=a2B hL ht hf (s0:=adv s) (s:=s1) ⟨p1,p2,by simp only[adv];omega⟩ p3 h3
   simp only[adv] at a1 a2 a3
   refine a2D hL ht hf (by simp) ⟨hk.1.trans a1,by omega,hk.2.2⟩ (fun hp=> ?_) h4
   rw[Bz (j:=s.pos) (by omega) (by omega),Bz (i:=s.pos) (j:=s.pos+1) (by omega) a2,DR hm (by decide),←a3 hp,←hq (a1.trans hp)]
   exact a2C hks
  ·simp only[Option.some.injEq,Prod.mk.injEq] at h
   obtain⟨rfl,rfl⟩:=h
   exact⟨hk.1,hk.2.1,hq⟩
theorem b3d{f:Int→List Sg}{m:List UInt8}{c:Int}:CH f m [c]=f c:=by simp [CH]
theorem b3e{sg:List Sg}{l:Nat}{s:Ps}(h:Fp sg l s≠[]):isM sg s (Fp sg l s)=true∧Fp sg l s≠[44]:=by
 unfold Fp at h ⊢
 cases hf:(Bs l).find? fun m=>isM sg s m with
 |none=>rw[hf] at h;exact(h rfl).elim
 |some m=>
  have h1:=List.find?_some hf
  have h2:=List.mem_of_find?_eq_some hf
  refine⟨h1,?_⟩
  simp only[Option.getD_some]
  intro e;subst e
  unfold Bs at h2
  split at h2<;>simp at h2
theorem Vq{L:List Nd}(hL:Dr L){sg:List Sg}{l:Nat}{one:Ps→PR}(ht:GX L sg one):∀ {n:Nat} {s0 s s':Ps} {t:List UInt8} {ks:List Int} {c:Int},ks≠[]→(s0.nodes <+: s.nodes∧s0.pos≤s.pos∧0≤s0.pos)→
 (t=[]→∃k,ks=[k])→(s.nodes <+: L→CH (FL L) t ks=lb sg s0.pos s.pos)→DV sg l one n t ks s=some (c,s')→tel L sg s0 c s'
 |0,_,_,_,_,_,_,_,_,_,_,h=>by cases h
 |n+1,s0,s,s',t,ks,c,hks,hk,ht0,hq,h=>by
  rw[DV] at h
  split at h
  ·obtain⟨⟨c1,s1⟩,h1,h2⟩:=bind_some h
   obtain⟨rfl,rfl⟩:=FX h1
   refine Vq hL ht (s:=⟨s.pos,s.deep,s.nodes++[⟨7,t,ks,false⟩]⟩) (by simp) ⟨hk.1.trans ⟨_,rfl⟩,hk.2.1,hk.2.2⟩ (fun _=>⟨_,rfl⟩) (fun hp=> ?_) h2
   simp only at hp ⊢
   rw[b3d,DE hL hp,←hq (List.IsPrefix.trans ⟨_,rfl⟩ hp)]
   simp [Di]
  ·rename_i hnt
   split at h
   ·rename_i hc
    simp only[Option.some.injEq,Prod.mk.injEq] at h
    obtain⟨rfl,rfl⟩:=h
    have:t=[]:=by
     by_cases e:t=[]
     ·exact e
     ·exact(hnt ⟨e,fun e2=>e (by rw[←e2,hc])⟩).elim
    obtain⟨k,rfl⟩:=ht0 this
    refine⟨hk.1,hk.2.1,fun hp=> ?_⟩
    rw[←hq hp];simp [CH]
   ·rename_i hc
    obtain⟨⟨c1,s1⟩,h1,h2⟩:=bind_some h
    obtain⟨hm,hm2⟩:=b3e hc
    obtain⟨p1,p2,p3⟩:=ht _ _ _ (by simp only[adv];omega) h1
    simp only[adv] at p1 p2 p3
    refine Vq hL ht (by simp) ⟨hk.1.trans p1,by omega,hk.2.2⟩ (fun e=>(hc e).elim) (fun hp=> ?_) h2
    simp only at hp ⊢
    rw[Bz (j:=s.pos) (by omega) (by omega),Bz (i:=s.pos) (j:=s.pos+1) (by omega) p2,DR hm hm2,←p3 hp,←hq (p1.trans hp),a2C hks]
    by_cases e:t=[]
    ·obtain⟨k,rfl⟩:=ht0 e
     simp [CH]
    ·have:Fp sg l s=t:=by
      by_cases e2:Fp sg l s=t
      ·exact e2
      ·exact(hnt ⟨e,e2⟩).elim
     rw[this]
theorem b3f{sg:List Sg}{n:Nat}:Lk sg (pE sg (n+1) .base):=by
 intro s r h
 rw[pE] at h
 split at h
 ·rename_i e;exact Rg (by rw[e];decide)
 split at h
 ·rename_i e;exact Rg (by rw[e];decide)
 split at h
 ·rename_i e;exact Rg (by rw[e];decide)
 split at h
 ·rename_i e;exact Vm e (by decide) (by decide)
 split at h
 ·rename_i e;rw[Bool.and_eq_true] at e;exact Vm e.1 (by decide) (by decide)
 split at h
 ·rename_i e;exact Vm e (by decide) (by decide)
 ·cases h
theorem JW{sg:List Sg}:∀ {n:Nat} {t:NT},Lk sg (pE sg n t)
 |0,_=>fun s r h=>by cases h
 |n+1,.value=>fun s r h=>by
  rw[pE] at h
  obtain⟨p,h1,_⟩:=bind_some h
  exact JW (n:=n) _ _ h1
 |n+1,.pick=>fun s r h=>by
  rw[pE] at h
  split at h
  ·cases h
  ·obtain⟨p,h1,_⟩:=bind_some h
   exact JW (n:=n) (dp s 1) _ h1
 |n+1,.chain l=>fun s r h=>by
  rw[pE] at h
  split at h
  ·exact JW (n:=n) _ _ h
  ·obtain⟨p,h1,_⟩:=bind_some h
   exact JW (n:=n) _ _ h1
 |n+1,.fin=>fun s r h=>by
  rw[pE] at h
  obtain⟨p,h1,_⟩:=bind_some h
  exact JW (n:=n) _ _ h1
 |n+1,.base=>b3f
theorem FY{L:List Nd}(hL:Dr L){sg:List Sg}:∀ {n:Nat} {t:NT},GX L sg (pE sg n t)
 |0,_=>fun s k s' _ h=>by cases h
 |n+1,.value=>fun s k s' h0 h=>by
  rw[pE] at h
  obtain⟨⟨c,s1⟩,h1,h2⟩:=bind_some h
  have hp:=FY hL (n:=n) (t:= .pick) _ _ _ h0 h1
  simp only at h2
  split at h2
  ·obtain⟨⟨ks,s2⟩,h3,h4⟩:=bind_some h2
   obtain⟨a1,a2,a3⟩:=a2D hL (FY hL (n:=n) (t:= .value)) JW (ks:=[c]) (by simp) ⟨hp.1,hp.2.1,h0⟩ (fun h=>by rw[←hp.2.2 h];simp [CH]) h3
   obtain⟨rfl,rfl⟩:=FX h4
   refine⟨a1.trans ⟨_,rfl⟩,a2,fun hpr=> ?_⟩
   rw[DE hL hpr,←a3 (List.IsPrefix.trans ⟨_,rfl⟩ hpr)]
   simp [Di]
  ·simp only[Option.some.injEq,Prod.mk.injEq] at h2
   obtain⟨rfl,rfl⟩:=h2
   exact hp
 |n+1,.pick=>fun s k s' h0 h=>by
  rw[pE] at h
  split at h
  ·cases h
  ·obtain⟨⟨c,s1⟩,h1,h2⟩:=bind_some h
   have hp:=FY hL (n:=n) (t:= .chain 0) (dp s 1) _ _ h0 h1
   simp only[dp] at hp
   obtain⟨p1,p2,p3⟩:=hp
   simp only at h2
   split at h2
   ·rename_i hq
    obtain⟨⟨a,s2⟩,h3,h4⟩:=bind_some h2
    obtain⟨s3,h5,h6⟩:=bind_some h4
    obtain⟨⟨b,s4⟩,h7,h8⟩:=bind_some h6
    rw[Option.map_eq_some_iff] at h8
    obtain⟨⟨d,s5⟩,h9,h10⟩:=h8
    simp only at p1 p2 p3 h5 h9
    obtain⟨q1,q2,q3⟩:=FY hL (n:=n) (t:= .pick) _ _ _ (by simp only[adv];omega) h3
    simp only[adv] at q1 q2 q3
    obtain⟨w1,w2,w3⟩:=Im h5 (by decide)
    obtain⟨r1,r2,r3⟩:=FY hL (n:=n) (t:= .pick) _ _ _ (by omega) h7
    obtain⟨rfl,rfl⟩:=FX h9
    simp only[Prod.mk.injEq] at h10
    obtain⟨rfl,rfl⟩:=h10
    rw[w3] at r1
    refine⟨((p1.trans q1).trans r1).trans ⟨_,rfl⟩,by simp only[dp];omega,fun hpr=> ?_⟩
    simp only[dp] at hpr ⊢
    have hp4:s4.nodes <+: L:=List.IsPrefix.trans ⟨_,rfl⟩ hpr
    rw[DE hL hpr,Bz (j:=s1.pos) p2 (by omega),Bz (i:=s1.pos) (j:=s1.pos+1) (by omega) (by omega),Bz (i:=s1.pos+1) (j:=s2.pos) q2 (by omega),Bz (i:=s2.pos) (j:=s3.pos) (by omega) r2,
     DR hq (by decide),w1,←p3 ((q1.trans r1).trans hp4),←q3 (r1.trans hp4),←r3 hp4]
    simp [Di,kd]
   ·simp only[Option.some.injEq,Prod.mk.injEq] at h2
    obtain⟨rfl,rfl⟩:=h2
    exact⟨p1,p2,p3⟩
 |n+1,.chain l=>fun s k s' h0 h=>by
  rw[pE] at h
  split at h
  ·exact FY hL (n:=n) (t:= .fin) _ _ _ h0 h
  ·obtain⟨⟨c,s1⟩,h1,h2⟩:=bind_some h
   obtain⟨p1,p2,p3⟩:=FY hL (n:=n) (t:= .chain (l+1)) _ _ _ h0 h1
   exact Vq hL (FY hL (n:=n) (t:= .chain (l+1))) (by simp) ⟨p1,p2,h0⟩ (fun _=>⟨_,rfl⟩) (fun hp=>by rw[←p3 hp];simp [CH]) h2
 |n+1,.fin=>fun s k s' h0 h=>by
  rw[pE] at h
  obtain⟨⟨c,s1⟩,h1,h2⟩:=bind_some h
  obtain⟨p1,p2,p3⟩:=FY hL (n:=n) (t:= .base) _ _ _ h0 h1
  exact Vp hL (FY hL (n:=n) (t:= .value)) JW ⟨p1,p2,h0⟩ p3 h2
 |n+1,.base=>fun s k s' h0 h=>by
  rw[pE] at h
  split at h
  ·exact Rh hL _ _ _ h0 h
  split at h
  ·exact Vn hL h ‹_› (.inr (.inl rfl))
  split at h
  ·exact Vn hL h ‹_› (.inr (.inr rfl))
  split at h
  ·rename_i hq
   obtain⟨⟨ks,s1⟩,h1,h2⟩:=bind_some h
   obtain⟨new,e,⟨b1,b2,b3⟩,_,_⟩:=Oj (FY hL (n:=n) (t:= .value)) JW (.inr rfl) (by simp only[adv];omega) h1
   simp only[adv] at b1 b2 b3 h2
   obtain⟨c1,rfl,rfl⟩:=HJ h2
   refine⟨b1.trans ⟨_,rfl⟩,by simp only;omega,fun hp=> ?_⟩
   simp only at hp ⊢
   rw[DE hL hp,e,Bz (j:=s.pos+1) (by omega) (by omega),Bz (i:=s.pos+1) (j:=s1.pos) b2 (by omega),DR hq (by decide),DR c1 (by decide),←b3 (List.IsPrefix.trans ⟨_,rfl⟩ hp)]
   simp [Di]
  split at h
  ·rename_i hq
   rw[Bool.and_eq_true] at hq
   obtain⟨⟨ks,s1⟩,h1,h2⟩:=bind_some h
   obtain⟨s2,h3,h4⟩:=bind_some h2
   obtain⟨s3,h5,h6⟩:=bind_some h4
   obtain⟨⟨c,s4⟩,h7,h8⟩:=bind_some h6
   obtain⟨new,e,⟨b1,b2,b3⟩,_,_⟩:=Oj (Rh hL) a2z (.inl rfl) (by simp only[adv];omega) h1
   simp only[adv] at b1 b2 b3 h3
   obtain⟨w1,w2,w3⟩:=Im h3 (by decide)
   obtain⟨v1,v2,v3⟩:=Im h5 (by decide)
   obtain⟨q1,q2,q3⟩:=FY hL (n:=n) (t:= .pick) _ _ _ (by omega) h7
   obtain⟨rfl,rfl⟩:=FX h8
   rw[v3,w3] at q1
   refine⟨(b1.trans q1).trans ⟨_,rfl⟩,by simp only;omega,fun hp=> ?_⟩
   simp only at hp ⊢
   have hp4:s4.nodes <+: L:=List.IsPrefix.trans ⟨_,rfl⟩ hp
   rw[DE hL hp,e,Bz (j:=s.pos+1) (by omega) (by omega),Bz (i:=s.pos+1) (j:=s1.pos) b2 (by omega),Bz (i:=s1.pos) (j:=s2.pos) (by omega) (by omega),Bz (i:=s2.pos) (j:=s3.pos) (by omega) (by omega),
    DR hq.1 (by decide),w1,v1,←b3 (q1.trans hp4),←q3 hp4]
   simp [Di,kd]
  split at h
  ·rename_i hq
   obtain⟨⟨c,s1⟩,h1,h2⟩:=bind_some h
   obtain⟨b1,b2,b3⟩:=FY hL (n:=n) (t:= .value) _ _ _ (by simp only[adv];omega) h1
   simp only[adv] at b1 b2 b3 h2
   obtain⟨c1,rfl,rfl⟩:=HJ h2
   refine⟨b1.trans ⟨_,rfl⟩,by simp only;omega,fun hp=> ?_⟩
   simp only at hp ⊢
   rw[DE hL hp,Bz (j:=s.pos+1) (by omega) (by omega),Bz (i:=s.pos+1) (j:=s1.pos) b2 (by omega),DR hq (by decide),DR c1 (by decide),←b3 (List.IsPrefix.trans ⟨_,rfl⟩ hp)]
   simp [Di,kd]
  ·cases h
theorem Ok{L:List Nd}(hL:Dr L){sg:List Sg}:GX L sg (BZ sg):=FY hL
end Go.My
end
section
set_option linter.unusedVariables false
set_option linter.unusedSimpArgs false
namespace Go.My
open Go.Eng
def MF(sg:List Sg)(q:Int):Prop:=(sgO sg (q-1)).kind≠0∧((sgO sg (q-1)).kind=4→(sgO sg (q-1)).text≠[44])
theorem Rk{sg:List Sg}{s:Ps}{t:List UInt8}(h:isM sg s t=true)(ht:t≠[44]):MF sg (s.pos+1):=by
 obtain⟨h1,h2⟩:=Il.1 h
 unfold MF
 rw[show s.pos+1-1=s.pos by omega,h1,h2]
 exact⟨by decide,fun _=>ht⟩
theorem b3g{sg:List Sg}{i k:Int}(h:(sgO sg i).kind=k)(h0:k≠0)(h4:k≠4):MF sg (i+1):=by
 unfold MF
 rw[show i+1-1=i by omega,h]
 exact⟨h0,fun e=>(h4 e).elim⟩
def Ll(L:List Nd)(sg:List Sg)(s:Ps)(k:Int)(s':Ps):Prop:=tel L sg s k s'∧s.pos<s'.pos∧MF sg s'.pos
def fmL(L:List Nd)(l:List Int):List Sg:=l.flatMap (FL L)
theorem a2E{L:List Nd}(hL:Dr L){sg:List Sg}{b:Bool}{s s':Ps}{c:Int}(h:DM sg 19 b s=some (c,s'))(hk:(sgO sg s.pos).kind=5):Ll L sg s c s':=by
 refine⟨a2y hL h hk,?_⟩
 unfold DM Ef at h
 rw[Option.map_eq_some_iff] at h
 obtain⟨⟨c',s1⟩,h1,h2⟩:=h
 obtain⟨rfl,rfl⟩:=FX h1
 simp only[Prod.mk.injEq] at h2
 obtain⟨rfl,rfl⟩:=h2
 exact⟨by simp only[adv];omega,b3g hk (by decide) (by decide)⟩
theorem Vr{L:List Nd}(hL:Dr L){sg:List Sg}{b:Bool}{s s':Ps}{c:Int}(h0:0≤s.pos)(hw:isW sg s [118,97,114]=true)(h:Dd sg b (adv s)=some (c,s')):Ll L sg s c s':=by
 unfold Dd at h
 obtain⟨⟨t,s1⟩,h1,h2⟩:=bind_some h
 obtain⟨a1,a2,a3⟩:=Vo h1
 simp only[adv] at a1 a2 a3 h2
 split at h2
 ·rename_i hq
  obtain⟨⟨v,s2⟩,h3,h4⟩:=bind_some h2
  obtain⟨p1,p2,p3⟩:=Ok hL _ _ _ (by simp only;omega) h3
  simp only at p1 p2 p3 h4
  obtain⟨c1,rfl,rfl⟩:=HJ h4
  rw[a3] at p1
  refine⟨⟨p1.trans ⟨_,rfl⟩,by simp only;omega,fun hp=> ?_⟩,by simp only;omega,Rk c1 (by decide)⟩
  simp only at hp ⊢
  rw[DE hL hp,Bz (j:=s.pos+1) (by omega) (by omega),Bz (i:=s.pos+1) (j:=s1.pos) (by omega) (by omega),Bz (i:=s1.pos) (j:=s1.pos+1) (by omega) (by omega),Bz (i:=s1.pos+1) (j:=s2.pos) p2 (by omega),
   Jb hw,a1,DR hq (by decide),DR c1 (by decide),←p3 (List.IsPrefix.trans ⟨_,rfl⟩ hp)]
  simp [Di]
 ·obtain⟨c1,rfl,rfl⟩:=HJ h2
  rw[a3]
  refine⟨⟨⟨_,rfl⟩,by simp only;omega,fun hp=> ?_⟩,by simp only;omega,Rk c1 (by decide)⟩
  simp only at hp ⊢
  rw[←a3] at hp ⊢
  rw[DE hL hp,Bz (j:=s.pos+1) (by omega) (by omega),Bz (i:=s.pos+1) (j:=s1.pos) (by omega) (by omega),Jb hw,a1,DR c1 (by decide)]
  simp [Di]
theorem a2F{L:List Nd}(hL:Dr L){sg:List Sg}{s s':Ps}{c:Int}(h0:0≤s.pos)(h:CZ sg s=some (c,s')):Rj L sg (fun l=>[mkS [40]]++FL L (l.headD 0)++[mkS [41]]) s [c] s':=by
 unfold CZ at h
 obtain⟨s1,h1,h2⟩:=bind_some h
 obtain⟨⟨v,s2⟩,h3,h4⟩:=bind_some h2
 rw[Option.map_eq_some_iff] at h4
 obtain⟨s3,h5,h6⟩:=h4
 simp only[Prod.mk.injEq] at h6
 obtain⟨rfl,rfl⟩:=h6
 simp only at h5
 obtain⟨a1,a2,a3⟩:=Im h1 (by decide)
 obtain⟨p1,p2,p3⟩:=Ok hL _ _ _ (by omega) h3
 obtain⟨b1,b2,b3⟩:=Im h5 (by decide)
 rw[a3] at p1
 refine⟨by rw[b3];exact p1,by omega,fun hp=> ?_⟩
 rw[b3] at hp
 simp only[List.headD_cons]
 rw[Bz (j:=s1.pos) (by omega) (by omega),Bz (i:=s1.pos) (j:=s2.pos) p2 (by omega),a1,b1,p3 hp]
 simp
theorem Vs{L:List Nd}{sg:List Sg}{one:Bool→Ps→PR}{m:List UInt8}(ht:∀b,GX L sg (one b)):∀ {n:Nat} {ks ks':List Int} {s s':Ps},0≤s.pos→CE sg one m n ks s=some (ks',s')→
 ∃new,ks'=ks++new∧Rj L sg (fmL L) s new s'
 |0,_,_,_,_,_,h=>by cases h
 |n+1,ks,ks',s,s',h0,h=>by
  rw[CE] at h
  split at h
  ·simp only[Option.some.injEq,Prod.mk.injEq] at h
   obtain⟨rfl,rfl⟩:=h
   exact⟨[],by simp,Ri,Int.le_refl _,fun _=>by rw[a2s];rfl⟩
  ·obtain⟨⟨c,s1⟩,h1,h2⟩:=bind_some h
   simp only at h2
   obtain⟨p1,p2,p3⟩:=ht _ _ _ _ h0 h1
   obtain⟨new,rfl,q1,q2,q3⟩:=Vs ht (by omega) h2
   refine⟨c::new,by simp,p1.trans q1,by omega,fun hp=> ?_⟩
   rw[Bz p2 q2,←p3 (q1.trans hp),←q3 hp]
   simp [fmL]
theorem Rl{L:List Nd}(hL:Dr L){sg:List Sg}{one:Bool→Ps→PR}(ht:∀b,GX L sg (one b)){s s':Ps}{c:Int}(h0:0≤s.pos)(h:BE sg one s=some (c,s')):Ll L sg s c s':=by
 unfold BE at h
 split at h
 ·cases h
 obtain⟨s1,h1,h2⟩:=bind_some h
 obtain⟨⟨ks,s2⟩,h3,h4⟩:=bind_some h2
 rw[Option.map_eq_some_iff] at h4
 obtain⟨⟨d,s3⟩,h5,h6⟩:=h4
 simp only[Prod.mk.injEq] at h6
 obtain⟨rfl,rfl⟩:=h6
 obtain⟨a1,a2,a3⟩:=Im h1 (by decide)
 simp only[dp] at a1 a2 a3
 obtain⟨new,e,q1,q2,q3⟩:=Vs ht (by omega) h3
 simp only at h5
 obtain⟨c1,rfl,rfl⟩:=HJ h5
 rw[a3] at q1
 refine⟨⟨q1.trans ⟨_,rfl⟩,by simp only[dp];omega,fun hp=> ?_⟩,by simp only[dp];omega,Rk c1 (by decide)⟩
 simp only[dp] at hp ⊢
 rw[DE hL hp,e,Bz (j:=s1.pos) (by omega) (by omega),Bz (i:=s1.pos) (j:=s2.pos) q2 (by omega),a1,DR c1 (by decide),←q3 (List.IsPrefix.trans ⟨_,rfl⟩ hp)]
 simp [Di,fmL]
theorem a2G{L:List Nd}(hL:Dr L){sg:List Sg}:∀ {n:Nat} {b:Bool},GX L sg (stR sg n b)
 |0,_=>fun s k s' _ h=>by cases h
 |n+1,b=>fun s k s' h0 h=>by
  have ih:∀b,GX L sg (stR sg n b):=fun b=>a2G hL
  rw[stR] at h
  split at h
  ·exact a2y hL h ‹_›
  split at h
  ·exact(Vr hL h0 ‹_› h).1
  split at h
  ·rename_i hw
   split at h
   ·obtain⟨c1,rfl,rfl⟩:=HJ h
    refine⟨⟨_,rfl⟩,by simp only[adv];omega,fun hp=> ?_⟩
    simp only[adv] at hp ⊢
    have hc:=DR c1 (by decide)
    simp only[adv] at hc
    rw[DE hL hp,Bz (j:=s.pos+1) (by omega) (by omega),Jb hw,hc]
    simp [Di]
   ·obtain⟨⟨v,s1⟩,h1,h2⟩:=bind_some h
    obtain⟨p1,p2,p3⟩:=Ok hL _ _ _ (by simp only[adv];omega) h1
    simp only[adv] at p1 p2 p3 h2
    obtain⟨c1,rfl,rfl⟩:=HJ h2
    refine⟨p1.trans ⟨_,rfl⟩,by simp only;omega,fun hp=> ?_⟩
    simp only at hp ⊢
    rw[DE hL hp,Bz (j:=s.pos+1) (by omega) (by omega),Bz (i:=s.pos+1) (j:=s1.pos) p2 (by omega),Jb hw,DR c1 (by decide),←p3 (List.IsPrefix.trans ⟨_,rfl⟩ hp)]
    simp [Di]
  split at h
  ·rename_i hw
   obtain⟨⟨v,s1⟩,h1,h2⟩:=bind_some h
   obtain⟨⟨d,s2⟩,h3,h4⟩:=bind_some h2
   obtain⟨p1,p2,p3⟩:=a2F hL (by simp only[adv];omega) h1
   simp only[adv,List.headD_cons] at p1 p2 p3
   simp only at h3 h4
   obtain⟨⟨q1,q2,q3⟩,_⟩:=Rl hL ih (by omega) h3
   split at h4
   ·rename_i hw2
    obtain⟨⟨e,s3⟩,h5,h6⟩:=bind_some h4
    obtain⟨⟨r1,r2,r3⟩,_⟩:=Rl hL ih (by simp only[adv];omega) h5
    simp only[adv] at r1 r2 r3
    obtain⟨rfl,rfl⟩:=FX h6
    refine⟨((p1.trans q1).trans r1).trans ⟨_,rfl⟩,by simp only;omega,fun hp=> ?_⟩
    simp only at hp ⊢
    have hp3:s3.nodes <+: L:=List.IsPrefix.trans ⟨_,rfl⟩ hp
    rw[DE hL hp,Bz (j:=s.pos+1) (by omega) (by omega),Bz (i:=s.pos+1) (j:=s1.pos) p2 (by omega),Bz (i:=s1.pos) (j:=s2.pos) q2 (by omega),Bz (i:=s2.pos) (j:=s2.pos+1) (by omega) r2,
     Jb hw,Jb hw2,←p3 ((q1.trans r1).trans hp3),←q3 (r1.trans hp3),←r3 hp3]
    simp [Di,kd]
   ·obtain⟨rfl,rfl⟩:=FX h4
    refine⟨(p1.trans q1).trans ⟨_,rfl⟩,by simp only;omega,fun hp=> ?_⟩
    simp only at hp ⊢
    have hp3:s2.nodes <+: L:=List.IsPrefix.trans ⟨_,rfl⟩ hp
    rw[DE hL hp,Bz (j:=s.pos+1) (by omega) (by omega),Bz (i:=s.pos+1) (j:=s1.pos) p2 q2,Jb hw,←p3 (q1.trans hp3),←q3 hp3]
    simp [Di,kd]
  split at h
  ·rename_i hw
   obtain⟨⟨v,s1⟩,h1,h2⟩:=bind_some h
   obtain⟨⟨d,s2⟩,h3,h4⟩:=bind_some h2
   obtain⟨p1,p2,p3⟩:=a2F hL (by simp only[adv];omega) h1
   simp only[adv,List.headD_cons] at p1 p2 p3
   simp only at h3 h4
   obtain⟨⟨q1,q2,q3⟩,_⟩:=Rl hL ih (by omega) h3
   obtain⟨rfl,rfl⟩:=FX h4
   refine⟨(p1.trans q1).trans ⟨_,rfl⟩,by simp only;omega,fun hp=> ?_⟩
   simp only at hp ⊢
   have hp3:s2.nodes <+: L:=List.IsPrefix.trans ⟨_,rfl⟩ hp
   rw[DE hL hp,Bz (j:=s.pos+1) (by omega) (by omega),Bz (i:=s.pos+1) (j:=s1.pos) p2 q2,Jb hw,←p3 (q1.trans hp3),←q3 hp3]
   simp [Di,kd]
  split at h
  ·rename_i hq
   rw[Bool.and_eq_true] at hq
   have hm:=DR hq.2 (by decide)
   simp only[adv] at hm
   obtain⟨⟨v,s1⟩,h1,h2⟩:=bind_some h
   obtain⟨p1,p2,p3⟩:=Ok hL _ _ _ (by simp only[adv];omega) h1
   simp only[adv] at p1 p2 p3 h2
   obtain⟨c1,rfl,rfl⟩:=HJ h2
   refine⟨p1.trans ⟨_,rfl⟩,by simp only;omega,fun hp=> ?_⟩
   simp only at hp ⊢
   rw[DE hL hp,Bz (j:=s.pos+1) (by omega) (by omega),Bz (i:=s.pos+1) (j:=s.pos+1+1) (by omega) (by omega),Bz (i:=s.pos+1+1) (j:=s1.pos) p2 (by omega),hm,Oi (ME hq.1) (by omega),DR c1 (by decide),←p3 (List.IsPrefix.trans ⟨_,rfl⟩ hp)]
   simp [Di,wdS]
  ·obtain⟨⟨v,s1⟩,h1,h2⟩:=bind_some h
   obtain⟨p1,p2,p3⟩:=Ok hL _ _ _ h0 h1
   simp only at h2
   obtain⟨c1,rfl,rfl⟩:=HJ h2
   refine⟨p1.trans ⟨_,rfl⟩,by simp only;omega,fun hp=> ?_⟩
   simp only at hp ⊢
   rw[DE hL hp,Bz (j:=s1.pos) p2 (by omega),DR c1 (by decide),←p3 (List.IsPrefix.trans ⟨_,rfl⟩ hp)]
   simp [Di]
theorem a2H{L:List Nd}(hL:Dr L){sg:List Sg}{b:Bool}{s s':Ps}{c:Int}(h0:0≤s.pos)(h:EK sg b s=some (c,s')):Ll L sg s c s':=by
 unfold EK at h
 obtain⟨⟨t,s1⟩,h1,h2⟩:=bind_some h
 obtain⟨s2,h3,h4⟩:=bind_some h2
 obtain⟨⟨ks,s3⟩,h5,h6⟩:=bind_some h4
 obtain⟨s4,h7,h8⟩:=bind_some h6
 obtain⟨⟨d,s5⟩,h9,h10⟩:=bind_some h8
 try simp only at h3
 try simp only at h5
 try simp only at h7
 try simp only at h9
 obtain⟨a1,a2,a3⟩:=Vo h1
 obtain⟨b1,b2,b3⟩:=Im h3 (by decide)
 obtain⟨new,e,⟨q1,q2,q3⟩,_,_⟩:=Oj (Rh hL) a2z (.inl rfl) (by omega) h5
 obtain⟨w1,w2,w3⟩:=Im h7 (by decide)
 try simp only at b1 b2 b3 w1 w2 w3
 obtain⟨⟨r1,r2,r3⟩,r4,r5⟩:=Rl hL (fun b=>a2G hL) (by omega) h9
 obtain⟨rfl,rfl⟩:=FX h10
 rw[b3,a3] at q1
 rw[w3] at r1
 refine⟨⟨(q1.trans r1).trans ⟨_,rfl⟩,by simp only;omega,fun hp=> ?_⟩,by simp only;omega,r5⟩
 simp only at hp ⊢
 have hp3:s5.nodes <+: L:=List.IsPrefix.trans ⟨_,rfl⟩ hp
 rw[DE hL hp,e,Bz (j:=s1.pos) (by omega) (by omega),Bz (i:=s1.pos) (j:=s2.pos) (by omega) (by omega),Bz (i:=s2.pos) (j:=s3.pos) q2 (by omega),Bz (i:=s3.pos) (j:=s4.pos) (by omega) r2,a1,b1,w1,←q3 (r1.trans hp3),←r3 hp3]
 simp [Di,kd]
theorem b3h{L:List Nd}(hL:Dr L){sg:List Sg}{b:Bool}{s s':Ps}{c:Int}(h0:0≤s.pos)(h:CN sg b s=some (c,s')):Ll L sg s c s':=by
 unfold CN at h
 split at h
 ·exact a2E hL h ‹_›
 split at h
 ·exact Vr hL h0 ‹_› h
 ·exact a2H hL h0 h
theorem b3i{L:List Nd}(hL:Dr L){sg:List Sg}{b:Bool}{s s':Ps}{c:Int}(h0:0≤s.pos)(hw:isW sg s [99,108,97,115,115]=true)(h:EY sg b (adv s)=some (c,s')):Ll L sg s c s':=by
 unfold EY at h
 obtain⟨⟨t,s1⟩,h1,h2⟩:=bind_some h
 obtain⟨s2,h3,h4⟩:=bind_some h2
 obtain⟨⟨ks,s3⟩,h5,h6⟩:=bind_some h4
 try simp only at h3
 try simp only at h5
 obtain⟨a1,a2,a3⟩:=Vo h1
 simp only[adv] at a1 a2 a3
 obtain⟨b1,b2,b3⟩:=Im h3 (by decide)
 try simp only at b1 b2 b3
 obtain⟨new,e,q1,q2,q3⟩:=Vs (fun b=>fun s k s' h0 h=>(b3h hL h0 h).1) (by omega) h5
 simp only at h6
 obtain⟨c1,rfl,rfl⟩:=HJ h6
 rw[b3,a3] at q1
 refine⟨⟨q1.trans ⟨_,rfl⟩,by simp only;omega,fun hp=> ?_⟩,by simp only;omega,Rk c1 (by decide)⟩
 simp only at hp ⊢
 rw[DE hL hp,e,Bz (j:=s.pos+1) (by omega) (by omega),Bz (i:=s.pos+1) (j:=s1.pos) (by omega) (by omega),Bz (i:=s1.pos) (j:=s2.pos) (by omega) (by omega),Bz (i:=s2.pos) (j:=s3.pos) q2 (by omega),Jb hw,a1,b1,DR c1 (by decide),←q3 (List.IsPrefix.trans ⟨_,rfl⟩ hp)]
 simp [Di,fmL]
theorem b3j{L:List Nd}(hL:Dr L){sg:List Sg}{b:Bool}{s s':Ps}{c:Int}(h0:0≤s.pos)(h:De sg b s=some (c,s')):Ll L sg s c s'∧Gv sg s.pos=false:=by
 unfold De at h
 split at h
 ·rename_i e
  exact⟨a2E hL h e,Oh fun h4=>by rw[e] at h4;cases h4⟩
 split at h
 ·rename_i e
  exact⟨Vr hL h0 e h,Oh fun h4=>by rw[(Il.1 e).1] at h4;cases h4⟩
 split at h
 ·rename_i e
  exact⟨b3i hL h0 e h,Oh fun h4=>by rw[(Il.1 e).1] at h4;cases h4⟩
 ·refine⟨a2H hL h0 h,?_⟩
  unfold EK at h
  obtain⟨⟨t,s1⟩,h1,h2⟩:=bind_some h
  have:=(a2A h1).1
  exact Oh fun h4=>by rw[ME this] at h4;cases h4
def Vt(L:List Nd)(sg:List Sg):Int→List Int→List (Int×Int)→Int→Prop
 |p,[],[],q=>p=q
 |p,k::ks,m::ms,q=>m.1=p∧p<m.2∧FL L k=lb sg p m.2∧Gv sg p=false∧MF sg m.2∧Vt L sg m.2 ks ms q
 |_,_,_,_=>False
theorem a2I{L:List Nd}(hL:Dr L){sg:List Sg}:∀ {n:Nat} {ks ks':List Int} {ms ms':List (Int×Int)} {s s':Ps},0≤s.pos→IB sg n ks ms s=some ((ks',ms'),s')→
 ∃nk nm,ks'=ks++nk∧ms'=ms++nm∧s.nodes <+: s'.nodes∧s.pos≤s'.pos∧¬s'.pos<sg.length∧(s'.nodes <+: L→Vt L sg s.pos nk nm s'.pos)
 |0,_,_,_,_,_,_,_,h=>by cases h
 |n+1,ks,ks',ms,ms',s,s',h0,h=>by
  rw[IB] at h
  split at h
  ·obtain⟨⟨c,s1⟩,h1,h2⟩:=bind_some h
   simp only at h2
   obtain⟨⟨⟨p1,p2,p3⟩,p4,p5⟩,p6⟩:=b3j hL h0 h1
   obtain⟨nk,nm,rfl,rfl,q1,q2,q3,q4⟩:=a2I hL (by omega) h2
   refine⟨c::nk,(s.pos,s1.pos)::nm,by simp,by simp,p1.trans q1,by omega,q3,fun hp=> ?_⟩
   exact⟨rfl,p4,p3 (q1.trans hp),p6,p5,q4 hp⟩
  ·rename_i hn
   simp only[Option.some.injEq,Prod.mk.injEq] at h
   obtain⟨⟨rfl,rfl⟩,rfl⟩:=h
   exact⟨[],[],by simp,by simp,Ri,Int.le_refl _,hn,fun _=>rfl⟩
def Cc(ns:List Nd):List Int:=(Ag ns (ns.length-1)).kids
theorem b3k{sg:List Sg}{ms:List (Int×Int)}{L:List Nd}(h:IC sg=some (ms,L)):Dn L=true∧Dr L∧∃q,¬q<(sg.length:Int)∧Vt L sg 0 (Cc L) ms q∧1≤L.length:=by
 unfold IC at h
 obtain⟨⟨⟨ks,ms'⟩,s1⟩,h1,h2⟩:=bind_some h
 obtain⟨⟨c,s2⟩,h3,h4⟩:=bind_some h2
 simp only at h3 h4
 split at h4
 ·rename_i ht
  simp only[Option.some.injEq,Prod.mk.injEq] at h4
  obtain⟨rfl,rfl⟩:=h4
  obtain⟨t1,t2,t3,t4⟩:=Tr ht
  obtain⟨rfl,rfl⟩:=FX h3
  simp only at t1 t2 ht ⊢
  have hL:Dr (s1.nodes++[⟨22,[],ks,false⟩]):=t1.1
  obtain⟨nk,nm,e1,e2,q1,q2,q3,q4⟩:=a2I hL (s:=ps0) (by simp [ps0]) h1
  simp only[List.nil_append] at e1 e2
  subst e1;subst e2
  refine⟨ht,hL,s1.pos,q3,?_,t2⟩
  have:Cc (s1.nodes++[⟨22,[],ks,false⟩])=ks:=by
   unfold Cc
   rw[show(((s1.nodes++[(⟨22,[],ks,false⟩:Nd)]).length:Int)-1)=(s1.nodes.length:Int) by simp]
   rw[(a2x (L:=s1.nodes++[⟨22,[],ks,false⟩]) Ri).1]
  rw[this]
  exact q4 ⟨_,rfl⟩
 ·cases h4
end Go.My
end
section
set_option linter.unusedVariables false
set_option linter.unusedSimpArgs false
namespace Go.My
open Go.Eng Go.Proofs
variable {G:GInv}
structure Me where
 lines:Int
 widest:Int
 members:Int
 steps:Int
 deep:Int
 notes:Int
def meA:Me→List AV:=fun m=>[.int .i64 m.lines,.int .i64 m.widest,.int .i64 m.members,.int .i64 m.steps,.int .i64 m.deep,.int .i64 m.notes]
theorem Rm(m:Me):meA m=[.int .i64 m.lines,.int .i64 m.widest,.int .i64 m.members,.int .i64 m.steps,.int .i64 m.deep,.int .i64 m.notes]:=rfl
def me0:Me:=⟨0,0,0,0,0,0⟩
theorem b3l{a b c d e f:Int}{q:Me→Prop}(h:q ⟨a,b,c,d,e,f⟩):∃x:Me,a=x.lines∧b=x.widest∧c=x.members∧d=x.steps∧e=x.deep∧f=x.notes∧q x:=⟨⟨a,b,c,d,e,f⟩,rfl,rfl,rfl,rfl,rfl,rfl,h⟩
def nN(L:List Nd):Nat→Nat
 |0=>0
 |n+1=>nN L n+if(Ag L n).kind=19 then 1 else 0
def cK(L:List Nd):List Int→Nat
 |[]=>0
 |c::l=>(if BG L c=19 then 0 else 1)+cK L l
def kS(L:List Nd)(n:Nat):Nat:=if(Ag L n).kind=18 then cK L (Ag L n).kids else 0
def sN(L:List Nd):Nat→Nat
 |0=>0
 |n+1=>sN L n+kS L n
def meF(t:List UInt8):Me:=match CI t with
 |none=>me0
 |some L=>⟨(AY t).length,BD t,(Cc L).length,sN L L.length,Bi L (L.length-1),nN L L.length⟩
def meM(t:List UInt8)(L:List Nd)(s n:Int):Me:=⟨(AY t).length,BD t,(Cc L).length,s,Bi L (L.length-1),n⟩
def meO(t:List UInt8)(L:List Nd)(s n:Int):List AV:=[.int .i64 (AY t).length,.int .i64 (BD t),.int .i64 (Cc L).length,.int .i64 s,.int .i64 (Bi L (L.length-1)),.int .i64 n]
theorem Vu{L:List Nd}:∀ {l m:List Int},cK L (l++m)=cK L l+cK L m
 |[],m=>by simp [cK]
 |c::l,m=>by rw[List.cons_append,cK,cK,Vu];omega
theorem Vv{L:List Nd}:∀ {l:List Int},cK L l≤l.length
 |[]=>by simp [cK]
 |c::l=>by have:= @Vv L l;rw[cK,List.length_cons];split<;>omega
def meT(t:List UInt8)(L:List Nd):Prop:=CI t=some L∧Dn L=true∧Cy L
theorem Vw{t:List UInt8}{L:List Nd}(h1:(CI t).isSome=true)(h2:L=(CI t).getD []∧Cy L):meT t L:=by
 cases h:CI t with
 |none=>rw[h] at h1;cases h1
 |some M=>
  rw[h] at h2
  obtain⟨e,h3⟩:=h2
  simp at e;subst e
  refine⟨h,?_,h3⟩
  unfold CI at h
  obtain⟨sg,h4,h5⟩:=bind_some h
  rw[Option.map_eq_some_iff] at h5
  obtain⟨⟨ms,M'⟩,h6,h7⟩:=h5
  simp only at h7;subst h7
  exact(b3k h6).1
theorem Vx{t:List UInt8}{L:List Nd}(h:meT t L):1≤L.length∧L.length≤300:=by
 have:=Tr h.2.1
 exact⟨this.2.1,this.2.2.1⟩
theorem Vy{t:List UInt8}{L:List Nd}(h:meT t L){i:Int}(h0:0≤i)(hi:i<L.length):Iz L i:=by
 obtain⟨t1,_⟩:=Tr h.2.1
 exact a2w (fun j hj=>t1.1 j hj) h0 hi
theorem a2J{t:List UInt8}{L:List Nd}(h:meT t L){i:Int}(h0:0≤i)(hi:i<L.length):(Ag L i).kids.length≤12:=(HU (Nx (Vy h h0 hi))).2.1
theorem b3m{t:List UInt8}{L:List Nd}(h:meT t L){i:Int}(h0:0≤i)(hi:i<L.length){j:Nat}{c:Int}(hc:(Ag L i).kids[j]? =some c):0≤c∧c<L.length:=by
 have:=(HU (Nx (Vy h h0 hi))).2.2.2.1 c (Dl hc)
 omega
theorem a2K{t:List UInt8}{L:List Nd}(h:meT t L){i:Int}(h0:0≤i)(hi:i<L.length)(hk:(Ag L i).kind=18){j:Nat}{c:Int}(hc:(Ag L i).kids[j]? =some c):FD (BG L c)=true∧BG L c≠19∨FD (BG L c)=false∧BG L c=19:=by
 have hp:=(HU (Nx (Vy h h0 hi))).2.2.2.2.2.1
 rw[hk] at hp
 have hp:((Ag L i).kids.map (BG L)).all Ec=true:=hp
 rw[List.all_eq_true] at hp
 have hs:=hp (BG L c) (List.mem_map_of_mem (Dl hc))
 simp only[Ec,Bool.or_eq_true,decide_eq_true_eq] at hs
 by_cases e:BG L c=19
 ·right;rw[e];exact⟨rfl,rfl⟩
 ·left;refine⟨?_,e⟩
  rcases hs with hs|hs
  ·exact hs
  ·exact(e hs).elim
attribute [local irreducible] AY BD
def meI(t:List UInt8)(L:List Nd)(i s n:Int):Prop:=meT t L∧(0≤i∧i≤L.length)∧s=sN L i.toNat∧n=nN L i.toNat
def meJ(t:List UInt8)(L:List Nd)(i j s n:Int):Prop:=meT t L∧(0≤i∧i<L.length)∧(0≤j∧j≤(Ag L i).kids.length)∧((Ag L i).kind=18∧s=sN L i.toNat+cK L ((Ag L i).kids.take j.toNat)∨(Ag L i).kind≠18∧j=0∧s=sN L i.toNat)∧n=nN L (i+1).toNat
theorem a2L{t:List UInt8}{L:List Nd}(h:meT t L):meI t L 0 0 0:=⟨h,by omega,rfl,rfl⟩
theorem Vz{L:List Nd}:∀n,nN L n≤n
 |0=>Nat.le_refl _
 |n+1=>by have:= @Vz L n;rw[nN];split<;>omega
theorem VA{t:List UInt8}{L:List Nd}(h:meT t L):∀n,n≤L.length→sN L n≤12*n
 |0,_=>Nat.le_refl _
 |n+1,hn=>by
  have:=VA h n (by omega)
  have h12:=a2J h (i:=n) (by omega) (by omega)
  have:= @Vv L (Ag L n).kids
  rw[sN,kS];split<;>omega
theorem a2M{t:List UInt8}{L:List Nd}{i s n:Int}(h:meI t L i s n):((0≤i∧i≤L.length)∧L.length≤300)∧(0≤s∧s≤4000)∧0≤n∧n≤300:=by
 have h1:=Vx h.1
 have h2:=VA h.1 i.toNat (by have:=h.2.1;omega)
 have h3:= @Vz L i.toNat
 have h4:=h.2.1;have h5:=h.2.2.1;have h6:=h.2.2.2
 refine⟨⟨h4,h1.2⟩,by omega,by omega⟩
theorem Rn{t:List UInt8}{L:List Nd}{i j s n:Int}(h:meJ t L i j s n):((0≤i∧i<L.length)∧L.length≤300)∧((0≤s∧s≤4000)∧0≤n∧n≤301)∧(0≤j∧j≤(Ag L i).kids.length)∧(Ag L i).kids.length≤12:=by
 obtain⟨a,b,c,d,e⟩:=h
 have h1:=Vx a
 have h2:=VA a i.toNat (by omega)
 have h3:= @Vz L (i+1).toNat
 have h4:= @Vv L ((Ag L i).kids.take j.toNat)
 have h5:=a2J a b.1 b.2
 rw[List.length_take] at h4
 refine⟨⟨b,h1.2⟩,⟨?_,by omega⟩,c,h5⟩
 rcases d with d|d<;>omega
theorem a2N{L:List Nd}{i:Int}(h0:0≤i)(hk:(Ag L i).kind=19):(nN L (i+1).toNat:Int)=nN L i.toNat+1:=by
 rw[Db h0,nN,show((i.toNat:Nat):Int)=i by omega,if_pos hk];omega
theorem a2O{L:List Nd}{i:Int}(h0:0≤i)(hk:(Ag L i).kind≠19):(nN L (i+1).toNat:Int)=nN L i.toNat:=by
 rw[Db h0,nN,show((i.toNat:Nat):Int)=i by omega,if_neg hk];omega
theorem VB{L:List Nd}{i:Int}(h0:0≤i)(hk:(Ag L i).kind≠18):(sN L (i+1).toNat:Int)=sN L i.toNat:=by
 rw[Db h0,sN,kS,show((i.toNat:Nat):Int)=i by omega,if_neg hk];omega
theorem b3n{L:List Nd}{i:Int}(h0:0≤i)(hk:(Ag L i).kind=18):(sN L (i+1).toNat:Int)=sN L i.toNat+cK L (Ag L i).kids:=by
 rw[Db h0,sN,kS,show((i.toNat:Nat):Int)=i by omega,if_pos hk];omega
theorem a2P{t:List UInt8}{L:List Nd}{i s n:Int}(h:meI t L i s n)(hi:i<L.length)(hk:(Ag L i).kind=19):meI t L (i+1) s (n+1):=
 ⟨h.1,by have:=h.2.1;omega,by rw[VB h.2.1.1 (by omega)];exact h.2.2.1,by rw[a2N h.2.1.1 hk,←h.2.2.2]⟩
theorem a2Q{t:List UInt8}{L:List Nd}{i s n:Int}(h:meI t L i s n)(hi:i<L.length)(hk:(Ag L i).kind≠19)(hk2:(Ag L i).kind≠18):meI t L (i+1) s n:=
 ⟨h.1,by have:=h.2.1;omega,by rw[VB h.2.1.1 hk2];exact h.2.2.1,by rw[a2O h.2.1.1 hk];exact h.2.2.2⟩
theorem VC{t:List UInt8}{L:List Nd}{i s n:Int}(h:meI t L i s n)(hi:i<L.length)(hk:(Ag L i).kind≠19):meJ t L i 0 s n:=by
 refine⟨h.1,⟨h.2.1.1,hi⟩,by omega,?_,by rw[a2O h.2.1.1 hk];exact h.2.2.2⟩
 by_cases e:(Ag L i).kind=18
 ·exact .inl ⟨e,by simp [cK];exact h.2.2.1⟩
 ·exact .inr ⟨e,rfl,h.2.2.1⟩
theorem a2R{t:List UInt8}{L:List Nd}{i s n:Int}(h:meI t L i s n)(hi:i<L.length)(hk:(Ag L i).kind=19):meJ t L i 0 s (n+1):=
 ⟨h.1,⟨h.2.1.1,hi⟩,by omega,.inr ⟨by omega,rfl,h.2.2.1⟩,by rw[a2N h.2.1.1 hk,←h.2.2.2]⟩
theorem VD{t:List UInt8}{L:List Nd}{i j s n c:Int}(h:meJ t L i j s n)(hk:(Ag L i).kind=18)(hc:(Ag L i).kids[j.toNat]? =some c)(hn:BG L c≠19):meJ t L i (j+1) (s+1) n:=by
 obtain⟨a,b,c1,d,e⟩:=h
 have hl:=(DS hc).1
 refine⟨a,b,by omega,.inl ⟨hk,?_⟩,e⟩
 rw[Db c1.1,Fg hc,Vu,cK,cK,if_neg hn]
 rcases d with d|d<;>omega
theorem VE{t:List UInt8}{L:List Nd}{i j s n c:Int}(h:meJ t L i j s n)(hk:(Ag L i).kind=18)(hc:(Ag L i).kids[j.toNat]? =some c)(hn:BG L c=19):meJ t L i (j+1) s n:=by
 obtain⟨a,b,c1,d,e⟩:=h
 have hl:=(DS hc).1
 refine⟨a,b,by omega,.inl ⟨hk,?_⟩,e⟩
 rw[Db c1.1,Fg hc,Vu,cK,cK,if_pos hn]
 rcases d with d|d<;>omega
theorem a2S{t:List UInt8}{L:List Nd}{i j s n c:Int}(h:meJ t L i j s n)(hk:(Ag L i).kind=18)(hc:(Ag L i).kids[j.toNat]? =some c)(hn:FD (BG L c)=true):meJ t L i (j+1) (s+1) n:=by
 rcases a2K h.1 h.2.1.1 h.2.1.2 hk hc with e|e
 ·exact VD h hk hc e.2
 ·rw[e.1] at hn;cases hn
theorem a2T{t:List UInt8}{L:List Nd}{i j s n c:Int}(h:meJ t L i j s n)(hk:(Ag L i).kind=18)(hc:(Ag L i).kids[j.toNat]? =some c)(hn:FD (BG L c)=false):meJ t L i (j+1) s n:=by
 rcases a2K h.1 h.2.1.1 h.2.1.2 hk hc with e|e
 ·rw[e.1] at hn;cases hn
 ·exact VE h hk hc e.2
theorem MG{t:List UInt8}{L:List Nd}{i j s n:Int}(h:meJ t L i j s n)(hj:¬j<(Ag L i).kids.length∨(Ag L i).kind≠18):meI t L (i+1) s n:=by
 obtain⟨a,b,c,d,e⟩:=h
 refine⟨a,by omega,?_,e⟩
 rcases d with d|d
 ·rw[b3n b.1 d.1]
  have:(Ag L i).kids.take j.toNat=(Ag L i).kids:=List.take_of_length_le (by rcases hj with hj|hj;omega;exact(hj d.1).elim)
  rw[this] at d
  exact d.2
 ·rw[VB b.1 d.1];exact d.2.2
theorem a2U{t:List UInt8}{L:List Nd}{i s n:Int}(h:meI t L i s n)(hi:¬i<L.length):meM t L s n=meF t:=by
 obtain⟨a,b,c,d⟩:=h
 have e:i.toNat=L.length:=by omega
 rw[c,d,e,meF,a.1];rfl
theorem a2V{t:List UInt8}(h:(CI t).isSome=false):meF t=me0:=by
 cases hr:CI t with
 |none=>rw[meF,hr]
 |some _=>rw[hr] at h;cases h
theorem JX{t:List UInt8}{L:List Nd}(h1:(CI t).isSome=true)(h2:L=(CI t).getD []∧Cy L):(1≤L.length∧L.length≤300)∧(Cy L∧L.length≤2^30):=by
 have:=Vx (Vw h1 h2)
 exact⟨this,h2.2,by omega⟩
theorem Ro{t:List UInt8}{L:List Nd}{i j s n c:Int}(h:meJ t L i j s n)(hc:(Ag L i).kids[j.toNat]? =some c):0≤c∧c<L.length:=b3m h.1 h.2.1.1 h.2.1.2 hc
theorem a2W{t:List UInt8}{L:List Nd}{i s n:Int}(h:meI t L i s n)(hi:i<L.length)(hk:(Ag L i).kind≠19):meJ t L i 0 s n:=VC h hi hk
attribute [local irreducible] meF meI meJ meT CI Bi nN sN cK
def Lm(x:List UInt8):LS:= {
 ι:=List Nd×Int×Int×Int,inv:=fun i=>meI x i.1 i.2.1 i.2.2.1 i.2.2.2,regs:=fun i=>[(2,.box 0 (meA me0)),(3,nds i.1),(7,.box 0 (meO x i.1 i.2.2.1 i.2.2.2)),(39,nds i.1),(40,.int .i64 i.1.length),(41,.int .i64 i.2.1)],als:=[],meas:=fun i=>i.1.length-i.2.1.toNat,
 sub:=fun i=>[(13,{ι:=Int×Int×Int,inv:=fun j=>meJ x i.1 i.2.1 j.1 j.2.1 j.2.2∧(Ag i.1 i.2.1).kind=18,regs:=fun j=>[(2,.box 0 (meA me0)),(3,nds i.1),(7,.box 0 (meO x i.1 j.2.1 j.2.2)),(39,nds i.1),(40,.int .i64 i.1.length),(41,.int .i64 i.2.1),(56,AU (Ag i.1 i.2.1).kids),(57,.int .i64 (Ag i.1 i.2.1).kids.length),(58,.int .i64 j.1)],als:=[],meas:=fun j=>(Ag i.1 i.2.1).kids.length-j.1.toNat})]}
def Rp:Sig:= {X:=List UInt8,args:=fun x=>[.str x],pre:=fun x=>x.length<2^31,Y:=Unit,post:=fun x y=>True,res:=fun x y=> .agg (meA (meF x)),outs:=fun x y=>[.top],keep:=false}
def Ln(x:List UInt8):LS:= {ι:=List Nd,inv:=fun L=>meT x L,regs:=fun L=>[(2,.box 0 (meA me0)),(3,nds L),(7,.box 0 (meO x L 0 0))],als:=[],meas:=fun _=>0}
theorem b3o(hT:Mf G):Aq G Tryz.prog 9 Rp:=
 vcFun_okP [(22,0,KZ),(31,0,HA),(32,0,JO),(33,0,Fo),(34,0,Gf)] [] false (fun x=>[(7,Lm x),(100005,Ln x)]) Tryz.func9 rfl (by decide) ⟨a9P,(a1n hT),(b0r hT),Yg,Th,trivial⟩ (fun(x:List UInt8)=>(∀(y:Unit),True→(True∧True∧True∧True∧True∧True∧True)∧True∧True)∧cA KZ [.str x] fun x_1 y=>Aa (!Option.isSome (CI x_1)) (∃(y:Unit),True∧(0:Int)=(meF x).lines∧(0:Int)=(meF x).widest∧(0:Int)=(meF x).members∧(0:Int)=(meF x).steps∧(0:Int)=(meF x).deep∧(0:Int)=(meF x).notes∧True) (inR IntKind.i64 ((↑(List.length y.1):Int)-(1:Int))∧true=true∧(((0:Int)≤(↑(List.length y.1):Int)-(1:Int)∧(↑(List.length y.1):Int)-(1:Int)<(↑(List.length y.1):Int))∧∀(e:Nd),y.1[Int.toNat ((↑(List.length y.1):Int)-(1:Int))]? =some e→(cA HA [.str x] fun x_2 y_1=>(cA JO [.str x] fun x_3 y_2=>(cA Fo [nds y.1,.int .i64 ((↑(List.length y.1):Int)-(1:Int))] fun x_4 y_3=>(true=true∧eA (Ln x) [.box 0 [.int .i64 (0:Int),.int .i64 (0:Int),.int .i64 (0:Int),.int .i64 (0:Int),.int .i64 (0:Int),.int .i64 (0:Int)],nds y.1,.box 0 [.int .i64 (↑(List.length (AY x_2)):Int),.int .i64 (BD x_3),.int .i64 (↑(List.length e.kids):Int),.int .i64 (0:Int),.int .i64 (Bi x_4.1 x_4.2),.int .i64 (0:Int)]])∧true=true∧eA (Ln x) [.box 0 [.int .i64 (0:Int),.int .i64 (0:Int),.int .i64 (0:Int),.int .i64 (0:Int),.int .i64 (0:Int),.int .i64 (0:Int)],nds y.1,.box 0 [.int .i64 (↑(List.length (AY x_2)):Int),.int .i64 (BD x_3),.int .i64 (↑(List.length e.kids):Int),.int .i64 (0:Int),.int .i64 (Bi x_4.1 x_4.2),.int .i64 (0:Int)]])∧cA Fo [nds y.1,.int .i64 ((↑(List.length y.1):Int)-(1:Int))] fun x_4 y_3=>true=true∧eA (Ln x) [.box 0 [.int .i64 (0:Int),.int .i64 (0:Int),.int .i64 (0:Int),.int .i64 (0:Int),.int .i64 (0:Int),.int .i64 (0:Int)],nds y.1,.box 0 [.int .i64 (↑(List.length (AY x_2)):Int),.int .i64 (BD x_3),.int .i64 (↑(List.length e.kids):Int),.int .i64 (0:Int),.int .i64 (Bi x_4.1 x_4.2),.int .i64 (0:Int)]])∧cA JO [.str x] fun x_3 y_2=>cA Fo [nds y.1,.int .i64 ((↑(List.length y.1):Int)-(1:Int))] fun x_4 y_3=>true=true∧eA (Ln x) [.box 0 [.int .i64 (0:Int),.int .i64 (0:Int),.int .i64 (0:Int),.int .i64 (0:Int),.int .i64 (0:Int),.int .i64 (0:Int)],nds y.1,.box 0 [.int .i64 (↑(List.length (AY x_2)):Int),.int .i64 (BD x_3),.int .i64 (↑(List.length e.kids):Int),.int .i64 (0:Int),.int .i64 (Bi x_4.1 x_4.2),.int .i64 (0:Int)]])∧cA HA [.str x] fun x_2 y_1=>cA JO [.str x] fun x_3 y_2=>cA Fo [nds y.1,.int .i64 ((↑(List.length y.1):Int)-(1:Int))] fun x_4 y_3=>true=true∧eA (Ln x) [.box 0 [.int .i64 (0:Int),.int .i64 (0:Int),.int .i64 (0:Int),.int .i64 (0:Int),.int .i64 (0:Int),.int .i64 (0:Int)],nds y.1,.box 0 [.int .i64 (↑(List.length (AY x_2)):Int),.int .i64 (BD x_3),.int .i64 (↑(List.length e.kids):Int),.int .i64 (0:Int),.int .i64 (Bi x_4.1 x_4.2),.int .i64 (0:Int)]])∧∀(i:List Nd),meT x i→eA (Lm x) [.box 0 [.int .i64 me0.lines,.int .i64 me0.widest,.int .i64 me0.members,.int .i64 me0.steps,.int .i64 me0.deep,.int .i64 me0.notes],nds i,.box 0 [.int .i64 (↑(List.length (AY x)):Int),.int .i64 (BD x),.int .i64 (↑(List.length (Cc i)):Int),.int .i64 (0:Int),.int .i64 (Bi i ((↑(List.length i):Int)-(1:Int))),.int .i64 (0:Int)],nds i,.int .i64 (↑(List.length i):Int),.int .i64 (0:Int)]∧∀(i:List Nd×Int×Int×Int),meI x i.1 i.2.1 i.2.2.1 i.2.2.2→Aa (decide (i.2.1<(↑(List.length i.1):Int))) (((0:Int)≤i.2.1∧i.2.1<(↑(List.length i.1):Int))∧∀(e:Nd),i.1[Int.toNat i.2.1]? =some e→Aa (e.kind==(19:Int)) (inR IntKind.i64 (i.2.2.2+(1:Int))∧Aa (e.kind != (18:Int)) (inR IntKind.i64 (i.2.1+(1:Int))∧eN (Lm x) i [.box 0 [.int .i64 me0.lines,.int .i64 me0.widest,.int .i64 me0.members,.int .i64 me0.steps,.int .i64 me0.deep,.int .i64 me0.notes],nds i.1,.box 0 [.int .i64 (↑(List.length (AY x)):Int),.int .i64 (BD x),.int .i64 (↑(List.length (Cc i.1)):Int),.int .i64 i.2.2.1,.int .i64 (Bi i.1 ((↑(List.length i.1):Int)-(1:Int))),.int .i64 (i.2.2.2+(1:Int))],nds i.1,.int .i64 (↑(List.length i.1):Int),.int .i64 (i.2.1+(1:Int))]) ((∃(i_1:Int×Int×Int),(meJ x i.1 i.2.1 i_1.1 i_1.2.1 i_1.2.2∧(Ag i.1 i.2.1).kind=(18:Int))∧(me0.lines=me0.lines∧me0.widest=me0.widest∧me0.members=me0.members∧me0.steps=me0.steps∧me0.deep=me0.deep∧me0.notes=me0.notes∧nds i.1=nds i.1∧(↑(List.length (AY x)):Int)=(↑(List.length (AY x)):Int)∧BD x=BD x∧(↑(List.length (Cc i.1)):Int)=(↑(List.length (Cc i.1)):Int)∧i.2.2.1=i_1.2.1∧Bi i.1 ((↑(List.length i.1):Int)-(1:Int))=Bi i.1 ((↑(List.length i.1):Int)-(1:Int))∧i.2.2.2+(1:Int)=i_1.2.2∧nds i.1=nds i.1∧(↑(List.length i.1):Int)=(↑(List.length i.1):Int)∧i.2.1=i.2.1∧AU e.kids=AU (Ag i.1 i.2.1).kids∧(↑(List.length e.kids):Int)=(↑(List.length (Ag i.1 i.2.1).kids):Int)∧(0:Int)=i_1.1∧True)∧True)∧∀(i_1:Int×Int×Int),meJ x i.1 i.2.1 i_1.1 i_1.2.1 i_1.2.2∧(Ag i.1 i.2.1).kind=(18:Int)→Aa (decide (i_1.1<(↑(List.length (Ag i.1 i.2.1).kids):Int))) (((0:Int)≤i_1.1∧i_1.1<(↑(List.length (Ag i.1 i.2.1).kids):Int))∧∀(e:Int),(Ag i.1 i.2.1).kids[Int.toNat i_1.1]? =some e→((0:Int)≤e∧e<(↑(List.length i.1):Int))∧∀(e_1:Nd),i.1[Int.toNat e]? =some e_1→cA Gf [.int .i64 e_1.kind] fun x_2 y=>Aa (FD x_2) (inR IntKind.i64 (i_1.2.1+(1:Int))∧inR IntKind.i64 (i_1.1+(1:Int))∧∃(i':Int×Int×Int),(meJ x i.1 i.2.1 i'.1 i'.2.1 i'.2.2∧(Ag i.1 i.2.1).kind=(18:Int))∧List.length (Ag i.1 i.2.1).kids-Int.toNat i'.1<List.length (Ag i.1 i.2.1).kids-Int.toNat i_1.1∧(me0.lines=me0.lines∧me0.widest=me0.widest∧me0.members=me0.members∧me0.steps=me0.steps∧me0.deep=me0.deep∧me0.notes=me0.notes∧nds i.1=nds i.1∧(↑(List.length (AY x)):Int)=(↑(List.length (AY x)):Int)∧BD x=BD x∧(↑(List.length (Cc i.1)):Int)=(↑(List.length (Cc i.1)):Int)∧i_1.2.1+(1:Int)=i'.2.1∧Bi i.1 ((↑(List.length i.1):Int)-(1:Int))=Bi i.1 ((↑(List.length i.1):Int)-(1:Int))∧i_1.2.2=i'.2.2∧nds i.1=nds i.1∧(↑(List.length i.1):Int)=(↑(List.length i.1):Int)∧i.2.1=i.2.1∧AU (Ag i.1 i.2.1).kids=AU (Ag i.1 i.2.1).kids∧(↑(List.length (Ag i.1 i.2.1).kids):Int)=(↑(List.length (Ag i.1 i.2.1).kids):Int)∧i_1.1+(1:Int)=i'.1∧True)∧True) (inR IntKind.i64 (i_1.1+(1:Int))∧∃(i':Int×Int×Int),(meJ x i.1 i.2.1 i'.1 i'.2.1 i'.2.2∧(Ag i.1 i.2.1).kind=(18:Int))∧List.length (Ag i.1 i.2.1).kids-Int.toNat i'.1<List.length (Ag i.1 i.2.1).kids-Int.toNat i_1.1∧(me0.lines=me0.lines∧me0.widest=me0.widest∧me0.members=me0.members∧me0.steps=me0.steps∧me0.deep=me0.deep∧me0.notes=me0.notes∧nds i.1=nds i.1∧(↑(List.length (AY x)):Int)=(↑(List.length (AY x)):Int)∧BD x=BD x∧(↑(List.length (Cc i.1)):Int)=(↑(List.length (Cc i.1)):Int)∧i_1.2.1=i'.2.1∧Bi i.1 ((↑(List.length i.1):Int)-(1:Int))=Bi i.1 ((↑(List.length i.1):Int)-(1:Int))∧i_1.2.2=i'.2.2∧nds i.1=nds i.1∧(↑(List.length i.1):Int)=(↑(List.length i.1):Int)∧i.2.1=i.2.1∧AU (Ag i.1 i.2.1).kids=AU (Ag i.1 i.2.1).kids∧(↑(List.length (Ag i.1 i.2.1).kids):Int)=(↑(List.length (Ag i.1 i.2.1).kids):Int)∧i_1.1+(1:Int)=i'.1∧True)∧True)) (inR IntKind.i64 (i.2.1+(1:Int))∧eN (Lm x) i [.box 0 [.int .i64 me0.lines,.int .i64 me0.widest,.int .i64 me0.members,.int .i64 me0.steps,.int .i64 me0.deep,.int .i64 me0.notes],nds i.1,.box 0 [.int .i64 (↑(List.length (AY x)):Int),.int .i64 (BD x),.int .i64 (↑(List.length (Cc i.1)):Int),.int .i64 i_1.2.1,.int .i64 (Bi i.1 ((↑(List.length i.1):Int)-(1:Int))),.int .i64 i_1.2.2],nds i.1,.int .i64 (↑(List.length i.1):Int),.int .i64 (i.2.1+(1:Int))]))) (Aa (e.kind != (18:Int)) (inR IntKind.i64 (i.2.1+(1:Int))∧eN (Lm x) i [.box 0 [.int .i64 me0.lines,.int .i64 me0.widest,.int .i64 me0.members,.int .i64 me0.steps,.int .i64 me0.deep,.int .i64 me0.notes],nds i.1,.box 0 [.int .i64 (↑(List.length (AY x)):Int),.int .i64 (BD x),.int .i64 (↑(List.length (Cc i.1)):Int),.int .i64 i.2.2.1,.int .i64 (Bi i.1 ((↑(List.length i.1):Int)-(1:Int))),.int .i64 i.2.2.2],nds i.1,.int .i64 (↑(List.length i.1):Int),.int .i64 (i.2.1+(1:Int))]) ((∃(i_1:Int×Int×Int),(meJ x i.1 i.2.1 i_1.1 i_1.2.1 i_1.2.2∧(Ag i.1 i.2.1).kind=(18:Int))∧(me0.lines=me0.lines∧me0.widest=me0.widest∧me0.members=me0.members∧me0.steps=me0.steps∧me0.deep=me0.deep∧me0.notes=me0.notes∧nds i.1=nds i.1∧(↑(List.length (AY x)):Int)=(↑(List.length (AY x)):Int)∧BD x=BD x∧(↑(List.length (Cc i.1)):Int)=(↑(List.length (Cc i.1)):Int)∧i.2.2.1=i_1.2.1∧Bi i.1 ((↑(List.length i.1):Int)-(1:Int))=Bi i.1 ((↑(List.length i.1):Int)-(1:Int))∧i.2.2.2=i_1.2.2∧nds i.1=nds i.1∧(↑(List.length i.1):Int)=(↑(List.length i.1):Int)∧i.2.1=i.2.1∧AU e.kids=AU (Ag i.1 i.2.1).kids∧(↑(List.length e.kids):Int)=(↑(List.length (Ag i.1 i.2.1).kids):Int)∧(0:Int)=i_1.1∧True)∧True)∧∀(i_1:Int×Int×Int),meJ x i.1 i.2.1 i_1.1 i_1.2.1 i_1.2.2∧(Ag i.1 i.2.1).kind=(18:Int)→Aa (decide (i_1.1<(↑(List.length (Ag i.1 i.2.1).kids):Int))) (((0:Int)≤i_1.1∧i_1.1<(↑(List.length (Ag i.1 i.2.1).kids):Int))∧∀(e:Int),(Ag i.1 i.2.1).kids[Int.toNat i_1.1]? =some e→((0:Int)≤e∧e<(↑(List.length i.1):Int))∧∀(e_1:Nd),i.1[Int.toNat e]? =some e_1→cA Gf [.int .i64 e_1.kind] fun x_2 y=>Aa (FD x_2) (inR IntKind.i64 (i_1.2.1+(1:Int))∧inR IntKind.i64 (i_1.1+(1:Int))∧∃(i':Int×Int×Int),(meJ x i.1 i.2.1 i'.1 i'.2.1 i'.2.2∧(Ag i.1 i.2.1).kind=(18:Int))∧List.length (Ag i.1 i.2.1).kids-Int.toNat i'.1<List.length (Ag i.1 i.2.1).kids-Int.toNat i_1.1∧(me0.lines=me0.lines∧me0.widest=me0.widest∧me0.members=me0.members∧me0.steps=me0.steps∧me0.deep=me0.deep∧me0.notes=me0.notes∧nds i.1=nds i.1∧(↑(List.length (AY x)):Int)=(↑(List.length (AY x)):Int)∧BD x=BD x∧(↑(List.length (Cc i.1)):Int)=(↑(List.length (Cc i.1)):Int)∧i_1.2.1+(1:Int)=i'.2.1∧Bi i.1 ((↑(List.length i.1):Int)-(1:Int))=Bi i.1 ((↑(List.length i.1):Int)-(1:Int))∧i_1.2.2=i'.2.2∧nds i.1=nds i.1∧(↑(List.length i.1):Int)=(↑(List.length i.1):Int)∧i.2.1=i.2.1∧AU (Ag i.1 i.2.1).kids=AU (Ag i.1 i.2.1).kids∧(↑(List.length (Ag i.1 i.2.1).kids):Int)=(↑(List.length (Ag i.1 i.2.1).kids):Int)∧i_1.1+(1:Int)=i'.1∧True)∧True) (inR IntKind.i64 (i_1.1+(1:Int))∧∃(i':Int×Int×Int),(meJ x i.1 i.2.1 i'.1 i'.2.1 i'.2.2∧(Ag i.1 i.2.1).kind=(18:Int))∧List.length (Ag i.1 i.2.1).kids-Int.toNat i'.1<List.length (Ag i.1 i.2.1).kids-Int.toNat i_1.1∧(me0.lines=me0.lines∧me0.widest=me0.widest∧me0.members=me0.members∧me0.steps=me0.steps∧me0.deep=me0.deep∧me0.notes=me0.notes∧nds i.1=nds i.1∧(↑(List.length (AY x)):Int)=(↑(List.length (AY x)):Int)∧BD x=BD x∧(↑(List.length (Cc i.1)):Int)=(↑(List.length (Cc i.1)):Int)∧i_1.2.1=i'.2.1∧Bi i.1 ((↑(List.length i.1):Int)-(1:Int))=Bi i.1 ((↑(List.length i.1):Int)-(1:Int))∧i_1.2.2=i'.2.2∧nds i.1=nds i.1∧(↑(List.length i.1):Int)=(↑(List.length i.1):Int)∧i.2.1=i.2.1∧AU (Ag i.1 i.2.1).kids=AU (Ag i.1 i.2.1).kids∧(↑(List.length (Ag i.1 i.2.1).kids):Int)=(↑(List.length (Ag i.1 i.2.1).kids):Int)∧i_1.1+(1:Int)=i'.1∧True)∧True)) (inR IntKind.i64 (i.2.1+(1:Int))∧eN (Lm x) i [.box 0 [.int .i64 me0.lines,.int .i64 me0.widest,.int .i64 me0.members,.int .i64 me0.steps,.int .i64 me0.deep,.int .i64 me0.notes],nds i.1,.box 0 [.int .i64 (↑(List.length (AY x)):Int),.int .i64 (BD x),.int .i64 (↑(List.length (Cc i.1)):Int),.int .i64 i_1.2.1,.int .i64 (Bi i.1 ((↑(List.length i.1):Int)-(1:Int))),.int .i64 i_1.2.2],nds i.1,.int .i64 (↑(List.length i.1):Int),.int .i64 (i.2.1+(1:Int))])))) (∃(y:Unit),True∧(↑(List.length (AY x)):Int)=(meF x).lines∧BD x=(meF x).widest∧(↑(List.length (Cc i.1)):Int)=(meF x).members∧i.2.2.1=(meF x).steps∧Bi i.1 ((↑(List.length i.1):Int)-(1:Int))=(meF x).deep∧i.2.2.2=(meF x).notes∧True))) (fun x=>by kernel_rfl) fun(x:List UInt8) (hx:x.length<2^31)=>(by
 dsimp only[cA,eA,eN,Ln,AU,Lm,Rm,meO,Bf,nds,Fo,HA,KZ,JO,Gf,Gj,Av,Az,mvL,lnL,mvE,lnE,BA]
 have hx:x.length<2^31:=hx
 (repeat' first|(with_reducible first|rfl|exact True.intro|apply AK|apply And.intro|((first|apply AA|apply AI|apply AB|apply AJ)<;>intro _))|(apply Ax<;>intro _)|apply AH|refine Af () ?_ ?_|((first|apply AO|apply AN|apply AM|apply AL|apply AG|apply AF|apply AE|apply AD|apply AC)<;>try dsimp only)|apply Af|(refine Prod.forall.2 ?_;intro _;try dsimp only)|(intro _;try dsimp only))
 all_goals(repeat(rename(_:List Nd)[_]? =some _=>hq;have hq2:=BH hq;clear hq;subst hq2))
 all_goals first
  |rfl
  |exact hx
  |omega
  |exact Vw ‹_› ‹_›
  |exact a2L ‹_›
  |(rw[a2V ‹_›];rfl)
  |exact(JX ‹_› ‹_›).1
  |exact(JX ‹_› ‹_›).2
  |exact(JX ‹_› ‹_›).2.1
  |(rw[←a2U ‹_› ‹_›];rfl)
  |exact a2S (And.left (show meJ _ _ _ _ _ _∧_ by assumption)) ‹_› ‹_› ‹_›
  |exact a2T (And.left (show meJ _ _ _ _ _ _∧_ by assumption)) ‹_› ‹_› ‹_›
  |exact MG (And.left (show meJ _ _ _ _ _ _∧_ by assumption)) (.inl ‹_›)
  |exact MG ‹_› (.inl ‹_›)
  |exact MG ‹_› (.inr ‹_›)
  |exact VD ‹_› ‹_› ‹_› ‹_›
  |exact VE ‹_› ‹_› ‹_› ‹_›
  |(have hq:=Ro (And.left (show meJ _ _ _ _ _ _∧_ by assumption)) ‹_›;omega)
  |(have hq:=Ro ‹_› ‹_›;omega)
  |exact a2W ‹_› ‹_› ‹_›
  |exact VC ‹_› ‹_› ‹_›
  |exact a2R ‹_› ‹_› ‹_›
  |exact a2P ‹_› ‹_› ‹_›
  |exact a2Q ‹_› ‹_› ‹_› ‹_›
  |(have hq:=JX ‹_› ‹_›;(try simp only[AR]);omega)
  |(have hq:=a2M (show meI _ _ _ _ _ by assumption);(try simp only[AR]);omega)
  |(have hq:=Rn (show meJ _ _ _ _ _ _ by assumption);(try simp only[AR]);omega)
  |(have hq:=Rn (And.left (show meJ _ _ _ _ _ _∧_ by assumption));(try simp only[AR]);omega)
  |skip)
def Lo(x:List UInt8):LS:= {
 ι:=List Nd×Int×Int×Int,inv:=fun i=>meI x i.1 i.2.1 i.2.2.1 i.2.2.2,regs:=fun i=>[(2,.box 0 (meA me0)),(3,nds i.1),(6,.box 0 (meO x i.1 i.2.2.1 i.2.2.2)),(7,.int .i64 i.2.1)],als:=[],meas:=fun i=>i.1.length-i.2.1.toNat,
 sub:=fun i=>[(11,{ι:=Int×Int×Int,inv:=fun j=>meJ x i.1 i.2.1 j.1 j.2.1 j.2.2,regs:=fun j=>[(2,.box 0 (meA me0)),(3,nds i.1),(6,.box 0 (meO x i.1 j.2.1 j.2.2)),(7,.int .i64 i.2.1),(8,.int .i64 j.1)],als:=[],meas:=fun j=>(Ag i.1 i.2.1).kids.length-j.1.toNat})]}
def Rq:Sig:= {X:=List UInt8,args:=fun x=>[.str x],pre:=fun x=>x.length<2^31,Y:=Unit,post:=fun x y=>True,res:=fun x y=> .agg (meA (meF x)),outs:=fun x y=>[.top],keep:=false}
def Lp(x:List UInt8):LS:= {ι:=List Nd,inv:=fun L=>meT x L,regs:=fun L=>[(2,.box 0 (meA me0)),(3,nds L),(6,.box 0 (meO x L 0 0))],als:=[],meas:=fun _=>0}
theorem b3p:Aq G Tryz.prog 8 Rq:=
 vcFun_okP [(16,0,FW),(28,0,HB),(29,0,JP),(30,0,Gi)] [] false (fun x=>[(6,Lo x),(100004,Lp x)]) Tryz.func8 rfl (by decide) ⟨b2V,a1o,b0s,YH,trivial⟩ (fun(x:List UInt8)=>(∀(y:Unit),True→(True∧True∧True∧True∧True∧True∧True)∧True∧True)∧cA FW [.str x] fun x_1 y=>Aa (!Option.isSome (CI x_1)) (∃(y:Unit),True∧(0:Int)=(meF x).lines∧(0:Int)=(meF x).widest∧(0:Int)=(meF x).members∧(0:Int)=(meF x).steps∧(0:Int)=(meF x).deep∧(0:Int)=(meF x).notes∧True) (true=true∧(inR IntKind.i64 ((↑(List.length y.1):Int)-(1:Int))∧((0:Int)≤(↑(List.length y.1):Int)-(1:Int)∧(↑(List.length y.1):Int)-(1:Int)<(↑(List.length y.1):Int))∧∀(e:Nd),y.1[Int.toNat ((↑(List.length y.1):Int)-(1:Int))]? =some e→inR IntKind.i64 ((↑(List.length y.1):Int)-(1:Int))∧(cA HB [.str x] fun x_2 y_1=>(cA JP [.str x] fun x_3 y_2=>(cA Gi [nds y.1,.int .i64 ((↑(List.length y.1):Int)-(1:Int))] fun x_4 y_3=>(true=true∧eA (Lp x) [.box 0 [.int .i64 (0:Int),.int .i64 (0:Int),.int .i64 (0:Int),.int .i64 (0:Int),.int .i64 (0:Int),.int .i64 (0:Int)],nds y.1,.box 0 [.int .i64 (↑(List.length (AY x_2)):Int),.int .i64 (BD x_3),.int .i64 (↑(List.length e.kids):Int),.int .i64 (0:Int),.int .i64 (Bi x_4.1 x_4.2),.int .i64 (0:Int)]])∧true=true∧eA (Lp x) [.box 0 [.int .i64 (0:Int),.int .i64 (0:Int),.int .i64 (0:Int),.int .i64 (0:Int),.int .i64 (0:Int),.int .i64 (0:Int)],nds y.1,.box 0 [.int .i64 (↑(List.length (AY x_2)):Int),.int .i64 (BD x_3),.int .i64 (↑(List.length e.kids):Int),.int .i64 (0:Int),.int .i64 (Bi x_4.1 x_4.2),.int .i64 (0:Int)]])∧cA Gi [nds y.1,.int .i64 ((↑(List.length y.1):Int)-(1:Int))] fun x_4 y_3=>true=true∧eA (Lp x) [.box 0 [.int .i64 (0:Int),.int .i64 (0:Int),.int .i64 (0:Int),.int .i64 (0:Int),.int .i64 (0:Int),.int .i64 (0:Int)],nds y.1,.box 0 [.int .i64 (↑(List.length (AY x_2)):Int),.int .i64 (BD x_3),.int .i64 (↑(List.length e.kids):Int),.int .i64 (0:Int),.int .i64 (Bi x_4.1 x_4.2),.int .i64 (0:Int)]])∧cA JP [.str x] fun x_3 y_2=>cA Gi [nds y.1,.int .i64 ((↑(List.length y.1):Int)-(1:Int))] fun x_4 y_3=>true=true∧eA (Lp x) [.box 0 [.int .i64 (0:Int),.int .i64 (0:Int),.int .i64 (0:Int),.int .i64 (0:Int),.int .i64 (0:Int),.int .i64 (0:Int)],nds y.1,.box 0 [.int .i64 (↑(List.length (AY x_2)):Int),.int .i64 (BD x_3),.int .i64 (↑(List.length e.kids):Int),.int .i64 (0:Int),.int .i64 (Bi x_4.1 x_4.2),.int .i64 (0:Int)]])∧cA HB [.str x] fun x_2 y_1=>cA JP [.str x] fun x_3 y_2=>cA Gi [nds y.1,.int .i64 ((↑(List.length y.1):Int)-(1:Int))] fun x_4 y_3=>true=true∧eA (Lp x) [.box 0 [.int .i64 (0:Int),.int .i64 (0:Int),.int .i64 (0:Int),.int .i64 (0:Int),.int .i64 (0:Int),.int .i64 (0:Int)],nds y.1,.box 0 [.int .i64 (↑(List.length (AY x_2)):Int),.int .i64 (BD x_3),.int .i64 (↑(List.length e.kids):Int),.int .i64 (0:Int),.int .i64 (Bi x_4.1 x_4.2),.int .i64 (0:Int)]])∧∀(i:List Nd),meT x i→eA (Lo x) [.box 0 [.int .i64 me0.lines,.int .i64 me0.widest,.int .i64 me0.members,.int .i64 me0.steps,.int .i64 me0.deep,.int .i64 me0.notes],nds i,.box 0 [.int .i64 (↑(List.length (AY x)):Int),.int .i64 (BD x),.int .i64 (↑(List.length (Cc i)):Int),.int .i64 (0:Int),.int .i64 (Bi i ((↑(List.length i):Int)-(1:Int))),.int .i64 (0:Int)],.int .i64 (0:Int)]∧∀(i:List Nd×Int×Int×Int),meI x i.1 i.2.1 i.2.2.1 i.2.2.2→Aa (decide (i.2.1<(↑(List.length i.1):Int))) (((0:Int)≤i.2.1∧i.2.1<(↑(List.length i.1):Int))∧∀(e:Nd),i.1[Int.toNat i.2.1]? =some e→Aa (e.kind==(19:Int)) (inR IntKind.i64 (i.2.2.2+(1:Int))∧(∃(i_1:Int×Int×Int),meJ x i.1 i.2.1 i_1.1 i_1.2.1 i_1.2.2∧(me0.lines=me0.lines∧me0.widest=me0.widest∧me0.members=me0.members∧me0.steps=me0.steps∧me0.deep=me0.deep∧me0.notes=me0.notes∧nds i.1=nds i.1∧(↑(List.length (AY x)):Int)=(↑(List.length (AY x)):Int)∧BD x=BD x∧(↑(List.length (Cc i.1)):Int)=(↑(List.length (Cc i.1)):Int)∧i.2.2.1=i_1.2.1∧Bi i.1 ((↑(List.length i.1):Int)-(1:Int))=Bi i.1 ((↑(List.length i.1):Int)-(1:Int))∧i.2.2.2+(1:Int)=i_1.2.2∧i.2.1=i.2.1∧(0:Int)=i_1.1∧True)∧True)∧∀(i_1:Int×Int×Int),meJ x i.1 i.2.1 i_1.1 i_1.2.1 i_1.2.2→((0:Int)≤i.2.1∧i.2.1<(↑(List.length i.1):Int))∧∀(e:Nd),i.1[Int.toNat i.2.1]? =some e→Aa (decide (i_1.1<(↑(List.length e.kids):Int))) (((0:Int)≤i.2.1∧i.2.1<(↑(List.length i.1):Int))∧∀(e:Nd),i.1[Int.toNat i.2.1]? =some e→Aa (e.kind==(18:Int)) (((0:Int)≤i.2.1∧i.2.1<(↑(List.length i.1):Int))∧∀(e:Nd),i.1[Int.toNat i.2.1]? =some e→((0:Int)≤i_1.1∧i_1.1<(↑(List.length e.kids):Int))∧∀(e_1:Int),e.kids[Int.toNat i_1.1]? =some e_1→((0:Int)≤e_1∧e_1<(↑(List.length i.1):Int))∧∀(e:Nd),i.1[Int.toNat e_1]? =some e→Aa (e.kind != (19:Int)) (inR IntKind.i64 (i_1.2.1+(1:Int))∧inR IntKind.i64 (i_1.1+(1:Int))∧∃(i':Int×Int×Int),meJ x i.1 i.2.1 i'.1 i'.2.1 i'.2.2∧List.length (Ag i.1 i.2.1).kids-Int.toNat i'.1<List.length (Ag i.1 i.2.1).kids-Int.toNat i_1.1∧(me0.lines=me0.lines∧me0.widest=me0.widest∧me0.members=me0.members∧me0.steps=me0.steps∧me0.deep=me0.deep∧me0.notes=me0.notes∧nds i.1=nds i.1∧(↑(List.length (AY x)):Int)=(↑(List.length (AY x)):Int)∧BD x=BD x∧(↑(List.length (Cc i.1)):Int)=(↑(List.length (Cc i.1)):Int)∧i_1.2.1+(1:Int)=i'.2.1∧Bi i.1 ((↑(List.length i.1):Int)-(1:Int))=Bi i.1 ((↑(List.length i.1):Int)-(1:Int))∧i_1.2.2=i'.2.2∧i.2.1=i.2.1∧i_1.1+(1:Int)=i'.1∧True)∧True) (inR IntKind.i64 (i_1.1+(1:Int))∧∃(i':Int×Int×Int),meJ x i.1 i.2.1 i'.1 i'.2.1 i'.2.2∧List.length (Ag i.1 i.2.1).kids-Int.toNat i'.1<List.length (Ag i.1 i.2.1).kids-Int.toNat i_1.1∧(me0.lines=me0.lines∧me0.widest=me0.widest∧me0.members=me0.members∧me0.steps=me0.steps∧me0.deep=me0.deep∧me0.notes=me0.notes∧nds i.1=nds i.1∧(↑(List.length (AY x)):Int)=(↑(List.length (AY x)):Int)∧BD x=BD x∧(↑(List.length (Cc i.1)):Int)=(↑(List.length (Cc i.1)):Int)∧i_1.2.1=i'.2.1∧Bi i.1 ((↑(List.length i.1):Int)-(1:Int))=Bi i.1 ((↑(List.length i.1):Int)-(1:Int))∧i_1.2.2=i'.2.2∧i.2.1=i.2.1∧i_1.1+(1:Int)=i'.1∧True)∧True)) (inR IntKind.i64 (i.2.1+(1:Int))∧eN (Lo x) i [.box 0 [.int .i64 me0.lines,.int .i64 me0.widest,.int .i64 me0.members,.int .i64 me0.steps,.int .i64 me0.deep,.int .i64 me0.notes],nds i.1,.box 0 [.int .i64 (↑(List.length (AY x)):Int),.int .i64 (BD x),.int .i64 (↑(List.length (Cc i.1)):Int),.int .i64 i_1.2.1,.int .i64 (Bi i.1 ((↑(List.length i.1):Int)-(1:Int))),.int .i64 i_1.2.2],.int .i64 (i.2.1+(1:Int))])) (inR IntKind.i64 (i.2.1+(1:Int))∧eN (Lo x) i [.box 0 [.int .i64 me0.lines,.int .i64 me0.widest,.int .i64 me0.members,.int .i64 me0.steps,.int .i64 me0.deep,.int .i64 me0.notes],nds i.1,.box 0 [.int .i64 (↑(List.length (AY x)):Int),.int .i64 (BD x),.int .i64 (↑(List.length (Cc i.1)):Int),.int .i64 i_1.2.1,.int .i64 (Bi i.1 ((↑(List.length i.1):Int)-(1:Int))),.int .i64 i_1.2.2],.int .i64 (i.2.1+(1:Int))])) ((∃(i_1:Int×Int×Int),meJ x i.1 i.2.1 i_1.1 i_1.2.1 i_1.2.2∧(me0.lines=me0.lines∧me0.widest=me0.widest∧me0.members=me0.members∧me0.steps=me0.steps∧me0.deep=me0.deep∧me0.notes=me0.notes∧nds i.1=nds i.1∧(↑(List.length (AY x)):Int)=(↑(List.length (AY x)):Int)∧BD x=BD x∧(↑(List.length (Cc i.1)):Int)=(↑(List.length (Cc i.1)):Int)∧i.2.2.1=i_1.2.1∧Bi i.1 ((↑(List.length i.1):Int)-(1:Int))=Bi i.1 ((↑(List.length i.1):Int)-(1:Int))∧i.2.2.2=i_1.2.2∧i.2.1=i.2.1∧(0:Int)=i_1.1∧True)∧True)∧∀(i_1:Int×Int×Int),meJ x i.1 i.2.1 i_1.1 i_1.2.1 i_1.2.2→((0:Int)≤i.2.1∧i.2.1<(↑(List.length i.1):Int))∧∀(e:Nd),i.1[Int.toNat i.2.1]? =some e→Aa (decide (i_1.1<(↑(List.length e.kids):Int))) (((0:Int)≤i.2.1∧i.2.1<(↑(List.length i.1):Int))∧∀(e:Nd),i.1[Int.toNat i.2.1]? =some e→Aa (e.kind==(18:Int)) (((0:Int)≤i.2.1∧i.2.1<(↑(List.length i.1):Int))∧∀(e:Nd),i.1[Int.toNat i.2.1]? =some e→((0:Int)≤i_1.1∧i_1.1<(↑(List.length e.kids):Int))∧∀(e_1:Int),e.kids[Int.toNat i_1.1]? =some e_1→((0:Int)≤e_1∧e_1<(↑(List.length i.1):Int))∧∀(e:Nd),i.1[Int.toNat e_1]? =some e→Aa (e.kind != (19:Int)) (inR IntKind.i64 (i_1.2.1+(1:Int))∧inR IntKind.i64 (i_1.1+(1:Int))∧∃(i':Int×Int×Int),meJ x i.1 i.2.1 i'.1 i'.2.1 i'.2.2∧List.length (Ag i.1 i.2.1).kids-Int.toNat i'.1<List.length (Ag i.1 i.2.1).kids-Int.toNat i_1.1∧(me0.lines=me0.lines∧me0.widest=me0.widest∧me0.members=me0.members∧me0.steps=me0.steps∧me0.deep=me0.deep∧me0.notes=me0.notes∧nds i.1=nds i.1∧(↑(List.length (AY x)):Int)=(↑(List.length (AY x)):Int)∧BD x=BD x∧(↑(List.length (Cc i.1)):Int)=(↑(List.length (Cc i.1)):Int)∧i_1.2.1+(1:Int)=i'.2.1∧Bi i.1 ((↑(List.length i.1):Int)-(1:Int))=Bi i.1 ((↑(List.length i.1):Int)-(1:Int))∧i_1.2.2=i'.2.2∧i.2.1=i.2.1∧i_1.1+(1:Int)=i'.1∧True)∧True) (inR IntKind.i64 (i_1.1+(1:Int))∧∃(i':Int×Int×Int),meJ x i.1 i.2.1 i'.1 i'.2.1 i'.2.2∧List.length (Ag i.1 i.2.1).kids-Int.toNat i'.1<List.length (Ag i.1 i.2.1).kids-Int.toNat i_1.1∧(me0.lines=me0.lines∧me0.widest=me0.widest∧me0.members=me0.members∧me0.steps=me0.steps∧me0.deep=me0.deep∧me0.notes=me0.notes∧nds i.1=nds i.1∧(↑(List.length (AY x)):Int)=(↑(List.length (AY x)):Int)∧BD x=BD x∧(↑(List.length (Cc i.1)):Int)=(↑(List.length (Cc i.1)):Int)∧i_1.2.1=i'.2.1∧Bi i.1 ((↑(List.length i.1):Int)-(1:Int))=Bi i.1 ((↑(List.length i.1):Int)-(1:Int))∧i_1.2.2=i'.2.2∧i.2.1=i.2.1∧i_1.1+(1:Int)=i'.1∧True)∧True)) (inR IntKind.i64 (i.2.1+(1:Int))∧eN (Lo x) i [.box 0 [.int .i64 me0.lines,.int .i64 me0.widest,.int .i64 me0.members,.int .i64 me0.steps,.int .i64 me0.deep,.int .i64 me0.notes],nds i.1,.box 0 [.int .i64 (↑(List.length (AY x)):Int),.int .i64 (BD x),.int .i64 (↑(List.length (Cc i.1)):Int),.int .i64 i_1.2.1,.int .i64 (Bi i.1 ((↑(List.length i.1):Int)-(1:Int))),.int .i64 i_1.2.2],.int .i64 (i.2.1+(1:Int))])) (inR IntKind.i64 (i.2.1+(1:Int))∧eN (Lo x) i [.box 0 [.int .i64 me0.lines,.int .i64 me0.widest,.int .i64 me0.members,.int .i64 me0.steps,.int .i64 me0.deep,.int .i64 me0.notes],nds i.1,.box 0 [.int .i64 (↑(List.length (AY x)):Int),.int .i64 (BD x),.int .i64 (↑(List.length (Cc i.1)):Int),.int .i64 i_1.2.1,.int .i64 (Bi i.1 ((↑(List.length i.1):Int)-(1:Int))),.int .i64 i_1.2.2],.int .i64 (i.2.1+(1:Int))]))) (∃(y:Unit),True∧(↑(List.length (AY x)):Int)=(meF x).lines∧BD x=(meF x).widest∧(↑(List.length (Cc i.1)):Int)=(meF x).members∧i.2.2.1=(meF x).steps∧Bi i.1 ((↑(List.length i.1):Int)-(1:Int))=(meF x).deep∧i.2.2.2=(meF x).notes∧True))) (fun x=>by kernel_rfl) fun(x:List UInt8) (hx:x.length<2^31)=>(by
 dsimp only[cA,eA,eN,Lp,Lo,Rm,meO,Bf,nds,Ad,As,Gi,HB,FW,JP,Br,sgs,srd,Gj,Av,Az,mvL,lnL,mvE,lnE,BA]
 have hx:x.length<2^31:=hx
 (repeat' first|(with_reducible first|rfl|exact True.intro|apply AK|apply And.intro|((first|apply AA|apply AI|apply AB|apply AJ)<;>intro _))|(apply Ax<;>intro _)|apply AH|refine Af () ?_ ?_|((first|apply AO|apply AN|apply AM|apply AL|apply AG|apply AF|apply AE|apply AD|apply AC)<;>try dsimp only)|apply Af|(refine Prod.forall.2 ?_;intro _;try dsimp only)|(intro _;try dsimp only))
 all_goals(repeat(rename(_:List Nd)[_]? =some _=>hq;have hq2:=BH hq;clear hq;subst hq2))
 all_goals first
  |rfl
  |exact hx
  |omega
  |exact Vw ‹_› ‹_›
  |exact a2L ‹_›
  |(rw[a2V ‹_›];rfl)
  |exact(JX ‹_› ‹_›).1
  |exact(JX ‹_› ‹_›).2
  |exact(JX ‹_› ‹_›).2.1
  |(rw[←a2U ‹_› ‹_›];rfl)
  |exact a2S (And.left (show meJ _ _ _ _ _ _∧_ by assumption)) ‹_› ‹_› ‹_›
  |exact a2T (And.left (show meJ _ _ _ _ _ _∧_ by assumption)) ‹_› ‹_› ‹_›
  |exact MG (And.left (show meJ _ _ _ _ _ _∧_ by assumption)) (.inl ‹_›)
  |exact MG ‹_› (.inl ‹_›)
  |exact MG ‹_› (.inr ‹_›)
  |exact VD ‹_› ‹_› ‹_› ‹_›
  |exact VE ‹_› ‹_› ‹_› ‹_›
  |(have hq:=Ro (And.left (show meJ _ _ _ _ _ _∧_ by assumption)) ‹_›;omega)
  |(have hq:=Ro ‹_› ‹_›;omega)
  |exact a2W ‹_› ‹_› ‹_›
  |exact VC ‹_› ‹_› ‹_›
  |exact a2R ‹_› ‹_› ‹_›
  |exact a2P ‹_› ‹_› ‹_›
  |exact a2Q ‹_› ‹_› ‹_› ‹_›
  |(have hq:=JX ‹_› ‹_›;(try simp only[AR]);omega)
  |(have hq:=a2M (show meI _ _ _ _ _ by assumption);(try simp only[AR]);omega)
  |(have hq:=Rn (show meJ _ _ _ _ _ _ by assumption);(try simp only[AR]);omega)
  |(have hq:=Rn (And.left (show meJ _ _ _ _ _ _∧_ by assumption));(try simp only[AR]);omega)
  |skip)
end Go.My
end
section
set_option linter.unusedVariables false
set_option linter.unusedSimpArgs false
namespace Go.My
open Go.Eng Go.Proofs
variable {G:GInv}
def Ol(a b:Me):Bool:=a.lines==b.lines&&(a.widest==b.widest&&(a.members==b.members&&(a.steps==b.steps&&(a.deep==b.deep&&a.notes==b.notes))))
theorem b3q(a:Me):Ol a a=true:=by simp [Ol]
def GY:Sig:= {X:=Me×Me,args:=fun x=>[.agg (meA x.1),.agg (meA x.2)],pre:=fun x=>True,Y:=Unit,post:=fun x y=>True,res:=fun x y=> .bool (Ol x.1 x.2),outs:=fun x y=>[.top,.top],keep:=false}
theorem b3r:Aq G Tryz.prog 10 GY:=
 vcFun_okP [] [] false (fun x=>[]) Tryz.func10 rfl (by decide) trivial (fun(x:Me×Me)=>(∀(y:Unit),True→True∧True∧True∧True)∧Aa (x.1.lines != x.2.lines) (rA GY x [.bool false,.top,.top]) (Aa (x.1.widest != x.2.widest) (rA GY x [.bool false,.top,.top]) (Aa (x.1.members != x.2.members) (rA GY x [.bool false,.top,.top]) (Aa (x.1.steps != x.2.steps) (rA GY x [.bool false,.top,.top]) (Aa (x.1.deep != x.2.deep) (rA GY x [.bool false,.top,.top]) (Aa (x.1.notes != x.2.notes) (rA GY x [.bool false,.top,.top]) (rA GY x [.bool true,.top,.top]))))))) (fun x=>by kernel_rfl) fun(x:Me×Me) (hx:True)=>(by
 dsimp only[Rm,rA,GY,Av,Az]
 (repeat' first|(with_reducible first|rfl|exact True.intro|apply AK|apply And.intro|((first|apply AA|apply AI|apply AB|apply AJ)<;>intro _))|(apply Ax<;>intro _)|apply AH|refine Af () ?_ ?_|((first|apply AO|apply AN|apply AM|apply AL|apply AG|apply AF|apply AE|apply AD|apply AC)<;>try dsimp only)|apply Af|(refine Prod.forall.2 ?_;intro _;try dsimp only)|(intro _;try dsimp only))<;>(try dsimp only at*)<;>(try simp only[AR,List.length_cons,List.length_nil])<;>(try omega)
 all_goals simp [Ol, *])
attribute [local irreducible] meF
def Om:Sig:= {X:=List UInt8,args:=fun x=>[.str x],pre:=fun x=>x.length<2^63,Y:=Unit,post:=fun x y=>True,res:=fun x y=> .bool true,outs:=fun x y=>[.top],keep:=false}
theorem b3s(hT:Mf G):Aq G Tryz.prog 4 Om:=
 vcFun_okP [(8,0,Rq),(9,0,Rp),(10,0,GY)] [] false (fun x=>[]) Tryz.func4 rfl (by decide) ⟨b3p,(b3o hT),b3r,trivial⟩ (fun(x:List UInt8)=>(∀(y:Unit),True→True∧True∧True)∧Aa (decide ((↑(List.length x):Int)>(1048576:Int))) (rA Om x [.bool true,.top]) (cA Rq [.str x] fun x_1 y=>cA Rp [.str x] fun x_2 y=>cA GY [.agg [.int .i64 (meF x_2).lines,.int .i64 (meF x_2).widest,.int .i64 (meF x_2).members,.int .i64 (meF x_2).steps,.int .i64 (meF x_2).deep,.int .i64 (meF x_2).notes],.agg [.int .i64 (meF x_1).lines,.int .i64 (meF x_1).widest,.int .i64 (meF x_1).members,.int .i64 (meF x_1).steps,.int .i64 (meF x_1).deep,.int .i64 (meF x_1).notes]] fun x_3 y=>Aa (!Ol x_3.1 x_3.2) (rA Om x [.bool false,.top]) (rA Om x [.bool true,.top]))) (fun x=>by kernel_rfl) fun(x:List UInt8) (hx:x.length<2^63)=>(by
 dsimp only[cA,Rm,meO,Bf,nds,rA,GY,Rp,Om,Rq,Av,Az,mvL,lnL,mvE,lnE]
 have hx:x.length<2^63:=hx
 (repeat' first|refine b3l ?_|(with_reducible first|rfl|exact True.intro|apply AK|apply And.intro|((first|apply AA|apply AI|apply AB|apply AJ)<;>intro _))|(apply Ax<;>intro _)|apply AH|refine Af () ?_ ?_|((first|apply AO|apply AN|apply AM|apply AL|apply AG|apply AF|apply AE|apply AD|apply AC)<;>try dsimp only)|apply Af|(refine Prod.forall.2 ?_;intro _;try dsimp only)|(intro _;try dsimp only))
 all_goals first
  |rfl
  |omega
  |(exfalso;simp [b3q] at*;done)
  |skip)
end Go.My
end
