/- joined -/
import Derived.Test.YtglbamflbnldhaaGreatDoorQM
import Derived.Shelf.Strconv.Itoa0
import Derived.Shelf.Strconv.Itoa1
import Derived.Shelf.LaysM
import Derived.Shelf.Strconv.Itoa2
import Derived.Shelf.Strconv.Itoa3
import Derived.Test.YtglbamflbnldhaaGreatDoorProg
import Derived.ProofKit
set_option linter.unusedSimpArgs false
set_option linter.unusedVariables false
section
namespace Go.My
open Go.Eng Go.Proofs
variable {G:GInv}
theorem a7t{c:UInt8}(h1:Cx c=false)(h2:Bj c=false):BR c=false:=by simp [BR,h1,h2]
theorem c2V{c:UInt8}(h1:Cx c=true):BR c=true:=by simp [BR,h1]
theorem c2W{c:UInt8}(h1:Bj c=true):BR c=true:=by simp [BR,h1]
theorem c2X{s:List UInt8}:CE s≤s.length:=by
 unfold CE
 cases h:DW isQ (s.drop 1) with
 |none=>simp
 |some i=>
  simp only
  split
  ·have:=Wd h;simp at this;omega
  ·omega
theorem c2Y{s:List UInt8}:Cv s≤s.length:=by
 unfold Cv
 split
 ·split
  ·exact SV
  ·omega
 ·omega
theorem c2Z{s:List UInt8}:(Gk s).length≤2:=by
 rw[a6r]
 split
 ·simp;omega
 ·split
  ·simp;omega
  ·simp
theorem c3a{x:List UInt8×Int}(h0:0≤x.2)(h1:x.2<x.1.length):(Cv (x.1.drop x.2.toNat):Int)≤x.1.length-x.2∧(CE (x.1.drop x.2.toNat):Int)≤x.1.length-x.2:=by
 have a:= @c2Y (x.1.drop x.2.toNat);have b:= @c2X (x.1.drop x.2.toNat)
 simp at a b;omega
theorem a7u{x:List UInt8×Int}{i:Int}{c d e:UInt8}(h0:0≤x.2)(hf:Cx c=false)(hc:x.1[x.2.toNat]? =some c)(hg:Bj d=true)(hd:x.1[x.2.toNat]? =some d)(h:rwI Bj x i)(hz:Bj e=false)(he:x.1[i.toNat]? =some e):
 (i-x.2>12→sgR x 0 [] 0 false 0)∧(¬i-x.2>12→sgR x 2 (List.drop (Int.toNat x.2) (List.take (Int.toNat i) x.1)) x.2 false (i-x.2)):=by
 rw[hc] at hd;cases hd
 exact Qz h0 hc hf hg h (.inr ⟨_,he,hz⟩)
theorem a7v{t:List UInt8}{i br:Int}{l:List Sg}{n:Nat}{c c2:UInt8}{k p m:Int}{tx:List UInt8}{b:Bool}(h32:(c.toNat:Int)≠32)(hc:t[i.toNat]? =some c)(h10:(c2.toNat:Int)≠10)(hc2:t[i.toNat]? =some c2)(h:sgJ t i br l n)(hi:i<t.length)(hs:sgR (t,i) k tx p b m)(hm:m≠0):
 sgJ t (i+m) 0 (l++[⟨k,tx,p,decide (br>1)⟩]) (n-1)∧n-1<n:=by
 rw[hc] at hc2;cases hc2
 rcases hs with⟨h1,⟨rfl,rfl,rfl,rfl⟩,rfl⟩|hs
 ·exact b6J hc h hi (by omega) (by omega) h1
 ·exact(hm hs.2).elim
theorem a7w{t:List UInt8}{i br:Int}{l:List Sg}{n:Nat}{c c2:UInt8}{k p m:Int}{tx:List UInt8}{b:Bool}(h32:(c.toNat:Int)≠32)(hc:t[i.toNat]? =some c)(h10:(c2.toNat:Int)≠10)(hc2:t[i.toNat]? =some c2)(h:sgJ t i br l n)(hi:i<t.length)(hs:sgR (t,i) k tx p b m)(hm:m=0):Ct t=none:=by
 rw[hc] at hc2;cases hc2
 rcases hs with⟨h1,_,h2⟩|hs
 ·have a:=(SW h1).1;rw[hm] at h2;rw[←h2] at a;omega
 ·exact b6K hc h hi (by omega) (by omega) hs.1
theorem c3b{t:List UInt8}{i br:Int}{l:List Sg}{n:Nat}{k p m:Int}{tx:List UInt8}{b:Bool}(h:sgJ t i br l n)(hs:sgR (t,i) k tx p b m):0≤m∧m≤t.length-i:=by
 rcases hs with⟨h1,_,h2⟩|hs
 ·have a:=a4R h h1;simp only at h2;omega
 ·have:=Of h;omega
attribute [local irreducible] rwI sgR Bd Cv CE Gk
def TW:Sig:= {X:=List UInt8×Int,args:=fun x=>[.str x.1,.int .i64 x.2],pre:=fun x=>0≤x.2∧x.2<x.1.length∧x.1.length<2^62,Y:=Int×List UInt8×Int×Bool×Int,post:=fun x y=>sgR x y.1 y.2.1 y.2.2.1 y.2.2.2.1 y.2.2.2.2,res:=fun x y=> .tup [.agg [.int .i64 y.1,.str y.2.1,.int .i64 y.2.2.1,.bool y.2.2.2.1],.int .i64 y.2.2.2.2],outs:=fun x y=>[.top,.top],keep:=false}
def QG(x:List UInt8×Int):LS:= {ι:=Int,inv:=fun i=>rwI BR x i,regs:=fun i=>[(0,.str x.1),(1,.int .i64 x.2),(4,.box 0 [.int .i64 0,.str [],.int .i64 0,.bool false]),(6,.int .i64 i)],als:=[],meas:=fun i=>x.1.length-i.toNat}
def TX(x:List UInt8×Int):LS:= {ι:=Int,inv:=fun i=>rwI Bj x i,regs:=fun i=>[(0,.str x.1),(1,.int .i64 x.2),(4,.box 0 [.int .i64 0,.str [],.int .i64 0,.bool false]),(6,.int .i64 i)],als:=[],meas:=fun i=>x.1.length-i.toNat}
def QH(x:List UInt8×Int):Prop:=∃(y:Int×List UInt8×Int×Bool×Int),sgR x y.1 y.2.1 y.2.2.1 y.2.2.2.1 y.2.2.2.2∧(0:Int)=y.1∧ #[].toList=y.2.1∧(0:Int)=y.2.2.1∧false=y.2.2.2.1∧(0:Int)=y.2.2.2.2∧True
def Zb(x:List UInt8×Int)(i:Int):Prop:=((0:Int)≤x.2∧x.2≤i∧i≤(↑(List.length x.1):Int))∧inR IntKind.i64 (i-x.2)∧∃(y:Int×List UInt8×Int×Bool×Int),sgR x y.1 y.2.1 y.2.2.1 y.2.2.2.1 y.2.2.2.2∧(1:Int)=y.1∧List.drop (Int.toNat x.2) (List.take (Int.toNat i) x.1)=y.2.1∧x.2=y.2.2.1∧false=y.2.2.2.1∧i-x.2=y.2.2.2.2∧True
def Zd(x:List UInt8×Int)(i:Int):Prop:=((0:Int)≤x.2∧x.2≤i∧i≤(↑(List.length x.1):Int))∧inR IntKind.i64 (i-x.2)∧∃(y:Int×List UInt8×Int×Bool×Int),sgR x y.1 y.2.1 y.2.2.1 y.2.2.2.1 y.2.2.2.2∧(2:Int)=y.1∧List.drop (Int.toNat x.2) (List.take (Int.toNat i) x.1)=y.2.1∧x.2=y.2.2.1∧false=y.2.2.2.1∧i-x.2=y.2.2.2.2∧True
theorem c3c:Aj G Tryz.prog 57 TW:=
 vcFun_okP [(83,0,GZ),(84,0,Ja),(85,0,Fh),(86,0,EQ),(87,0,Iu),(88,0,Mz)] [] false (fun x=>[(6,QG x),(12,TX x)]) Tryz.func57 rfl (by decide) ⟨a1s,a1o,a1a,RF,a1r,c0D,trivial⟩ (fun(x:List UInt8×Int)=>(∀(y:Int×List UInt8×Int×Bool×Int),sgR x y.1 y.2.1 y.2.2.1 y.2.2.2.1 y.2.2.2.2→((True∧True∧True∧True∧True)∧True∧True)∧True∧True∧True)∧cA GZ [.str x.1,.int .i64 x.2] fun x_1 y=>Aa (decide ((↑(Cv (List.drop (Int.toNat x_1.2) x_1.1)):Int)>(0:Int))) (inR IntKind.i64 (x.2+(↑(Cv (List.drop (Int.toNat x_1.2) x_1.1)):Int))∧((0:Int)≤x.2∧x.2≤x.2+(↑(Cv (List.drop (Int.toNat x_1.2) x_1.1)):Int)∧x.2+(↑(Cv (List.drop (Int.toNat x_1.2) x_1.1)):Int)≤(↑(List.length x.1):Int))∧cA Ja [.str (List.drop (Int.toNat x.2) (List.take (Int.toNat (x.2+(↑(Cv (List.drop (Int.toNat x_1.2) x_1.1)):Int))) x.1))] fun x_2 y=>∃(y:Int×List UInt8×Int×Bool×Int),sgR x y.1 y.2.1 y.2.2.1 y.2.2.2.1 y.2.2.2.2∧(5:Int)=y.1∧CM x_2=y.2.1∧x.2=y.2.2.1∧false=y.2.2.2.1∧(↑(Cv (List.drop (Int.toNat x_1.2) x_1.1)):Int)=y.2.2.2.2∧True) (((0:Int)≤x.2∧x.2<(↑(List.length x.1):Int))∧∀(c:UInt8),x.1[Int.toNat x.2]? =some c→cA Fh [AV.int IntKind.u8 (↑(UInt8.toNat c):Int)] fun x_2 y=>Aa (Cx x_2) (eA (QG x) [.str x.1,.int .i64 x.2,.box 0 [.int .i64 (0:Int),.str #[].toList,.int .i64 (0:Int),.bool false],.int .i64 x.2]∧∀(i:Int),rwI BR x i→Aa (decide (i<(↑(List.length x.1):Int))) (((0:Int)≤i∧i<(↑(List.length x.1):Int))∧∀(c:UInt8),x.1[Int.toNat i]? =some c→cA Fh [AV.int IntKind.u8 (↑(UInt8.toNat c):Int)] fun x_3 y=>Aa (Cx x_3) (inR IntKind.i64 (i+(1:Int))∧eN (QG x) i [.str x.1,.int .i64 x.2,.box 0 [.int .i64 (0:Int),.str [],.int .i64 (0:Int),.bool false],.int .i64 (i+(1:Int))]) (((0:Int)≤i∧i<(↑(List.length x.1):Int))∧∀(c:UInt8),x.1[Int.toNat i]? =some c→cA EQ [AV.int IntKind.u8 (↑(UInt8.toNat c):Int)] fun x_4 y=>Aa (Bj x_4) (inR IntKind.i64 (i+(1:Int))∧eN (QG x) i [.str x.1,.int .i64 x.2,.box 0 [.int .i64 (0:Int),.str [],.int .i64 (0:Int),.bool false],.int .i64 (i+(1:Int))]) (inR IntKind.i64 (i-x.2)∧Aa (decide (i-x.2>(30:Int))) (QH x) (Zb x i)))) (inR IntKind.i64 (i-x.2)∧Aa (decide (i-x.2>(30:Int))) (QH x) (Zb x i))) (((0:Int)≤x.2∧x.2<(↑(List.length x.1):Int))∧∀(c:UInt8),x.1[Int.toNat x.2]? =some c→cA EQ [AV.int IntKind.u8 (↑(UInt8.toNat c):Int)] fun x_3 y=>Aa (Bj x_3) (eA (TX x) [.str x.1,.int .i64 x.2,.box 0 [.int .i64 (0:Int),.str #[].toList,.int .i64 (0:Int),.bool false],.int .i64 x.2]∧∀(i:Int),rwI Bj x i→Aa (decide (i<(↑(List.length x.1):Int))) (((0:Int)≤i∧i<(↑(List.length x.1):Int))∧∀(c:UInt8),x.1[Int.toNat i]? =some c→cA EQ [AV.int IntKind.u8 (↑(UInt8.toNat c):Int)] fun x_4 y=>Aa (Bj x_4) (inR IntKind.i64 (i+(1:Int))∧eN (TX x) i [.str x.1,.int .i64 x.2,.box 0 [.int .i64 (0:Int),.str [],.int .i64 (0:Int),.bool false],.int .i64 (i+(1:Int))]) (inR IntKind.i64 (i-x.2)∧Aa (decide (i-x.2>(12:Int))) (QH x) (Zd x i))) (inR IntKind.i64 (i-x.2)∧Aa (decide (i-x.2>(12:Int))) (QH x) (Zd x i))) (((0:Int)≤x.2∧x.2<(↑(List.length x.1):Int))∧∀(c:UInt8),x.1[Int.toNat x.2]? =some c→Aa ((↑(UInt8.toNat c):Int)==(39:Int)) (cA Iu [.str x.1,.int .i64 x.2] fun x_4 y=>inR IntKind.i64 (x.2+(↑(CE (List.drop (Int.toNat x_4.2) x_4.1)):Int))∧((0:Int)≤x.2∧x.2≤x.2+(↑(CE (List.drop (Int.toNat x_4.2) x_4.1)):Int)∧x.2+(↑(CE (List.drop (Int.toNat x_4.2) x_4.1)):Int)≤(↑(List.length x.1):Int))∧∃(y:Int×List UInt8×Int×Bool×Int),sgR x y.1 y.2.1 y.2.2.1 y.2.2.2.1 y.2.2.2.2∧(3:Int)=y.1∧List.drop (Int.toNat x.2) (List.take (Int.toNat (x.2+(↑(CE (List.drop (Int.toNat x_4.2) x_4.1)):Int))) x.1)=y.2.1∧x.2=y.2.2.1∧false=y.2.2.2.1∧(↑(CE (List.drop (Int.toNat x_4.2) x_4.1)):Int)=y.2.2.2.2∧True) (cA Mz [.str x.1,.int .i64 x.2] fun x_4 y=>∃(y:Int×List UInt8×Int×Bool×Int),sgR x y.1 y.2.1 y.2.2.1 y.2.2.2.1 y.2.2.2.2∧(4:Int)=y.1∧Gk (List.drop (Int.toNat x_4.2) x_4.1)=y.2.1∧x.2=y.2.2.1∧false=y.2.2.2.1∧(↑(List.length (Gk (List.drop (Int.toNat x_4.2) x_4.1))):Int)=y.2.2.2.2∧True))))) (fun x=>by kernel_rfl) fun(x:List UInt8×Int) (hx:0≤x.2∧x.2<x.1.length∧x.1.length<2^62)=>(by
 dsimp only[Zd,Zb,QH,cA,eA,eN,TX,QG,EQ,Fh,GZ,Iu,Mz,Ja,Au,Az,mvL,lnL,mvE,lnE,Br]
 obtain⟨h1,h2,h3⟩:=hx
 have hn:=c3a h1 h2
 (repeat' first|(with_reducible first|rfl|exact True.intro|apply AK|apply And.intro|((first|apply AA|apply AI|apply AB|apply AJ)<;>intro _))|(apply Ax<;>intro _)|apply AH|refine Ae () ?_ ?_|((first|apply AO|apply AN|apply AM|apply AL|apply AG|apply AF|apply AE|apply AD|apply AC)<;>try dsimp only)|apply Ae|(refine Prod.forall.2 ?_;intro _;try dsimp only)|(intro _;try dsimp only))
 all_goals(try((repeat(rename x.1[_]? =some _=>hq;revert hq;rename x.1[_]? =some _=>hr;intro hq;rw[hr] at hq;cases hq))))
 all_goals first
  |rfl
  |omega
  |exact c0G h1 ‹_›
  |exact c0E (by omega)
  |exact Yn h1 ‹_› ‹_› ‹_› (c2V ‹_›)
  |exact Yn h1 ‹_› ‹_› ‹_› (c2W ‹_›)
  |exact Yn h1 ‹_› ‹_› ‹_› ‹_›
  |exact(TA h1 ‹_› ‹_› ‹_› (.inl ‹_›)).1 ‹_›
  |exact(TA h1 ‹_› ‹_› ‹_› (.inl ‹_›)).2 ‹_›
  |exact(TA h1 ‹_› ‹_› ‹_› (.inr ⟨_,by assumption,a7t ‹_› ‹_›⟩)).1 ‹_›
  |exact(TA h1 ‹_› ‹_› ‹_› (.inr ⟨_,by assumption,a7t ‹_› ‹_›⟩)).2 ‹_›
  |exact(Qz h1 ‹_› ‹_› ‹_› ‹_› (.inl ‹_›)).1 ‹_›
  |exact(Qz h1 ‹_› ‹_› ‹_› ‹_› (.inl ‹_›)).2 ‹_›
  |exact(Qz h1 ‹_› ‹_› ‹_› ‹_› (.inr ⟨_,by assumption,by assumption⟩)).1 ‹_›
  |exact(Qz h1 ‹_› ‹_› ‹_› ‹_› (.inr ⟨_,by assumption,by assumption⟩)).2 ‹_›
  |exact(a7u h1 ‹_› ‹_› ‹_› ‹_› ‹_› ‹_› ‹_›).1 ‹_›
  |exact(a7u h1 ‹_› ‹_› ‹_› ‹_› ‹_› ‹_› ‹_›).2 ‹_›
  |exact c0I h1 ‹_› ‹_› ‹_› ‹_›
  |exact c0J h1 ‹_› ‹_› ‹_› ‹_› ‹_›
  |(have hq:=c0F (show rwI _ _ _ by assumption);(try simp only[AQ]);omega)
  |(have hq:= @c2Z (x.1.drop x.2.toNat);(try simp only[AQ]);omega)
  |(simp only[List.length_drop,List.length_take];omega)
  |skip)
attribute [local irreducible] sgJ Ct
def Lb:Sig:= {X:=List UInt8,args:=fun x=>[.str x],pre:=fun x=>x.length<2^62,Y:=List Sg×Int,post:=fun x y=>sgQ x y.1,res:=fun x y=> .tup [sgs y.1,.int .i64 y.2,.bool (Ct x).isSome],outs:=fun x y=>[.top],keep:=true}
def OC(x:List UInt8):LS:= {ι:=Int×Int×List Sg×Nat,inv:=fun i=>sgJ x i.1 i.2.1 i.2.2.1 i.2.2.2,regs:=fun i=>[(0,.str x),(5,HT i.2.2.1),(6,.int .i64 i.1),(7,.int .i64 i.2.1)],als:=[],meas:=fun i=>i.2.2.2}
theorem c3d:Aj G Tryz.prog 32 Lb:=
 vcFun_okP [(57,0,TW)] [(54,⟨Sg,sgA⟩)] false (fun x=>[(6,OC x)]) Tryz.func32 rfl (by decide) ⟨c3c,trivial⟩ (fun(x:List UInt8)=>True∧Aa (decide ((↑(List.length x):Int)>(3000:Int))) (rA Lb x [.tup [HT [],.int .i64 (3000:Int),.bool false],.top]) (eA (OC x) [.str x,HT [],.int .i64 (0:Int),.int .i64 (0:Int)]∧∀(i:Int×Int×List Sg×Nat),sgJ x i.1 i.2.1 i.2.2.1 i.2.2.2→Aa (decide (i.1<(↑(List.length x):Int))) (((0:Int)≤i.1∧i.1<(↑(List.length x):Int))∧∀(c:UInt8),x[Int.toNat i.1]? =some c→Aa ((↑(UInt8.toNat c):Int)==(32:Int)) (inR IntKind.i64 (i.1+(1:Int))∧eN (OC x) i [.str x,HT i.2.2.1,.int .i64 (i.1+(1:Int)),.int .i64 i.2.1]) (((0:Int)≤i.1∧i.1<(↑(List.length x):Int))∧∀(c:UInt8),x[Int.toNat i.1]? =some c→Aa ((↑(UInt8.toNat c):Int)==(10:Int)) (inR IntKind.i64 (i.2.1+(1:Int))∧inR IntKind.i64 (i.1+(1:Int))∧eN (OC x) i [.str x,HT i.2.2.1,.int .i64 (i.1+(1:Int)),.int .i64 (i.2.1+(1:Int))]) (cA TW [.str x,.int .i64 i.1] fun x_1 y=>Aa (y.2.2.2.2==(0:Int)) (rA Lb x [.tup [HT [],.int .i64 i.1,.bool false],.top]) (∃(x_2:Sg),y.1=x_2.kind∧y.2.1=x_2.text∧y.2.2.1=x_2.pos∧decide (i.2.1>(1:Int))=x_2.blank∧∃(zs:List Sg),HT [x_2]=HT zs∧Bo sgA∧AY (List.length i.2.2.1+List.length zs) (40:Nat)∧inR IntKind.i64 (i.1+y.2.2.2.2)∧eN (OC x) i [.str x,HT (i.2.2.1++zs),.int .i64 (i.1+y.2.2.2.2),.int .i64 (0:Int)])))) (rA Lb x [.tup [HT i.2.2.1,.int .i64 (0:Int),.bool true],.top]))) (fun x=>by kernel_rfl) fun(x:List UInt8) (hx:x.length<2^62)=>(by
 dsimp only[cA,eA,eN,OC,HT,rA,TW,Lb,Db,sgs,Au,Az,mvL,lnL,mvE,lnE,Br]
 have hx:x.length<2^62:=hx
 (repeat' first|(with_reducible first|rfl|exact True.intro|apply AK|apply And.intro|((first|apply AA|apply AI|apply AB|apply AJ)<;>intro _))|(apply Ax<;>intro _)|apply AH|refine Ae () ?_ ?_|((first|apply AO|apply AN|apply AM|apply AL|apply AG|apply AF|apply AE|apply AD|apply AC)<;>try dsimp only)|apply Ae|(refine Prod.forall.2 ?_;intro _;try dsimp only)|(intro _;try dsimp only))
 all_goals first
  |(show Nat;skip)
  |rfl
  |exact b6I ‹_›
  |exact(SX (a4T ‹_›)).2
  |exact(SX (a4T ‹_›)).1.symm
  |exact(a4P ‹_› ‹_› ‹_› (by omega)).1
  |exact(a4Q ‹_› ‹_› ‹_› (by omega)).1
  |exact(a7v ‹_› ‹_› ‹_› ‹_› ‹_› ‹_› ‹_› ‹_›).1
  |exact(SX (a7w ‹_› ‹_› ‹_› ‹_› ‹_› ‹_› ‹_› ‹_›)).2
  |exact(SX (a7w ‹_› ‹_› ‹_› ‹_› ‹_› ‹_› ‹_› ‹_›)).1.symm
  |exact(a4S ‹_› ‹_›).2
  |exact(a4S ‹_› ‹_›).1.symm
  |(have hq:=Of (show sgJ _ _ _ _ _ by assumption);(try simp only[AQ]);omega)
  |(have hj:=(show sgJ _ _ _ _ _ by assumption);have hq:=Of hj;have hz:=c3b hj ‹_›;(try simp only[AQ]);omega)
  |(have hq:=Of (show sgJ _ _ _ _ _ by assumption);(try simp only[AY,List.length_append,List.length_cons,List.length_nil]);omega)
  |(simp [AY];done)
  |skip
 all_goals first
  |exact(a4P ‹_› ‹_› ‹_› (by omega)).2
  |exact(a4Q ‹_› ‹_› ‹_› (by omega)).2
  |exact(a7v ‹_› ‹_› ‹_› ‹_› ‹_› ‹_› ‹_› ‹_›).2
  |rfl
  |skip)
end Go.My
end
section
namespace Go.My
open Go.Eng Go.Proofs
variable {G:GInv}
theorem c3e{s:List UInt8}:CM s <+: s:=by
 have h:=List.dropWhile_suffix (fun c:UInt8=>decide (c.toNat=32)) (l:=s.reverse)
 unfold CM
 rw[←List.reverse_suffix,List.reverse_reverse];exact h
theorem Ze{c:UInt8}{a s t:List UInt8}(h:t <+: c::s)(ht:t=a)(ha:a≠[]):a.head? =some c:=by
 subst ht
 match t with
 |[]=>exact(ha rfl).elim
 |d::r=>
  obtain⟨k,hk⟩:=h
  simp at hk
  simp [hk.1]
theorem c3f{s:List UInt8}(h:(Bd s).ok=true)(ht:(Bd s).text=[41]∨(Bd s).text=[61,62]∨(Bd s).text=[44]):(Bd s).kind=4:=by
 match s with
 |[]=>cases h
 |b::s=>
  have key:∀t:List UInt8,t <+: b::s→(t=[41]∨t=[61,62]∨t=[44])→b=41∨b=61∨b=44:=by
   intro t hp ht
   rcases ht with ht|ht|ht
   ·have:=Ze hp ht (by simp);simp at this;exact .inl this.symm
   ·have:=Ze hp ht (by simp);simp at this;exact .inr (.inl this.symm)
   ·have:=Ze hp ht (by simp);simp at this;exact .inr (.inr this.symm)
  unfold Bd at h ht ⊢
  simp only at h ht ⊢
  split
  ·rename_i hb
   rw[if_pos hb] at ht
   rcases key _ (List.takeWhile_prefix _) ht with rfl|rfl|rfl<;>exact absurd hb (by decide)
  ·rename_i hb
   rw[if_neg hb] at h ht
   split
   ·rename_i hb2
    rw[if_pos hb2] at ht
    rcases key _ (List.takeWhile_prefix _) ht with rfl|rfl|rfl<;>exact absurd hb2 (by decide)
   ·rename_i hb2
    rw[if_neg hb2] at h ht
    split
    ·rename_i hb3
     rw[if_pos hb3] at ht h
     simp only at ht h
     have hp:(DD (b::s)).1 <+: b::s:=by
      unfold DD;split
      ·exact List.nil_prefix
      ·exact List.take_prefix _ _
     rcases key _ hp ht with rfl|rfl|rfl<;>exact absurd hb3 (by decide)
    ·rename_i hb3
     rw[if_neg hb3] at h ht
     split
     ·rename_i hb4
      rw[if_pos hb4] at ht
      have hb5:b=47:=by
       cases s with
       |nil=>simp at hb4
       |cons c s=>simp at hb4;exact hb4.1
      rcases key _ (c3e.trans (List.takeWhile_prefix _)) ht with rfl|rfl|rfl<;>exact absurd hb5 (by decide)
     ·rename_i hb4
      rw[if_neg hb4] at h
      split
      ·rfl
      ·rename_i hb5
       rw[if_neg hb5] at h
       split
       ·rfl
       ·rename_i hb6
        rw[if_neg hb6] at h;cases h
theorem TY{t:List UInt8}:∀(n:Nat) (i br:Int) (l:List Sg),El t n i br=some l→sgM l
 |0,_,_,_,h=>by cases h
 |n+1,i,br,l,h=>by
  rw[El] at h
  split at h
  ·simp at h;subst h;intro e he;simp at he
  ·split at h
   ·exact TY n _ _ _ h
   ·split at h
    ·exact TY n _ _ _ h
    ·split at h
     ·rename_i hok
      rw[Option.map_eq_some_iff] at h
      obtain⟨l',h1,rfl⟩:=h
      intro e he ht
      simp only[List.mem_cons] at he
      rcases he with rfl|he
      ·exact c3f hok ht
      ·exact TY n _ _ _ h1 e he ht
     ·cases h
theorem c3g{t:List UInt8}{l:List Sg}(h:Ct t=some l):sgM l:=by
 rw[Ct] at h
 split at h
 ·cases h
 ·exact TY _ _ _ _ h
def frI(t:List UInt8)(l:List Sg)(y:Gs)(ks:List Int)(ms:List (Int×Int))(N:Nat):Prop:=(Ct t=some l∧sgB l)∧FR l y ks ms N
theorem c3h{t:List UInt8}{l:List Sg}(h:sgQ t l)(hn:(Ct t).isSome=true):frI t l ⟨0,0,false,[]⟩ [] [] (l.length+1):=⟨Oo h hn,b6L⟩
theorem Zf{t:List UInt8}{s:ST}{y:Gs}{ks:List Int}{ms:List (Int×Int)}{N:Nat}(h:frI t s.sg y ks ms N):okQ s y:=⟨b6N h.1.2 h.2,c3g h.1.1⟩
theorem TZ{t:List UInt8}{l:List Sg}{y:Gs}{ks:List Int}{ms:List (Int×Int)}{N:Nat}{b:Bool}{z:Int×Gs}(h:frI t l y ks ms N)(hb:y.bad=false)(hl:y.pos<l.length)(hz:Ag l y (CW l false) z)(e:b=(blG l y&&decide (0<(ks.length:Int)))):
 frI t l (gBl z.2 z.1 b) (ks++[z.1]) (ms++[(y.pos,(gBl z.2 z.1 b).pos)]) (N-1)∧N-1<N:=by
 rw[YS hb] at e
 have hz2:Ag l y (CW l b) (z.1,gBl z.2 z.1 b):=YR YQ hz
 obtain⟨a,c⟩:=b6M h.2 hb hl hz2 e
 exact⟨⟨h.1,a⟩,c⟩
theorem c3i{t:List UInt8}{l:List Sg}{y:Gs}{ks:List Int}{ms:List (Int×Int)}{N:Nat}(h:frI t l y ks ms N):ks.length≤3001∧0≤y.pos∧y.pos≤l.length:=by
 have:=a4U h.1.2 h.2;omega
def frE(l:List Sg)(y:Gs):Prop:=y.bad=true∨¬y.pos<l.length
theorem OD{l:List Sg}{y:Gs}(h:y.bad=true):frE l y:= .inl h
theorem OE{l:List Sg}{y:Gs}(h:¬y.pos<l.length):frE l y:= .inr h
theorem OF:BM []:=⟨by simp,by simp⟩
theorem Ua{t:List UInt8}{l:List Sg}{y:Gs}{ks:List Int}{ms:List (Int×Int)}{N:Nat}(h:frI t l y ks ms N):sgQ t l∧(Ct t).isSome=true:=⟨.inl h.1,by rw[h.1.1];rfl⟩
theorem Ub{t:List UInt8}{l:List Sg}{y:Gs}{ks:List Int}{ms:List (Int×Int)}{N:Nat}(h:frI t l y ks ms N)(he:frE l y)(hb:(Am y ⟨22,[],ks,false⟩).bad=true):Cb t=none:=a6o (c0m (Ua h).1 (Ua h).2 ⟨h.2,he⟩ hb) hb
theorem Lc{t:List UInt8}{l:List Sg}{y:Gs}{ks:List Int}{ms:List (Int×Int)}{N:Nat}(h:frI t l y ks ms N)(he:frE l y)(hb:(Am y ⟨22,[],ks,false⟩).bad=false):
 (Bf (Am y ⟨22,[],ks,false⟩).nodes=false→Cb t=none)∧(Bf (Am y ⟨22,[],ks,false⟩).nodes=true→Cb t=some (Am y ⟨22,[],ks,false⟩).nodes):=by
 have a:=c0n (Ua h).1 (Ua h).2 ⟨h.2,he⟩ hb
 refine⟨fun h2=>a6o a (by simp only[Fp,h2];rfl),fun h2=>(c0o a (by simp only[Fp,h2];rfl)).1⟩
theorem QI{t:List UInt8}{l:List Sg}{y:Gs}{ks:List Int}{ms:List (Int×Int)}{N:Nat}(h:frI t l y ks ms N):BM (Am y ⟨22,[],ks,false⟩).nodes∧(Am y ⟨22,[],ks,false⟩).nodes.length≤1073741824∧0≤(Am y ⟨22,[],ks,false⟩).pos:=by
 have a:=Qb h.2.1 (a6n h.1.2 h.2)
 have b:=a6m a
 exact⟨b.1,by omega,a.1.1⟩
theorem a7x{t:List UInt8}(h:(Ct t).isSome=false):Cb t=none:=by
 rw[Cb]
 cases hs:Ct t with
 |none=>rfl
 |some l=>rw[hs] at h;cases h
theorem c3j{T0 T1 T2 T3:Type}{p q:ST×T0×T1×T2×T3→Prop}(a:List Sg)(v0:T0)(v1:T1)(v2:T2)(v3:T3)(h2:q (⟨a,0,[]⟩,v0,v1,v2,v3))(h1:p (⟨a,0,[]⟩,v0,v1,v2,v3)):∃x,p x∧q x:=⟨_,h1,h2⟩
theorem c3k{T0 T1 T2 T3 T4 T5:Type}{p q:ST×T0×T1×T2×T3×T4×T5→Prop}(a:List Sg)(v0:T0)(v1:T1)(v2:T2)(v3:T3)(v4:T4)(v5:T5)(h2:q (⟨a,0,[]⟩,v0,v1,v2,v3,v4,v5))(h1:p (⟨a,0,[]⟩,v0,v1,v2,v3,v4,v5)):∃x,p x∧q x:=⟨_,h1,h2⟩
theorem c3l{T0 T1 T2 T3 T4 T5 T6:Type}{p q:ST×T0×T1×T2×T3×T4×T5×T6→Prop}(a:List Sg)(v0:T0)(v1:T1)(v2:T2)(v3:T3)(v4:T4)(v5:T5)(v6:T6)(h2:q (⟨a,0,[]⟩,v0,v1,v2,v3,v4,v5,v6))(h1:p (⟨a,0,[]⟩,v0,v1,v2,v3,v4,v5,v6)):∃x,p x∧q x:=⟨_,h1,h2⟩
attribute [local irreducible] frI frE gBl blG Am AU gsOk Ag CW Cb Ct Bf sgM okQ
def FU:Sig:= {X:=List UInt8,args:=fun x=>[.str x],pre:=fun x=>x.length<2^62,Y:=List Nd×Int,post:=fun x y=>y.1=(Cb x).getD []∧BM y.1,res:=fun x y=> .tup [nds y.1,.int .i64 y.2,.bool (Cb x).isSome],outs:=fun x y=>[.top],keep:=true}
def QJ(x:List UInt8):LS:= {ι:=List Sg×Int×Int×Bool×List Nd×List Int×List (Int×Int)×Nat,inv:=fun i=>frI x i.1 (iF i.2) i.2.2.2.2.2.1 i.2.2.2.2.2.2.1 i.2.2.2.2.2.2.2,regs:=fun i=>[(0,.str x),(5,Ba []),(6,sgs i.1),(9,srd ⟨i.1,0,[]⟩ (iF i.2)),(10,Ab i.2.2.2.2.2.1)],als:=[],meas:=fun i=>i.2.2.2.2.2.2.2}
def Zg(x:List UInt8)(i:List Sg×Int×Int×Bool×List Nd×List Int×List (Int×Int)×Nat):Prop:=cA Bt [.box 0 [sgs i.1,.int .i64 (iF i.2).pos,.bool (iF i.2).bad,.int .i64 (iF i.2).deep,Ba (iF i.2).nodes],.int .i64 (22:Int),.str #[].toList,Ab i.2.2.2.2.2.1] fun x_2 y=>Aa (Am (xh x_2) {kind:=x_2.2.2.2.2.2.1,text:=x_2.2.2.2.2.2.2.1,kids:=x_2.2.2.2.2.2.2.2,blank:=false}).bad (Aa (decide ((Am (xh x_2) {kind:=x_2.2.2.2.2.2.1,text:=x_2.2.2.2.2.2.2.1,kids:=x_2.2.2.2.2.2.2.2,blank:=false}).pos<(↑(List.length i.1):Int))) (true=true∧true=true∧((0:Int)≤(Am (xh x_2) {kind:=x_2.2.2.2.2.2.1,text:=x_2.2.2.2.2.2.2.1,kids:=x_2.2.2.2.2.2.2.2,blank:=false}).pos∧(Am (xh x_2) {kind:=x_2.2.2.2.2.2.1,text:=x_2.2.2.2.2.2.2.1,kids:=x_2.2.2.2.2.2.2.2,blank:=false}).pos<(↑(List.length i.1):Int))∧∀(e:Sg),i.1[Int.toNat (Am (xh x_2) {kind:=x_2.2.2.2.2.2.1,text:=x_2.2.2.2.2.2.2.1,kids:=x_2.2.2.2.2.2.2.2,blank:=false}).pos]? =some e→rA FU x [.tup [Ba [],.int .i64 e.pos,.bool false],.top]) (rA FU x [.tup [Ba [],.int .i64 (↑(List.length x):Int),.bool false],.top])) (cA He [Ba (Am (xh x_2) {kind:=x_2.2.2.2.2.2.1,text:=x_2.2.2.2.2.2.2.1,kids:=x_2.2.2.2.2.2.2.2,blank:=false}).nodes] fun x_3 y=>Aa (!Bf x_3) (rA FU x [.tup [Ba [],.int .i64 (0:Int),.bool false],.top]) (rA FU x [.tup [Ba (Am (xh x_2) {kind:=x_2.2.2.2.2.2.1,text:=x_2.2.2.2.2.2.2.1,kids:=x_2.2.2.2.2.2.2.2,blank:=false}).nodes,.int .i64 (0:Int),.bool true],.top]))
theorem Zh:Aj G Tryz.prog 10 FU:=
 vcFun_okP [(32,0,Lb),(33,0,GK),(34,0,IR),(35,0,Fb),(36,0,Bt),(17,0,He)] [(54,⟨Sg,sgA⟩),(25,⟨Int,AZ⟩),(27,⟨Nd,ndA true⟩)] false (fun x=>[(7,QJ x)]) Tryz.func10 rfl (by decide) ⟨c3d,TD,c2U,TE,Ie,a2r,trivial⟩ (fun(x:List UInt8)=>True∧cA Lb [.str x] fun x_1 y=>Aa (!Option.isSome (Ct x_1)) (rA FU x [.tup [Ba [],.int .i64 y.2,.bool false],.top]) (eA (QJ x) [.str x,Ba [],sgs y.1,.box 0 [sgs y.1,.int .i64 (0:Int),.bool false,.int .i64 (0:Int),.nil],Ab []]∧∀(i:List Sg×Int×Int×Bool×List Nd×List Int×List (Int×Int)×Nat),frI x i.1 (iF i.2) i.2.2.2.2.2.1 i.2.2.2.2.2.2.1 i.2.2.2.2.2.2.2→Aa (!(iF i.2).bad) (Aa (decide ((iF i.2).pos<(↑(List.length i.1):Int))) (cA GK [.box 0 [sgs i.1,.int .i64 (iF i.2).pos,.bool (iF i.2).bad,.int .i64 (iF i.2).deep,Ba (iF i.2).nodes]] fun x_2 y=>Aa (blG x_2.1.sg (xg x_2)) (cA IR [srd x_2.1 (xg x_2),.bool true] fun x_3 y=>cA Fb [srd x_3.1 (yG y.2),.int .i64 y.1,.bool (decide ((↑(List.length i.2.2.2.2.2.1):Int)>(0:Int)))] fun x_4 y_1=>∃(x_5:Int),y.1=x_5∧∃(zs:List Int),Ab [x_5]=Ab zs∧Bo AZ∧AY (List.length i.2.2.2.2.2.1+List.length zs) (8:Nat)∧eN (QJ x) i [.str x,Ba [],sgs i.1,srd x_4.1 (gBl (xh x_4) x_4.2.2.2.2.2.1 x_4.2.2.2.2.2.2),Ab (i.2.2.2.2.2.1++zs)]) (cA IR [srd x_2.1 (xg x_2),.bool true] fun x_3 y=>cA Fb [srd x_3.1 (yG y.2),.int .i64 y.1,.bool false] fun x_4 y_1=>∃(x_5:Int),y.1=x_5∧∃(zs:List Int),Ab [x_5]=Ab zs∧Bo AZ∧AY (List.length i.2.2.2.2.2.1+List.length zs) (8:Nat)∧eN (QJ x) i [.str x,Ba [],sgs i.1,srd x_4.1 (gBl (xh x_4) x_4.2.2.2.2.2.1 x_4.2.2.2.2.2.2),Ab (i.2.2.2.2.2.1++zs)])) (Zg x i)) (Zg x i))) (fun x=>by kernel_rfl) fun(x:List UInt8) (hx:x.length<2^62)=>(by
 dsimp only[Zg,cA,eA,eN,QJ,Bu,nds,Ab,Ba,HT,rA,GK,Fb,IR,Bt,FU,Lb,He,Db,sgs,srd,Au,Az,mvL,lnL,mvE,lnE,Br]
 have hx:x.length<2^62:=hx
 (repeat' first|(apply c3l<;>try dsimp only)|(apply c3k<;>try dsimp only)|(apply c3j<;>try dsimp only)|(with_reducible first|rfl|exact True.intro|apply AK|apply And.intro|((first|apply AA|apply AI|apply AB|apply AJ)<;>intro _))|(apply Ax<;>intro _)|apply AH|refine Ae () ?_ ?_|((first|apply AO|apply AN|apply AM|apply AL|apply AG|apply AF|apply AE|apply AD|apply AC)<;>try dsimp only)|apply Ae|(refine Prod.forall.2 ?_;intro _;try dsimp only)|(intro _;try dsimp only))
 all_goals(try dsimp only[xg,xh,yG,yS,iG,iF] at*)
 all_goals(try simp only[GD] at*)
 all_goals first
  |(show Nat;skip)
  |(show List (Int×Int);skip)
  |rfl
  |exact hx
  |exact c3h ‹_› ‹_›
  |(rw[a7x ‹_›];rfl)
  |(rw[a7x ‹_›];exact OF)
  |exact(TZ ‹_› ‹_› ‹_› ‹_› (KM ‹_›)).1
  |exact(TZ ‹_› ‹_› ‹_› ‹_› (KN ‹_›)).1
  |exact Zf (s:=⟨_,0,[]⟩) ‹_›
  |exact(EJ (Zf (s:=⟨_,0,[]⟩) ‹_›)).1
  |exact Fm (EJ (Zf (s:=⟨_,0,[]⟩) ‹_›)).1 ‹_›
  |exact Oy YQ ‹_›
  |exact Oy YQ ‹_› ‹_›
  |assumption
  |omega
  |exact(QI ‹_›).1
  |exact(QI ‹_›).2.1
  |(rw[Ub ‹_› (OD ‹_›) ‹_›];rfl)
  |(rw[Ub ‹_› (OD ‹_›) ‹_›];exact OF)
  |(rw[(Lc ‹_› (OD ‹_›) ‹_›).1 ‹_›];rfl)
  |(rw[(Lc ‹_› (OD ‹_›) ‹_›).2 ‹_›];rfl)
  |(rw[(Lc ‹_› (OD ‹_›) ‹_›).1 ‹_›];exact OF)
  |(rw[(Lc ‹_› (OD ‹_›) ‹_›).2 ‹_›];exact(QI ‹_›).1)
  |(rw[Ub ‹_› (OE ‹_›) ‹_›];rfl)
  |(rw[Ub ‹_› (OE ‹_›) ‹_›];exact OF)
  |(rw[(Lc ‹_› (OE ‹_›) ‹_›).1 ‹_›];rfl)
  |(rw[(Lc ‹_› (OE ‹_›) ‹_›).2 ‹_›];rfl)
  |(rw[(Lc ‹_› (OE ‹_›) ‹_›).1 ‹_›];exact OF)
  |(rw[(Lc ‹_› (OE ‹_›) ‹_›).2 ‹_›];exact(QI ‹_›).1)
  |(have hq:=(QI (show frI _ _ _ _ _ _ by assumption)).2.2;omega)
  |exact OF
  |(simp [AY];done)
  |(have hq:=c3i (show frI _ _ _ _ _ _ by assumption);(try simp only[AY,List.length_append,List.length_cons,List.length_nil]);omega)
  |skip
 all_goals first
  |exact(TZ ‹_› ‹_› ‹_› ‹_› (KM ‹_›)).2
  |exact(TZ ‹_› ‹_› ‹_› ‹_› (KN ‹_›)).2
  |rfl
  |skip)
end Go.My
end
section
namespace Go.My
open Go.Eng Go.Proofs
variable {G:GInv}
def Hx:Sig:= {X:=List UInt8,args:=fun x=>[.sl false 0 1 UInt8 byA x],pre:=fun x=>x.length≤2^21,Y:=Int,post:=fun x y=>True,res:=fun x y=> .box 0 (cur x 0 y),outs:=fun x y=>[.top],keep:=true}
def Uc(x:List UInt8):LS:= {ι:=Int×Int,inv:=fun i=>(0≤i.1∧i.1≤x.length)∧0≤i.2∧i.2≤2^31,regs:=fun i=>[(0,.sl false 0 1 UInt8 byA x),(3,.int .i64 i.2),(4,.int .i64 i.1)],als:=[],meas:=fun i=>x.length-i.1.toNat}
theorem Zi:Aj G Tryz.prog 28 Hx:=
 vcFun_okP [] [] false (fun x=>[(3,Uc x)]) Tryz.func28 rfl (by decide) trivial (fun(x:List UInt8)=>True∧inR IntKind.i64 ((78601:Int)+(↑(List.length x):Int))∧eA (Uc x) [byL x,.int .i64 ((78601:Int)+(↑(List.length x):Int)),.int .i64 (0:Int)]∧∀(i:Int×Int),((0:Int)≤i.1∧i.1≤(↑(List.length x):Int))∧(0:Int)≤i.2∧i.2≤(2:Int)^(31:Nat)→Aa (decide (i.1<(↑(List.length x):Int))) (Aa (decide (i.1<(4000:Int))) (inR IntKind.i64 (i.2*(131:Int))∧((0:Int)≤i.1∧i.1<(↑(List.length x):Int))∧∀(e:UInt8),x[Int.toNat i.1]? =some e→inR IntKind.i64 (↑(UInt8.toNat e):Int)∧inR IntKind.i64 (i.2*(131:Int)+(↑(UInt8.toNat e):Int))∧inR IntKind.i64 (i.2*(131:Int)+(↑(UInt8.toNat e):Int)+(7:Int))∧inR IntKind.i64 (i.1+(1:Int))∧eN (Uc x) i [byL x,.int .i64 (DV BinOp.and IntKind.i64 (i.2*(131:Int)+(↑(UInt8.toNat e):Int)+(7:Int)) (1073741823:Int)),.int .i64 (i.1+(1:Int))]) (rA Hx x [.box 0 (cur x (0:Int) i.2),.top])) (rA Hx x [.box 0 (cur x (0:Int) i.2),.top])) (fun x=>by kernel_rfl) fun(x:List UInt8) (hx:x.length≤2^21)=>(by
 dsimp only[Gj,byL,cur,eA,eN,Uc,rA,Hx,Au,Az,Br]
 have hx:x.length≤2^21:=hx
 (repeat' first|(with_reducible first|rfl|exact True.intro|apply AK|apply And.intro|((first|apply AA|apply AI|apply AB|apply AJ)<;>intro _))|(apply Ax<;>intro _)|apply AH|refine Ae () ?_ ?_|((first|apply AO|apply AN|apply AM|apply AL|apply AG|apply AF|apply AE|apply AD|apply AC)<;>try dsimp only)|apply Ae|(refine Prod.forall.2 ?_;intro _;try dsimp only)|(intro _;try dsimp only))
 all_goals first
  |rfl
  |omega
  |(have hq:=UInt8.toNat_lt ‹_›;omega)
  |(have hq:=Yl (_:Int);exact hq.1)
  |exact(Yl _).1
  |exact Int.le_trans (Yl _).2 (by decide)
  |skip)
theorem Zj{b:List UInt8}(h:b.length≤2^21):Bq b 0:=⟨by omega,h⟩
def Jt(o:List Int)(i:Int):Prop:=((0≤i∧i≤12)∧o.length=i)∧∀e∈o,0≤e∧e<10000
theorem c3m:Jt [] 0:=⟨by simp,by simp⟩
theorem c3n{o:List Int}{i:Int}(h:Jt o i):(0≤i∧i≤12)∧o.length≤12:=by have:=h.1;omega
theorem c3o{o:List Int}{i v:Int}(h:Jt o i)(hi:i<12)(hv:0≤v∧v<10000):Jt (o++[v]) (i+1):=by
 refine⟨⟨by have:=h.1;omega,by rw[List.length_append];have:=h.1.2;simp;omega⟩,fun e he=> ?_⟩
 rcases List.mem_append.1 he with he|he
 ·exact h.2 e he
 ·simp at he;subst he;exact hv
def OG:Sig:= {X:=List UInt8,args:=fun x=>[.sl false 0 1 UInt8 byA x],pre:=fun x=>x.length≤2^21,Y:=List Int×Unit,post:=fun x y=>y.1.length=12∧∀e∈y.1,0≤e∧e<10000,res:=fun x y=>Ab y.1,outs:=fun x y=>[.top],keep:=true}
def Ud(x:List UInt8):LS:= {ι:=Int×Int×Int×List Int,inv:=fun i=>Jt i.2.2.2 i.1∧Bq x i.2.1,regs:=fun i=>[(3,.box 0 (cur x i.2.1 i.2.2.1)),(4,Ab i.2.2.2),(5,.int .i64 i.1)],als:=[],meas:=fun i=>12-i.1.toNat}
theorem c3p:Aj G Tryz.prog 9 OG:=
 vcFun_okP [(28,0,Hx),(30,0,GJ),(31,0,Dv)] [(25,⟨Int,AZ⟩)] false (fun x=>[(5,Ud x)]) Tryz.func9 rfl (by decide) ⟨Zi,a6q,Mw,trivial⟩ (fun(x:List UInt8)=>True∧cA Hx [byL x] fun x_1 y=>cA GJ [.box 0 (cur x_1 (0:Int) y)] fun x_2 y=>eA (Ud x) [.box 0 (cur x_2.1 y.2.1 y.2.2),Ab [],.int .i64 (0:Int)]∧∀(i:Int×Int×Int×List Int),Jt i.2.2.2 i.1∧Bq x i.2.1→Aa (decide (i.1<(12:Int))) (cA Dv [.box 0 (cur x i.2.1 i.2.2.1),.int .i64 (10000:Int)] fun x_3 y=>∃(x_4:Int),y.1=x_4∧∃(zs:List Int),Ab [x_4]=Ab zs∧Bo AZ∧AY (List.length i.2.2.2+List.length zs) (8:Nat)∧inR IntKind.i64 (i.1+(1:Int))∧eN (Ud x) i [.box 0 (cur x_3.1 y.2.1 y.2.2),Ab (i.2.2.2++zs),.int .i64 (i.1+(1:Int))]) (rA OG x [Ab i.2.2.2,.top])) (fun x=>by kernel_rfl) fun(x:List UInt8) (hx:x.length≤2^21)=>(by
 dsimp only[Gj,byL,cA,cur,eA,eN,Ud,Ab,rA,Dv,GJ,Hx,OG,Au,Az,mvL,lnL,mvE,lnE,Br]
 have hx:x.length≤2^21:=hx
 (repeat' first|(with_reducible first|rfl|exact True.intro|apply AK|apply And.intro|((first|apply AA|apply AI|apply AB|apply AJ)<;>intro _))|(apply Ax<;>intro _)|apply AH|refine Ae () ?_ ?_|((first|apply AO|apply AN|apply AM|apply AL|apply AG|apply AF|apply AE|apply AD|apply AC)<;>try dsimp only)|apply Ae|(refine Prod.forall.2 ?_;intro _;try dsimp only)|(intro _;try dsimp only))
 all_goals first
  |rfl
  |exact hx
  |exact Zj hx
  |exact()
  |skip
 all_goals(try(have hb:=c3n (And.left (show Jt _ _∧_ by assumption))))
 all_goals(repeat(rename _∧Bq _ _=>hq;obtain⟨_,_⟩:=hq))
 all_goals first
  |exact c3m
  |(with_reducible assumption)
  |exact c3o ‹_› (by omega) (by omega)
  |((try simp only[AQ,AY,List.length_append,List.length_cons,List.length_nil]);omega)
  |exact(And.right (show Jt _ _ by assumption) _ ‹_›).1
  |exact(And.right (show Jt _ _ by assumption) _ ‹_›).2
  |(have hq:=(show Jt _ _ by assumption).1;omega)
  |skip)
def OH:Sig:= {X:=List UInt8,args:=fun x=>[.sl false 0 1 UInt8 byA x],pre:=fun x=>True,Y:=Unit,post:=fun x y=>True,res:=fun x y=> .bool (decide ((x.length:Int)>1048576)),outs:=fun x y=>[.top],keep:=false}
theorem c3q:Aj G Tryz.prog 6 OH:=
 vcFun_okP [] [] false (fun x=>[]) Tryz.func6 rfl (by decide) trivial (fun(x:List UInt8)=>(∀(y:Unit),True→True∧True∧True)∧rA OH x [.bool (decide ((↑(List.length x):Int)>(1048576:Int))),.top]) (fun x=>by kernel_rfl) fun(x:List UInt8) (hx:True)=>(by
 dsimp only[Gj,rA,OH,Au,Az]
 (repeat' first|(with_reducible first|rfl|exact True.intro|apply AK|apply And.intro|((first|apply AA|apply AI|apply AB|apply AJ)<;>intro _))|(apply Ax<;>intro _)|apply AH|refine Ae () ?_ ?_|((first|apply AO|apply AN|apply AM|apply AL|apply AG|apply AF|apply AE|apply AD|apply AC)<;>try dsimp only)|apply Ae|(refine Prod.forall.2 ?_;intro _;try dsimp only)|(intro _;try dsimp only))<;>(try dsimp only at*)<;>(try simp only[AQ,List.length_cons,List.length_nil])<;>(try omega))
theorem Ue{l:List (List UInt8)}{n:Nat}{s:List UInt8}(h:s∈l)(hl:l.all (fun e=>decide (e.length≤n))=true):s.length≤n:=by
 have:=List.all_eq_true.1 hl s h;simpa using this
def cdI(l:Cls)(i:Int):Prop:=(0≤i∧i≤4)∧(l.length:Int)=i
attribute [local irreducible] cdI
def zvL:Nat→Nat
 |0=>20
 |n+1=>3*zvL n+20
theorem a7y{n:Nat}(h:n≤2):20≤zvL n∧zvL n≤260:=by
 have:n=0∨n=1∨n=2:=by omega
 rcases this with rfl|rfl|rfl<;>decide
theorem c3r(n:Nat):zvL (n+1)=3*zvL n+20:=rfl
def Hy(n:Nat):Sig:= {X:=List UInt8×Int×Int×Int,args:=fun x=>[.box 0 (cur x.1 x.2.1 x.2.2.1),.int .i64 x.2.2.2],pre:=fun x=>(Bq x.1 x.2.1∧n≤2)∧x.2.2.2≤n∧ -5≤x.2.2.2,Y:=List UInt8×Int×Int,post:=fun x y=>y.1.length≤zvL n∧Bq x.1 y.2.1,res:=fun x y=> .str y.1,outs:=fun x y=>[.box 0 (cur x.1 y.2.1 y.2.2),.top],keep:=true}
theorem a7z{k:Int}(h:((0:Int)<12→0≤k∧k<12)∧((12:Int)≤0→k=0)):0≤k∧k<12:=h.1 (by decide)
theorem a7A{k:Int}(h:0≤k):0≤k.tmod 4∧k.tmod 4<4:=Tw h (by decide)
def QK:Sig:= {X:=List UInt8×Int×Int×Int,args:=fun x=>[.box 0 (cur x.1 x.2.1 x.2.2.1),.int .i64 x.2.2.2],pre:=fun x=>(Bq x.1 x.2.1∧0≤2)∧x.2.2.2≤(0:Nat)∧ -5≤x.2.2.2,Y:=List UInt8×Int×Int,post:=fun x y=>y.1.length≤zvL 0∧Bq x.1 y.2.1,res:=fun x y=> .str y.1,outs:=fun x y=>[.box 0 (cur x.1 y.2.1 y.2.2),.top],keep:=true}
def Uf(x:List UInt8×Int×Int×Int):LS:= {ι:=Int×Int×Int,inv:=fun i=>(0≤i.1∧i.1<4)∧Bq x.1 i.2.1,regs:=fun i=>[(0,.box 0 (cur x.1 i.2.1 i.2.2)),(1,.int .i64 x.2.2.2),(5,.int .i64 i.1)],als:=[],meas:=fun _=>0}
def Ug(x:List UInt8×Int×Int×Int)(i:Int×Int×Int):Prop:=∃(x_2:List UInt8),#[(43:UInt8)].toList=x_2∧∃(x_3:List UInt8),#[(45:UInt8)].toList=x_3∧∃(x_4:List UInt8),#[(42:UInt8)].toList=x_4∧∃(x_5:List UInt8),#[(60:UInt8)].toList=x_5∧∃(x_6:List UInt8),#[(61:UInt8),(61:UInt8)].toList=x_6∧∃(x_7:List UInt8),#[(38:UInt8),(38:UInt8)].toList=x_7∧∃(x_8:List UInt8),#[(124:UInt8),(124:UInt8)].toList=x_8∧cA Er [.box 0 (cur x.1 i.2.1 i.2.2),AV.sl true 0 1 (List UInt8) Ck [x_2,x_3,x_4,x_5,x_6,x_7,x_8]] fun x_9 y=>inR IntKind.i64 (x.2.2.2-(1:Int))∧False
def Zk(x:List UInt8×Int×Int×Int)(i:Int×Int×Int):Prop:=∃(x_2:List UInt8),#[(48:UInt8)].toList=x_2∧∃(x_3:List UInt8),#[(49:UInt8)].toList=x_3∧∃(x_4:List UInt8),#[(50:UInt8)].toList=x_4∧∃(x_5:List UInt8),#[(55:UInt8)].toList=x_5∧∃(x_6:List UInt8),#[(57:UInt8),(57:UInt8),(57:UInt8),(57:UInt8),(57:UInt8),(57:UInt8),(57:UInt8),(57:UInt8),(57:UInt8)].toList=x_6∧cA Er [.box 0 (cur x.1 i.2.1 i.2.2),AV.sl true 0 1 (List UInt8) Ck [x_2,x_3,x_4,x_5,x_6]] fun x_7 y=>rA QK x [.str y.1,.box 0 (cur x_7.1 y.2.1 y.2.2),.top]
def Zl(x:List UInt8×Int×Int×Int)(i:Int×Int×Int):Prop:=∃(x_2:List UInt8),#[(110:UInt8)].toList=x_2∧∃(x_3:List UInt8),#[(105:UInt8)].toList=x_3∧∃(x_4:List UInt8),#[(107:UInt8)].toList=x_4∧cA Er [.box 0 (cur x.1 i.2.1 i.2.2),AV.sl true 0 1 (List UInt8) Ck [x_2,x_3,x_4]] fun x_5 y=>rA QK x [.str y.1,.box 0 (cur x_5.1 y.2.1 y.2.2),.top]
theorem c3s:Aj G Tryz.prog 54 QK:=
 vcFun_okP [(31,0,Dv),(55,0,Er)] [(91,⟨List UInt8,Ck⟩)] false (fun x=>[(200004,Uf x)]) Tryz.func54 rfl (by decide) ⟨Mw,Tx,trivial⟩ (fun(x:List UInt8×Int×Int×Int)=>True∧cA Dv [.box 0 (cur x.1 x.2.1 x.2.2.1),.int .i64 (12:Int)] fun x_1 y=>Aa (decide (x.2.2.2≤(0:Int))) ((4:Int)≠(0:Int)∧eA (Uf x) [.box 0 (cur x_1.1 y.2.1 y.2.2),.int .i64 x.2.2.2,.int .i64 (Int.tmod y.1 (4:Int))]) (eA (Uf x) [.box 0 (cur x_1.1 y.2.1 y.2.2),.int .i64 x.2.2.2,.int .i64 y.1])∧∀(i:Int×Int×Int),((0:Int)≤i.1∧i.1<(4:Int))∧Bq x.1 i.2.1→Aa (i.1==(0:Int)) (Zl x i) (Aa (i.1==(1:Int)) (Zl x i) (Aa (i.1==(2:Int)) (Zk x i) (Aa (i.1==(3:Int)) (Zk x i) (Aa (i.1==(4:Int)) (Ug x i) (Aa (i.1==(5:Int)) (Ug x i) (Aa (i.1==(6:Int)) (Ug x i) (Aa (i.1==(7:Int)) (inR IntKind.i64 (x.2.2.2-(1:Int))∧False) (Aa (i.1==(8:Int)) (inR IntKind.i64 (x.2.2.2-(1:Int))∧False) (Aa (i.1==(9:Int)) (inR IntKind.i64 (x.2.2.2-(1:Int))∧False) (Aa (i.1==(10:Int)) (rA QK x [.str #[(40:UInt8),(50:UInt8),(32:UInt8),(43:UInt8),(32:UInt8),(51:UInt8),(41:UInt8),(32:UInt8),(42:UInt8),(32:UInt8),(40:UInt8),(52:UInt8),(32:UInt8),(45:UInt8),(32:UInt8),(49:UInt8),(41:UInt8)].toList,.box 0 (cur x.1 i.2.1 i.2.2),.top]) (inR IntKind.i64 (x.2.2.2-(1:Int))∧False)))))))))))) (fun x=>by kernel_rfl) fun(x:List UInt8×Int×Int×Int) (hx:(Bq x.1 x.2.1∧0≤2)∧x.2.2.2≤(0:Nat)∧ -5≤x.2.2.2)=>(by
 dsimp only[Zl,Zk,Ug,Gj,cA,cur,eA,Uf,rA,Dv,Er,QK,Au,Az,mvL,lnL,mvE,lnE,Br]
 obtain⟨b,i,h,d⟩:=x;dsimp only at hx ⊢
 obtain⟨⟨hx,hn⟩,hd,hd2⟩:=hx
 have hx:Bq b i:=hx
 have hv:=a7y (n:=0) (by omega)
 (repeat' first|(with_reducible first|rfl|exact True.intro|apply AK|apply And.intro|((first|apply AA|apply AI|apply AB|apply AJ)<;>intro _))|(apply Ax<;>intro _)|apply AH|refine Ae () ?_ ?_|((first|apply AO|apply AN|apply AM|apply AL|apply AG|apply AF|apply AE|apply AD|apply AC)<;>try dsimp only)|apply Ae|(refine Prod.forall.2 ?_;intro _;try dsimp only)|(intro _;try dsimp only))
 all_goals(try(have hk:=a7z (And.left (show(((0:Int)<12→_)∧(_→_))∧Bq _ _ by assumption));have hk5:=a7A hk.1))
 all_goals(repeat(rename _∈_∧Bq _ _=>hq;obtain⟨hq1,_⟩:=hq;have hq2:=Ue (n:=20) hq1 (by decide);clear hq1))
 all_goals(repeat(rename _∧Bq _ _=>hq;obtain⟨_,_⟩:=hq))
 all_goals first
  |rfl
  |(with_reducible assumption)
  |exact hx
  |(show Bq _ _;with_reducible assumption)
  |(rename _=[]=>hq;cases hq;done)
  |omega
  |(simp only[AQ,List.length_append,List.length_cons,List.length_nil];omega)
  |skip)
def Ju(n:Nat):Sig:= {X:=List UInt8×Int×Int×Int,args:=fun x=>[.box 0 (cur x.1 x.2.1 x.2.2.1),.int .i64 x.2.2.2],pre:=fun x=>(Bq x.1 x.2.1∧n+1≤2)∧x.2.2.2≤(n+1:Nat)∧ -5≤x.2.2.2,Y:=List UInt8×Int×Int,post:=fun x y=>y.1.length≤zvL (n+1)∧Bq x.1 y.2.1,res:=fun x y=> .str y.1,outs:=fun x y=>[.box 0 (cur x.1 y.2.1 y.2.2),.top],keep:=true}
def Uh(n:Nat)(x:List UInt8×Int×Int×Int):LS:= {ι:=Int×Int×Int,inv:=fun i=>((0≤i.1∧i.1<12)∧(x.2.2.2≤0→i.1<4))∧Bq x.1 i.2.1,regs:=fun i=>[(0,.box 0 (cur x.1 i.2.1 i.2.2)),(1,.int .i64 x.2.2.2),(5,.int .i64 i.1)],als:=[],meas:=fun _=>0}
def Ui(n:Nat)(x:List UInt8×Int×Int×Int)(i:Int×Int×Int):Prop:=∃(x_2:List UInt8),#[(43:UInt8)].toList=x_2∧∃(x_3:List UInt8),#[(45:UInt8)].toList=x_3∧∃(x_4:List UInt8),#[(42:UInt8)].toList=x_4∧∃(x_5:List UInt8),#[(60:UInt8)].toList=x_5∧∃(x_6:List UInt8),#[(61:UInt8),(61:UInt8)].toList=x_6∧∃(x_7:List UInt8),#[(38:UInt8),(38:UInt8)].toList=x_7∧∃(x_8:List UInt8),#[(124:UInt8),(124:UInt8)].toList=x_8∧cA Er [.box 0 (cur x.1 i.2.1 i.2.2),AV.sl true 0 1 (List UInt8) Ck [x_2,x_3,x_4,x_5,x_6,x_7,x_8]] fun x_9 y=>inR IntKind.i64 (x.2.2.2-(1:Int))∧cA (Hy n) [.box 0 (cur x_9.1 y.2.1 y.2.2),.int .i64 (x.2.2.2-(1:Int))] fun x_10 y_1=>(↑((1:Nat)+List.length y_1.1):Int)≤IntKind.max IntKind.i64∧(↑(List.length (#[(40:UInt8)].toList++y_1.1)+(2:Nat)):Int)≤IntKind.max IntKind.i64∧(↑(List.length (#[(40:UInt8)].toList++y_1.1++ #[(41:UInt8),(32:UInt8)].toList)+List.length y.1):Int)≤IntKind.max IntKind.i64∧(↑(List.length (#[(40:UInt8)].toList++y_1.1++ #[(41:UInt8),(32:UInt8)].toList++y.1)+(2:Nat)):Int)≤IntKind.max IntKind.i64∧inR IntKind.i64 (x.2.2.2-(1:Int))∧cA (Hy n) [.box 0 (cur x_10.1 y_1.2.1 y_1.2.2),.int .i64 (x.2.2.2-(1:Int))] fun x_11 y_2=>(↑(List.length (#[(40:UInt8)].toList++y_1.1++ #[(41:UInt8),(32:UInt8)].toList++y.1++ #[(32:UInt8),(40:UInt8)].toList)+List.length y_2.1):Int)≤IntKind.max IntKind.i64∧(↑(List.length (#[(40:UInt8)].toList++y_1.1++ #[(41:UInt8),(32:UInt8)].toList++y.1++ #[(32:UInt8),(40:UInt8)].toList++y_2.1)+(1:Nat)):Int)≤IntKind.max IntKind.i64∧rA (Ju n) x [.str (#[(40:UInt8)].toList++y_1.1++ #[(41:UInt8),(32:UInt8)].toList++y.1++ #[(32:UInt8),(40:UInt8)].toList++y_2.1++ #[(41:UInt8)].toList),.box 0 (cur x_11.1 y_2.2.1 y_2.2.2),.top]
def Zm(n:Nat)(x:List UInt8×Int×Int×Int)(i:Int×Int×Int):Prop:=∃(x_2:List UInt8),#[(48:UInt8)].toList=x_2∧∃(x_3:List UInt8),#[(49:UInt8)].toList=x_3∧∃(x_4:List UInt8),#[(50:UInt8)].toList=x_4∧∃(x_5:List UInt8),#[(55:UInt8)].toList=x_5∧∃(x_6:List UInt8),#[(57:UInt8),(57:UInt8),(57:UInt8),(57:UInt8),(57:UInt8),(57:UInt8),(57:UInt8),(57:UInt8),(57:UInt8)].toList=x_6∧cA Er [.box 0 (cur x.1 i.2.1 i.2.2),AV.sl true 0 1 (List UInt8) Ck [x_2,x_3,x_4,x_5,x_6]] fun x_7 y=>rA (Ju n) x [.str y.1,.box 0 (cur x_7.1 y.2.1 y.2.2),.top]
def Zn(n:Nat)(x:List UInt8×Int×Int×Int)(i:Int×Int×Int):Prop:=∃(x_2:List UInt8),#[(110:UInt8)].toList=x_2∧∃(x_3:List UInt8),#[(105:UInt8)].toList=x_3∧∃(x_4:List UInt8),#[(107:UInt8)].toList=x_4∧cA Er [.box 0 (cur x.1 i.2.1 i.2.2),AV.sl true 0 1 (List UInt8) Ck [x_2,x_3,x_4]] fun x_5 y=>rA (Ju n) x [.str y.1,.box 0 (cur x_5.1 y.2.1 y.2.2),.top]
theorem c3t(n:Nat)(hc:Aj G Go.Proofs.Tryz.prog 54 (Hy n)):Aj G Tryz.prog 54 (Ju n):=
 vcFun_okP [(31,0,Dv),(55,0,Er),(54,0,(Hy n))] [(91,⟨List UInt8,Ck⟩)] false (fun x=>[(200004,Uh n x)]) Tryz.func54 rfl (by decide) ⟨Mw,Tx,hc,trivial⟩ (fun(x:List UInt8×Int×Int×Int)=>True∧cA Dv [.box 0 (cur x.1 x.2.1 x.2.2.1),.int .i64 (12:Int)] fun x_1 y=>Aa (decide (x.2.2.2≤(0:Int))) ((4:Int)≠(0:Int)∧eA (Uh n x) [.box 0 (cur x_1.1 y.2.1 y.2.2),.int .i64 x.2.2.2,.int .i64 (Int.tmod y.1 (4:Int))]) (eA (Uh n x) [.box 0 (cur x_1.1 y.2.1 y.2.2),.int .i64 x.2.2.2,.int .i64 y.1])∧∀(i:Int×Int×Int),(((0:Int)≤i.1∧i.1<(12:Int))∧(x.2.2.2≤(0:Int)→i.1<(4:Int)))∧Bq x.1 i.2.1→Aa (i.1==(0:Int)) (Zn n x i) (Aa (i.1==(1:Int)) (Zn n x i) (Aa (i.1==(2:Int)) (Zm n x i) (Aa (i.1==(3:Int)) (Zm n x i) (Aa (i.1==(4:Int)) (Ui n x i) (Aa (i.1==(5:Int)) (Ui n x i) (Aa (i.1==(6:Int)) (Ui n x i) (Aa (i.1==(7:Int)) (inR IntKind.i64 (x.2.2.2-(1:Int))∧cA (Hy n) [.box 0 (cur x.1 i.2.1 i.2.2),.int .i64 (x.2.2.2-(1:Int))] fun x_2 y=>(↑((2:Nat)+List.length y.1):Int)≤IntKind.max IntKind.i64∧(↑(List.length (#[(40:UInt8),(40:UInt8)].toList++y.1)+(9:Nat)):Int)≤IntKind.max IntKind.i64∧inR IntKind.i64 (x.2.2.2-(1:Int))∧cA (Hy n) [.box 0 (cur x_2.1 y.2.1 y.2.2),.int .i64 (x.2.2.2-(1:Int))] fun x_3 y_1=>(↑(List.length (#[(40:UInt8),(40:UInt8)].toList++y.1++ #[(41:UInt8),(41:UInt8),(32:UInt8),(43:UInt8),(32:UInt8),(49:UInt8),(32:UInt8),(43:UInt8),(32:UInt8)].toList)+List.length y_1.1):Int)≤IntKind.max IntKind.i64∧rA (Ju n) x [.str (#[(40:UInt8),(40:UInt8)].toList++y.1++ #[(41:UInt8),(41:UInt8),(32:UInt8),(43:UInt8),(32:UInt8),(49:UInt8),(32:UInt8),(43:UInt8),(32:UInt8)].toList++y_1.1),.box 0 (cur x_3.1 y_1.2.1 y_1.2.2),.top]) (Aa (i.1==(8:Int)) (inR IntKind.i64 (x.2.2.2-(1:Int))∧cA (Hy n) [.box 0 (cur x.1 i.2.1 i.2.2),.int .i64 (x.2.2.2-(1:Int))] fun x_2 y=>(↑(List.length y.1+(7:Nat)):Int)≤IntKind.max IntKind.i64∧inR IntKind.i64 (x.2.2.2-(1:Int))∧cA (Hy n) [.box 0 (cur x_2.1 y.2.1 y.2.2),.int .i64 (x.2.2.2-(1:Int))] fun x_3 y_1=>(↑(List.length (y.1++ #[(32:UInt8),(60:UInt8),(32:UInt8),(51:UInt8),(32:UInt8),(63:UInt8),(32:UInt8)].toList)+List.length y_1.1):Int)≤IntKind.max IntKind.i64∧(↑(List.length (y.1++ #[(32:UInt8),(60:UInt8),(32:UInt8),(51:UInt8),(32:UInt8),(63:UInt8),(32:UInt8)].toList++y_1.1)+(3:Nat)):Int)≤IntKind.max IntKind.i64∧inR IntKind.i64 (x.2.2.2-(1:Int))∧cA (Hy n) [.box 0 (cur x_3.1 y_1.2.1 y_1.2.2),.int .i64 (x.2.2.2-(1:Int))] fun x_4 y_2=>(↑(List.length (y.1++ #[(32:UInt8),(60:UInt8),(32:UInt8),(51:UInt8),(32:UInt8),(63:UInt8),(32:UInt8)].toList++y_1.1++ #[(32:UInt8),(58:UInt8),(32:UInt8)].toList)+List.length y_2.1):Int)≤IntKind.max IntKind.i64∧rA (Ju n) x [.str (y.1++ #[(32:UInt8),(60:UInt8),(32:UInt8),(51:UInt8),(32:UInt8),(63:UInt8),(32:UInt8)].toList++y_1.1++ #[(32:UInt8),(58:UInt8),(32:UInt8)].toList++y_2.1),.box 0 (cur x_4.1 y_2.2.1 y_2.2.2),.top]) (Aa (i.1==(9:Int)) (inR IntKind.i64 (x.2.2.2-(1:Int))∧cA (Hy n) [.box 0 (cur x.1 i.2.1 i.2.2),.int .i64 (x.2.2.2-(1:Int))] fun x_2 y=>(↑((6:Nat)+List.length y.1):Int)≤IntKind.max IntKind.i64∧(↑(List.length (#[(116:UInt8),(119:UInt8),(105:UInt8),(99:UInt8),(101:UInt8),(40:UInt8)].toList++y.1)+(1:Nat)):Int)≤IntKind.max IntKind.i64∧rA (Ju n) x [.str (#[(116:UInt8),(119:UInt8),(105:UInt8),(99:UInt8),(101:UInt8),(40:UInt8)].toList++y.1++ #[(41:UInt8)].toList),.box 0 (cur x_2.1 y.2.1 y.2.2),.top]) (Aa (i.1==(10:Int)) (rA (Ju n) x [.str #[(40:UInt8),(50:UInt8),(32:UInt8),(43:UInt8),(32:UInt8),(51:UInt8),(41:UInt8),(32:UInt8),(42:UInt8),(32:UInt8),(40:UInt8),(52:UInt8),(32:UInt8),(45:UInt8),(32:UInt8),(49:UInt8),(41:UInt8)].toList,.box 0 (cur x.1 i.2.1 i.2.2),.top]) (inR IntKind.i64 (x.2.2.2-(1:Int))∧cA (Hy n) [.box 0 (cur x.1 i.2.1 i.2.2),.int .i64 (x.2.2.2-(1:Int))] fun x_2 y=>(↑((1:Nat)+List.length y.1):Int)≤IntKind.max IntKind.i64∧(↑(List.length (#[(40:UInt8)].toList++y.1)+(1:Nat)):Int)≤IntKind.max IntKind.i64∧rA (Ju n) x [.str (#[(40:UInt8)].toList++y.1++ #[(41:UInt8)].toList),.box 0 (cur x_2.1 y.2.1 y.2.2),.top])))))))))))) (fun x=>by kernel_rfl) fun(x:List UInt8×Int×Int×Int) (hx:(Bq x.1 x.2.1∧n+1≤2)∧x.2.2.2≤(n+1:Nat)∧ -5≤x.2.2.2)=>(by
 dsimp only[Zn,Zm,Ui,Gj,cA,cur,eA,Uh,rA,Dv,Er,Ju,Hy,Au,Az,mvL,lnL,mvE,lnE,Br]
 obtain⟨b,i,h,d⟩:=x;dsimp only at hx ⊢
 obtain⟨⟨hx,hn⟩,hd,hd2⟩:=hx
 have hx:Bq b i:=hx
 have hv:=a7y (n:=n) (by omega);have hv2:=c3r n
 (repeat' first|(with_reducible first|rfl|exact True.intro|apply AK|apply And.intro|((first|apply AA|apply AI|apply AB|apply AJ)<;>intro _))|(apply Ax<;>intro _)|apply AH|refine Ae () ?_ ?_|((first|apply AO|apply AN|apply AM|apply AL|apply AG|apply AF|apply AE|apply AD|apply AC)<;>try dsimp only)|apply Ae|(refine Prod.forall.2 ?_;intro _;try dsimp only)|(intro _;try dsimp only))
 all_goals(try(have hk:=a7z (And.left (show(((0:Int)<12→_)∧(_→_))∧Bq _ _ by assumption));have hk5:=a7A hk.1))
 all_goals(repeat(rename _∈_∧Bq _ _=>hq;obtain⟨hq1,_⟩:=hq;have hq2:=Ue (n:=20) hq1 (by decide);clear hq1))
 all_goals(repeat(rename _∧Bq _ _=>hq;obtain⟨_,_⟩:=hq))
 all_goals first
  |rfl
  |(with_reducible assumption)
  |exact hx
  |(show Bq _ _;with_reducible assumption)
  |(rename _=[]=>hq;cases hq;done)
  |omega
  |(simp only[AQ,List.length_append,List.length_cons,List.length_nil];omega)
  |skip)
theorem a7B:∀n,Aj G Go.Proofs.Tryz.prog 54 (Hy n)
 |0=>c3s
 |n+1=>c3t n (a7B n)
end Go.My
end
section
namespace Go.My
open Go.Eng Go.Proofs
variable {G:GInv}
def Kd:Sig:= {X:=List UInt8×Int×Int×Int,args:=fun x=>[.box 0 (cur x.1 x.2.1 x.2.2.1),.int .i64 x.2.2.2],pre:=fun x=>(Bq x.1 x.2.1∧2≤2)∧x.2.2.2≤2∧ -5≤x.2.2.2,Y:=List UInt8×Int×Int,post:=fun x y=>y.1.length≤260∧Bq x.1 y.2.1,res:=fun x y=> .str y.1,outs:=fun x y=>[.box 0 (cur x.1 y.2.1 y.2.2),.top],keep:=true}
theorem c3u:Aj G Go.Proofs.Tryz.prog 54 Kd:=a7B 2
theorem c3v{k:Int}(h:((0:Int)<5→0≤k∧k<5)∧((5:Int)≤0→k=0)):0≤k∧k<5:=h.1 (by decide)
end Go.My
end
section
namespace Go.My
open Go.Eng Go.Proofs
variable {G:GInv}
def fwQ(y z:RnY):Prop:=((y=z∨y.2.2.1=2)∧y.1 <+: z.1)∧y.2.2.2≤z.2.2.2
def fwI(y z:RnY)(i:Int):Prop:=(fwQ y z∧(y.1.length<2^62∧z.1.length<2^62))∧0≤i∧i≤y.1.length
theorem a7C{v:Int}{n:Int}{o:List Int}{i:Nat}(ho:o.length=12∧∀e∈o,0≤e∧e<10000)(hv:o[i]? =some v)(hn:0<n):0≤v.tmod n∧v.tmod n<n:=Tw (ho.2 v (BO hv)).1 hn
theorem c3w{v w:Int}(h1:0≤v∧v<5)(h2:0≤w∧w<5):∀a∈[v,w],bdd a:=by
 intro a ha
 simp only[List.mem_cons,List.not_mem_nil,or_false] at ha
 unfold bdd
 rcases ha with rfl|rfl<;>omega
def Uj(az:List Int):Prop:=(∀a∈az,bdd a)∧az.length≤12
theorem c3x{v w:Int}(h1:0≤v∧v<5)(h2:0≤w∧w<5):Uj [v,w]:=⟨c3w h1 h2,by simp⟩
def plQ(o:List Int):Prop:=o.length=12∧∀e∈o,0≤e∧e<10000
theorem c3y{v w:Int}{o:List Int}(ho:o.length=12∧∀e∈o,0≤e∧e<10000)(hv:o[0]? =some v)(hw:o[1]? =some w):Uj [v.tmod 5,w.tmod 5]:=c3x (a7C ho hv (by omega)) (a7C ho hw (by omega))
theorem c3z{p q:(List Int×Int×Int×Int)×Unit→Prop}(a:List Int)(b c d:Int)(h2:q ((a,b,c,d),()))(h1:p ((a,b,c,d),())):∃x,p x∧q x:=⟨_,h1,h2⟩
attribute [local irreducible] Uj
attribute [local irreducible] zsQ fwQ fwI CA Cz
end Go.My
end
section
set_option maxHeartbeats 8000000
namespace Go.My
open Go.Eng Go.Proofs
variable {G:GInv}
def QL(l:List Nd):AV:= .sl true 0 4 Nd (ndA false) l
def OI:Sig:= {X:=List Nd,args:=fun x=>[nds x],pre:=fun x=>KD x,Y:=Unit,post:=fun x y=>True,res:=fun x y=>QL x,outs:=fun x y=>[.top],keep:=true}
def Uk(x:List Nd):LS:= {ι:=Int,inv:=fun i=>0≤i∧i≤x.length,regs:=fun i=>[(3,QL (x.take i.toNat)),(6,nds x),(7,.int .i64 x.length),(8,.int .i64 i)],als:=[],meas:=fun i=>x.length-i.toNat}
theorem c3A:Aj G Tryz.prog 38 OI:=
 vcFun_okP [(68,0,Jf)] [(27,⟨Nd,ndA false⟩)] false (fun x=>[(3,Uk x)]) Tryz.func38 rfl (by decide) ⟨a2U,trivial⟩ (fun(x:List Nd)=>True∧eA (Uk x) [.nil,nds x,.int .i64 (↑(List.length x):Int),.int .i64 (0:Int)]∧∀(i:Int),(0:Int)≤i∧i≤(↑(List.length x):Int)→Aa (decide (i<(↑(List.length x):Int))) (((0:Int)≤i∧i<(↑(List.length x):Int))∧∀(e:Nd),x[Int.toNat i]? =some e→cA Jf [Af e.kids] fun x_1 y=>∃(x_2:Nd),e.kind=x_2.kind∧e.text=x_2.text∧AV.sl false 0 1 Int (fun(x:Int)=>fzL (AZ x)) x_1=Af x_2.kids∧e.blank=x_2.blank∧∃(zs:List Nd),AV.sl true 0 4 Nd (ndA false) [x_2]=AV.sl true 0 4 Nd (ndA false) zs∧Bo (ndA false)∧AY (List.length (List.take (Int.toNat i) x)+List.length zs) (56:Nat)∧inR IntKind.i64 (i+(1:Int))∧eN (Uk x) i [AV.sl true 0 4 Nd (ndA false) (List.take (Int.toNat i) x++zs),nds x,.int .i64 (↑(List.length x):Int),.int .i64 (i+(1:Int))]) (rA OI x [AV.sl true 0 4 Nd (ndA false) (List.take (Int.toNat i) x),.top])) (fun x=>by kernel_rfl) fun(x:List Nd) (hx:KD x)=>(by
 dsimp only[cA,eA,eN,QL,Uk,Af,Bu,nds,Ab,rA,Jf,OI,Au,Az,mvL,lnL,mvE,lnE,Br]
 obtain⟨h1,h2⟩:=hx
 (repeat' first|(with_reducible first|rfl|exact True.intro|apply AK|apply And.intro|((first|apply AA|apply AI|apply AB|apply AJ)<;>intro _))|(apply Ax<;>intro _)|apply AH|refine Ae () ?_ ?_|((first|apply AO|apply AN|apply AM|apply AL|apply AG|apply AF|apply AE|apply AD|apply AC)<;>try dsimp only)|apply Ae|(refine Prod.forall.2 ?_;intro _;try dsimp only)|(intro _;try dsimp only))
 all_goals first
  |rfl
  |exact a2V (And.left ‹_›) ‹_›
  |exact a2W ‹_›
  |(have hk:=h2 _ (BO (show x[Int.toNat _]? =some _ by assumption));omega)
  |((try simp only[AQ,AY,List.length_take,List.length_cons,List.length_nil]);omega)
  |skip)
def clO:AV:= .clo (.func 40) []
def Ul:Sig:= {X:=Nd×Int×Int,args:=fun x=>[.agg (ndA false x.1),.int .i64 x.2.1,.int .i64 x.2.2],pre:=fun x=>True,Y:=Unit,post:=fun x y=>True,res:=fun x y=> .tup [.int .i64 x.2.2,.bool false],outs:=fun x y=>[.top,.top,.top],keep:=false}
theorem c3B:Aj G Tryz.prog 40 Ul:=
 vcFun_okP [] [] false (fun x=>[]) Tryz.func40 rfl (by decide) trivial (fun(x:Nd×Int×Int)=>(∀(y:Unit),True→(True∧True∧True)∧True∧True∧True∧True)∧rA Ul x [.tup [.int .i64 x.2.2,.bool false],.top,.top,.top]) (fun x=>by kernel_rfl) fun(x:Nd×Int×Int) (hx:True)=>(by
 dsimp only[Bu,rA,Ul,Au,Az]
 (repeat' first|(with_reducible first|rfl|exact True.intro|apply AK|apply And.intro|((first|apply AA|apply AI|apply AB|apply AJ)<;>intro _))|(apply Ax<;>intro _)|apply AH|refine Ae () ?_ ?_|((first|apply AO|apply AN|apply AM|apply AL|apply AG|apply AF|apply AE|apply AD|apply AC)<;>try dsimp only)|apply Ae|(refine Prod.forall.2 ?_;intro _;try dsimp only)|(intro _;try dsimp only))<;>(try dsimp only at*)<;>(try simp only[AQ,List.length_cons,List.length_nil])<;>(try omega))
def OJ:Sig:= {X:=List Nd×List Nd×Int×List UInt8×List Int×Bool,args:=fun x=>[.box 0 [nds x.1,Ba x.2.1,clO],.agg (ndA true ⟨x.2.2.1,x.2.2.2.1,x.2.2.2.2.1,x.2.2.2.2.2⟩)],pre:=fun x=>x.2.1.length≤2^21,Y:=Unit,post:=fun x y=>True,res:=fun x y=> .int .i64 x.2.1.length,outs:=fun x y=>[.box 0 [nds x.1,Ba (x.2.1++[⟨x.2.2.1,x.2.2.2.1,x.2.2.2.2.1,x.2.2.2.2.2⟩]),clO],.top],keep:=true}
def c3C(x:List Nd×List Nd×Int×List UInt8×List Int×Bool):LS:= {ι:=Unit,inv:=fun _=>True,regs:=fun _=>[(0,.box 0 [nds x.1,Ba (x.2.1++[⟨x.2.2.1,x.2.2.2.1,x.2.2.2.2.1,x.2.2.2.2.2⟩]),clO])],als:=[],meas:=fun _=>0}
theorem c3D:Aj G Tryz.prog 73 OJ:=
 vcFun_okP [] [(27,⟨Nd,ndA true⟩)] false (fun x=>[(100001,c3C x)]) Tryz.func73 rfl (by decide) trivial (fun(x:List Nd×List Nd×Int×List UInt8×List Int×Bool)=>True∧true=true∧((∃(x_1:Nd),x.2.2.1=x_1.kind∧x.2.2.2.1=x_1.text∧Ab x.2.2.2.2.1=Ab x_1.kids∧x.2.2.2.2.2=x_1.blank∧∃(zs:List Nd),Ba [x_1]=Ba zs∧Bo (ndA true)∧AY (List.length x.2.1+List.length zs) (56:Nat)∧true=true∧∃(i:Unit),True∧(nds x.1=nds x.1∧Ba (x.2.1++zs)=Ba (x.2.1++[{kind:=x.2.2.1,text:=x.2.2.2.1,kids:=x.2.2.2.2.1,blank:=x.2.2.2.2.2}])∧True)∧True)∧(∃(x_1:Nd),x.2.2.1=x_1.kind∧x.2.2.2.1=x_1.text∧Ab x.2.2.2.2.1=Ab x_1.kids∧x.2.2.2.2.2=x_1.blank∧∃(zs:List Nd),Ba [x_1]=Ba zs∧Bo (ndA true)∧AY (List.length x.2.1+List.length zs) (56:Nat)∧true=true∧∃(i:Unit),True∧(nds x.1=nds x.1∧Ba (x.2.1++zs)=Ba (x.2.1++[{kind:=x.2.2.1,text:=x.2.2.2.1,kids:=x.2.2.2.2.1,blank:=x.2.2.2.2.2}])∧True)∧True)∧∃(x_1:Nd),x.2.2.1=x_1.kind∧x.2.2.2.1=x_1.text∧Ab x.2.2.2.2.1=Ab x_1.kids∧x.2.2.2.2.2=x_1.blank∧∃(zs:List Nd),Ba [x_1]=Ba zs∧Bo (ndA true)∧AY (List.length x.2.1+List.length zs) (56:Nat)∧true=true∧∃(i:Unit),True∧(nds x.1=nds x.1∧Ba (x.2.1++zs)=Ba (x.2.1++[{kind:=x.2.2.1,text:=x.2.2.2.1,kids:=x.2.2.2.2.1,blank:=x.2.2.2.2.2}])∧True)∧True)∧∀(i:Unit),True→inR IntKind.i64 ((↑(List.length (x.2.1++[{kind:=x.2.2.1,text:=x.2.2.2.1,kids:=x.2.2.2.2.1,blank:=x.2.2.2.2.2}])):Int)-(1:Int))∧rA OJ x [.int .i64 ((↑(List.length (x.2.1++[{kind:=x.2.2.1,text:=x.2.2.2.1,kids:=x.2.2.2.2.1,blank:=x.2.2.2.2.2}])):Int)-(1:Int)),.box 0 [nds x.1,Ba (x.2.1++[{kind:=x.2.2.1,text:=x.2.2.2.1,kids:=x.2.2.2.2.1,blank:=x.2.2.2.2.2}]),AV.clo (.func 40) []],.top]) (fun x=>by kernel_rfl) fun(x:List Nd×List Nd×Int×List UInt8×List Int×Bool) (hx:x.2.1.length≤2^21)=>(by
 dsimp only[clO,Bu,nds,Ab,Ba,rA,OJ,Au,Az]
 have hx:x.2.1.length≤2^21:=hx
 (repeat' first|(with_reducible first|rfl|exact True.intro|apply AK|apply And.intro|((first|apply AA|apply AI|apply AB|apply AJ)<;>intro _))|(apply Ax<;>intro _)|apply AH|refine Ae () ?_ ?_|((first|apply AO|apply AN|apply AM|apply AL|apply AG|apply AF|apply AE|apply AD|apply AC)<;>try dsimp only)|apply Ae|(refine Prod.forall.2 ?_;intro _;try dsimp only)|(intro _;try dsimp only))
 all_goals first
  |rfl
  |((try simp only[AQ,AY,List.length_append,List.length_cons,List.length_nil]);omega)
  |skip)
def Hz(n:Nat)(x:List Nd×Int×List Nd):Prop:=a2X (fun _=>rId) n x
def OK(n:Nat):Sig:= {X:=List Nd×Int×List Nd,args:=fun x=>[.box 0 [nds x.1,Ba x.2.2,clO],.int .i64 x.2.1],pre:=fun x=>Hz n x,Y:=Unit,post:=fun x y=>True,res:=fun x y=> .int .i64 ((Bv x.1 rId n x.2.1 x.2.2).length-1),outs:=fun x y=>[.box 0 [nds x.1,Ba (Bv x.1 rId n x.2.1 x.2.2),clO],.top],keep:=true}
section
variable {ns:List Nd} {n:Nat} {k:Int} {out0:List Nd} {i c:Int} {out:List Nd} {ks:List Int} {z:Nd}
theorem c3E(hz:ns[k.toNat]? =some z)(hx:Hz (n+1) (ns,k,out0))(h:pk ns rId n k out0 i out ks)(hc:z.kids[i.toNat]? =some c):
 pk ns rId n k out0 (i+1) (Bv ns rId n c out) (ks++[((Bv ns rId n c out).length:Int)-1]):=by
 rw[←Bn hz] at hc
 exact b3j WG h hx.2.1 (by simpa using hx.2.2.1) hc
theorem a7D(hz:ns[k.toNat]? =some z)(hx:Hz (n+1) (ns,k,out0))(h:pk ns rId n k out0 i out ks)(hc:z.kids[i.toNat]? =some c):Hz n (ns,c,out):=by
 rw[←Bn hz] at hc
 obtain⟨h1,h2,h3,h4⟩:=hx
 obtain⟨g1,g2,g3⟩:=b3l WG h h2 (by simpa using h3) hc h4
 exact⟨h1,g1,g2,g3⟩
theorem c3F(hz:ns[k.toNat]? =some z)(hx:Hz (n+1) (ns,k,out0))(h:pk ns rId n k out0 i out ks)(hc:z.kids[i.toNat]? =some c):
 (Bv ns rId n c out).length≤1048576∧1≤(Bv ns rId n c out).length:=by
 obtain⟨h1,h2,h3,h4⟩:=a7D hz hx h hc
 have:=WE (@WG ns) (n:=n) (k:=c) (out:=out) h2 h3
 simp only at h4
 omega
theorem a7E(hz:ns[k.toNat]? =some z)(hx:Hz (n+1) (ns,k,out0))(h:pk ns rId n k out0 i out ks):
 (0≤i∧i≤z.kids.length)∧z.kids.length≤12∧ks.length=i∧out.length≤1048576:=b3o (R:=fun _=>rId) hz hx h
theorem c3G(hz:ns[k.toNat]? =some z)(h:pk ns rId n k out0 i out ks)(hl:¬i<z.kids.length):out++[⟨z.kind,z.text,ks,z.blank⟩]=Bv ns rId (n+1) k out0:=a2Y (R:=fun _=>rId) hz h hl rfl
theorem c3H(hz:ns[k.toNat]? =some z)(h:pk ns rId n k out0 i out ks)(hl:¬i<z.kids.length):(out.length:Int)=(Bv ns rId (n+1) k out0).length-1:=b3p (R:=fun _=>rId) hz h hl rfl
end
def c3I:Sig:= {X:=List Nd×Int×List Nd,args:=fun x=>[.box 0 [nds x.1,Ba x.2.2,clO],.int .i64 x.2.1],pre:=fun x=>Hz 0 x,Y:=Unit,post:=fun x y=>True,res:=fun x y=> .int .i64 ((Bv x.1 rId 0 x.2.1 x.2.2).length-1),outs:=fun x y=>[.box 0 [nds x.1,Ba (Bv x.1 rId 0 x.2.1 x.2.2),clO],.top],keep:=true}
theorem c3J:Aj G Tryz.prog 41 c3I:=
 vcFun_okP [] [] false (fun x=>[]) Tryz.func41 rfl (by decide) trivial (fun(x:List Nd×Int×List Nd)=>True∧((0:Int)≤x.2.1∧x.2.1<(↑(List.length x.1):Int))∧∀(e:Nd),x.1[Int.toNat x.2.1]? =some e→False) (fun x=>by kernel_rfl) fun(x:List Nd×Int×List Nd) (hx:Hz 0 x)=>(by
 have h1:=hx.2.2.1;have h2:=BV.1 hx.2.1.1
 omega)
def lMO(n:Nat)(x:List Nd×Int×List Nd):LS:= {
 ι:=Int×List Nd×List Int,inv:=fun i=>pk x.1 rId n x.2.1 x.2.2 i.1 i.2.1 i.2.2,
 regs:=fun i=>[(0,.box 0 [nds x.1,Ba i.2.1,clO]),(5,.box 0 (ndA false (ndAt x.1 x.2.1))),(6,Ab i.2.2),(20,Af (ndAt x.1 x.2.1).kids),(21,.int .i64 (ndAt x.1 x.2.1).kids.length),(22,.int .i64 i.1)],als:=[],meas:=fun i=>(ndAt x.1 x.2.1).kids.length-i.1.toNat}
def Zo(n:Nat):Sig:= {X:=List Nd×Int×List Nd,args:=fun x=>[.box 0 [nds x.1,Ba x.2.2,clO],.int .i64 x.2.1],pre:=fun x=>Hz (n+1) x,Y:=Unit,post:=fun x y=>True,res:=fun x y=> .int .i64 ((Bv x.1 rId (n+1) x.2.1 x.2.2).length-1),outs:=fun x y=>[.box 0 [nds x.1,Ba (Bv x.1 rId (n+1) x.2.1 x.2.2),clO],.top],keep:=true}
theorem c3K(n:Nat)(hc:Aj G Go.Proofs.Tryz.prog 41 (OK n)):Aj G Tryz.prog 41 (Zo n):=
 vcFun_okP [(41,0,(OK n)),(73,0,OJ),(40,0,Ul)] [(25,⟨Int,AZ⟩)] false (fun x=>[(4,lMO n x)]) Tryz.func41 rfl (by decide) ⟨hc,c3D,c3B,trivial⟩ (fun(x:List Nd×Int×List Nd)=>True∧((0:Int)≤x.2.1∧x.2.1<(↑(List.length x.1):Int))∧∀(e:Nd),x.1[Int.toNat x.2.1]? =some e→eA (lMO n x) [.box 0 [nds x.1,Ba x.2.2,AV.clo (.func 40) []],.box 0 [.int .i64 e.kind,.str e.text,Af e.kids,.bool e.blank],.nil,Af e.kids,.int .i64 (↑(List.length e.kids):Int),.int .i64 (0:Int)]∧∀(i:Int×List Nd×List Int),pk x.1 rId n x.2.1 x.2.2 i.1 i.2.1 i.2.2→Aa (decide (i.1<(↑(List.length (ndAt x.1 x.2.1).kids):Int))) (((0:Int)≤i.1∧i.1<(↑(List.length (ndAt x.1 x.2.1).kids):Int))∧∀(e:Int),(ndAt x.1 x.2.1).kids[Int.toNat i.1]? =some e→true=true∧true=true∧∃(x_1:Nd×Int×Int),True∧(ndAt x.1 x.2.1).kind=x_1.1.kind∧(ndAt x.1 x.2.1).text=x_1.1.text∧Af (ndAt x.1 x.2.1).kids=Af x_1.1.kids∧(ndAt x.1 x.2.1).blank=x_1.1.blank∧i.1=x_1.2.1∧e=x_1.2.2∧∃(y0:Unit),(∀(y:Unit),True→AV.tup [.int .i64 x_1.2.2,.bool false]=AV.tup [.int .i64 x_1.2.2,.bool false])∧true=true∧cA (OK n) [.box 0 [nds x.1,Ba i.2.1,AV.clo (.func 40) []],.int .i64 x_1.2.2] fun x_2 y=>∃(x_3:Int),(↑(List.length (Bv x_2.1 rId n x_2.2.1 x_2.2.2)):Int)-(1:Int)=x_3∧∃(zs:List Int),Ab [x_3]=Ab zs∧Bo AZ∧AY (List.length i.2.2+List.length zs) (8:Nat)∧inR IntKind.i64 (i.1+(1:Int))∧eN (lMO n x) i [.box 0 [nds x_2.1,Ba (Bv x_2.1 rId n x_2.2.1 x_2.2.2),AV.clo (.func 40) []],.box 0 [.int .i64 (ndAt x.1 x.2.1).kind,.str (ndAt x.1 x.2.1).text,Af (ndAt x.1 x.2.1).kids,.bool (ndAt x.1 x.2.1).blank],Ab (i.2.2++zs),Af (ndAt x.1 x.2.1).kids,.int .i64 (↑(List.length (ndAt x.1 x.2.1).kids):Int),.int .i64 (i.1+(1:Int))]) (cA OJ [.box 0 [nds x.1,Ba i.2.1,AV.clo (.func 40) []],.agg [.int .i64 (ndAt x.1 x.2.1).kind,.str (ndAt x.1 x.2.1).text,Ab i.2.2,.bool (ndAt x.1 x.2.1).blank]] fun x_1 y=>rA (Zo n) x [.int .i64 (↑(List.length x_1.2.1):Int),.box 0 [nds x_1.1,Ba (x_1.2.1++[{kind:=x_1.2.2.1,text:=x_1.2.2.2.1,kids:=x_1.2.2.2.2.1,blank:=x_1.2.2.2.2.2}]),AV.clo (.func 40) []],.top])) (fun x=>by kernel_rfl) fun(x:List Nd×Int×List Nd) (hx:Hz (n+1) x)=>(by
 dsimp only[cA,clO,eA,eN,Af,lMO,Bu,nds,Ab,Ba,rA,OJ,OK,Zo,Au,Az,mvL,lnL,mvE,lnE,Br]
 have h1:=hx.1;have hl:=h1.1;have hu:=hx.2.1;have hn:=BV.1 hu.1
 obtain⟨z,hz⟩:∃z,x.1[x.2.1.toNat]? =some z:=⟨x.1[x.2.1.toNat],by simp⟩
 simp only[hz,Option.some.injEq,forall_eq',Bn hz]
 (repeat' first|(with_reducible first|rfl|exact True.intro|apply AK|apply And.intro|((first|apply AA|apply AI|apply AB|apply AJ)<;>intro _))|(apply Ax<;>intro _)|apply AH|refine Ae () ?_ ?_|((first|apply AO|apply AN|apply AM|apply AL|apply AG|apply AF|apply AE|apply AD|apply AC)<;>try dsimp only)|apply Ae|(refine Prod.forall.2 ?_;intro _;try dsimp only)|(intro _;try dsimp only))
 all_goals first
  |rfl
  |omega
  |exact b3i
  |exact hl
  |contradiction
  |exact c3E hz hx ‹_› ‹_›
  |exact a7D hz hx ‹_› ‹_›
  |exact c3G hz ‹_› ‹_›
  |exact c3H hz ‹_› ‹_›
  |(have hq:=a7E hz hx ‹_›;(try simp only[AQ,AY,List.length_append,List.length_cons,List.length_nil]);omega)
  |(have hq:=a7E hz hx ‹_›;have hq2:=c3F hz hx ‹_› ‹_›;(try simp only[AQ,AY,List.length_append,List.length_cons,List.length_nil]);omega)
  |skip)
theorem a7F:∀n:Nat,Aj G Go.Proofs.Tryz.prog 41 (OK n)
 |0=>c3J
 |n+1=>c3K n (a7F n)
end Go.My
end
section
set_option maxHeartbeats 8000000
namespace Go.My
open Go.Eng Go.Proofs
variable {G:GInv}
def CY(x:List Nd)(i:Int):List Int:=((BZ x).take i.toNat).flatMap gk
theorem a7G{x:List Nd}{i:Int}{g:Gr}(h0:0≤i)(hg:(BZ x)[i.toNat]? =some g)(hm:g.member≥0):CY x i++g.notes++[g.member]=CY x (i+1):=by
 rw[CY,CY,Da h0,Ey hg];simp [gk,hm]
theorem a7H{x:List Nd}{i:Int}{g:Gr}(h0:0≤i)(hg:(BZ x)[i.toNat]? =some g)(hm:¬g.member≥0):CY x i++g.notes=CY x (i+1):=by
 rw[CY,CY,Da h0,Ey hg]
 have:¬0≤g.member:=by omega
 simp [gk,this]
theorem Um{x:List Nd}{i:Int}(h:¬i<((BZ x).length:Int)):CY x i=CQ x:=by
 rw[CY,List.take_of_length_le (by omega)];rfl
theorem c3L{x:List Nd}:CY x 0=[]:=by simp [CY]
def a7I(l:List Gr):AV:= .sl false 0 2 Gr (grA false) l
theorem c3M{x:List Nd}{i:Int}(h:Bf x=true):(CY x i).length≤12:=by
 have h1:=(NP h).length_eq
 have h2:=(FG h).1
 have h3:(CY x i).length≤(CQ x).length:=by
  have e:CQ x=CY x i++((BZ x).drop i.toNat).flatMap gk:=by
   rw[CY,←List.flatMap_append,List.take_append_drop];rfl
  rw[e,List.length_append];omega
 omega
theorem c3N{x:List Nd}{i:Int}{g:Gr}(h:Bf x=true)(h0:0≤i)(hg:(BZ x)[i.toNat]? =some g):(CY x i).length+g.notes.length≤12:=by
 have h1:= @c3M x (i+1) h
 by_cases hm:g.member≥0
 ·rw[←a7G h0 hg hm] at h1;simp at h1;omega
 ·rw[←a7H h0 hg hm] at h1;simp at h1;omega
def QM(x:List Nd):LS:= {
 ι:=Int,inv:=fun i=>0≤i∧i≤(BZ x).length,
 regs:=fun i=>[(3,.int .i64 (x.length-1)),(4,QL x),(5,Ab (CY x i)),(20,a7I (BZ x)),(21,.int .i64 (BZ x).length),(22,.int .i64 i)],als:=[],meas:=fun i=>(BZ x).length-i.toNat}
theorem c3O:Ea=1073741824+1:=by unfold Ea;omega
theorem c3P{x:List Nd}(h:Bf x=true)(m:Nat):(vis (BP x) (m+1) ((x.length:Int)-1)).length≤301:=by
 obtain⟨h1,h2,h3,h4⟩:=ER h
 have e:= @NS x h
 rw[LW,DU,Df,e]
 have h7:(NQ x).kids.flatMap (vis (BP x) m)=(CQ x).flatMap (vis x m):=by
  have:∀l:List Int,(∀c∈l,c∈CQ x)→l.flatMap (vis (BP x) m)=l.flatMap (vis x m):=by
   intro l
   induction l with
   |nil=>intro _;rfl
   |cons c l ih=>
    intro hl
    have hc:=(Jg h).1 (hl c (by simp))
    have hm:=HP h4 hc
    rw[List.flatMap_cons,List.flatMap_cons,WF h hm.1 hm.2.2,ih (fun d hd=>hl d (by simp [hd]))]
  exact this _ fun c hc=>hc
 rw[h7]
 have:=(@b3s x h m).2
 omega
theorem c3Q{x:List Nd}(h:Bf x=true)(ho:BM x):Hz Ea (BP x,(x.length:Int)-1,[]):=by
 obtain⟨h1,h2,h3,h4⟩:=ER h
 refine⟨⟨by rw[NR];exact ho.1,?_⟩,show De (BP x) ((x.length:Int)-1) from a3a h (by omega) (by omega),?_,?_⟩
 ·intro e he
  obtain⟨j,hj⟩:=List.mem_iff_getElem?.1 he
  have hlt:=(DK hj).1
  rw[NR] at hlt
  have hn:=Bn (c:=(j:Int)) (by simpa using hj)
  rw[Ss h (by omega) (by omega)] at hn
  have hp:=NP h
  have h5:=(FG h).1
  have h6:=hp.length_eq
  split at hn
  ·subst hn
   have:=Wr ho (k:=(x.length:Int)-1)
   exact⟨this.1,show(CQ x).length<2^62 by omega⟩
  ·have:=Wr ho (k:=(j:Int))
   split at hn
   ·subst hn;exact this
   ·subst hn;exact this
 ·show(x.length:Int)-1<Ea
  unfold Ea;omega
 ·have hv:=c3P h 1073741824
  rw[←c3O] at hv
  show 0+2*_≤1048576
  simp only at hv ⊢
  omega
theorem c3R{a:List AV}{b:List AV}{c:List Int}{e:Nd}{q:Nd→Prop}(h:q ⟨e.kind,e.text,c,e.blank⟩):
 ∃x':Nd,([AV.int IntKind.i64 x'.kind,AV.str x'.text]=[AV.int IntKind.i64 e.kind,AV.str e.text]∧[AV.bool x'.blank]=[AV.bool e.blank])∧AV.sl false 0 1 Int (fun(x:Int)=>fzL (AZ x)) c=AV.sl false 0 1 Int AZ x'.kids∧q x':=
 ⟨⟨e.kind,e.text,c,e.blank⟩,⟨rfl,rfl⟩,rfl,h⟩
theorem c3S{e:Nd}{q:Nd→Prop}(h:q (PN e)):
 ∃x':Nd,([AV.int IntKind.i64 x'.kind,AV.str x'.text,AV.sl false 0 1 Int AZ x'.kids]=[AV.int IntKind.i64 e.kind,AV.str e.text,AV.sl false 0 1 Int AZ e.kids]∧(@List.nil AV)=[])∧false=x'.blank∧q x':=
 ⟨PN e,⟨rfl,rfl⟩,rfl,h⟩
theorem c3T{x:List Nd}{i:Int}{e:Nd}(h:Bf x=true)(hi:¬i<((BZ x).length:Int))(he:x[Int.toNat ((x.length:Int)-1)]? =some e):
 x.set (Int.toNat ((x.length:Int)-1)) ⟨e.kind,e.text,CY x i,e.blank⟩=Hh x:=by
 have e1:Int.toNat ((x.length:Int)-1)=x.length-1:=by omega
 have ht:=(a2Z h).1
 have e2:ndAt x ((x.length:Nat)-1:Int)=e:=Bn he
 rw[e1,Um hi,Hh,NQ,e2]
theorem a7J{x:List Nd}{i c:Int}(h:Bf x=true)(hi:¬i<((BZ x).length:Int))(hc:(CY x i)[0]? =some c):0≤c∧c<(x.length:Int)-1:=by
 rw[Um hi] at hc
 exact(FG h).2 c ((Jg h).1 (BO hc))
theorem c3U{x:List Nd}{i:Int}(hi:¬i<((BZ x).length:Int))(hl:¬((CY x i).length:Int)>0):Hh x=BP x:=by
 rw[Um hi] at hl
 have:CQ x=[]:=List.length_eq_zero_iff.1 (by omega)
 rw[BP,this]
theorem c3V{x:List Nd}{i c:Int}{e:Nd}(h:Bf x=true)(hi:¬i<((BZ x).length:Int))(hc:(CY x i)[0]? =some c)(he:(Hh x)[c.toNat]? =some e):(Hh x).set c.toNat (PN e)=BP x:=by
 have hr:=a7J h hi hc
 rw[Um hi] at hc
 have e1:ndAt (Hh x) c=e:=Bn he
 rw[Hh,Sr,if_neg (by omega)] at e1
 match hk:CQ x,hc with
 |d::l,hc=>
  have hd:d=c:=by simpa using hc
  subst hd
  rw[BP,hk]
  simp only
  rw[e1]
def Ld:Sig:= {X:=List Nd,args:=fun x=>[nds x],pre:=fun x=>(BM x∧KD x)∧Gc x,Y:=Unit,post:=fun x y=>True,res:=fun x y=>Ba (HR x),outs:=fun x y=>[.top],keep:=false}
theorem c3W:Aj G Tryz.prog 11 Ld:=
 vcFun_okP [(37,0,Hd),(38,0,NO),(38,1000000+18,OI),(39,0,NM),(41,0,(OK Ea))] [(27,⟨Nd,ndA true⟩),(25,⟨Int,AZ⟩)] false (fun x=>[(7,QM x)]) Tryz.func11 rfl (by decide) ⟨a2d,b3n,c3A,b3b,(a7F Ea),trivial⟩ (fun(x:List Nd)=>(∀(y:Unit),True→(∀(x:Nd),True∧True∧(∀(x:Int),True∧True)∧True∧True)∧True∧True)∧cA Hd [nds x] fun x_1 y=>Aa (!Bf x_1) (cA NO [nds x] fun x_2 y=>rA Ld x [Ba x_2,.top]) (inR IntKind.i64 ((↑(List.length x):Int)-(1:Int))∧cA OI [nds x] fun x_2 y=>cA NM [nds x] fun x_3 y=>eA (QM x) [.int .i64 ((↑(List.length x):Int)-(1:Int)),AV.sl true 0 4 Nd (ndA false) x_2,.nil,AV.sl true 0 2 Gr (grA true) (BZ x_3),.int .i64 (↑(List.length (BZ x_3)):Int),.int .i64 (0:Int)]∧∀(i:Int),(0:Int)≤i∧i≤(↑(List.length (BZ x)):Int)→Aa (decide (i<(↑(List.length (BZ x)):Int))) (((0:Int)≤i∧i<(↑(List.length (BZ x)):Int))∧∀(e:Gr),(BZ x)[Int.toNat i]? =some e→∃(zs:List Int),Af e.notes=Af zs∧Bo AZ∧AY (List.length (CY x i)+List.length zs) (8:Nat)∧Aa (decide (e.member≥(0:Int))) (∃(x_4:Int),e.member=x_4∧∃(Co:List Int),Ab [x_4]=Ab Co∧Bo AZ∧AY (List.length (CY x i++zs)+List.length Co) (8:Nat)∧inR IntKind.i64 (i+(1:Int))∧eN (QM x) i [.int .i64 ((↑(List.length x):Int)-(1:Int)),AV.sl true 0 4 Nd (ndA false) x,Ab (CY x i++zs++Co),AV.sl false 0 2 Gr (grA false) (BZ x),.int .i64 (↑(List.length (BZ x)):Int),.int .i64 (i+(1:Int))]) (inR IntKind.i64 (i+(1:Int))∧eN (QM x) i [.int .i64 ((↑(List.length x):Int)-(1:Int)),AV.sl true 0 4 Nd (ndA false) x,Ab (CY x i++zs),AV.sl false 0 2 Gr (grA false) (BZ x),.int .i64 (↑(List.length (BZ x)):Int),.int .i64 (i+(1:Int))])) (((0:Int)≤(↑(List.length x):Int)-(1:Int)∧(↑(List.length x):Int)-(1:Int)<(↑(List.length x):Int))∧Int.toNat ((↑(List.length x):Int)-(1:Int))<List.length x∧∀(x_4:Nd),x[Int.toNat ((↑(List.length x):Int)-(1:Int))]? =some x_4→∃(x':Nd),([AV.int .i64 x'.kind,.str x'.text]=[.int .i64 x_4.kind,.str x_4.text]∧[AV.bool x'.blank]=[.bool x_4.blank])∧AV.sl false 0 1 Int (fun(x:Int)=>fzL (AZ x)) (CY x i)=Af x'.kids∧Aa (decide ((↑(List.length (CY x i)):Int)>(0:Int))) (((0:Int)≤(0:Int)∧(0:Int)<(↑(List.length (CY x i)):Int))∧∀(e:Int),(CY x i)[(0:Nat)]? =some e→((0:Int)≤e∧e<(↑(List.length (List.set x (Int.toNat ((↑(List.length x):Int)-(1:Int))) x')):Int))∧Int.toNat e<List.length (List.set x (Int.toNat ((↑(List.length x):Int)-(1:Int))) x')∧∀(x_5:Nd),(List.set x (Int.toNat ((↑(List.length x):Int)-(1:Int))) x')[Int.toNat e]? =some x_5→∃(x'_1:Nd),([AV.int .i64 x'_1.kind,.str x'_1.text,Af x'_1.kids]=[.int .i64 x_5.kind,.str x_5.text,Af x_5.kids]∧(@List.nil AV)=[])∧false=x'_1.blank∧∃(x_6:List Nd×Int×List Nd),Hz Ea x_6∧AV.sl false 0 4 Nd (fun(x:Nd)=>fzL (ndA false x)) (List.set (List.set x (Int.toNat ((↑(List.length x):Int)-(1:Int))) x') (Int.toNat e) x'_1)=nds x_6.1∧x_6.2.2=[]∧(↑(List.length x):Int)-(1:Int)=x_6.2.1∧∀(y:Unit),True→rA Ld x [Ba (Bv x_6.1 rId Ea x_6.2.1 x_6.2.2),.top]) (∃(x_5:List Nd×Int×List Nd),Hz Ea x_5∧AV.sl false 0 4 Nd (fun(x:Nd)=>fzL (ndA false x)) (List.set x (Int.toNat ((↑(List.length x):Int)-(1:Int))) x')=nds x_5.1∧x_5.2.2=[]∧(↑(List.length x):Int)-(1:Int)=x_5.2.1∧∀(y:Unit),True→rA Ld x [Ba (Bv x_5.1 rId Ea x_5.2.1 x_5.2.2),.top])))) (fun x=>by kernel_rfl) fun(x:List Nd) (hx:(BM x∧KD x)∧Gc x)=>(by
 dsimp only[cA,eA,eN,a7I,QL,Af,QM,Bu,nds,GA,Ab,Ba,rA,NO,OI,Ld,NM,Hd,Au,Az,mvL,lnL,mvE,lnE,Br]
 obtain⟨⟨h1,h2⟩,h4⟩:=hx;have hl:=h1.1;have h3:=h2.1
 (repeat' first|refine c3R (a:=[]) (b:=[]) ?_|refine c3S ?_|(with_reducible first|rfl|exact True.intro|apply AK|apply And.intro|((first|apply AA|apply AI|apply AB|apply AJ)<;>intro _))|(apply Ax<;>intro _)|apply AH|refine Ae () ?_ ?_|((first|apply AO|apply AN|apply AM|apply AL|apply AG|apply AF|apply AE|apply AD|apply AC)<;>try dsimp only)|apply Ae|(refine Prod.forall.2 ?_;intro _;try dsimp only)|(intro _;try dsimp only))
 all_goals(try rw[c3T ‹_› ‹_› ‹_›] at*)
 all_goals(try rw[c3V ‹_› ‹_› ‹_› ‹_›])
 all_goals(try rw[c3U ‹_› ‹_›])
 all_goals first
  |rfl
  |exact h1
  |exact h2
  |exact h3
  |exact h4
  |exact c3L
  |exact c3Q ‹_› h1
  |(have hq:=a7J ‹_› ‹_› ‹_›;(try simp only[Hh,List.length_set]);omega)
  |exact a7G (And.left ‹_›) ‹_› ‹_›
  |exact a7H (And.left ‹_›) ‹_› ‹_›
  |(rw[HR,if_pos ‹_›];done)
  |(rw[HR,if_neg (by simp [*])];done)
  |(have ht:=a2Z ‹_›;have ho:=(@b3c x).1.1;(try simp only[AQ]);omega)
  |(have hq:=c3N ‹_› (And.left ‹_›) ‹_›;(try simp only[AQ,AY,List.length_append,List.length_cons,List.length_nil]);omega)
  |((try simp only[AQ]);omega)
  |skip)
end Go.My
end
section
namespace Go.My
open Go.Eng Go.Proofs
variable {G:GInv}
def pfA(s:List UInt8):Prop:=∃r,s=pA++110::r
theorem Gp{s u:List UInt8}(h:pfA s):pfA (s++u):=by obtain⟨r,rfl⟩:=h;exact⟨r++u,by simp⟩
theorem c3X:pfA [116,119,105,99,101,40,120,41,32,123,32,114,101,116,117,114,110,32,120,32,43,32,120,59,32,125,10,10,109,97,105,110,40,110,44,32,107,41,32,123,32,118,97,114,32,105,32,61,32,48,59,32]:=⟨[44,32,107,41,32,123,32,118,97,114,32,105,32,61,32,48,59,32],rfl⟩
theorem c3Y:bgn [109,97,105,110,40,110,44,32,107,41,32,123,32,112,114,105,110,116,40,40,110,32,43,32,50,41,32,42,32,40,51,32,45,32,49,41,41,59,32,114,101,116,117,114,110,32,107,59,32,125]:= .inr ⟨[44,32,107,41,32,123,32,112,114,105,110,116,40,40,110,32,43,32,50,41,32,42,32,40,51,32,45,32,49,41,41,59,32,114,101,116,117,114,110,32,107,59,32,125],rfl⟩
theorem c3Z{s a b c:List UInt8}{m:Nat}(h:s∈[a,b,c])(ha:a.length≤m)(hb:b.length≤m)(hc:c.length≤m):s.length≤m:=by
 simp only[List.mem_cons,List.not_mem_nil,or_false] at h
 rcases h with rfl|rfl|rfl<;>assumption
theorem c4a{s:List UInt8}(h:pfA s):bgn s:= .inl h
attribute [local irreducible] pfA bgn
def OL:Sig:= {X:=List UInt8×Int×Int,args:=fun x=>[.box 0 (cur x.1 x.2.1 x.2.2)],pre:=fun x=>Bq x.1 x.2.1,Y:=List UInt8×Int×Int,post:=fun x y=>(y.1.length≤4000∧pfA y.1)∧Bq x.1 y.2.1,res:=fun x y=> .str y.1,outs:=fun x y=>[.box 0 (cur x.1 y.2.1 y.2.2)],keep:=true}
def Ke(x:List UInt8×Int×Int):LS:= {ι:=Int×Int×Int×List UInt8,inv:=fun i=>(((0≤i.1∧i.1≤5)∧(i.2.2.2.length:Int)≤60+600*i.1)∧pfA i.2.2.2)∧Bq x.1 i.2.1,regs:=fun i=>[(0,.box 0 (cur x.1 i.2.1 i.2.2.1)),(3,.str i.2.2.2),(4,.int .i64 i.1)],als:=[],meas:=fun i=>6-i.1.toNat}
theorem c4b:Aj G Tryz.prog 27 OL:=
 vcFun_okP [(31,0,Dv),(55,0,Er),(54,0,Kd)] [(91,⟨List UInt8,Ck⟩)] false (fun x=>[(3,Ke x)]) Tryz.func27 rfl (by decide) ⟨Mw,Tx,c3u,trivial⟩ (fun(x:List UInt8×Int×Int)=>True∧eA (Ke x) [.box 0 (cur x.1 x.2.1 x.2.2),.str #[(116:UInt8),(119:UInt8),(105:UInt8),(99:UInt8),(101:UInt8),(40:UInt8),(120:UInt8),(41:UInt8),(32:UInt8),(123:UInt8),(32:UInt8),(114:UInt8),(101:UInt8),(116:UInt8),(117:UInt8),(114:UInt8),(110:UInt8),(32:UInt8),(120:UInt8),(32:UInt8),(43:UInt8),(32:UInt8),(120:UInt8),(59:UInt8),(32:UInt8),(125:UInt8),(10:UInt8),(10:UInt8),(109:UInt8),(97:UInt8),(105:UInt8),(110:UInt8),(40:UInt8),(110:UInt8),(44:UInt8),(32:UInt8),(107:UInt8),(41:UInt8),(32:UInt8),(123:UInt8),(32:UInt8),(118:UInt8),(97:UInt8),(114:UInt8),(32:UInt8),(105:UInt8),(32:UInt8),(61:UInt8),(32:UInt8),(48:UInt8),(59:UInt8),(32:UInt8)].toList,.int .i64 (0:Int)]∧∀(i:Int×Int×Int×List UInt8),((((0:Int)≤i.1∧i.1≤(5:Int))∧(↑(List.length i.2.2.2):Int)≤(60:Int)+(600:Int)*i.1)∧pfA i.2.2.2)∧Bq x.1 i.2.1→cA Dv [.box 0 (cur x.1 i.2.1 i.2.2.1),.int .i64 (5:Int)] fun x_1 y=>inR IntKind.i64 ((1:Int)+y.1)∧Aa (decide (i.1<(1:Int)+y.1)) (cA Dv [.box 0 (cur x_1.1 y.2.1 y.2.2),.int .i64 (6:Int)] fun x_2 y=>Aa (y.1==(0:Int)) ((↑(List.length i.2.2.2+(6:Nat)):Int)≤IntKind.max IntKind.i64∧cA Kd [.box 0 (cur x_2.1 y.2.1 y.2.2),.int .i64 (2:Int)] fun x_3 y=>(↑(List.length (i.2.2.2++ #[(112:UInt8),(114:UInt8),(105:UInt8),(110:UInt8),(116:UInt8),(40:UInt8)].toList)+List.length y.1):Int)≤IntKind.max IntKind.i64∧(↑(List.length (i.2.2.2++ #[(112:UInt8),(114:UInt8),(105:UInt8),(110:UInt8),(116:UInt8),(40:UInt8)].toList++y.1)+(3:Nat)):Int)≤IntKind.max IntKind.i64∧inR IntKind.i64 (i.1+(1:Int))∧eN (Ke x) i [.box 0 (cur x_3.1 y.2.1 y.2.2),.str (i.2.2.2++ #[(112:UInt8),(114:UInt8),(105:UInt8),(110:UInt8),(116:UInt8),(40:UInt8)].toList++y.1++ #[(41:UInt8),(59:UInt8),(32:UInt8)].toList),.int .i64 (i.1+(1:Int))]) (Aa (y.1==(1:Int)) ((↑(List.length i.2.2.2+(4:Nat)):Int)≤IntKind.max IntKind.i64∧cA Kd [.box 0 (cur x_2.1 y.2.1 y.2.2),.int .i64 (2:Int)] fun x_3 y=>(↑(List.length (i.2.2.2++ #[(105:UInt8),(32:UInt8),(61:UInt8),(32:UInt8)].toList)+List.length y.1):Int)≤IntKind.max IntKind.i64∧(↑(List.length (i.2.2.2++ #[(105:UInt8),(32:UInt8),(61:UInt8),(32:UInt8)].toList++y.1)+(2:Nat)):Int)≤IntKind.max IntKind.i64∧inR IntKind.i64 (i.1+(1:Int))∧eN (Ke x) i [.box 0 (cur x_3.1 y.2.1 y.2.2),.str (i.2.2.2++ #[(105:UInt8),(32:UInt8),(61:UInt8),(32:UInt8)].toList++y.1++ #[(59:UInt8),(32:UInt8)].toList),.int .i64 (i.1+(1:Int))]) (Aa (y.1==(2:Int)) ((↑(List.length i.2.2.2+(4:Nat)):Int)≤IntKind.max IntKind.i64∧cA Kd [.box 0 (cur x_2.1 y.2.1 y.2.2),.int .i64 (1:Int)] fun x_3 y=>(↑(List.length (i.2.2.2++ #[(105:UInt8),(102:UInt8),(32:UInt8),(40:UInt8)].toList)+List.length y.1):Int)≤IntKind.max IntKind.i64∧(↑(List.length (i.2.2.2++ #[(105:UInt8),(102:UInt8),(32:UInt8),(40:UInt8)].toList++y.1)+(27:Nat)):Int)≤IntKind.max IntKind.i64∧cA Kd [.box 0 (cur x_3.1 y.2.1 y.2.2),.int .i64 (1:Int)] fun x_4 y_1=>(↑(List.length (i.2.2.2++ #[(105:UInt8),(102:UInt8),(32:UInt8),(40:UInt8)].toList++y.1++ #[(41:UInt8),(32:UInt8),(123:UInt8),(32:UInt8),(112:UInt8),(114:UInt8),(105:UInt8),(110:UInt8),(116:UInt8),(40:UInt8),(105:UInt8),(41:UInt8),(59:UInt8),(32:UInt8),(125:UInt8),(32:UInt8),(101:UInt8),(108:UInt8),(115:UInt8),(101:UInt8),(32:UInt8),(123:UInt8),(32:UInt8),(107:UInt8),(32:UInt8),(61:UInt8),(32:UInt8)].toList)+List.length y_1.1):Int)≤IntKind.max IntKind.i64∧(↑(List.length (i.2.2.2++ #[(105:UInt8),(102:UInt8),(32:UInt8),(40:UInt8)].toList++y.1++ #[(41:UInt8),(32:UInt8),(123:UInt8),(32:UInt8),(112:UInt8),(114:UInt8),(105:UInt8),(110:UInt8),(116:UInt8),(40:UInt8),(105:UInt8),(41:UInt8),(59:UInt8),(32:UInt8),(125:UInt8),(32:UInt8),(101:UInt8),(108:UInt8),(115:UInt8),(101:UInt8),(32:UInt8),(123:UInt8),(32:UInt8),(107:UInt8),(32:UInt8),(61:UInt8),(32:UInt8)].toList++y_1.1)+(4:Nat)):Int)≤IntKind.max IntKind.i64∧inR IntKind.i64 (i.1+(1:Int))∧eN (Ke x) i [.box 0 (cur x_4.1 y_1.2.1 y_1.2.2),.str (i.2.2.2++ #[(105:UInt8),(102:UInt8),(32:UInt8),(40:UInt8)].toList++y.1++ #[(41:UInt8),(32:UInt8),(123:UInt8),(32:UInt8),(112:UInt8),(114:UInt8),(105:UInt8),(110:UInt8),(116:UInt8),(40:UInt8),(105:UInt8),(41:UInt8),(59:UInt8),(32:UInt8),(125:UInt8),(32:UInt8),(101:UInt8),(108:UInt8),(115:UInt8),(101:UInt8),(32:UInt8),(123:UInt8),(32:UInt8),(107:UInt8),(32:UInt8),(61:UInt8),(32:UInt8)].toList++y_1.1++ #[(59:UInt8),(32:UInt8),(125:UInt8),(32:UInt8)].toList),.int .i64 (i.1+(1:Int))]) (Aa (y.1==(3:Int)) ((↑(List.length i.2.2.2+(33:Nat)):Int)≤IntKind.max IntKind.i64∧cA Kd [.box 0 (cur x_2.1 y.2.1 y.2.2),.int .i64 (1:Int)] fun x_3 y=>(↑(List.length (i.2.2.2++ #[(119:UInt8),(104:UInt8),(105:UInt8),(108:UInt8),(101:UInt8),(32:UInt8),(40:UInt8),(105:UInt8),(32:UInt8),(60:UInt8),(32:UInt8),(51:UInt8),(41:UInt8),(32:UInt8),(123:UInt8),(32:UInt8),(105:UInt8),(32:UInt8),(61:UInt8),(32:UInt8),(105:UInt8),(32:UInt8),(43:UInt8),(32:UInt8),(49:UInt8),(59:UInt8),(32:UInt8),(112:UInt8),(114:UInt8),(105:UInt8),(110:UInt8),(116:UInt8),(40:UInt8)].toList)+List.length y.1):Int)≤IntKind.max IntKind.i64∧(↑(List.length (i.2.2.2++ #[(119:UInt8),(104:UInt8),(105:UInt8),(108:UInt8),(101:UInt8),(32:UInt8),(40:UInt8),(105:UInt8),(32:UInt8),(60:UInt8),(32:UInt8),(51:UInt8),(41:UInt8),(32:UInt8),(123:UInt8),(32:UInt8),(105:UInt8),(32:UInt8),(61:UInt8),(32:UInt8),(105:UInt8),(32:UInt8),(43:UInt8),(32:UInt8),(49:UInt8),(59:UInt8),(32:UInt8),(112:UInt8),(114:UInt8),(105:UInt8),(110:UInt8),(116:UInt8),(40:UInt8)].toList++y.1)+(5:Nat)):Int)≤IntKind.max IntKind.i64∧inR IntKind.i64 (i.1+(1:Int))∧eN (Ke x) i [.box 0 (cur x_3.1 y.2.1 y.2.2),.str (i.2.2.2++ #[(119:UInt8),(104:UInt8),(105:UInt8),(108:UInt8),(101:UInt8),(32:UInt8),(40:UInt8),(105:UInt8),(32:UInt8),(60:UInt8),(32:UInt8),(51:UInt8),(41:UInt8),(32:UInt8),(123:UInt8),(32:UInt8),(105:UInt8),(32:UInt8),(61:UInt8),(32:UInt8),(105:UInt8),(32:UInt8),(43:UInt8),(32:UInt8),(49:UInt8),(59:UInt8),(32:UInt8),(112:UInt8),(114:UInt8),(105:UInt8),(110:UInt8),(116:UInt8),(40:UInt8)].toList++y.1++ #[(41:UInt8),(59:UInt8),(32:UInt8),(125:UInt8),(32:UInt8)].toList),.int .i64 (i.1+(1:Int))]) (Aa (y.1==(4:Int)) ((↑(List.length i.2.2.2+(8:Nat)):Int)≤IntKind.max IntKind.i64∧inR IntKind.i64 (i.1+(1:Int))∧eN (Ke x) i [.box 0 (cur x_2.1 y.2.1 y.2.2),.str (i.2.2.2++ #[(47:UInt8),(47:UInt8),(32:UInt8),(115:UInt8),(97:UInt8),(105:UInt8),(100:UInt8),(10:UInt8)].toList),.int .i64 (i.1+(1:Int))]) (∃(x_3:List UInt8),#[(112:UInt8),(114:UInt8),(105:UInt8),(110:UInt8),(116:UInt8),(40:UInt8),(39:UInt8),(110:UInt8),(111:UInt8),(39:UInt8),(41:UInt8),(59:UInt8),(32:UInt8)].toList=x_3∧∃(x_4:List UInt8),#[(114:UInt8),(101:UInt8),(116:UInt8),(117:UInt8),(114:UInt8),(110:UInt8),(32:UInt8),(110:UInt8),(59:UInt8),(32:UInt8)].toList=x_4∧∃(x_5:List UInt8),#[(122:UInt8),(32:UInt8),(61:UInt8),(32:UInt8),(49:UInt8),(59:UInt8),(32:UInt8)].toList=x_5∧∃(x_6:List UInt8),#[(109:UInt8),(97:UInt8),(105:UInt8),(110:UInt8),(40:UInt8),(49:UInt8),(44:UInt8),(32:UInt8),(50:UInt8),(41:UInt8),(59:UInt8),(32:UInt8)].toList=x_6∧cA Er [.box 0 (cur x_2.1 y.2.1 y.2.2),AV.sl true 0 1 (List UInt8) Ck [x_3,x_4,x_5,x_6]] fun x_7 y=>(↑(List.length i.2.2.2+List.length y.1):Int)≤IntKind.max IntKind.i64∧inR IntKind.i64 (i.1+(1:Int))∧eN (Ke x) i [.box 0 (cur x_7.1 y.2.1 y.2.2),.str (i.2.2.2++y.1),.int .i64 (i.1+(1:Int))])))))) ((↑(List.length i.2.2.2+(7:Nat)):Int)≤IntKind.max IntKind.i64∧cA Kd [.box 0 (cur x_1.1 y.2.1 y.2.2),.int .i64 (2:Int)] fun x_2 y=>(↑(List.length (i.2.2.2++ #[(114:UInt8),(101:UInt8),(116:UInt8),(117:UInt8),(114:UInt8),(110:UInt8),(32:UInt8)].toList)+List.length y.1):Int)≤IntKind.max IntKind.i64∧(↑(List.length (i.2.2.2++ #[(114:UInt8),(101:UInt8),(116:UInt8),(117:UInt8),(114:UInt8),(110:UInt8),(32:UInt8)].toList++y.1)+(4:Nat)):Int)≤IntKind.max IntKind.i64∧rA OL x [.str (i.2.2.2++ #[(114:UInt8),(101:UInt8),(116:UInt8),(117:UInt8),(114:UInt8),(110:UInt8),(32:UInt8)].toList++y.1++ #[(59:UInt8),(32:UInt8),(125:UInt8),(10:UInt8)].toList),.box 0 (cur x_2.1 y.2.1 y.2.2)])) (fun x=>by kernel_rfl) fun(x:List UInt8×Int×Int) (hx:Bq x.1 x.2.1)=>(by
 dsimp only[Gj,cA,cur,eA,eN,Ke,rA,Dv,Er,OL,Kd,Au,Az,mvL,lnL,mvE,lnE,Br]
 obtain⟨b,i,h⟩:=x;dsimp only at hx ⊢
 have hx:Bq b i:=hx
 (repeat' first|(with_reducible first|rfl|exact True.intro|apply AK|apply And.intro|((first|apply AA|apply AI|apply AB|apply AJ)<;>intro _))|(apply Ax<;>intro _)|apply AH|refine Ae () ?_ ?_|((first|apply AO|apply AN|apply AM|apply AL|apply AG|apply AF|apply AE|apply AD|apply AC)<;>try dsimp only)|apply Ae|(refine Prod.forall.2 ?_;intro _;try dsimp only)|(intro _;try dsimp only))
 all_goals(try(have hk:=c3v (And.left (show(((0:Int)<5→_)∧(_→_))∧Bq _ _ by assumption))))
 all_goals(repeat(rename _∈_∧Bq _ _=>hq;obtain⟨hq1,_⟩:=hq;have hq2:=Ue (n:=20) hq1 (by decide);clear hq1))
 all_goals(repeat(rename _∧Bq _ _=>hq;obtain⟨_,_⟩:=hq))
 all_goals(repeat(rename _∧pfA _=>hq;obtain⟨_,_⟩:=hq))
 all_goals first
  |rfl
  |(with_reducible assumption)
  |exact hx
  |(show Bq _ _;with_reducible assumption)
  |exact c3X
  |exact Gp ‹_›
  |exact Gp (Gp ‹_›)
  |exact Gp (Gp (Gp ‹_›))
  |exact Gp (Gp (Gp (Gp ‹_›)))
  |exact Gp (Gp (Gp (Gp (Gp ‹_›))))
  |(rename _=[]=>hq;cases hq;done)
  |omega
  |((try simp only[AQ,List.length_append,List.length_cons,List.length_nil] at*);omega)
  |skip)
def MI:Sig:= {X:=List UInt8,args:=fun x=>[.sl false 0 1 UInt8 byA x],pre:=fun x=>x.length≤2^21,Y:=List UInt8×Unit,post:=fun x y=>y.1.length≤4000∧bgn y.1,res:=fun x y=> .str y.1,outs:=fun x y=>[.top],keep:=true}
theorem c4c:Aj G Tryz.prog 7 MI:=
 vcFun_okP [(28,0,Hx),(27,0,OL),(10,0,FU)] [] false (fun x=>[]) Tryz.func7 rfl (by decide) ⟨Zi,c4b,Zh,trivial⟩ (fun(x:List UInt8)=>True∧cA Hx [byL x] fun x_1 y=>cA OL [.box 0 (cur x_1 (0:Int) y)] fun x_2 y=>cA FU [.str y.1] fun x_3 y_1=>Aa (Option.isSome (Cb x_3)) (rA MI x [.str y.1,.top]) (rA MI x [.str #[(109:UInt8),(97:UInt8),(105:UInt8),(110:UInt8),(40:UInt8),(110:UInt8),(44:UInt8),(32:UInt8),(107:UInt8),(41:UInt8),(32:UInt8),(123:UInt8),(32:UInt8),(112:UInt8),(114:UInt8),(105:UInt8),(110:UInt8),(116:UInt8),(40:UInt8),(40:UInt8),(110:UInt8),(32:UInt8),(43:UInt8),(32:UInt8),(50:UInt8),(41:UInt8),(32:UInt8),(42:UInt8),(32:UInt8),(40:UInt8),(51:UInt8),(32:UInt8),(45:UInt8),(32:UInt8),(49:UInt8),(41:UInt8),(41:UInt8),(59:UInt8),(32:UInt8),(114:UInt8),(101:UInt8),(116:UInt8),(117:UInt8),(114:UInt8),(110:UInt8),(32:UInt8),(107:UInt8),(59:UInt8),(32:UInt8),(125:UInt8)].toList,.top])) (fun x=>by kernel_rfl) fun(x:List UInt8) (hx:x.length≤2^21)=>(by
 dsimp only[Gj,byL,cA,cur,Bu,nds,Ab,Ba,rA,FU,Hx,MI,OL,Db,sgs,srd,Au,Az,mvL,lnL,mvE,lnE]
 have hx:x.length≤2^21:=hx
 (repeat' first|(with_reducible first|rfl|exact True.intro|apply AK|apply And.intro|((first|apply AA|apply AI|apply AB|apply AJ)<;>intro _))|(apply Ax<;>intro _)|apply AH|refine Ae () ?_ ?_|((first|apply AO|apply AN|apply AM|apply AL|apply AG|apply AF|apply AE|apply AD|apply AC)<;>try dsimp only)|apply Ae|(refine Prod.forall.2 ?_;intro _;try dsimp only)|(intro _;try dsimp only))
 all_goals(repeat(rename _∧Bq _ _=>hq;obtain⟨_,_⟩:=hq))
 all_goals(repeat(rename _∧pfA _=>hq;obtain⟨_,hpf⟩:=hq))
 all_goals first
  |rfl
  |exact hx
  |exact Zj hx
  |exact()
  |omega
  |(with_reducible assumption)
  |exact c3Y
  |exact c4a hpf
  |((try simp only[List.length_cons,List.length_nil]);omega)
  |skip)
def mnI(x:List UInt8)(i:Int)(c:Int)(s:List UInt8)(e:Int):Prop:=((0≤i∧i≤5)∧(s.length:Int)≤100*i+e)∧Bq x c
theorem c4d{x:List UInt8}{c:Int}(h:Bq x c):mnI x 0 c [] 0:=⟨by simp,h⟩
theorem c4e{x s:List UInt8}{i c e:Int}(h:mnI x i c s e):Bq x c:=h.2
theorem a7K{x s:List UInt8}{i c e:Int}(h:mnI x i c s e):(0≤i∧i≤5)∧(s.length:Int)≤100*i+e:=h.1
theorem c4f{x s:List UInt8}{i c d e:Int}(h:mnI x i c s e)(hd:Bq x d){e2:Int}(he:e≤e2):mnI x i d s e2:=⟨⟨h.1.1,by have:=h.1.2;omega⟩,hd⟩
theorem c4g{x s u:List UInt8}{i c d e:Int}(h:mnI x i c s e)(hd:Bq x d){e2:Int}(he:e+u.length≤e2):mnI x i d (s++u) e2:=⟨⟨h.1.1,by have:=h.1.2;rw[List.length_append];omega⟩,hd⟩
theorem c4h{b:Int}(hb:((0:Int)<5→0≤b∧b<5)∧((5:Int)≤0→b=0)):0≤b∧b<5:=hb.1 (by decide)
theorem c4i{x s u:List UInt8}{i c d:Int}(h:mnI x i c s 20∧i<5)(hd:Bq x d)(hu:u.length≤60):mnI x (i+1) d (s++u) 0:=⟨⟨by have:=h.1.1.1;omega,by have:=h.1.1.2;rw[List.length_append];omega⟩,hd⟩
attribute [local irreducible] mnI
def MJ:Sig:= {X:=List UInt8×Int×Int,args:=fun x=>[.box 0 (cur x.1 x.2.1 x.2.2)],pre:=fun x=>Bq x.1 x.2.1,Y:=List UInt8×Int×Int,post:=fun x y=>y.1.length≤2000∧Bq x.1 y.2.1,res:=fun x y=> .str y.1,outs:=fun x y=>[.box 0 (cur x.1 y.2.1 y.2.2)],keep:=true}
def Un(x:List UInt8×Int×Int):LS:= {ι:=Int×Int×Int×List UInt8,inv:=fun i=>mnI x.1 i.1 i.2.1 i.2.2.2 0,regs:=fun i=>[(0,.box 0 (cur x.1 i.2.1 i.2.2.1)),(3,.str i.2.2.2),(4,.int .i64 i.1)],als:=[],meas:=fun i=>6-i.1.toNat,sub:=fun j=>[(200007,{ι:=Int×Int×List UInt8,inv:=fun i=>mnI x.1 j.1 i.1 i.2.2 10∧j.1<5,regs:=fun i=>[(0,.box 0 (cur x.1 i.1 i.2.1)),(3,.str i.2.2),(4,.int .i64 j.1)],als:=[],meas:=fun _=>0}),(200009,{ι:=Int×Int×List UInt8,inv:=fun i=>mnI x.1 j.1 i.1 i.2.2 20∧j.1<5,regs:=fun i=>[(0,.box 0 (cur x.1 i.1 i.2.1)),(3,.str i.2.2),(4,.int .i64 j.1)],als:=[],meas:=fun _=>0})]}
theorem c4j:Aj G Tryz.prog 29 MJ:=
 vcFun_okP [(31,0,Dv),(55,0,Er),(56,0,KX)] [(91,⟨List UInt8,Ck⟩)] false (fun x=>[(3,Un x)]) Tryz.func29 rfl (by decide) ⟨Mw,Tx,c0s,trivial⟩ (fun(x:List UInt8×Int×Int)=>True∧eA (Un x) [.box 0 (cur x.1 x.2.1 x.2.2),.str #[].toList,.int .i64 (0:Int)]∧∀(i:Int×Int×Int×List UInt8),mnI x.1 i.1 i.2.1 i.2.2.2 (0:Int)→cA Dv [.box 0 (cur x.1 i.2.1 i.2.2.1),.int .i64 (5:Int)] fun x_1 y=>inR IntKind.i64 ((1:Int)+y.1)∧Aa (decide (i.1<(1:Int)+y.1)) ((cA KX [.box 0 (cur x_1.1 y.2.1 y.2.2),.int .i64 (3:Int)] fun x_2 y=>Aa y.1 ((↑(List.length i.2.2.2+(8:Nat)):Int)≤IntKind.max IntKind.i64∧∃(i_1:Int×Int×List UInt8),(mnI x.1 i.1 i_1.1 i_1.2.2 (10:Int)∧i.1<(5:Int))∧(byL x_2.1=byL x.1∧y.2.1=i_1.1∧y.2.2=i_1.2.1∧i.2.2.2++ #[(47:UInt8),(47:UInt8),(32:UInt8),(110:UInt8),(111:UInt8),(116:UInt8),(101:UInt8),(10:UInt8)].toList=i_1.2.2∧i.1=i.1∧True)∧True) (∃(i_1:Int×Int×List UInt8),(mnI x.1 i.1 i_1.1 i_1.2.2 (10:Int)∧i.1<(5:Int))∧(byL x_2.1=byL x.1∧y.2.1=i_1.1∧y.2.2=i_1.2.1∧i.2.2.2=i_1.2.2∧i.1=i.1∧True)∧True))∧∀(i_1:Int×Int×List UInt8),mnI x.1 i.1 i_1.1 i_1.2.2 (10:Int)∧i.1<(5:Int)→(cA KX [.box 0 (cur x.1 i_1.1 i_1.2.1),.int .i64 (4:Int)] fun x_2 y=>Aa y.1 ((↑(List.length i_1.2.2+(2:Nat)):Int)≤IntKind.max IntKind.i64∧∃(i_2:Int×Int×List UInt8),(mnI x.1 i.1 i_2.1 i_2.2.2 (20:Int)∧i.1<(5:Int))∧(byL x_2.1=byL x.1∧y.2.1=i_2.1∧y.2.2=i_2.2.1∧i_1.2.2++ #[(10:UInt8),(10:UInt8)].toList=i_2.2.2∧i.1=i.1∧True)∧True) (∃(i_2:Int×Int×List UInt8),(mnI x.1 i.1 i_2.1 i_2.2.2 (20:Int)∧i.1<(5:Int))∧(byL x_2.1=byL x.1∧y.2.1=i_2.1∧y.2.2=i_2.2.1∧i_1.2.2=i_2.2.2∧i.1=i.1∧True)∧True))∧∀(i_2:Int×Int×List UInt8),mnI x.1 i.1 i_2.1 i_2.2.2 (20:Int)∧i.1<(5:Int)→∃(x_2:List UInt8),#[(97:UInt8)].toList=x_2∧∃(x_3:List UInt8),#[(98:UInt8)].toList=x_3∧∃(x_4:List UInt8),#[(122:UInt8),(111:UInt8),(111:UInt8)].toList=x_4∧∃(x_5:List UInt8),#[(109:UInt8),(105:UInt8),(100:UInt8)].toList=x_5∧cA Er [.box 0 (cur x.1 i_2.1 i_2.2.1),AV.sl true 0 1 (List UInt8) Ck [x_2,x_3,x_4,x_5]] fun x_6 y=>(↑((4:Nat)+List.length y.1):Int)≤IntKind.max IntKind.i64∧(↑(List.length (#[(118:UInt8),(97:UInt8),(114:UInt8),(32:UInt8)].toList++y.1)+(6:Nat)):Int)≤IntKind.max IntKind.i64∧(↑(List.length y.1+(18:Nat)):Int)≤IntKind.max IntKind.i64∧(↑((6:Nat)+List.length y.1):Int)≤IntKind.max IntKind.i64∧(↑(List.length (#[(99:UInt8),(108:UInt8),(97:UInt8),(115:UInt8),(115:UInt8),(32:UInt8)].toList++y.1)+(12:Nat)):Int)≤IntKind.max IntKind.i64∧∃(x_7:List UInt8),#[(118:UInt8),(97:UInt8),(114:UInt8),(32:UInt8)].toList++y.1++ #[(32:UInt8),(61:UInt8),(32:UInt8),(49:UInt8),(59:UInt8),(10:UInt8)].toList=x_7∧∃(x_8:List UInt8),y.1++ #[(40:UInt8),(120:UInt8),(41:UInt8),(32:UInt8),(123:UInt8),(32:UInt8),(114:UInt8),(101:UInt8),(116:UInt8),(117:UInt8),(114:UInt8),(110:UInt8),(32:UInt8),(120:UInt8),(59:UInt8),(32:UInt8),(125:UInt8),(10:UInt8)].toList=x_8∧∃(x_9:List UInt8),#[(99:UInt8),(108:UInt8),(97:UInt8),(115:UInt8),(115:UInt8),(32:UInt8)].toList++y.1++ #[(32:UInt8),(123:UInt8),(32:UInt8),(118:UInt8),(97:UInt8),(114:UInt8),(32:UInt8),(97:UInt8),(59:UInt8),(32:UInt8),(125:UInt8),(10:UInt8)].toList=x_9∧cA Er [.box 0 (cur x_6.1 y.2.1 y.2.2),AV.sl true 0 1 (List UInt8) Ck [x_7,x_8,x_9]] fun x_10 y=>(↑(List.length i_2.2.2+List.length y.1):Int)≤IntKind.max IntKind.i64∧inR IntKind.i64 (i.1+(1:Int))∧eN (Un x) i [.box 0 (cur x_10.1 y.2.1 y.2.2),.str (i_2.2.2++y.1),.int .i64 (i.1+(1:Int))]) (cA KX [.box 0 (cur x_1.1 y.2.1 y.2.2),.int .i64 (4:Int)] fun x_2 y=>Aa y.1 ((↑(List.length i.2.2.2+(7:Nat)):Int)≤IntKind.max IntKind.i64∧rA MJ x [.str (i.2.2.2++ #[(47:UInt8),(47:UInt8),(32:UInt8),(101:UInt8),(110:UInt8),(100:UInt8),(10:UInt8)].toList),.box 0 (cur x_2.1 y.2.1 y.2.2)]) (rA MJ x [.str i.2.2.2,.box 0 (cur x_2.1 y.2.1 y.2.2)]))) (fun x=>by kernel_rfl) fun(x:List UInt8×Int×Int) (hx:Bq x.1 x.2.1)=>(by
 dsimp only[Gj,byL,cA,cur,eA,eN,Un,rA,Dv,KX,Er,MJ,Au,Az,mvL,lnL,mvE,lnE,Br]
 obtain⟨b,i,h⟩:=x;dsimp only at hx ⊢
 have hx:Bq b i:=hx
 (repeat' first|(with_reducible first|rfl|exact True.intro|apply AK|apply And.intro|((first|apply AA|apply AI|apply AB|apply AJ)<;>intro _))|(apply Ax<;>intro _)|apply AH|refine Ae () ?_ ?_|((first|apply AO|apply AN|apply AM|apply AL|apply AG|apply AF|apply AE|apply AD|apply AC)<;>try dsimp only)|apply Ae|(refine Prod.forall.2 ?_;intro _;try dsimp only)|(intro _;try dsimp only))
 all_goals(repeat(rename _∈_∧Bq _ _=>hq;obtain⟨hm,_⟩:=hq))
 all_goals(repeat(rename mnI _ _ _ _ _∧_<5=>hq;obtain⟨_,_⟩:=hq))
 all_goals(try(have hk:=c4h (And.left (show(((0:Int)<5→_)∧(_→_))∧Bq _ _ by assumption))))
 all_goals(try(have hL:=a7K (show mnI _ _ _ _ _ by assumption)))
 all_goals(try(have hm2:=Ue (n:=20) (show _∈[[97],[98],[122,111,111],[109,105,100]] by assumption) (by decide)))
 all_goals(try(have hu:=c3Z (m:=60) (show _∈[_,_,_] by assumption) (by simp only[List.length_append,List.length_cons,List.length_nil];omega) (by simp only[List.length_append,List.length_cons,List.length_nil];omega) (by simp only[List.length_append,List.length_cons,List.length_nil];omega)))
 all_goals first
  |rfl
  |exact hx
  |exact c4d hx
  |(rename _=[]=>hq;cases hq;done)
  |exact(And.right (show(((0:Int)<5→_)∧(_→_))∧Bq _ _ by assumption))
  |exact c4i ⟨by assumption,by assumption⟩ ‹_› hu
  |(have hL2:=a7K (show mnI _ _ _ _ 20 by assumption);(try simp only[AQ]);omega)
  |(with_reducible assumption)
  |(show Bq _ _;with_reducible assumption)
  |exact c4e ‹_›
  |omega
  |exact c4g ‹_› ‹_› (by simp)
  |exact c4f ‹_› ‹_› (by omega)
  |((try simp only[AQ,List.length_append,List.length_cons,List.length_nil] at*);omega)
  |skip)
def MK:Sig:= {X:=List UInt8,args:=fun x=>[.sl false 0 1 UInt8 byA x],pre:=fun x=>x.length≤2^21,Y:=List UInt8×Unit,post:=fun x y=>y.1.length≤2000,res:=fun x y=> .str y.1,outs:=fun x y=>[.top],keep:=true}
theorem c4k:Aj G Tryz.prog 8 MK:=
 vcFun_okP [(28,0,Hx),(29,0,MJ),(10,0,FU)] [] false (fun x=>[]) Tryz.func8 rfl (by decide) ⟨Zi,c4j,Zh,trivial⟩ (fun(x:List UInt8)=>True∧cA Hx [byL x] fun x_1 y=>cA MJ [.box 0 (cur x_1 (0:Int) y)] fun x_2 y=>cA FU [.str y.1] fun x_3 y_1=>Aa (Option.isSome (Cb x_3)) (rA MK x [.str y.1,.top]) (rA MK x [.str #[(118:UInt8),(97:UInt8),(114:UInt8),(32:UInt8),(98:UInt8),(59:UInt8),(10:UInt8),(118:UInt8),(97:UInt8),(114:UInt8),(32:UInt8),(97:UInt8),(59:UInt8),(10:UInt8)].toList,.top])) (fun x=>by kernel_rfl) fun(x:List UInt8) (hx:x.length≤2^21)=>(by
 dsimp only[Gj,byL,cA,cur,Bu,nds,Ab,Ba,rA,FU,MK,MJ,Hx,Db,sgs,srd,Au,Az,mvL,lnL,mvE,lnE]
 have hx:x.length≤2^21:=hx
 (repeat' first|(with_reducible first|rfl|exact True.intro|apply AK|apply And.intro|((first|apply AA|apply AI|apply AB|apply AJ)<;>intro _))|(apply Ax<;>intro _)|apply AH|refine Ae () ?_ ?_|((first|apply AO|apply AN|apply AM|apply AL|apply AG|apply AF|apply AE|apply AD|apply AC)<;>try dsimp only)|apply Ae|(refine Prod.forall.2 ?_;intro _;try dsimp only)|(intro _;try dsimp only))
 all_goals(repeat(rename _∧Bq _ _=>hq;obtain⟨_,_⟩:=hq))
 all_goals first
  |rfl
  |exact hx
  |exact Zj hx
  |exact()
  |omega
  |(with_reducible assumption)
  |((try simp only[List.length_cons,List.length_nil]);omega)
  |skip)
end Go.My
end
section
namespace Go.My
open Go.Eng
end Go.My
end
section
namespace Go.Proofs
open Go.Shelf
end Go.Proofs
end
section
namespace Go.Eng
def Old(w:World):FP:=fun b=>w.heap.size≤b
def Kf(P:Program)(t:TypeId){α:Type}(f:α→List AV)(good:α→Prop):Prop:=
 ∀ {H:Type} (enc:TypeId×Value→H) (w:World) (spare:Nat→Bool) (held:Bool) (Cw:Nat) (cs:List Value) (y:DataW H×List MemPlace),
   DataW.trod enc P w 0 spare held Cw t cs=some y→∃x:α,good x∧AS (Old w) w (f x) cs (fun _=>False)
theorem Uo{Z:FP}{w:World}{a:AV}{v:Value}:AS Z w [a] [v] (fun _=>False)↔Ai Z w a v (fun _=>False):=by
 simp only[AS]
 constructor
 ·rintro⟨u,cs',A,B,e,hj,h1,h2,h3⟩
  simp only[List.cons.injEq] at e
  obtain⟨rfl,rfl⟩:=e
  have:=(Ih hj AP).1
  rwa [Et this] at h1
 ·intro h
  exact⟨v,[],fun _=>False,fun _=>False,rfl,BK _,h,rfl,AP⟩
theorem c4l{Z:FP}{w:World}{a:AV}{azs:List AV}{v:Value}{vs:List Value}(h1:Ai Z w a v (fun _=>False))(h2:AS Z w azs vs (fun _=>False)):
 AS Z w (a::azs) (v::vs) (fun _=>False):=by
 simp only[AS]
 exact⟨v,vs,_,_,rfl,BK _,h1,h2⟩
theorem c4m{k:IntKind}{n:Int}(h:(Lit.int k n).wf=true):inR k n:=by
 unfold inR
 simpa [Lit.wf] using h
theorem c4n{P:Program}{t:TypeId}{k:IntKind}(ht:P.underlying t=some (.int k)):Kf P t (fun n:Int=>[.int k n]) (fun n=>inR k n):=by
 intro H enc w spare held Cw cs y h
 obtain⟨n,rfl,_,hw⟩:=DataW.trod_int ht h
 exact⟨n,c4m hw,Uo.2 (by simp [Ai,emp])⟩
theorem a7L{α:Type}{p:Nat→α→Prop}:∀n,(∀i,i<n→∃x,p i x)→∃l:List α,l.length=n∧∀i x,l[i]? =some x→p i x
 |0,_=>⟨[],rfl,fun i x h=>by simp at h⟩
 |n+1,h=>by
  obtain⟨l,hl,hp⟩:=a7L n fun i hi=>h i (by omega)
  obtain⟨x,hx⟩:=h n (by omega)
  refine⟨l++[x],by simp [hl],fun i y hy=> ?_⟩
  by_cases hi:i<l.length
  ·rw[List.getElem?_append_left hi] at hy;exact hp i y hy
  ·rw[List.getElem?_append_right (by omega)] at hy
   have:i-l.length=0:=by
    rcases Nat.eq_zero_or_pos (i-l.length) with h|h
    ·exact h
    ·rw[List.getElem?_eq_none (by simp;omega)] at hy;cases hy
   rw[this] at hy;simp at hy;subst hy
   rwa [show i=n by omega]
theorem a7M{α:Type}{sz:Nat}{R:α→List Value→FP→Prop}:∀(xs:List α) (arr:List Value),
 (∀(i:Nat) (x:α),xs[i]? =some x→((arr.drop (i*sz)).take sz).length=sz∧R x ((arr.drop (i*sz)).take sz) (fun _=>False))→Rows sz R xs arr (fun _=>False)
 |[],arr,h=>AP
 |x::xs,arr,h=>by
  have h0:=h 0 x rfl
  simp only[Nat.zero_mul,List.drop_zero] at h0
  refine⟨_,_,BK _,h0.1,h0.2,a7M xs (arr.drop sz) fun i y hy=> ?_⟩
  have:=h (i+1) y (by simpa using hy)
  rwa [Nat.succ_mul,Nat.add_comm,←List.drop_drop] at this
theorem c4o{P:Program}{t e:TypeId}{sz:Nat}{α:Type}{f:α→List AV}{good:α→Prop}(ht:P.underlying t=some (.slice e))(hc:P.cellsOf e=sz)(hpos:0<sz)
 (ho:Kf P e f good):Kf P t (fun l:List α=>[.sl false 0 sz α f l]) (fun l=>l.length<2^63∧∀x∈l,good x):=by
 intro H enc w spare held Cw cs y h
 rcases DataW.trod_slice ht h with⟨rfl,_⟩|⟨a,len,cap,elems,rest,n,_,rfl,_,hb,hl,hm,hlen,hel,_,_⟩
 ·refine⟨[],⟨by simp,by simp⟩,Uo.2 ?_⟩
  simp only[Ai]
  exact⟨none,0,0,rfl,rfl,Nat.le_refl _,.inr ⟨trivial,AP,.inl trivial⟩⟩
 ·have each:∀i,i<len→∃x:α,good x∧∃cs,w.cells? 0 (a.add (i*sz)) sz=some cs∧AS (Old w) w (f x) cs (fun _=>False):=by
   intro i hi
   have h1:=hel i hi
   rw[hc] at h1
   rw[List.getElem?_eq_getElem (by omega:i<elems.length),Option.bind_eq_some_iff] at h1
   obtain⟨cs,h2,h3⟩:=h1
   obtain⟨x,hg,hr⟩:=ho enc w spare held n cs _ h3
   exact⟨x,hg,cs,h2,hr⟩
  obtain⟨l,hll,hp⟩:=a7L len each
  refine⟨l,⟨?_,?_⟩,Uo.2 ?_⟩
  ·unfold maxLen at hm;omega
  ·intro x hx
   obtain⟨i,hi⟩:=List.getElem?_of_mem hx
   exact(hp i x hi).1
  ·simp only[Ai]
   refine⟨some a,len,cap,rfl,hll.symm,hl,.inr ⟨trivial,AP,?_⟩⟩
   rcases Nat.eq_zero_or_pos len with h0|h0
   ·exact .inl (List.length_eq_zero_iff.1 (by omega))
   ·refine .inr ?_
    obtain⟨x0,_,c0,hc0,_⟩:=each 0 h0
    have h00:=(World.cells?_some hc0).2.2 0 hpos
    have hcl:=(World.cells?_some hc0).2.1
    simp only[Nat.zero_mul,Addr.add] at h00
    obtain⟨b,off,sp⟩:=a
    simp only[World.cell?,if_true] at h00
    split at h00
    ·rename_i arr ty fr harr
     split at h00
     ·rw[List.getElem?_eq_getElem (by omega)] at h00;cases h00
     ·rename_i hsp
      have hsp:sp=none:=by simpa using hsp
      subst hsp
      have hlt:b<w.heap.size:=by
       rcases Nat.lt_or_ge b w.heap.size with h|h
       ·exact h
       ·rw[Array.getElem?_eq_none h] at harr;cases harr
      refine⟨b,off,arr,ty,fr,rfl,by unfold Old;omega,harr,a7M l _ fun i x hx=> ?_⟩
      have hi:i<l.length:=(List.getElem?_eq_some_iff.1 hx).1
      obtain⟨hg,cs,hcs,hr⟩:=hp i x hx
      obtain⟨_,hcl,hce⟩:=World.cells?_some hcs
      have e:((arr.toList.drop off).drop (i*sz)).take sz=cs:=by
       refine List.ext_getElem? fun j=> ?_
       rw[List.getElem?_take]
       split
       ·rename_i hj
        have:=hce j hj
        rw[←this]
        simp only[List.getElem?_drop,Array.getElem?_toList]
        have ea:((⟨b,off,none⟩:Addr).add (i*sz)).add j=⟨b,off+i*sz+j,none⟩:=by
         unfold Addr.add
         by_cases h1:i*sz=0<;>by_cases h2:j=0<;>simp [h1,h2]
        rw[ea]
        simp only[World.cell?,harr]
        simp [Nat.add_assoc]
       ·rw[List.getElem?_eq_none (by omega)]
      rw[e]
      exact⟨hcl,hr⟩
    ·rw[List.getElem?_eq_getElem (by omega)] at h00;cases h00
end Go.Eng
end
section
namespace Go.My
open Go.Eng Go.Proofs
variable {G:GInv}
def eqF{α:Type}(p:α→α→Bool):List α→List α→Bool
 |[],[]=>true
 |x::a,y::b=>p x y&&eqF p a b
 |_,_=>false
def eqW{α:Type}(p:α→α→Bool)(a b:List α)(i:Int):Prop:=((0≤i∧i≤a.length)∧a.length=b.length)∧eqF p a b=eqF p (a.drop i.toNat) (b.drop i.toNat)
attribute [local irreducible] eqW
end Go.My
end
section
namespace Go.My
open Go.Eng Go.Proofs
variable {G:GInv}
structure FoB (L A:List Nd):Prop where
 t:tOk L
 ta:tOk A
 k:KD L
 ka:KD A
 self:b4i A=A
 zero:a3Y A=0
 len:A.length≤L.length
 cnt:A.length=L.length↔¬0<a3Y L
 same:A=L∨A.length≠L.length
 run:∀ {t az st y z},ruQ L t az st y→ruQ A t az st z→y=z
def QN:Sig:= {X:=List Int×Unit,args:=fun x=>[Af x.1,Af x.1],pre:=fun x=>x.1.length<2^62,Y:=Unit,post:=fun x y=>True,res:=fun x y=> .bool true,outs:=fun x y=>[.top,.top],keep:=false}
def Up(x:List Int×Unit):LS:= {ι:=Int,inv:=fun i=>0≤i∧i≤x.1.length,regs:=fun i=>[(0,Af x.1),(1,Af x.1),(5,.int .i64 i)],als:=[],meas:=fun i=>x.1.length-i.toNat}
theorem smIn2_ok:Aj G Tryz.prog 48 QN:=
 vcFun_okP [] [] false (fun x=>[(4,Up x)]) Tryz.func48 rfl (by decide) trivial (fun(x:List Int×Unit)=>(∀(y:Unit),True→True∧True∧True∧True)∧Aa ((↑(List.length x.1):Int) != (↑(List.length x.1):Int)) (rA QN x [.bool false,.top,.top]) (eA (Up x) [Af x.1,Af x.1,.int .i64 (0:Int)]∧∀(i:Int),(0:Int)≤i∧i≤(↑(List.length x.1):Int)→Aa (decide (i<(↑(List.length x.1):Int))) (true=true∧true=true∧((0:Int)≤i∧i<(↑(List.length x.1):Int))∧∀(e:Int),x.1[Int.toNat i]? =some e→((0:Int)≤i∧i<(↑(List.length x.1):Int))∧∀(e_1:Int),x.1[Int.toNat i]? =some e_1→Aa (e != e_1) (rA QN x [.bool false,.top,.top]) (inR IntKind.i64 (i+(1:Int))∧eN (Up x) i [Af x.1,Af x.1,.int .i64 (i+(1:Int))])) (rA QN x [.bool true,.top,.top]))) (fun x=>by kernel_rfl) fun(x:List Int×Unit) (hx:x.1.length<2^62)=>(by
 dsimp only[eA,eN,Up,Af,rA,QN,Au,Az,Br]
 obtain⟨x,_⟩:=x;dsimp only at hx ⊢
 have hx:x.length<2^62:=hx
 (repeat' first|(with_reducible first|rfl|exact True.intro|apply AK|apply And.intro|((first|apply AA|apply AI|apply AB|apply AJ)<;>intro _))|(apply Ax<;>intro _)|apply AH|refine Ae () ?_ ?_|((first|apply AO|apply AN|apply AM|apply AL|apply AG|apply AF|apply AE|apply AD|apply AC)<;>try dsimp only)|apply Ae|(refine Prod.forall.2 ?_;intro _;try dsimp only)|(intro _;try dsimp only))
 all_goals(try(repeat(rename(_:List Int)[_]? =some _=>hq;revert hq;rename(_:List Int)[_]? =some _=>hr;intro hq;rw[hr] at hq;cases hq)))
 all_goals first
  |rfl
  |omega
  |(exfalso;rename _≠_=>hq;exact hq rfl)
  |(exfalso;rename(_==_)=false=>hq;rw[beq_self_eq_true] at hq;cases hq;done)
  |((try simp only[AQ]);omega)
  |skip)
def IT:Sig:= {X:=RuY×Unit,args:=fun x=>[.agg [Af x.1.1,.int .i64 x.1.2.1,.int .i64 x.1.2.2.1,.int .i64 x.1.2.2.2],.agg [Af x.1.1,.int .i64 x.1.2.1,.int .i64 x.1.2.2.1,.int .i64 x.1.2.2.2]],pre:=fun x=>x.1.1.length<2^62,Y:=Unit,post:=fun x y=>True,res:=fun x y=> .bool true,outs:=fun x y=>[.top,.top],keep:=false}
def Uq(x:RuY×Unit):LS:= {ι:=Int,inv:=fun i=>0≤i∧i≤x.1.1.length,regs:=fun i=>[(2,.box 0 [Af x.1.1,.int .i64 x.1.2.1,.int .i64 x.1.2.2.1,.int .i64 x.1.2.2.2]),(3,.box 0 [Af x.1.1,.int .i64 x.1.2.1,.int .i64 x.1.2.2.1,.int .i64 x.1.2.2.2]),(5,.int .i64 i)],als:=[],meas:=fun i=>x.1.1.length-i.toNat}
theorem c4p:Aj G Tryz.prog 12 IT:=
 vcFun_okP [] [] false (fun x=>[(4,Uq x)]) Tryz.func12 rfl (by decide) trivial (fun(x:RuY×Unit)=>(∀(y:Unit),True→True∧True∧True∧True)∧Aa ((↑(List.length x.1.1):Int) != (↑(List.length x.1.1):Int)) (rA IT x [.bool false,.top,.top]) (Aa (x.1.2.1 != x.1.2.1) (rA IT x [.bool false,.top,.top]) (Aa (x.1.2.2.1 != x.1.2.2.1) (rA IT x [.bool false,.top,.top]) (Aa (x.1.2.2.2 != x.1.2.2.2) (rA IT x [.bool false,.top,.top]) (eA (Uq x) [.box 0 [Af x.1.1,.int .i64 x.1.2.1,.int .i64 x.1.2.2.1,.int .i64 x.1.2.2.2],.box 0 [Af x.1.1,.int .i64 x.1.2.1,.int .i64 x.1.2.2.1,.int .i64 x.1.2.2.2],.int .i64 (0:Int)]∧∀(i:Int),(0:Int)≤i∧i≤(↑(List.length x.1.1):Int)→Aa (decide (i<(↑(List.length x.1.1):Int))) (true=true∧true=true∧((0:Int)≤i∧i<(↑(List.length x.1.1):Int))∧∀(e:Int),x.1.1[Int.toNat i]? =some e→((0:Int)≤i∧i<(↑(List.length x.1.1):Int))∧∀(e_1:Int),x.1.1[Int.toNat i]? =some e_1→Aa (e != e_1) (rA IT x [.bool false,.top,.top]) (inR IntKind.i64 (i+(1:Int))∧eN (Uq x) i [.box 0 [Af x.1.1,.int .i64 x.1.2.1,.int .i64 x.1.2.2.1,.int .i64 x.1.2.2.2],.box 0 [Af x.1.1,.int .i64 x.1.2.1,.int .i64 x.1.2.2.1,.int .i64 x.1.2.2.2],.int .i64 (i+(1:Int))])) (rA IT x [.bool true,.top,.top])))))) (fun x=>by kernel_rfl) fun(x:RuY×Unit) (hx:x.1.1.length<2^62)=>(by
 dsimp only[eA,eN,Uq,Af,rA,IT,Au,Az,Br]
 obtain⟨⟨o,r,c,s⟩,_⟩:=x;dsimp only at hx ⊢
 have hx:o.length<2^62:=hx
 (repeat' first|(with_reducible first|rfl|exact True.intro|apply AK|apply And.intro|((first|apply AA|apply AI|apply AB|apply AJ)<;>intro _))|(apply Ax<;>intro _)|apply AH|refine Ae () ?_ ?_|((first|apply AO|apply AN|apply AM|apply AL|apply AG|apply AF|apply AE|apply AD|apply AC)<;>try dsimp only)|apply Ae|(refine Prod.forall.2 ?_;intro _;try dsimp only)|(intro _;try dsimp only))
 all_goals(try(repeat(rename(_:List Int)[_]? =some _=>hq;revert hq;rename(_:List Int)[_]? =some _=>hr;intro hq;rw[hr] at hq;cases hq)))
 all_goals first
  |rfl
  |omega
  |exact()
  |(exfalso;rename _≠_=>hq;exact hq rfl)
  |(exfalso;simp at*;done)
  |((try simp only[AQ]);omega)
  |skip)
end Go.My
end
