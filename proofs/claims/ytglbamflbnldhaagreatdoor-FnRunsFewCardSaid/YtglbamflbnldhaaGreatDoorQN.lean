/- joined -/
import Derived.Test.YtglbamflbnldhaaGreatDoorQM
import Derived.ProofKit
import Derived.Test.YtglbamflbnldhaaGreatDoorProg
set_option linter.unusedSimpArgs false
set_option linter.unusedVariables false
section
namespace Go.My
open Go.Eng Go.Proofs
variable {G:GInv}
theorem a5z{c:UInt8}(h1:Cw c=false)(h2:Bh c=false):BP c=false:=by simp [BP,h1,h2]
theorem b8v{c:UInt8}(h1:Cw c=true):BP c=true:=by simp [BP,h1]
theorem b8w{c:UInt8}(h1:Bh c=true):BP c=true:=by simp [BP,h1]
theorem b8x{s:List UInt8}:CG s≤s.length:=by
 unfold CG
 cases h:DY isQ (s.drop 1) with
 |none=>simp
 |some i=>
  simp only
  split
  ·have:=Vo h;simp at this;omega
  ·omega
theorem b8y{s:List UInt8}:Ct s≤s.length:=by
 unfold Ct
 split
 ·split
  ·exact SG
  ·omega
 ·omega
theorem b8z{s:List UInt8}:(FQ s).length≤2:=by
 rw[a4x]
 split
 ·simp;omega
 ·split
  ·simp;omega
  ·simp
theorem b8A{x:List UInt8×Int}(h0:0≤x.2)(h1:x.2<x.1.length):(Ct (x.1.drop x.2.toNat):Int)≤x.1.length-x.2∧(CG (x.1.drop x.2.toNat):Int)≤x.1.length-x.2:=by
 have a:= @b8y (x.1.drop x.2.toNat);have b:= @b8x (x.1.drop x.2.toNat)
 simp at a b;omega
theorem a5A{x:List UInt8×Int}{i:Int}{c d e:UInt8}(h0:0≤x.2)(hf:Cw c=false)(hc:x.1[x.2.toNat]? =some c)(hg:Bh d=true)(hd:x.1[x.2.toNat]? =some d)(h:rwI Bh x i)(hz:Bh e=false)(he:x.1[i.toNat]? =some e):
 (i-x.2>12→sgR x 0 [] 0 false 0)∧(¬i-x.2>12→sgR x 2 (List.drop (Int.toNat x.2) (List.take (Int.toNat i) x.1)) x.2 false (i-x.2)):=by
 rw[hc] at hd;cases hd
 exact PW h0 hc hf hg h (.inr ⟨_,he,hz⟩)
theorem a5B{t:List UInt8}{i br:Int}{l:List Sg}{n:Nat}{c c2:UInt8}{k p m:Int}{tx:List UInt8}{b:Bool}(h32:(c.toNat:Int)≠32)(hc:t[i.toNat]? =some c)(h10:(c2.toNat:Int)≠10)(hc2:t[i.toNat]? =some c2)(h:sgJ t i br l n)(hi:i<t.length)(hs:sgR (t,i) k tx p b m)(hm:m≠0):
 sgJ t (i+m) 0 (l++[⟨k,tx,p,decide (br>1)⟩]) (n-1)∧n-1<n:=by
 rw[hc] at hc2;cases hc2
 rcases hs with⟨h1,⟨rfl,rfl,rfl,rfl⟩,rfl⟩|hs
 ·exact WX hc h hi (by omega) (by omega) h1
 ·exact(hm hs.2).elim
theorem a5C{t:List UInt8}{i br:Int}{l:List Sg}{n:Nat}{c c2:UInt8}{k p m:Int}{tx:List UInt8}{b:Bool}(h32:(c.toNat:Int)≠32)(hc:t[i.toNat]? =some c)(h10:(c2.toNat:Int)≠10)(hc2:t[i.toNat]? =some c2)(h:sgJ t i br l n)(hi:i<t.length)(hs:sgR (t,i) k tx p b m)(hm:m=0):Cj t=none:=by
 rw[hc] at hc2;cases hc2
 rcases hs with⟨h1,_,h2⟩|hs
 ·have a:=(a4l h1).1;rw[hm] at h2;rw[←h2] at a;omega
 ·exact WY hc h hi (by omega) (by omega) hs.1
theorem b8B{t:List UInt8}{i br:Int}{l:List Sg}{n:Nat}{k p m:Int}{tx:List UInt8}{b:Bool}(h:sgJ t i br l n)(hs:sgR (t,i) k tx p b m):0≤m∧m≤t.length-i:=by
 rcases hs with⟨h1,_,h2⟩|hs
 ·have a:=WW h h1;simp only at h2;omega
 ·have:=JM h;omega
attribute [local irreducible] rwI sgR Bb Ct CG FQ
def Ts:Sig:= {X:=List UInt8×Int,args:=fun x=>[.str x.1,.int .i64 x.2],pre:=fun x=>0≤x.2∧x.2<x.1.length∧x.1.length<2^62,Y:=Int×List UInt8×Int×Bool×Int,post:=fun x y=>sgR x y.1 y.2.1 y.2.2.1 y.2.2.2.1 y.2.2.2.2,res:=fun x y=> .tup [.agg [.int .i64 y.1,.str y.2.1,.int .i64 y.2.2.1,.bool y.2.2.2.1],.int .i64 y.2.2.2.2],outs:=fun x y=>[.top,.top],keep:=false}
def Qd(x:List UInt8×Int):LS:= {ι:=Int,inv:=fun i=>rwI BP x i,regs:=fun i=>[(0,.str x.1),(1,.int .i64 x.2),(4,.box 0 [.int .i64 0,.str [],.int .i64 0,.bool false]),(6,.int .i64 i)],als:=[],meas:=fun i=>x.1.length-i.toNat}
def Tt(x:List UInt8×Int):LS:= {ι:=Int,inv:=fun i=>rwI Bh x i,regs:=fun i=>[(0,.str x.1),(1,.int .i64 x.2),(4,.box 0 [.int .i64 0,.str [],.int .i64 0,.bool false]),(6,.int .i64 i)],als:=[],meas:=fun i=>x.1.length-i.toNat}
theorem b8C:Ai G Tryz.prog 57 Ts:=
 vcFun_okP [(83,0,GK),(84,0,IL),(85,0,EZ),(86,0,FA),(87,0,HU),(88,0,Mr)] [] false (fun x=>[(6,Qd x),(12,Tt x)]) Tryz.func57 rfl (by decide) ⟨a0h,a0c,ZK,Vn,a0g,b6d,trivial⟩ (fun(x:List UInt8×Int)=>(∀(y:Int×List UInt8×Int×Bool×Int),sgR x y.1 y.2.1 y.2.2.1 y.2.2.2.1 y.2.2.2.2→((True∧True∧True∧True∧True)∧True∧True)∧True∧True∧True)∧cA GK [.str x.1,.int .i64 x.2] fun x_1 y=>Aa (decide ((↑(Ct (List.drop (Int.toNat x_1.2) x_1.1)):Int)>(0:Int))) (inR IntKind.i64 (x.2+(↑(Ct (List.drop (Int.toNat x_1.2) x_1.1)):Int))∧((0:Int)≤x.2∧x.2≤x.2+(↑(Ct (List.drop (Int.toNat x_1.2) x_1.1)):Int)∧x.2+(↑(Ct (List.drop (Int.toNat x_1.2) x_1.1)):Int)≤(↑(List.length x.1):Int))∧cA IL [.str (List.drop (Int.toNat x.2) (List.take (Int.toNat (x.2+(↑(Ct (List.drop (Int.toNat x_1.2) x_1.1)):Int))) x.1))] fun x_2 y=>∃(y:Int×List UInt8×Int×Bool×Int),sgR x y.1 y.2.1 y.2.2.1 y.2.2.2.1 y.2.2.2.2∧(5:Int)=y.1∧CL x_2=y.2.1∧x.2=y.2.2.1∧false=y.2.2.2.1∧(↑(Ct (List.drop (Int.toNat x_1.2) x_1.1)):Int)=y.2.2.2.2∧True) (((0:Int)≤x.2∧x.2<(↑(List.length x.1):Int))∧∀(c:UInt8),x.1[Int.toNat x.2]? =some c→cA EZ [AV.int IntKind.u8 (↑(UInt8.toNat c):Int)] fun x_2 y=>Aa (Cw x_2) (eA (Qd x) [.str x.1,.int .i64 x.2,.box 0 [.int .i64 (0:Int),.str #[].toList,.int .i64 (0:Int),.bool false],.int .i64 x.2]∧∀(i:Int),rwI BP x i→Aa (decide (i<(↑(List.length x.1):Int))) (((0:Int)≤i∧i<(↑(List.length x.1):Int))∧∀(c:UInt8),x.1[Int.toNat i]? =some c→cA EZ [AV.int IntKind.u8 (↑(UInt8.toNat c):Int)] fun x_3 y=>Aa (Cw x_3) (inR IntKind.i64 (i+(1:Int))∧eN (Qd x) i [.str x.1,.int .i64 x.2,.box 0 [.int .i64 (0:Int),.str [],.int .i64 (0:Int),.bool false],.int .i64 (i+(1:Int))]) (((0:Int)≤i∧i<(↑(List.length x.1):Int))∧∀(c:UInt8),x.1[Int.toNat i]? =some c→cA FA [AV.int IntKind.u8 (↑(UInt8.toNat c):Int)] fun x_4 y=>Aa (Bh x_4) (inR IntKind.i64 (i+(1:Int))∧eN (Qd x) i [.str x.1,.int .i64 x.2,.box 0 [.int .i64 (0:Int),.str [],.int .i64 (0:Int),.bool false],.int .i64 (i+(1:Int))]) (inR IntKind.i64 (i-x.2)∧Aa (decide (i-x.2>(30:Int))) (∃(y:Int×List UInt8×Int×Bool×Int),sgR x y.1 y.2.1 y.2.2.1 y.2.2.2.1 y.2.2.2.2∧(0:Int)=y.1∧ #[].toList=y.2.1∧(0:Int)=y.2.2.1∧false=y.2.2.2.1∧(0:Int)=y.2.2.2.2∧True) (((0:Int)≤x.2∧x.2≤i∧i≤(↑(List.length x.1):Int))∧inR IntKind.i64 (i-x.2)∧∃(y:Int×List UInt8×Int×Bool×Int),sgR x y.1 y.2.1 y.2.2.1 y.2.2.2.1 y.2.2.2.2∧(1:Int)=y.1∧List.drop (Int.toNat x.2) (List.take (Int.toNat i) x.1)=y.2.1∧x.2=y.2.2.1∧false=y.2.2.2.1∧i-x.2=y.2.2.2.2∧True)))) (inR IntKind.i64 (i-x.2)∧Aa (decide (i-x.2>(30:Int))) (∃(y:Int×List UInt8×Int×Bool×Int),sgR x y.1 y.2.1 y.2.2.1 y.2.2.2.1 y.2.2.2.2∧(0:Int)=y.1∧ #[].toList=y.2.1∧(0:Int)=y.2.2.1∧false=y.2.2.2.1∧(0:Int)=y.2.2.2.2∧True) (((0:Int)≤x.2∧x.2≤i∧i≤(↑(List.length x.1):Int))∧inR IntKind.i64 (i-x.2)∧∃(y:Int×List UInt8×Int×Bool×Int),sgR x y.1 y.2.1 y.2.2.1 y.2.2.2.1 y.2.2.2.2∧(1:Int)=y.1∧List.drop (Int.toNat x.2) (List.take (Int.toNat i) x.1)=y.2.1∧x.2=y.2.2.1∧false=y.2.2.2.1∧i-x.2=y.2.2.2.2∧True))) (((0:Int)≤x.2∧x.2<(↑(List.length x.1):Int))∧∀(c:UInt8),x.1[Int.toNat x.2]? =some c→cA FA [AV.int IntKind.u8 (↑(UInt8.toNat c):Int)] fun x_3 y=>Aa (Bh x_3) (eA (Tt x) [.str x.1,.int .i64 x.2,.box 0 [.int .i64 (0:Int),.str #[].toList,.int .i64 (0:Int),.bool false],.int .i64 x.2]∧∀(i:Int),rwI Bh x i→Aa (decide (i<(↑(List.length x.1):Int))) (((0:Int)≤i∧i<(↑(List.length x.1):Int))∧∀(c:UInt8),x.1[Int.toNat i]? =some c→cA FA [AV.int IntKind.u8 (↑(UInt8.toNat c):Int)] fun x_4 y=>Aa (Bh x_4) (inR IntKind.i64 (i+(1:Int))∧eN (Tt x) i [.str x.1,.int .i64 x.2,.box 0 [.int .i64 (0:Int),.str [],.int .i64 (0:Int),.bool false],.int .i64 (i+(1:Int))]) (inR IntKind.i64 (i-x.2)∧Aa (decide (i-x.2>(12:Int))) (∃(y:Int×List UInt8×Int×Bool×Int),sgR x y.1 y.2.1 y.2.2.1 y.2.2.2.1 y.2.2.2.2∧(0:Int)=y.1∧ #[].toList=y.2.1∧(0:Int)=y.2.2.1∧false=y.2.2.2.1∧(0:Int)=y.2.2.2.2∧True) (((0:Int)≤x.2∧x.2≤i∧i≤(↑(List.length x.1):Int))∧inR IntKind.i64 (i-x.2)∧∃(y:Int×List UInt8×Int×Bool×Int),sgR x y.1 y.2.1 y.2.2.1 y.2.2.2.1 y.2.2.2.2∧(2:Int)=y.1∧List.drop (Int.toNat x.2) (List.take (Int.toNat i) x.1)=y.2.1∧x.2=y.2.2.1∧false=y.2.2.2.1∧i-x.2=y.2.2.2.2∧True))) (inR IntKind.i64 (i-x.2)∧Aa (decide (i-x.2>(12:Int))) (∃(y:Int×List UInt8×Int×Bool×Int),sgR x y.1 y.2.1 y.2.2.1 y.2.2.2.1 y.2.2.2.2∧(0:Int)=y.1∧ #[].toList=y.2.1∧(0:Int)=y.2.2.1∧false=y.2.2.2.1∧(0:Int)=y.2.2.2.2∧True) (((0:Int)≤x.2∧x.2≤i∧i≤(↑(List.length x.1):Int))∧inR IntKind.i64 (i-x.2)∧∃(y:Int×List UInt8×Int×Bool×Int),sgR x y.1 y.2.1 y.2.2.1 y.2.2.2.1 y.2.2.2.2∧(2:Int)=y.1∧List.drop (Int.toNat x.2) (List.take (Int.toNat i) x.1)=y.2.1∧x.2=y.2.2.1∧false=y.2.2.2.1∧i-x.2=y.2.2.2.2∧True))) (((0:Int)≤x.2∧x.2<(↑(List.length x.1):Int))∧∀(c:UInt8),x.1[Int.toNat x.2]? =some c→Aa ((↑(UInt8.toNat c):Int)==(39:Int)) (cA HU [.str x.1,.int .i64 x.2] fun x_4 y=>inR IntKind.i64 (x.2+(↑(CG (List.drop (Int.toNat x_4.2) x_4.1)):Int))∧((0:Int)≤x.2∧x.2≤x.2+(↑(CG (List.drop (Int.toNat x_4.2) x_4.1)):Int)∧x.2+(↑(CG (List.drop (Int.toNat x_4.2) x_4.1)):Int)≤(↑(List.length x.1):Int))∧∃(y:Int×List UInt8×Int×Bool×Int),sgR x y.1 y.2.1 y.2.2.1 y.2.2.2.1 y.2.2.2.2∧(3:Int)=y.1∧List.drop (Int.toNat x.2) (List.take (Int.toNat (x.2+(↑(CG (List.drop (Int.toNat x_4.2) x_4.1)):Int))) x.1)=y.2.1∧x.2=y.2.2.1∧false=y.2.2.2.1∧(↑(CG (List.drop (Int.toNat x_4.2) x_4.1)):Int)=y.2.2.2.2∧True) (cA Mr [.str x.1,.int .i64 x.2] fun x_4 y=>∃(y:Int×List UInt8×Int×Bool×Int),sgR x y.1 y.2.1 y.2.2.1 y.2.2.2.1 y.2.2.2.2∧(4:Int)=y.1∧FQ (List.drop (Int.toNat x_4.2) x_4.1)=y.2.1∧x.2=y.2.2.1∧false=y.2.2.2.1∧(↑(List.length (FQ (List.drop (Int.toNat x_4.2) x_4.1))):Int)=y.2.2.2.2∧True))))) (fun x=>by kernel_rfl) fun(x:List UInt8×Int) (hx:0≤x.2∧x.2<x.1.length∧x.1.length<2^62)=>(by
 dsimp only[cA,eA,eN,Tt,Qd,FA,EZ,GK,HU,Mr,IL,Au,Az,mvL,lnL,mvE,lnE,Bq]
 obtain⟨h1,h2,h3⟩:=hx
 have hn:=b8A h1 h2
 (repeat' first|(with_reducible first|rfl|exact True.intro|apply AK|apply And.intro|((first|apply AA|apply AI|apply AB|apply AJ)<;>intro _))|(apply Ax<;>intro _)|apply AH|refine Ae () ?_ ?_|((first|apply AO|apply AN|apply AM|apply AL|apply AG|apply AF|apply AE|apply AD|apply AC)<;>try dsimp only)|apply Ae|(refine Prod.forall.2 ?_;intro _;try dsimp only)|(intro _;try dsimp only))
 all_goals(try((repeat(rename x.1[_]? =some _=>hq;revert hq;rename x.1[_]? =some _=>hr;intro hq;rw[hr] at hq;cases hq))))
 all_goals first
  |rfl
  |omega
  |exact b6g h1 ‹_›
  |exact b6e (by omega)
  |exact Xh h1 ‹_› ‹_› ‹_› (b8v ‹_›)
  |exact Xh h1 ‹_› ‹_› ‹_› (b8w ‹_›)
  |exact Xh h1 ‹_› ‹_› ‹_› ‹_›
  |exact(SW h1 ‹_› ‹_› ‹_› (.inl ‹_›)).1 ‹_›
  |exact(SW h1 ‹_› ‹_› ‹_› (.inl ‹_›)).2 ‹_›
  |exact(SW h1 ‹_› ‹_› ‹_› (.inr ⟨_,by assumption,a5z ‹_› ‹_›⟩)).1 ‹_›
  |exact(SW h1 ‹_› ‹_› ‹_› (.inr ⟨_,by assumption,a5z ‹_› ‹_›⟩)).2 ‹_›
  |exact(PW h1 ‹_› ‹_› ‹_› ‹_› (.inl ‹_›)).1 ‹_›
  |exact(PW h1 ‹_› ‹_› ‹_› ‹_› (.inl ‹_›)).2 ‹_›
  |exact(PW h1 ‹_› ‹_› ‹_› ‹_› (.inr ⟨_,by assumption,by assumption⟩)).1 ‹_›
  |exact(PW h1 ‹_› ‹_› ‹_› ‹_› (.inr ⟨_,by assumption,by assumption⟩)).2 ‹_›
  |exact(a5A h1 ‹_› ‹_› ‹_› ‹_› ‹_› ‹_› ‹_›).1 ‹_›
  |exact(a5A h1 ‹_› ‹_› ‹_› ‹_› ‹_› ‹_› ‹_›).2 ‹_›
  |exact b6i h1 ‹_› ‹_› ‹_› ‹_›
  |exact b6j h1 ‹_› ‹_› ‹_› ‹_› ‹_›
  |(have hq:=b6f (show rwI _ _ _ by assumption);(try simp only[AR]);omega)
  |(have hq:= @b8z (x.1.drop x.2.toNat);(try simp only[AR]);omega)
  |(simp only[List.length_drop,List.length_take];omega)
  |skip)
attribute [local irreducible] sgJ Cj
def KY:Sig:= {X:=List UInt8,args:=fun x=>[.str x],pre:=fun x=>x.length<2^62,Y:=List Sg×Int,post:=fun x y=>sgQ x y.1,res:=fun x y=> .tup [sgs y.1,.int .i64 y.2,.bool (Cj x).isSome],outs:=fun x y=>[.top],keep:=true}
def Oe(x:List UInt8):LS:= {ι:=Int×Int×List Sg×Nat,inv:=fun i=>sgJ x i.1 i.2.1 i.2.2.1 i.2.2.2,regs:=fun i=>[(0,.str x),(5,Ed i.2.2.1),(6,.int .i64 i.1),(7,.int .i64 i.2.1)],als:=[],meas:=fun i=>i.2.2.2}
theorem b8D:Ai G Tryz.prog 32 KY:=
 vcFun_okP [(57,0,Ts)] [(54,⟨Sg,sgA⟩)] false (fun x=>[(6,Oe x)]) Tryz.func32 rfl (by decide) ⟨b8C,trivial⟩ (fun(x:List UInt8)=>True∧Aa (decide ((↑(List.length x):Int)>(3000:Int))) (rA KY x [.tup [Ed [],.int .i64 (3000:Int),.bool false],.top]) (eA (Oe x) [.str x,Ed [],.int .i64 (0:Int),.int .i64 (0:Int)]∧∀(i:Int×Int×List Sg×Nat),sgJ x i.1 i.2.1 i.2.2.1 i.2.2.2→Aa (decide (i.1<(↑(List.length x):Int))) (((0:Int)≤i.1∧i.1<(↑(List.length x):Int))∧∀(c:UInt8),x[Int.toNat i.1]? =some c→Aa ((↑(UInt8.toNat c):Int)==(32:Int)) (inR IntKind.i64 (i.1+(1:Int))∧eN (Oe x) i [.str x,Ed i.2.2.1,.int .i64 (i.1+(1:Int)),.int .i64 i.2.1]) (((0:Int)≤i.1∧i.1<(↑(List.length x):Int))∧∀(c:UInt8),x[Int.toNat i.1]? =some c→Aa ((↑(UInt8.toNat c):Int)==(10:Int)) (inR IntKind.i64 (i.2.1+(1:Int))∧inR IntKind.i64 (i.1+(1:Int))∧eN (Oe x) i [.str x,Ed i.2.2.1,.int .i64 (i.1+(1:Int)),.int .i64 (i.2.1+(1:Int))]) (cA Ts [.str x,.int .i64 i.1] fun x_1 y=>Aa (y.2.2.2.2==(0:Int)) (rA KY x [.tup [Ed [],.int .i64 i.1,.bool false],.top]) (∃(x_2:Sg),y.1=x_2.kind∧y.2.1=x_2.text∧y.2.2.1=x_2.pos∧decide (i.2.1>(1:Int))=x_2.blank∧∃(zs:List Sg),Ed [x_2]=Ed zs∧Bj sgA∧AW (List.length i.2.2.1+List.length zs) (40:Nat)∧inR IntKind.i64 (i.1+y.2.2.2.2)∧eN (Oe x) i [.str x,Ed (i.2.2.1++zs),.int .i64 (i.1+y.2.2.2.2),.int .i64 (0:Int)])))) (rA KY x [.tup [Ed i.2.2.1,.int .i64 (0:Int),.bool true],.top]))) (fun x=>by kernel_rfl) fun(x:List UInt8) (hx:x.length<2^62)=>(by
 dsimp only[cA,eA,eN,Oe,Ed,rA,Ts,KY,Bu,sgs,Au,Az,mvL,lnL,mvE,lnE,Bq]
 have hx:x.length<2^62:=hx
 (repeat' first|(with_reducible first|rfl|exact True.intro|apply AK|apply And.intro|((first|apply AA|apply AI|apply AB|apply AJ)<;>intro _))|(apply Ax<;>intro _)|apply AH|refine Ae () ?_ ?_|((first|apply AO|apply AN|apply AM|apply AL|apply AG|apply AF|apply AE|apply AD|apply AC)<;>try dsimp only)|apply Ae|(refine Prod.forall.2 ?_;intro _;try dsimp only)|(intro _;try dsimp only))
 all_goals first
  |(show Nat;skip)
  |rfl
  |exact a4m ‹_›
  |exact(KQ (SK ‹_›)).2
  |exact(KQ (SK ‹_›)).1.symm
  |exact(SH ‹_› ‹_› ‹_› (by omega)).1
  |exact(SI ‹_› ‹_› ‹_› (by omega)).1
  |exact(a5B ‹_› ‹_› ‹_› ‹_› ‹_› ‹_› ‹_› ‹_›).1
  |exact(KQ (a5C ‹_› ‹_› ‹_› ‹_› ‹_› ‹_› ‹_› ‹_›)).2
  |exact(KQ (a5C ‹_› ‹_› ‹_› ‹_› ‹_› ‹_› ‹_› ‹_›)).1.symm
  |exact(SJ ‹_› ‹_›).2
  |exact(SJ ‹_› ‹_›).1.symm
  |(have hq:=JM (show sgJ _ _ _ _ _ by assumption);(try simp only[AR]);omega)
  |(have hj:=(show sgJ _ _ _ _ _ by assumption);have hq:=JM hj;have hz:=b8B hj ‹_›;(try simp only[AR]);omega)
  |(have hq:=JM (show sgJ _ _ _ _ _ by assumption);(try simp only[AW,List.length_append,List.length_cons,List.length_nil]);omega)
  |(simp [AW];done)
  |skip
 all_goals first
  |exact(SH ‹_› ‹_› ‹_› (by omega)).2
  |exact(SI ‹_› ‹_› ‹_› (by omega)).2
  |exact(a5B ‹_› ‹_› ‹_› ‹_› ‹_› ‹_› ‹_› ‹_›).2
  |rfl
  |skip)
end Go.My
end
section
namespace Go.My
open Go.Eng Go.Proofs
variable {G:GInv}
theorem b8E{s:List UInt8}:CL s <+: s:=by
 have h:=List.dropWhile_suffix (fun c:UInt8=>decide (c.toNat=32)) (l:=s.reverse)
 unfold CL
 rw[←List.reverse_suffix,List.reverse_reverse];exact h
theorem XT{c:UInt8}{a s t:List UInt8}(h:t <+: c::s)(ht:t=a)(ha:a≠[]):a.head? =some c:=by
 subst ht
 match t with
 |[]=>exact(ha rfl).elim
 |d::r=>
  obtain⟨k,hk⟩:=h
  simp at hk
  simp [hk.1]
theorem b8F{s:List UInt8}(h:(Bb s).ok=true)(ht:(Bb s).text=[41]∨(Bb s).text=[61,62]∨(Bb s).text=[44]):(Bb s).kind=4:=by
 match s with
 |[]=>cases h
 |b::s=>
  have key:∀t:List UInt8,t <+: b::s→(t=[41]∨t=[61,62]∨t=[44])→b=41∨b=61∨b=44:=by
   intro t hp ht
   rcases ht with ht|ht|ht
   ·have:=XT hp ht (by simp);simp at this;exact .inl this.symm
   ·have:=XT hp ht (by simp);simp at this;exact .inr (.inl this.symm)
   ·have:=XT hp ht (by simp);simp at this;exact .inr (.inr this.symm)
  unfold Bb at h ht ⊢
  simp only at h ht ⊢
  split
  ·rename_i hb
   rw[if_pos hb] at ht
   rcases key _ (List.takeWhile_prefix _) ht with rfl|rfl|rfl<;>exact absurd hb (by decide)
  ·rename_i hb
   rw[if_neg hb] at h ht
   split
   ·rename_i hb2
    rw[if_pos hb2] at ht
    rcases key _ (List.takeWhile_prefix _) ht with rfl|rfl|rfl<;>exact absurd hb2 (by decide)
   ·rename_i hb2
    rw[if_neg hb2] at h ht
    split
    ·rename_i hb3
     rw[if_pos hb3] at ht h
     simp only at ht h
     have hp:(DG (b::s)).1 <+: b::s:=by
      unfold DG;split
      ·exact List.nil_prefix
      ·exact List.take_prefix _ _
     rcases key _ hp ht with rfl|rfl|rfl<;>exact absurd hb3 (by decide)
    ·rename_i hb3
     rw[if_neg hb3] at h ht
     split
     ·rename_i hb4
      rw[if_pos hb4] at ht
      have hb5:b=47:=by
       cases s with
       |nil=>simp at hb4
       |cons c s=>simp at hb4;exact hb4.1
      rcases key _ (b8E.trans (List.takeWhile_prefix _)) ht with rfl|rfl|rfl<;>exact absurd hb5 (by decide)
     ·rename_i hb4
      rw[if_neg hb4] at h
      split
      ·rfl
      ·rename_i hb5
       rw[if_neg hb5] at h
       split
       ·rfl
       ·rename_i hb6
        rw[if_neg hb6] at h;cases h
theorem Tu{t:List UInt8}:∀(n:Nat) (i br:Int) (l:List Sg),Fq t n i br=some l→sgM l
 |0,_,_,_,h=>by cases h
 |n+1,i,br,l,h=>by
  rw[Fq] at h
  split at h
  ·simp at h;subst h;intro e he;simp at he
  ·split at h
   ·exact Tu n _ _ _ h
   ·split at h
    ·exact Tu n _ _ _ h
    ·split at h
     ·rename_i hok
      rw[Option.map_eq_some_iff] at h
      obtain⟨l',h1,rfl⟩:=h
      intro e he ht
      simp only[List.mem_cons] at he
      rcases he with rfl|he
      ·exact b8F hok ht
      ·exact Tu n _ _ _ h1 e he ht
     ·cases h
theorem b8G{t:List UInt8}{l:List Sg}(h:Cj t=some l):sgM l:=by
 rw[Cj] at h
 split at h
 ·cases h
 ·exact Tu _ _ _ _ h
def frI(t:List UInt8)(l:List Sg)(y:Gs)(ks:List Int)(ms:List (Int×Int))(N:Nat):Prop:=(Cj t=some l∧sgB l)∧Dy l y ks ms N
theorem b8H{t:List UInt8}{l:List Sg}(h:sgQ t l)(hn:(Cj t).isSome=true):frI t l ⟨0,0,false,[]⟩ [] [] (l.length+1):=⟨KS h hn,a4n⟩
theorem XU{t:List UInt8}{s:ST}{y:Gs}{ks:List Int}{ms:List (Int×Int)}{N:Nat}(h:frI t s.sg y ks ms N):okQ s y:=⟨Xa h.1.2 h.2,b8G h.1.1⟩
theorem Tv{t:List UInt8}{l:List Sg}{y:Gs}{ks:List Int}{ms:List (Int×Int)}{N:Nat}{b:Bool}{z:Int×Gs}(h:frI t l y ks ms N)(hb:y.bad=false)(hl:y.pos<l.length)(hz:Ag l y (DD l false) z)(e:b=(blG l y&&decide (0<(ks.length:Int)))):
 frI t l (gBl z.2 z.1 b) (ks++[z.1]) (ms++[(y.pos,(gBl z.2 z.1 b).pos)]) (N-1)∧N-1<N:=by
 rw[XL hb] at e
 have hz2:Ag l y (DD l b) (z.1,gBl z.2 z.1 b):=XK XJ hz
 obtain⟨a,c⟩:=WZ h.2 hb hl hz2 e
 exact⟨⟨h.1,a⟩,c⟩
theorem b8I{t:List UInt8}{l:List Sg}{y:Gs}{ks:List Int}{ms:List (Int×Int)}{N:Nat}(h:frI t l y ks ms N):ks.length≤3001∧0≤y.pos∧y.pos≤l.length:=by
 have:=Xb h.1.2 h.2;omega
def frE(l:List Sg)(y:Gs):Prop:=y.bad=true∨¬y.pos<l.length
theorem Of{l:List Sg}{y:Gs}(h:y.bad=true):frE l y:= .inl h
theorem Og{l:List Sg}{y:Gs}(h:¬y.pos<l.length):frE l y:= .inr h
theorem Oh:Cy []:=⟨by simp,by simp⟩
theorem Tw{t:List UInt8}{l:List Sg}{y:Gs}{ks:List Int}{ms:List (Int×Int)}{N:Nat}(h:frI t l y ks ms N):sgQ t l∧(Cj t).isSome=true:=⟨.inl h.1,by rw[h.1.1];rfl⟩
theorem Tx{t:List UInt8}{l:List Sg}{y:Gs}{ks:List Int}{ms:List (Int×Int)}{N:Nat}(h:frI t l y ks ms N)(he:frE l y)(hb:(Ah y ⟨22,[],ks,false⟩).bad=true):CN t=none:=SM (a4p (Tw h).1 (Tw h).2 ⟨h.2,he⟩ hb) hb
theorem KZ{t:List UInt8}{l:List Sg}{y:Gs}{ks:List Int}{ms:List (Int×Int)}{N:Nat}(h:frI t l y ks ms N)(he:frE l y)(hb:(Ah y ⟨22,[],ks,false⟩).bad=false):
 (CB (Ah y ⟨22,[],ks,false⟩).nodes=false→CN t=none)∧(CB (Ah y ⟨22,[],ks,false⟩).nodes=true→CN t=some (Ah y ⟨22,[],ks,false⟩).nodes):=by
 have a:=a4q (Tw h).1 (Tw h).2 ⟨h.2,he⟩ hb
 refine⟨fun h2=>SM a (by simp only[BK,h2];rfl),fun h2=>(NS a (by simp only[BK,h2];rfl)).1⟩
theorem Qe{t:List UInt8}{l:List Sg}{y:Gs}{ks:List Int}{ms:List (Int×Int)}{N:Nat}(h:frI t l y ks ms N):Cy (Ah y ⟨22,[],ks,false⟩).nodes∧(Ah y ⟨22,[],ks,false⟩).nodes.length≤1073741824∧0≤(Ah y ⟨22,[],ks,false⟩).pos:=by
 have a:=IW h.2.1 (SL h.1.2 h.2)
 have b:=Xc a
 exact⟨b.1,by omega,a.1.1⟩
theorem a5D{t:List UInt8}(h:(Cj t).isSome=false):CN t=none:=by
 rw[CN]
 cases hs:Cj t with
 |none=>rfl
 |some l=>rw[hs] at h;cases h
theorem b8J{T0 T1 T2 T3:Type}{p q:ST×T0×T1×T2×T3→Prop}(a:List Sg)(v0:T0)(v1:T1)(v2:T2)(v3:T3)(h2:q (⟨a,0,[]⟩,v0,v1,v2,v3))(h1:p (⟨a,0,[]⟩,v0,v1,v2,v3)):∃x,p x∧q x:=⟨_,h1,h2⟩
theorem b8K{T0 T1 T2 T3 T4 T5:Type}{p q:ST×T0×T1×T2×T3×T4×T5→Prop}(a:List Sg)(v0:T0)(v1:T1)(v2:T2)(v3:T3)(v4:T4)(v5:T5)(h2:q (⟨a,0,[]⟩,v0,v1,v2,v3,v4,v5))(h1:p (⟨a,0,[]⟩,v0,v1,v2,v3,v4,v5)):∃x,p x∧q x:=⟨_,h1,h2⟩
theorem b8L{T0 T1 T2 T3 T4 T5 T6:Type}{p q:ST×T0×T1×T2×T3×T4×T5×T6→Prop}(a:List Sg)(v0:T0)(v1:T1)(v2:T2)(v3:T3)(v4:T4)(v5:T5)(v6:T6)(h2:q (⟨a,0,[]⟩,v0,v1,v2,v3,v4,v5,v6))(h1:p (⟨a,0,[]⟩,v0,v1,v2,v3,v4,v5,v6)):∃x,p x∧q x:=⟨_,h1,h2⟩
attribute [local irreducible] frI frE gBl blG Ah AQ gsOk Ag DD CN Cj CB sgM okQ
def GD:Sig:= {X:=List UInt8,args:=fun x=>[.str x],pre:=fun x=>x.length<2^62,Y:=List Nd×Int,post:=fun x y=>y.1=(CN x).getD []∧Cy y.1,res:=fun x y=> .tup [nds y.1,.int .i64 y.2,.bool (CN x).isSome],outs:=fun x y=>[.top],keep:=true}
def Qf(x:List UInt8):LS:= {ι:=List Sg×Int×Int×Bool×List Nd×List Int×List (Int×Int)×Nat,inv:=fun i=>frI x i.1 (iF i.2) i.2.2.2.2.2.1 i.2.2.2.2.2.2.1 i.2.2.2.2.2.2.2,regs:=fun i=>[(0,.str x),(5,Av []),(6,sgs i.1),(9,srd ⟨i.1,0,[]⟩ (iF i.2)),(10,Ab i.2.2.2.2.2.1)],als:=[],meas:=fun i=>i.2.2.2.2.2.2.2}
theorem b8M:Ai G Tryz.prog 10 GD:=
 vcFun_okP [(32,0,KY),(33,0,FR),(34,0,Iy),(35,0,Em),(36,0,Bo),(17,0,HY)] [(54,⟨Sg,sgA⟩),(25,⟨Int,AZ⟩),(27,⟨Nd,ndA true⟩)] false (fun x=>[(7,Qf x)]) Tryz.func10 rfl (by decide) ⟨b8D,SZ,b8u,Ta,HI,b0j,trivial⟩ (fun(x:List UInt8)=>True∧cA KY [.str x] fun x_1 y=>Aa (!Option.isSome (Cj x_1)) (rA GD x [.tup [Av [],.int .i64 y.2,.bool false],.top]) (eA (Qf x) [.str x,Av [],sgs y.1,.box 0 [sgs y.1,.int .i64 (0:Int),.bool false,.int .i64 (0:Int),.nil],Ab []]∧∀(i:List Sg×Int×Int×Bool×List Nd×List Int×List (Int×Int)×Nat),frI x i.1 (iF i.2) i.2.2.2.2.2.1 i.2.2.2.2.2.2.1 i.2.2.2.2.2.2.2→Aa (!(iF i.2).bad) (Aa (decide ((iF i.2).pos<(↑(List.length i.1):Int))) (cA FR [.box 0 [sgs i.1,.int .i64 (iF i.2).pos,.bool (iF i.2).bad,.int .i64 (iF i.2).deep,Av (iF i.2).nodes]] fun x_2 y=>Aa (blG x_2.1.sg (xg x_2)) (cA Iy [srd x_2.1 (xg x_2),.bool true] fun x_3 y=>cA Em [srd x_3.1 (yG y.2),.int .i64 y.1,.bool (decide ((↑(List.length i.2.2.2.2.2.1):Int)>(0:Int)))] fun x_4 y_1=>∃(x_5:Int),y.1=x_5∧∃(zs:List Int),Ab [x_5]=Ab zs∧Bj AZ∧AW (List.length i.2.2.2.2.2.1+List.length zs) (8:Nat)∧eN (Qf x) i [.str x,Av [],sgs i.1,srd x_4.1 (gBl (xh x_4) x_4.2.2.2.2.2.1 x_4.2.2.2.2.2.2),Ab (i.2.2.2.2.2.1++zs)]) (cA Iy [srd x_2.1 (xg x_2),.bool true] fun x_3 y=>cA Em [srd x_3.1 (yG y.2),.int .i64 y.1,.bool false] fun x_4 y_1=>∃(x_5:Int),y.1=x_5∧∃(zs:List Int),Ab [x_5]=Ab zs∧Bj AZ∧AW (List.length i.2.2.2.2.2.1+List.length zs) (8:Nat)∧eN (Qf x) i [.str x,Av [],sgs i.1,srd x_4.1 (gBl (xh x_4) x_4.2.2.2.2.2.1 x_4.2.2.2.2.2.2),Ab (i.2.2.2.2.2.1++zs)])) (cA Bo [.box 0 [sgs i.1,.int .i64 (iF i.2).pos,.bool (iF i.2).bad,.int .i64 (iF i.2).deep,Av (iF i.2).nodes],.int .i64 (22:Int),.str #[].toList,Ab i.2.2.2.2.2.1] fun x_2 y=>Aa (Ah (xh x_2) {kind:=x_2.2.2.2.2.2.1,text:=x_2.2.2.2.2.2.2.1,kids:=x_2.2.2.2.2.2.2.2,blank:=false}).bad (Aa (decide ((Ah (xh x_2) {kind:=x_2.2.2.2.2.2.1,text:=x_2.2.2.2.2.2.2.1,kids:=x_2.2.2.2.2.2.2.2,blank:=false}).pos<(↑(List.length i.1):Int))) (true=true∧true=true∧((0:Int)≤(Ah (xh x_2) {kind:=x_2.2.2.2.2.2.1,text:=x_2.2.2.2.2.2.2.1,kids:=x_2.2.2.2.2.2.2.2,blank:=false}).pos∧(Ah (xh x_2) {kind:=x_2.2.2.2.2.2.1,text:=x_2.2.2.2.2.2.2.1,kids:=x_2.2.2.2.2.2.2.2,blank:=false}).pos<(↑(List.length i.1):Int))∧∀(e:Sg),i.1[Int.toNat (Ah (xh x_2) {kind:=x_2.2.2.2.2.2.1,text:=x_2.2.2.2.2.2.2.1,kids:=x_2.2.2.2.2.2.2.2,blank:=false}).pos]? =some e→rA GD x [.tup [Av [],.int .i64 e.pos,.bool false],.top]) (rA GD x [.tup [Av [],.int .i64 (↑(List.length x):Int),.bool false],.top])) (cA HY [Av (Ah (xh x_2) {kind:=x_2.2.2.2.2.2.1,text:=x_2.2.2.2.2.2.2.1,kids:=x_2.2.2.2.2.2.2.2,blank:=false}).nodes] fun x_3 y=>Aa (!CB x_3) (rA GD x [.tup [Av [],.int .i64 (0:Int),.bool false],.top]) (rA GD x [.tup [Av (Ah (xh x_2) {kind:=x_2.2.2.2.2.2.1,text:=x_2.2.2.2.2.2.2.1,kids:=x_2.2.2.2.2.2.2.2,blank:=false}).nodes,.int .i64 (0:Int),.bool true],.top])))) (cA Bo [.box 0 [sgs i.1,.int .i64 (iF i.2).pos,.bool (iF i.2).bad,.int .i64 (iF i.2).deep,Av (iF i.2).nodes],.int .i64 (22:Int),.str #[].toList,Ab i.2.2.2.2.2.1] fun x_2 y=>Aa (Ah (xh x_2) {kind:=x_2.2.2.2.2.2.1,text:=x_2.2.2.2.2.2.2.1,kids:=x_2.2.2.2.2.2.2.2,blank:=false}).bad (Aa (decide ((Ah (xh x_2) {kind:=x_2.2.2.2.2.2.1,text:=x_2.2.2.2.2.2.2.1,kids:=x_2.2.2.2.2.2.2.2,blank:=false}).pos<(↑(List.length i.1):Int))) (true=true∧true=true∧((0:Int)≤(Ah (xh x_2) {kind:=x_2.2.2.2.2.2.1,text:=x_2.2.2.2.2.2.2.1,kids:=x_2.2.2.2.2.2.2.2,blank:=false}).pos∧(Ah (xh x_2) {kind:=x_2.2.2.2.2.2.1,text:=x_2.2.2.2.2.2.2.1,kids:=x_2.2.2.2.2.2.2.2,blank:=false}).pos<(↑(List.length i.1):Int))∧∀(e:Sg),i.1[Int.toNat (Ah (xh x_2) {kind:=x_2.2.2.2.2.2.1,text:=x_2.2.2.2.2.2.2.1,kids:=x_2.2.2.2.2.2.2.2,blank:=false}).pos]? =some e→rA GD x [.tup [Av [],.int .i64 e.pos,.bool false],.top]) (rA GD x [.tup [Av [],.int .i64 (↑(List.length x):Int),.bool false],.top])) (cA HY [Av (Ah (xh x_2) {kind:=x_2.2.2.2.2.2.1,text:=x_2.2.2.2.2.2.2.1,kids:=x_2.2.2.2.2.2.2.2,blank:=false}).nodes] fun x_3 y=>Aa (!CB x_3) (rA GD x [.tup [Av [],.int .i64 (0:Int),.bool false],.top]) (rA GD x [.tup [Av (Ah (xh x_2) {kind:=x_2.2.2.2.2.2.1,text:=x_2.2.2.2.2.2.2.1,kids:=x_2.2.2.2.2.2.2.2,blank:=false}).nodes,.int .i64 (0:Int),.bool true],.top]))))) (fun x=>by kernel_rfl) fun(x:List UInt8) (hx:x.length<2^62)=>(by
 dsimp only[cA,eA,eN,Qf,Bc,nds,Ab,Av,Ed,rA,FR,Em,Iy,Bo,GD,KY,HY,Bu,sgs,srd,Au,Az,mvL,lnL,mvE,lnE,Bq]
 have hx:x.length<2^62:=hx
 (repeat' first|(apply b8L<;>try dsimp only)|(apply b8K<;>try dsimp only)|(apply b8J<;>try dsimp only)|(with_reducible first|rfl|exact True.intro|apply AK|apply And.intro|((first|apply AA|apply AI|apply AB|apply AJ)<;>intro _))|(apply Ax<;>intro _)|apply AH|refine Ae () ?_ ?_|((first|apply AO|apply AN|apply AM|apply AL|apply AG|apply AF|apply AE|apply AD|apply AC)<;>try dsimp only)|apply Ae|(refine Prod.forall.2 ?_;intro _;try dsimp only)|(intro _;try dsimp only))
 all_goals(try dsimp only[xg,xh,yG,yS,iG,iF] at*)
 all_goals(try simp only[CP] at*)
 all_goals first
  |(show Nat;skip)
  |(show List (Int×Int);skip)
  |rfl
  |exact hx
  |exact b8H ‹_› ‹_›
  |(rw[a5D ‹_›];rfl)
  |(rw[a5D ‹_›];exact Oh)
  |exact(Tv ‹_› ‹_› ‹_› ‹_› (GZ ‹_›)).1
  |exact(Tv ‹_› ‹_› ‹_› ‹_› (Ha ‹_›)).1
  |exact XU (s:=⟨_,0,[]⟩) ‹_›
  |exact(ED (XU (s:=⟨_,0,[]⟩) ‹_›)).1
  |exact Dt (ED (XU (s:=⟨_,0,[]⟩) ‹_›)).1 ‹_›
  |exact Ob XJ ‹_›
  |exact Ob XJ ‹_› ‹_›
  |assumption
  |omega
  |exact(Qe ‹_›).1
  |exact(Qe ‹_›).2.1
  |(rw[Tx ‹_› (Of ‹_›) ‹_›];rfl)
  |(rw[Tx ‹_› (Of ‹_›) ‹_›];exact Oh)
  |(rw[(KZ ‹_› (Of ‹_›) ‹_›).1 ‹_›];rfl)
  |(rw[(KZ ‹_› (Of ‹_›) ‹_›).2 ‹_›];rfl)
  |(rw[(KZ ‹_› (Of ‹_›) ‹_›).1 ‹_›];exact Oh)
  |(rw[(KZ ‹_› (Of ‹_›) ‹_›).2 ‹_›];exact(Qe ‹_›).1)
  |(rw[Tx ‹_› (Og ‹_›) ‹_›];rfl)
  |(rw[Tx ‹_› (Og ‹_›) ‹_›];exact Oh)
  |(rw[(KZ ‹_› (Og ‹_›) ‹_›).1 ‹_›];rfl)
  |(rw[(KZ ‹_› (Og ‹_›) ‹_›).2 ‹_›];rfl)
  |(rw[(KZ ‹_› (Og ‹_›) ‹_›).1 ‹_›];exact Oh)
  |(rw[(KZ ‹_› (Og ‹_›) ‹_›).2 ‹_›];exact(Qe ‹_›).1)
  |(have hq:=(Qe (show frI _ _ _ _ _ _ by assumption)).2.2;omega)
  |exact Oh
  |(simp [AW];done)
  |(have hq:=b8I (show frI _ _ _ _ _ _ by assumption);(try simp only[AW,List.length_append,List.length_cons,List.length_nil]);omega)
  |skip
 all_goals first
  |exact(Tv ‹_› ‹_› ‹_› ‹_› (GZ ‹_›)).2
  |exact(Tv ‹_› ‹_› ‹_› ‹_› (Ha ‹_›)).2
  |rfl
  |skip)
end Go.My
end
section
namespace Go.My
open Go.Eng Go.Proofs
variable {G:GInv}
def Hf:Sig:= {X:=List UInt8,args:=fun x=>[.sl false 0 1 UInt8 byA x],pre:=fun x=>x.length≤2^21,Y:=Int,post:=fun x y=>True,res:=fun x y=> .box 0 (cur x 0 y),outs:=fun x y=>[.top],keep:=true}
def Ty(x:List UInt8):LS:= {ι:=Int×Int,inv:=fun i=>(0≤i.1∧i.1≤x.length)∧0≤i.2∧i.2≤2^31,regs:=fun i=>[(0,.sl false 0 1 UInt8 byA x),(3,.int .i64 i.2),(4,.int .i64 i.1)],als:=[],meas:=fun i=>x.length-i.1.toNat}
theorem XV:Ai G Tryz.prog 28 Hf:=
 vcFun_okP [] [] false (fun x=>[(3,Ty x)]) Tryz.func28 rfl (by decide) trivial (fun(x:List UInt8)=>True∧inR IntKind.i64 ((78601:Int)+(↑(List.length x):Int))∧eA (Ty x) [byL x,.int .i64 ((78601:Int)+(↑(List.length x):Int)),.int .i64 (0:Int)]∧∀(i:Int×Int),((0:Int)≤i.1∧i.1≤(↑(List.length x):Int))∧(0:Int)≤i.2∧i.2≤(2:Int)^(31:Nat)→Aa (decide (i.1<(↑(List.length x):Int))) (Aa (decide (i.1<(4000:Int))) (inR IntKind.i64 (i.2*(131:Int))∧((0:Int)≤i.1∧i.1<(↑(List.length x):Int))∧∀(e:UInt8),x[Int.toNat i.1]? =some e→inR IntKind.i64 (↑(UInt8.toNat e):Int)∧inR IntKind.i64 (i.2*(131:Int)+(↑(UInt8.toNat e):Int))∧inR IntKind.i64 (i.2*(131:Int)+(↑(UInt8.toNat e):Int)+(7:Int))∧inR IntKind.i64 (i.1+(1:Int))∧eN (Ty x) i [byL x,.int .i64 (DW BinOp.and IntKind.i64 (i.2*(131:Int)+(↑(UInt8.toNat e):Int)+(7:Int)) (1073741823:Int)),.int .i64 (i.1+(1:Int))]) (rA Hf x [.box 0 (cur x (0:Int) i.2),.top])) (rA Hf x [.box 0 (cur x (0:Int) i.2),.top])) (fun x=>by kernel_rfl) fun(x:List UInt8) (hx:x.length≤2^21)=>(by
 dsimp only[FO,byL,cur,eA,eN,Ty,rA,Hf,Au,Az,Bq]
 have hx:x.length≤2^21:=hx
 (repeat' first|(with_reducible first|rfl|exact True.intro|apply AK|apply And.intro|((first|apply AA|apply AI|apply AB|apply AJ)<;>intro _))|(apply Ax<;>intro _)|apply AH|refine Ae () ?_ ?_|((first|apply AO|apply AN|apply AM|apply AL|apply AG|apply AF|apply AE|apply AD|apply AC)<;>try dsimp only)|apply Ae|(refine Prod.forall.2 ?_;intro _;try dsimp only)|(intro _;try dsimp only))
 all_goals first
  |rfl
  |omega
  |(have hq:=UInt8.toNat_lt ‹_›;omega)
  |(have hq:=Xf (_:Int);exact hq.1)
  |exact(Xf _).1
  |exact Int.le_trans (Xf _).2 (by decide)
  |skip)
theorem XW{b:List UInt8}(h:b.length≤2^21):Bx b 0:=⟨by omega,h⟩
def Jf(o:List Int)(i:Int):Prop:=((0≤i∧i≤12)∧o.length=i)∧∀e∈o,0≤e∧e<10000
theorem b8N:Jf [] 0:=⟨by simp,by simp⟩
theorem b8O{o:List Int}{i:Int}(h:Jf o i):(0≤i∧i≤12)∧o.length≤12:=by have:=h.1;omega
theorem b8P{o:List Int}{i v:Int}(h:Jf o i)(hi:i<12)(hv:0≤v∧v<10000):Jf (o++[v]) (i+1):=by
 refine⟨⟨by have:=h.1;omega,by rw[List.length_append];have:=h.1.2;simp;omega⟩,fun e he=> ?_⟩
 rcases List.mem_append.1 he with he|he
 ·exact h.2 e he
 ·simp at he;subst he;exact hv
def Oi:Sig:= {X:=List UInt8,args:=fun x=>[.sl false 0 1 UInt8 byA x],pre:=fun x=>x.length≤2^21,Y:=List Int×Unit,post:=fun x y=>y.1.length=12∧∀e∈y.1,0≤e∧e<10000,res:=fun x y=>Ab y.1,outs:=fun x y=>[.top],keep:=true}
def Tz(x:List UInt8):LS:= {ι:=Int×Int×Int×List Int,inv:=fun i=>Jf i.2.2.2 i.1∧Bx x i.2.1,regs:=fun i=>[(3,.box 0 (cur x i.2.1 i.2.2.1)),(4,Ab i.2.2.2),(5,.int .i64 i.1)],als:=[],meas:=fun i=>12-i.1.toNat}
theorem b8Q:Ai G Tryz.prog 9 Oi:=
 vcFun_okP [(28,0,Hf),(30,0,Gy),(31,0,DK)] [(25,⟨Int,AZ⟩)] false (fun x=>[(5,Tz x)]) Tryz.func9 rfl (by decide) ⟨XV,a4w,NU,trivial⟩ (fun(x:List UInt8)=>True∧cA Hf [byL x] fun x_1 y=>cA Gy [.box 0 (cur x_1 (0:Int) y)] fun x_2 y=>eA (Tz x) [.box 0 (cur x_2.1 y.2.1 y.2.2),Ab [],.int .i64 (0:Int)]∧∀(i:Int×Int×Int×List Int),Jf i.2.2.2 i.1∧Bx x i.2.1→Aa (decide (i.1<(12:Int))) (cA DK [.box 0 (cur x i.2.1 i.2.2.1),.int .i64 (10000:Int)] fun x_3 y=>∃(x_4:Int),y.1=x_4∧∃(zs:List Int),Ab [x_4]=Ab zs∧Bj AZ∧AW (List.length i.2.2.2+List.length zs) (8:Nat)∧inR IntKind.i64 (i.1+(1:Int))∧eN (Tz x) i [.box 0 (cur x_3.1 y.2.1 y.2.2),Ab (i.2.2.2++zs),.int .i64 (i.1+(1:Int))]) (rA Oi x [Ab i.2.2.2,.top])) (fun x=>by kernel_rfl) fun(x:List UInt8) (hx:x.length≤2^21)=>(by
 dsimp only[FO,byL,cA,cur,eA,eN,Tz,Ab,rA,DK,Gy,Hf,Oi,Au,Az,mvL,lnL,mvE,lnE,Bq]
 have hx:x.length≤2^21:=hx
 (repeat' first|(with_reducible first|rfl|exact True.intro|apply AK|apply And.intro|((first|apply AA|apply AI|apply AB|apply AJ)<;>intro _))|(apply Ax<;>intro _)|apply AH|refine Ae () ?_ ?_|((first|apply AO|apply AN|apply AM|apply AL|apply AG|apply AF|apply AE|apply AD|apply AC)<;>try dsimp only)|apply Ae|(refine Prod.forall.2 ?_;intro _;try dsimp only)|(intro _;try dsimp only))
 all_goals first
  |rfl
  |exact hx
  |exact XW hx
  |exact()
  |skip
 all_goals(try(have hb:=b8O (And.left (show Jf _ _∧_ by assumption))))
 all_goals(repeat(rename _∧Bx _ _=>hq;obtain⟨_,_⟩:=hq))
 all_goals first
  |exact b8N
  |(with_reducible assumption)
  |exact b8P ‹_› (by omega) (by omega)
  |((try simp only[AR,AW,List.length_append,List.length_cons,List.length_nil]);omega)
  |exact(And.right (show Jf _ _ by assumption) _ ‹_›).1
  |exact(And.right (show Jf _ _ by assumption) _ ‹_›).2
  |(have hq:=(show Jf _ _ by assumption).1;omega)
  |skip)
def Oj:Sig:= {X:=List UInt8,args:=fun x=>[.sl false 0 1 UInt8 byA x],pre:=fun x=>True,Y:=Unit,post:=fun x y=>True,res:=fun x y=> .bool (decide ((x.length:Int)>1048576)),outs:=fun x y=>[.top],keep:=false}
theorem b8R:Ai G Tryz.prog 6 Oj:=
 vcFun_okP [] [] false (fun x=>[]) Tryz.func6 rfl (by decide) trivial (fun(x:List UInt8)=>(∀(y:Unit),True→True∧True∧True)∧rA Oj x [.bool (decide ((↑(List.length x):Int)>(1048576:Int))),.top]) (fun x=>by kernel_rfl) fun(x:List UInt8) (hx:True)=>(by
 dsimp only[FO,rA,Oj,Au,Az]
 (repeat' first|(with_reducible first|rfl|exact True.intro|apply AK|apply And.intro|((first|apply AA|apply AI|apply AB|apply AJ)<;>intro _))|(apply Ax<;>intro _)|apply AH|refine Ae () ?_ ?_|((first|apply AO|apply AN|apply AM|apply AL|apply AG|apply AF|apply AE|apply AD|apply AC)<;>try dsimp only)|apply Ae|(refine Prod.forall.2 ?_;intro _;try dsimp only)|(intro _;try dsimp only))<;>(try dsimp only at*)<;>(try simp only[AR,List.length_cons,List.length_nil])<;>(try omega))
theorem TA{l:List (List UInt8)}{n:Nat}{s:List UInt8}(h:s∈l)(hl:l.all (fun e=>decide (e.length≤n))=true):s.length≤n:=by
 have:=List.all_eq_true.1 hl s h;simpa using this
def MA:Sig:= {X:=List UInt8×Int×Int,args:=fun x=>[.box 0 (cur x.1 x.2.1 x.2.2)],pre:=fun x=>Bx x.1 x.2.1,Y:=List UInt8×Int×Int,post:=fun x y=>y.1.length≤20∧Bx x.1 y.2.1,res:=fun x y=> .str y.1,outs:=fun x y=>[.box 0 (cur x.1 y.2.1 y.2.2)],keep:=true}
theorem b8S:Ai G Tryz.prog 82 MA:=
 vcFun_okP [(55,0,Cl)] [(91,⟨List UInt8,Bg⟩)] false (fun x=>[]) Tryz.func82 rfl (by decide) ⟨SS,trivial⟩ (fun(x:List UInt8×Int×Int)=>True∧∃(x_1:List UInt8),#[(97:UInt8)].toList=x_1∧∃(x_2:List UInt8),#[(98:UInt8)].toList=x_2∧∃(x_3:List UInt8),#[(118:UInt8),(97:UInt8),(108:UInt8),(117:UInt8),(101:UInt8)].toList=x_3∧∃(x_4:List UInt8),#[(116:UInt8),(111:UInt8),(116:UInt8),(97:UInt8),(108:UInt8)].toList=x_4∧∃(x_5:List UInt8),#[(120:UInt8),(49:UInt8)].toList=x_5∧∃(x_6:List UInt8),#[(111:UInt8),(116:UInt8),(104:UInt8),(101:UInt8),(114:UInt8)].toList=x_6∧∃(x_7:List UInt8),#[(105:UInt8),(102:UInt8)].toList=x_7∧∃(x_8:List UInt8),#[].toList=x_8∧∃(x_9:List UInt8),#[(115:UInt8),(111:UInt8),(109:UInt8),(101:UInt8),(76:UInt8),(111:UInt8),(110:UInt8),(103:UInt8),(101:UInt8),(114:UInt8),(78:UInt8),(97:UInt8),(109:UInt8),(101:UInt8)].toList=x_9∧cA Cl [.box 0 (cur x.1 x.2.1 x.2.2),AV.sl true 0 1 (List UInt8) Bg [x_1,x_2,x_3,x_4,x_5,x_6,x_7,x_8,x_9]] fun x_10 y=>rA MA x [.str y.1,.box 0 (cur x_10.1 y.2.1 y.2.2)]) (fun x=>by kernel_rfl) fun(x:List UInt8×Int×Int) (hx:Bx x.1 x.2.1)=>(by
 dsimp only[FO,cA,cur,rA,Cl,MA,Au,Az,mvL,lnL,mvE,lnE]
 obtain⟨b,i,h⟩:=x;dsimp only at hx ⊢
 have hx:Bx b i:=hx
 (repeat' first|(with_reducible first|rfl|exact True.intro|apply AK|apply And.intro|((first|apply AA|apply AI|apply AB|apply AJ)<;>intro _))|(apply Ax<;>intro _)|apply AH|refine Ae () ?_ ?_|((first|apply AO|apply AN|apply AM|apply AL|apply AG|apply AF|apply AE|apply AD|apply AC)<;>try dsimp only)|apply Ae|(refine Prod.forall.2 ?_;intro _;try dsimp only)|(intro _;try dsimp only))
 all_goals(repeat(rename _∈_∧Bx _ _=>hq;obtain⟨hq1,_⟩:=hq;have hq2:=TA (n:=20) hq1 (by decide);clear hq1))
 all_goals first
  |rfl
  |exact hx
  |(with_reducible assumption)
  |(show Bx _ _;with_reducible assumption)
  |(rename _=[]=>hq;cases hq;done)
  |((try simp only[List.length_cons,List.length_nil]);omega)
  |skip)
def cdI(l:Cls)(i:Int):Prop:=(0≤i∧i≤4)∧(l.length:Int)=i
theorem b8T:cdI [] 0:=⟨by omega,rfl⟩
theorem b8U{l:Cls}{i:Int}(h:cdI l i):(0≤i∧i≤4)∧l.length≤4:=by have:=h.1;have:=h.2;omega
theorem b8V{l:Cls}{i:Int}{e:List UInt8×Int}(h:cdI l i)(hi:i<4):cdI (l++[e]) (i+1):=⟨by have:=h.1;omega,by rw[List.length_append];have:=h.2;simp;omega⟩
attribute [local irreducible] cdI
def Ok:Sig:= {X:=List UInt8,args:=fun x=>[.sl false 0 1 UInt8 byA x],pre:=fun x=>x.length≤2^21,Y:=Cls×List UInt8,post:=fun x y=>y.1.length≤4,res:=fun x y=> .tup [cls y.1,.str y.2],outs:=fun x y=>[.top],keep:=true}
def TB(x:List UInt8):LS:= {ι:=Int×Int×Int×Cls,inv:=fun i=>cdI i.2.2.2 i.1∧Bx x i.2.1,regs:=fun i=>[(4,.box 0 (cur x i.2.1 i.2.2.1)),(5,Hx i.2.2.2),(6,.int .i64 i.1)],als:=[],meas:=fun i=>5-i.1.toNat}
theorem b8W:Ai G Tryz.prog 51 Ok:=
 vcFun_okP [(28,0,Hf),(31,0,DK),(82,0,MA)] [(42,⟨List UInt8×Int,Aw⟩)] false (fun x=>[(4,TB x)]) Tryz.func51 rfl (by decide) ⟨XV,NU,b8S,trivial⟩ (fun(x:List UInt8)=>True∧cA Hf [byL x] fun x_1 y=>eA (TB x) [.box 0 (cur x_1 (0:Int) y),AV.sl true 0 2 (List UInt8×Int) Aw [],.int .i64 (0:Int)]∧∀(i:Int×Int×Int×Cls),cdI i.2.2.2 i.1∧Bx x i.2.1→cA DK [.box 0 (cur x i.2.1 i.2.2.1),.int .i64 (4:Int)] fun x_2 y=>Aa (decide (i.1<y.1)) (cA MA [.box 0 (cur x_2.1 y.2.1 y.2.2)] fun x_3 y=>∃(x_4:List UInt8×Int),y.1=x_4.1∧i.1=x_4.2∧∃(zs:List (List UInt8×Int)),AV.sl true 0 2 (List UInt8×Int) Aw [x_4]=AV.sl true 0 2 (List UInt8×Int) Aw zs∧Bj Aw∧AW (List.length i.2.2.2+List.length zs) (24:Nat)∧inR IntKind.i64 (i.1+(1:Int))∧eN (TB x) i [.box 0 (cur x_3.1 y.2.1 y.2.2),AV.sl true 0 2 (List UInt8×Int) Aw (i.2.2.2++zs),.int .i64 (i.1+(1:Int))]) (cA MA [.box 0 (cur x_2.1 y.2.1 y.2.2)] fun x_3 y=>rA Ok x [.tup [AV.sl true 0 2 (List UInt8×Int) Aw i.2.2.2,.str y.1],.top])) (fun x=>by kernel_rfl) fun(x:List UInt8) (hx:x.length≤2^21)=>(by
 dsimp only[FO,byL,cA,Aw,cls,cur,eA,eN,TB,Hx,rA,DK,Ok,MA,Hf,Au,Az,mvL,lnL,mvE,lnE,Bq]
 have hx:x.length≤2^21:=hx
 (repeat' first|refine VQ ?_|(with_reducible first|rfl|exact True.intro|apply AK|apply And.intro|((first|apply AA|apply AI|apply AB|apply AJ)<;>intro _))|(apply Ax<;>intro _)|apply AH|refine Ae () ?_ ?_|((first|apply AO|apply AN|apply AM|apply AL|apply AG|apply AF|apply AE|apply AD|apply AC)<;>try dsimp only)|apply Ae|(refine Prod.forall.2 ?_;intro _;try dsimp only)|(intro _;try dsimp only))
 all_goals(try(have hb:=b8U (And.left (show cdI _ _∧_ by assumption))))
 all_goals(repeat(rename _∧Bx _ _=>hq;obtain⟨_,_⟩:=hq))
 all_goals first
  |rfl
  |exact hx
  |exact XW hx
  |exact b8T
  |(with_reducible assumption)
  |(show Bx _ _;with_reducible assumption)
  |exact b8V ‹_› (by omega)
  |omega
  |((try simp only[AR,AW,List.length_append,List.length_cons,List.length_nil]);omega)
  |skip)
def Ol:Sig:= {X:=List UInt8,args:=fun x=>[.sl false 0 1 UInt8 byA x],pre:=fun x=>x.length≤2^21,Y:=Cls×List UInt8,post:=fun x y=>y.1.length≤4,res:=fun x y=> .tup [cls y.1,.str y.2,.int .i64 x.length],outs:=fun x y=>[.top],keep:=true}
theorem b8X:Ai G Tryz.prog 21 Ol:=
 vcFun_okP [(51,0,Ok)] [] false (fun x=>[]) Tryz.func21 rfl (by decide) ⟨b8W,trivial⟩ (fun(x:List UInt8)=>True∧cA Ok [byL x] fun x_1 y=>rA Ol x [.tup [AV.sl false 0 2 (List UInt8×Int) Aw y.1,.str y.2,.int .i64 (↑(List.length x):Int)],.top]) (fun x=>by kernel_rfl) fun(x:List UInt8) (hx:x.length≤2^21)=>(by
 dsimp only[FO,byL,cA,Aw,cls,cur,Hx,rA,Ok,Ol,Au,Az,mvL,lnL,mvE,lnE]
 have hx:x.length≤2^21:=hx
 (repeat' first|(with_reducible first|rfl|exact True.intro|apply AK|apply And.intro|((first|apply AA|apply AI|apply AB|apply AJ)<;>intro _))|(apply Ax<;>intro _)|apply AH|refine Ae () ?_ ?_|((first|apply AO|apply AN|apply AM|apply AL|apply AG|apply AF|apply AE|apply AD|apply AC)<;>try dsimp only)|apply Ae|(refine Prod.forall.2 ?_;intro _;try dsimp only)|(intro _;try dsimp only))
 all_goals first
  |rfl
  |exact hx
  |(with_reducible assumption)
  |skip)
def zvL:Nat→Nat
 |0=>20
 |n+1=>3*zvL n+20
theorem a5E{n:Nat}(h:n≤2):20≤zvL n∧zvL n≤260:=by
 have:n=0∨n=1∨n=2:=by omega
 rcases this with rfl|rfl|rfl<;>decide
theorem b8Y(n:Nat):zvL (n+1)=3*zvL n+20:=rfl
def CY(n:Nat):Sig:= {X:=List UInt8×Int×Int×Int,args:=fun x=>[.box 0 (cur x.1 x.2.1 x.2.2.1),.int .i64 x.2.2.2],pre:=fun x=>(Bx x.1 x.2.1∧n≤2)∧x.2.2.2≤n∧ -5≤x.2.2.2,Y:=List UInt8×Int×Int,post:=fun x y=>y.1.length≤zvL n∧Bx x.1 y.2.1,res:=fun x y=> .str y.1,outs:=fun x y=>[.box 0 (cur x.1 y.2.1 y.2.2),.top],keep:=true}
theorem a5F{k:Int}(h:((0:Int)<12→0≤k∧k<12)∧((12:Int)≤0→k=0)):0≤k∧k<12:=h.1 (by decide)
theorem a5G{k:Int}(h:0≤k):0≤k.tmod 4∧k.tmod 4<4:=SR h (by decide)
def HK:Sig:= {X:=List UInt8×Int×Int×Int,args:=fun x=>[.box 0 (cur x.1 x.2.1 x.2.2.1),.int .i64 x.2.2.2],pre:=fun x=>(Bx x.1 x.2.1∧0≤2)∧x.2.2.2≤(0:Nat)∧ -5≤x.2.2.2,Y:=List UInt8×Int×Int,post:=fun x y=>y.1.length≤zvL 0∧Bx x.1 y.2.1,res:=fun x y=> .str y.1,outs:=fun x y=>[.box 0 (cur x.1 y.2.1 y.2.2),.top],keep:=true}
theorem b8Z:Ai G Tryz.prog 54 HK:=
 vcFun_okP [(31,0,DK),(55,0,Cl)] [(91,⟨List UInt8,Bg⟩)] false (fun x=>[]) Tryz.func54 rfl (by decide) ⟨NU,SS,trivial⟩ (fun(x:List UInt8×Int×Int×Int)=>True∧cA DK [.box 0 (cur x.1 x.2.1 x.2.2.1),.int .i64 (12:Int)] fun x_1 y=>Aa (decide (x.2.2.2≤(0:Int))) ((4:Int)≠(0:Int)∧Aa (Int.tmod y.1 (4:Int)==(0:Int)) (∃(x_2:List UInt8),#[(110:UInt8)].toList=x_2∧∃(x_3:List UInt8),#[(105:UInt8)].toList=x_3∧∃(x_4:List UInt8),#[(107:UInt8)].toList=x_4∧cA Cl [.box 0 (cur x_1.1 y.2.1 y.2.2),AV.sl true 0 1 (List UInt8) Bg [x_2,x_3,x_4]] fun x_5 y=>rA HK x [.str y.1,.box 0 (cur x_5.1 y.2.1 y.2.2),.top]) (Aa (Int.tmod y.1 (4:Int)==(1:Int)) (∃(x_2:List UInt8),#[(110:UInt8)].toList=x_2∧∃(x_3:List UInt8),#[(105:UInt8)].toList=x_3∧∃(x_4:List UInt8),#[(107:UInt8)].toList=x_4∧cA Cl [.box 0 (cur x_1.1 y.2.1 y.2.2),AV.sl true 0 1 (List UInt8) Bg [x_2,x_3,x_4]] fun x_5 y=>rA HK x [.str y.1,.box 0 (cur x_5.1 y.2.1 y.2.2),.top]) (Aa (Int.tmod y.1 (4:Int)==(2:Int)) (∃(x_2:List UInt8),#[(48:UInt8)].toList=x_2∧∃(x_3:List UInt8),#[(49:UInt8)].toList=x_3∧∃(x_4:List UInt8),#[(50:UInt8)].toList=x_4∧∃(x_5:List UInt8),#[(55:UInt8)].toList=x_5∧∃(x_6:List UInt8),#[(57:UInt8),(57:UInt8),(57:UInt8),(57:UInt8),(57:UInt8),(57:UInt8),(57:UInt8),(57:UInt8),(57:UInt8)].toList=x_6∧cA Cl [.box 0 (cur x_1.1 y.2.1 y.2.2),AV.sl true 0 1 (List UInt8) Bg [x_2,x_3,x_4,x_5,x_6]] fun x_7 y=>rA HK x [.str y.1,.box 0 (cur x_7.1 y.2.1 y.2.2),.top]) (Aa (Int.tmod y.1 (4:Int)==(3:Int)) (∃(x_2:List UInt8),#[(48:UInt8)].toList=x_2∧∃(x_3:List UInt8),#[(49:UInt8)].toList=x_3∧∃(x_4:List UInt8),#[(50:UInt8)].toList=x_4∧∃(x_5:List UInt8),#[(55:UInt8)].toList=x_5∧∃(x_6:List UInt8),#[(57:UInt8),(57:UInt8),(57:UInt8),(57:UInt8),(57:UInt8),(57:UInt8),(57:UInt8),(57:UInt8),(57:UInt8)].toList=x_6∧cA Cl [.box 0 (cur x_1.1 y.2.1 y.2.2),AV.sl true 0 1 (List UInt8) Bg [x_2,x_3,x_4,x_5,x_6]] fun x_7 y=>rA HK x [.str y.1,.box 0 (cur x_7.1 y.2.1 y.2.2),.top]) (Aa (Int.tmod y.1 (4:Int)==(4:Int)) (∃(x_2:List UInt8),#[(43:UInt8)].toList=x_2∧∃(x_3:List UInt8),#[(45:UInt8)].toList=x_3∧∃(x_4:List UInt8),#[(42:UInt8)].toList=x_4∧∃(x_5:List UInt8),#[(60:UInt8)].toList=x_5∧∃(x_6:List UInt8),#[(61:UInt8),(61:UInt8)].toList=x_6∧∃(x_7:List UInt8),#[(38:UInt8),(38:UInt8)].toList=x_7∧∃(x_8:List UInt8),#[(124:UInt8),(124:UInt8)].toList=x_8∧cA Cl [.box 0 (cur x_1.1 y.2.1 y.2.2),AV.sl true 0 1 (List UInt8) Bg [x_2,x_3,x_4,x_5,x_6,x_7,x_8]] fun x_9 y=>inR IntKind.i64 (x.2.2.2-(1:Int))∧False) (Aa (Int.tmod y.1 (4:Int)==(5:Int)) (∃(x_2:List UInt8),#[(43:UInt8)].toList=x_2∧∃(x_3:List UInt8),#[(45:UInt8)].toList=x_3∧∃(x_4:List UInt8),#[(42:UInt8)].toList=x_4∧∃(x_5:List UInt8),#[(60:UInt8)].toList=x_5∧∃(x_6:List UInt8),#[(61:UInt8),(61:UInt8)].toList=x_6∧∃(x_7:List UInt8),#[(38:UInt8),(38:UInt8)].toList=x_7∧∃(x_8:List UInt8),#[(124:UInt8),(124:UInt8)].toList=x_8∧cA Cl [.box 0 (cur x_1.1 y.2.1 y.2.2),AV.sl true 0 1 (List UInt8) Bg [x_2,x_3,x_4,x_5,x_6,x_7,x_8]] fun x_9 y=>inR IntKind.i64 (x.2.2.2-(1:Int))∧False) (Aa (Int.tmod y.1 (4:Int)==(6:Int)) (∃(x_2:List UInt8),#[(43:UInt8)].toList=x_2∧∃(x_3:List UInt8),#[(45:UInt8)].toList=x_3∧∃(x_4:List UInt8),#[(42:UInt8)].toList=x_4∧∃(x_5:List UInt8),#[(60:UInt8)].toList=x_5∧∃(x_6:List UInt8),#[(61:UInt8),(61:UInt8)].toList=x_6∧∃(x_7:List UInt8),#[(38:UInt8),(38:UInt8)].toList=x_7∧∃(x_8:List UInt8),#[(124:UInt8),(124:UInt8)].toList=x_8∧cA Cl [.box 0 (cur x_1.1 y.2.1 y.2.2),AV.sl true 0 1 (List UInt8) Bg [x_2,x_3,x_4,x_5,x_6,x_7,x_8]] fun x_9 y=>inR IntKind.i64 (x.2.2.2-(1:Int))∧False) (Aa (Int.tmod y.1 (4:Int)==(7:Int)) (inR IntKind.i64 (x.2.2.2-(1:Int))∧False) (Aa (Int.tmod y.1 (4:Int)==(8:Int)) (inR IntKind.i64 (x.2.2.2-(1:Int))∧False) (Aa (Int.tmod y.1 (4:Int)==(9:Int)) (inR IntKind.i64 (x.2.2.2-(1:Int))∧False) (Aa (Int.tmod y.1 (4:Int)==(10:Int)) (rA HK x [.str #[(40:UInt8),(50:UInt8),(32:UInt8),(43:UInt8),(32:UInt8),(51:UInt8),(41:UInt8),(32:UInt8),(42:UInt8),(32:UInt8),(40:UInt8),(52:UInt8),(32:UInt8),(45:UInt8),(32:UInt8),(49:UInt8),(41:UInt8)].toList,.box 0 (cur x_1.1 y.2.1 y.2.2),.top]) (inR IntKind.i64 (x.2.2.2-(1:Int))∧False)))))))))))) (Aa (y.1==(0:Int)) (∃(x_2:List UInt8),#[(110:UInt8)].toList=x_2∧∃(x_3:List UInt8),#[(105:UInt8)].toList=x_3∧∃(x_4:List UInt8),#[(107:UInt8)].toList=x_4∧cA Cl [.box 0 (cur x_1.1 y.2.1 y.2.2),AV.sl true 0 1 (List UInt8) Bg [x_2,x_3,x_4]] fun x_5 y=>rA HK x [.str y.1,.box 0 (cur x_5.1 y.2.1 y.2.2),.top]) (Aa (y.1==(1:Int)) (∃(x_2:List UInt8),#[(110:UInt8)].toList=x_2∧∃(x_3:List UInt8),#[(105:UInt8)].toList=x_3∧∃(x_4:List UInt8),#[(107:UInt8)].toList=x_4∧cA Cl [.box 0 (cur x_1.1 y.2.1 y.2.2),AV.sl true 0 1 (List UInt8) Bg [x_2,x_3,x_4]] fun x_5 y=>rA HK x [.str y.1,.box 0 (cur x_5.1 y.2.1 y.2.2),.top]) (Aa (y.1==(2:Int)) (∃(x_2:List UInt8),#[(48:UInt8)].toList=x_2∧∃(x_3:List UInt8),#[(49:UInt8)].toList=x_3∧∃(x_4:List UInt8),#[(50:UInt8)].toList=x_4∧∃(x_5:List UInt8),#[(55:UInt8)].toList=x_5∧∃(x_6:List UInt8),#[(57:UInt8),(57:UInt8),(57:UInt8),(57:UInt8),(57:UInt8),(57:UInt8),(57:UInt8),(57:UInt8),(57:UInt8)].toList=x_6∧cA Cl [.box 0 (cur x_1.1 y.2.1 y.2.2),AV.sl true 0 1 (List UInt8) Bg [x_2,x_3,x_4,x_5,x_6]] fun x_7 y=>rA HK x [.str y.1,.box 0 (cur x_7.1 y.2.1 y.2.2),.top]) (Aa (y.1==(3:Int)) (∃(x_2:List UInt8),#[(48:UInt8)].toList=x_2∧∃(x_3:List UInt8),#[(49:UInt8)].toList=x_3∧∃(x_4:List UInt8),#[(50:UInt8)].toList=x_4∧∃(x_5:List UInt8),#[(55:UInt8)].toList=x_5∧∃(x_6:List UInt8),#[(57:UInt8),(57:UInt8),(57:UInt8),(57:UInt8),(57:UInt8),(57:UInt8),(57:UInt8),(57:UInt8),(57:UInt8)].toList=x_6∧cA Cl [.box 0 (cur x_1.1 y.2.1 y.2.2),AV.sl true 0 1 (List UInt8) Bg [x_2,x_3,x_4,x_5,x_6]] fun x_7 y=>rA HK x [.str y.1,.box 0 (cur x_7.1 y.2.1 y.2.2),.top]) (Aa (y.1==(4:Int)) (∃(x_2:List UInt8),#[(43:UInt8)].toList=x_2∧∃(x_3:List UInt8),#[(45:UInt8)].toList=x_3∧∃(x_4:List UInt8),#[(42:UInt8)].toList=x_4∧∃(x_5:List UInt8),#[(60:UInt8)].toList=x_5∧∃(x_6:List UInt8),#[(61:UInt8),(61:UInt8)].toList=x_6∧∃(x_7:List UInt8),#[(38:UInt8),(38:UInt8)].toList=x_7∧∃(x_8:List UInt8),#[(124:UInt8),(124:UInt8)].toList=x_8∧cA Cl [.box 0 (cur x_1.1 y.2.1 y.2.2),AV.sl true 0 1 (List UInt8) Bg [x_2,x_3,x_4,x_5,x_6,x_7,x_8]] fun x_9 y=>inR IntKind.i64 (x.2.2.2-(1:Int))∧False) (Aa (y.1==(5:Int)) (∃(x_2:List UInt8),#[(43:UInt8)].toList=x_2∧∃(x_3:List UInt8),#[(45:UInt8)].toList=x_3∧∃(x_4:List UInt8),#[(42:UInt8)].toList=x_4∧∃(x_5:List UInt8),#[(60:UInt8)].toList=x_5∧∃(x_6:List UInt8),#[(61:UInt8),(61:UInt8)].toList=x_6∧∃(x_7:List UInt8),#[(38:UInt8),(38:UInt8)].toList=x_7∧∃(x_8:List UInt8),#[(124:UInt8),(124:UInt8)].toList=x_8∧cA Cl [.box 0 (cur x_1.1 y.2.1 y.2.2),AV.sl true 0 1 (List UInt8) Bg [x_2,x_3,x_4,x_5,x_6,x_7,x_8]] fun x_9 y=>inR IntKind.i64 (x.2.2.2-(1:Int))∧False) (Aa (y.1==(6:Int)) (∃(x_2:List UInt8),#[(43:UInt8)].toList=x_2∧∃(x_3:List UInt8),#[(45:UInt8)].toList=x_3∧∃(x_4:List UInt8),#[(42:UInt8)].toList=x_4∧∃(x_5:List UInt8),#[(60:UInt8)].toList=x_5∧∃(x_6:List UInt8),#[(61:UInt8),(61:UInt8)].toList=x_6∧∃(x_7:List UInt8),#[(38:UInt8),(38:UInt8)].toList=x_7∧∃(x_8:List UInt8),#[(124:UInt8),(124:UInt8)].toList=x_8∧cA Cl [.box 0 (cur x_1.1 y.2.1 y.2.2),AV.sl true 0 1 (List UInt8) Bg [x_2,x_3,x_4,x_5,x_6,x_7,x_8]] fun x_9 y=>inR IntKind.i64 (x.2.2.2-(1:Int))∧False) (Aa (y.1==(7:Int)) (inR IntKind.i64 (x.2.2.2-(1:Int))∧False) (Aa (y.1==(8:Int)) (inR IntKind.i64 (x.2.2.2-(1:Int))∧False) (Aa (y.1==(9:Int)) (inR IntKind.i64 (x.2.2.2-(1:Int))∧False) (Aa (y.1==(10:Int)) (rA HK x [.str #[(40:UInt8),(50:UInt8),(32:UInt8),(43:UInt8),(32:UInt8),(51:UInt8),(41:UInt8),(32:UInt8),(42:UInt8),(32:UInt8),(40:UInt8),(52:UInt8),(32:UInt8),(45:UInt8),(32:UInt8),(49:UInt8),(41:UInt8)].toList,.box 0 (cur x_1.1 y.2.1 y.2.2),.top]) (inR IntKind.i64 (x.2.2.2-(1:Int))∧False))))))))))))) (fun x=>by kernel_rfl) fun(x:List UInt8×Int×Int×Int) (hx:(Bx x.1 x.2.1∧0≤2)∧x.2.2.2≤(0:Nat)∧ -5≤x.2.2.2)=>(by
 dsimp only[FO,cA,cur,rA,DK,Cl,HK,Au,Az,mvL,lnL,mvE,lnE]
 obtain⟨b,i,h,d⟩:=x;dsimp only at hx ⊢
 obtain⟨⟨hx,hn⟩,hd,hd2⟩:=hx
 have hx:Bx b i:=hx
 have hv:=a5E (n:=0) (by omega)
 (repeat' first|(with_reducible first|rfl|exact True.intro|apply AK|apply And.intro|((first|apply AA|apply AI|apply AB|apply AJ)<;>intro _))|(apply Ax<;>intro _)|apply AH|refine Ae () ?_ ?_|((first|apply AO|apply AN|apply AM|apply AL|apply AG|apply AF|apply AE|apply AD|apply AC)<;>try dsimp only)|apply Ae|(refine Prod.forall.2 ?_;intro _;try dsimp only)|(intro _;try dsimp only))
 all_goals(try(have hk:=a5F (And.left (show(((0:Int)<12→_)∧(_→_))∧Bx _ _ by assumption));have hk5:=a5G hk.1))
 all_goals(repeat(rename _∈_∧Bx _ _=>hq;obtain⟨hq1,_⟩:=hq;have hq2:=TA (n:=20) hq1 (by decide);clear hq1))
 all_goals(repeat(rename _∧Bx _ _=>hq;obtain⟨_,_⟩:=hq))
 all_goals first
  |rfl
  |(with_reducible assumption)
  |exact hx
  |(show Bx _ _;with_reducible assumption)
  |(rename _=[]=>hq;cases hq;done)
  |omega
  |(simp only[AR,List.length_append,List.length_cons,List.length_nil];omega)
  |skip)
def Dz(n:Nat):Sig:= {X:=List UInt8×Int×Int×Int,args:=fun x=>[.box 0 (cur x.1 x.2.1 x.2.2.1),.int .i64 x.2.2.2],pre:=fun x=>(Bx x.1 x.2.1∧n+1≤2)∧x.2.2.2≤(n+1:Nat)∧ -5≤x.2.2.2,Y:=List UInt8×Int×Int,post:=fun x y=>y.1.length≤zvL (n+1)∧Bx x.1 y.2.1,res:=fun x y=> .str y.1,outs:=fun x y=>[.box 0 (cur x.1 y.2.1 y.2.2),.top],keep:=true}
theorem b9a(n:Nat)(hc:Ai G Go.Proofs.Tryz.prog 54 (CY n)):Ai G Tryz.prog 54 (Dz n):=
 vcFun_okP [(31,0,DK),(55,0,Cl),(54,0,(CY n))] [(91,⟨List UInt8,Bg⟩)] false (fun x=>[]) Tryz.func54 rfl (by decide) ⟨NU,SS,hc,trivial⟩ (fun(x:List UInt8×Int×Int×Int)=>True∧cA DK [.box 0 (cur x.1 x.2.1 x.2.2.1),.int .i64 (12:Int)] fun x_1 y=>Aa (decide (x.2.2.2≤(0:Int))) ((4:Int)≠(0:Int)∧Aa (Int.tmod y.1 (4:Int)==(0:Int)) (∃(x_2:List UInt8),#[(110:UInt8)].toList=x_2∧∃(x_3:List UInt8),#[(105:UInt8)].toList=x_3∧∃(x_4:List UInt8),#[(107:UInt8)].toList=x_4∧cA Cl [.box 0 (cur x_1.1 y.2.1 y.2.2),AV.sl true 0 1 (List UInt8) Bg [x_2,x_3,x_4]] fun x_5 y=>rA (Dz n) x [.str y.1,.box 0 (cur x_5.1 y.2.1 y.2.2),.top]) (Aa (Int.tmod y.1 (4:Int)==(1:Int)) (∃(x_2:List UInt8),#[(110:UInt8)].toList=x_2∧∃(x_3:List UInt8),#[(105:UInt8)].toList=x_3∧∃(x_4:List UInt8),#[(107:UInt8)].toList=x_4∧cA Cl [.box 0 (cur x_1.1 y.2.1 y.2.2),AV.sl true 0 1 (List UInt8) Bg [x_2,x_3,x_4]] fun x_5 y=>rA (Dz n) x [.str y.1,.box 0 (cur x_5.1 y.2.1 y.2.2),.top]) (Aa (Int.tmod y.1 (4:Int)==(2:Int)) (∃(x_2:List UInt8),#[(48:UInt8)].toList=x_2∧∃(x_3:List UInt8),#[(49:UInt8)].toList=x_3∧∃(x_4:List UInt8),#[(50:UInt8)].toList=x_4∧∃(x_5:List UInt8),#[(55:UInt8)].toList=x_5∧∃(x_6:List UInt8),#[(57:UInt8),(57:UInt8),(57:UInt8),(57:UInt8),(57:UInt8),(57:UInt8),(57:UInt8),(57:UInt8),(57:UInt8)].toList=x_6∧cA Cl [.box 0 (cur x_1.1 y.2.1 y.2.2),AV.sl true 0 1 (List UInt8) Bg [x_2,x_3,x_4,x_5,x_6]] fun x_7 y=>rA (Dz n) x [.str y.1,.box 0 (cur x_7.1 y.2.1 y.2.2),.top]) (Aa (Int.tmod y.1 (4:Int)==(3:Int)) (∃(x_2:List UInt8),#[(48:UInt8)].toList=x_2∧∃(x_3:List UInt8),#[(49:UInt8)].toList=x_3∧∃(x_4:List UInt8),#[(50:UInt8)].toList=x_4∧∃(x_5:List UInt8),#[(55:UInt8)].toList=x_5∧∃(x_6:List UInt8),#[(57:UInt8),(57:UInt8),(57:UInt8),(57:UInt8),(57:UInt8),(57:UInt8),(57:UInt8),(57:UInt8),(57:UInt8)].toList=x_6∧cA Cl [.box 0 (cur x_1.1 y.2.1 y.2.2),AV.sl true 0 1 (List UInt8) Bg [x_2,x_3,x_4,x_5,x_6]] fun x_7 y=>rA (Dz n) x [.str y.1,.box 0 (cur x_7.1 y.2.1 y.2.2),.top]) (Aa (Int.tmod y.1 (4:Int)==(4:Int)) (∃(x_2:List UInt8),#[(43:UInt8)].toList=x_2∧∃(x_3:List UInt8),#[(45:UInt8)].toList=x_3∧∃(x_4:List UInt8),#[(42:UInt8)].toList=x_4∧∃(x_5:List UInt8),#[(60:UInt8)].toList=x_5∧∃(x_6:List UInt8),#[(61:UInt8),(61:UInt8)].toList=x_6∧∃(x_7:List UInt8),#[(38:UInt8),(38:UInt8)].toList=x_7∧∃(x_8:List UInt8),#[(124:UInt8),(124:UInt8)].toList=x_8∧cA Cl [.box 0 (cur x_1.1 y.2.1 y.2.2),AV.sl true 0 1 (List UInt8) Bg [x_2,x_3,x_4,x_5,x_6,x_7,x_8]] fun x_9 y=>inR IntKind.i64 (x.2.2.2-(1:Int))∧cA (CY n) [.box 0 (cur x_9.1 y.2.1 y.2.2),.int .i64 (x.2.2.2-(1:Int))] fun x_10 y_1=>(↑((1:Nat)+List.length y_1.1):Int)≤IntKind.max IntKind.i64∧(↑(List.length (#[(40:UInt8)].toList++y_1.1)+(2:Nat)):Int)≤IntKind.max IntKind.i64∧(↑(List.length (#[(40:UInt8)].toList++y_1.1++ #[(41:UInt8),(32:UInt8)].toList)+List.length y.1):Int)≤IntKind.max IntKind.i64∧(↑(List.length (#[(40:UInt8)].toList++y_1.1++ #[(41:UInt8),(32:UInt8)].toList++y.1)+(2:Nat)):Int)≤IntKind.max IntKind.i64∧inR IntKind.i64 (x.2.2.2-(1:Int))∧cA (CY n) [.box 0 (cur x_10.1 y_1.2.1 y_1.2.2),.int .i64 (x.2.2.2-(1:Int))] fun x_11 y_2=>(↑(List.length (#[(40:UInt8)].toList++y_1.1++ #[(41:UInt8),(32:UInt8)].toList++y.1++ #[(32:UInt8),(40:UInt8)].toList)+List.length y_2.1):Int)≤IntKind.max IntKind.i64∧(↑(List.length (#[(40:UInt8)].toList++y_1.1++ #[(41:UInt8),(32:UInt8)].toList++y.1++ #[(32:UInt8),(40:UInt8)].toList++y_2.1)+(1:Nat)):Int)≤IntKind.max IntKind.i64∧rA (Dz n) x [.str (#[(40:UInt8)].toList++y_1.1++ #[(41:UInt8),(32:UInt8)].toList++y.1++ #[(32:UInt8),(40:UInt8)].toList++y_2.1++ #[(41:UInt8)].toList),.box 0 (cur x_11.1 y_2.2.1 y_2.2.2),.top]) (Aa (Int.tmod y.1 (4:Int)==(5:Int)) (∃(x_2:List UInt8),#[(43:UInt8)].toList=x_2∧∃(x_3:List UInt8),#[(45:UInt8)].toList=x_3∧∃(x_4:List UInt8),#[(42:UInt8)].toList=x_4∧∃(x_5:List UInt8),#[(60:UInt8)].toList=x_5∧∃(x_6:List UInt8),#[(61:UInt8),(61:UInt8)].toList=x_6∧∃(x_7:List UInt8),#[(38:UInt8),(38:UInt8)].toList=x_7∧∃(x_8:List UInt8),#[(124:UInt8),(124:UInt8)].toList=x_8∧cA Cl [.box 0 (cur x_1.1 y.2.1 y.2.2),AV.sl true 0 1 (List UInt8) Bg [x_2,x_3,x_4,x_5,x_6,x_7,x_8]] fun x_9 y=>inR IntKind.i64 (x.2.2.2-(1:Int))∧cA (CY n) [.box 0 (cur x_9.1 y.2.1 y.2.2),.int .i64 (x.2.2.2-(1:Int))] fun x_10 y_1=>(↑((1:Nat)+List.length y_1.1):Int)≤IntKind.max IntKind.i64∧(↑(List.length (#[(40:UInt8)].toList++y_1.1)+(2:Nat)):Int)≤IntKind.max IntKind.i64∧(↑(List.length (#[(40:UInt8)].toList++y_1.1++ #[(41:UInt8),(32:UInt8)].toList)+List.length y.1):Int)≤IntKind.max IntKind.i64∧(↑(List.length (#[(40:UInt8)].toList++y_1.1++ #[(41:UInt8),(32:UInt8)].toList++y.1)+(2:Nat)):Int)≤IntKind.max IntKind.i64∧inR IntKind.i64 (x.2.2.2-(1:Int))∧cA (CY n) [.box 0 (cur x_10.1 y_1.2.1 y_1.2.2),.int .i64 (x.2.2.2-(1:Int))] fun x_11 y_2=>(↑(List.length (#[(40:UInt8)].toList++y_1.1++ #[(41:UInt8),(32:UInt8)].toList++y.1++ #[(32:UInt8),(40:UInt8)].toList)+List.length y_2.1):Int)≤IntKind.max IntKind.i64∧(↑(List.length (#[(40:UInt8)].toList++y_1.1++ #[(41:UInt8),(32:UInt8)].toList++y.1++ #[(32:UInt8),(40:UInt8)].toList++y_2.1)+(1:Nat)):Int)≤IntKind.max IntKind.i64∧rA (Dz n) x [.str (#[(40:UInt8)].toList++y_1.1++ #[(41:UInt8),(32:UInt8)].toList++y.1++ #[(32:UInt8),(40:UInt8)].toList++y_2.1++ #[(41:UInt8)].toList),.box 0 (cur x_11.1 y_2.2.1 y_2.2.2),.top]) (Aa (Int.tmod y.1 (4:Int)==(6:Int)) (∃(x_2:List UInt8),#[(43:UInt8)].toList=x_2∧∃(x_3:List UInt8),#[(45:UInt8)].toList=x_3∧∃(x_4:List UInt8),#[(42:UInt8)].toList=x_4∧∃(x_5:List UInt8),#[(60:UInt8)].toList=x_5∧∃(x_6:List UInt8),#[(61:UInt8),(61:UInt8)].toList=x_6∧∃(x_7:List UInt8),#[(38:UInt8),(38:UInt8)].toList=x_7∧∃(x_8:List UInt8),#[(124:UInt8),(124:UInt8)].toList=x_8∧cA Cl [.box 0 (cur x_1.1 y.2.1 y.2.2),AV.sl true 0 1 (List UInt8) Bg [x_2,x_3,x_4,x_5,x_6,x_7,x_8]] fun x_9 y=>inR IntKind.i64 (x.2.2.2-(1:Int))∧cA (CY n) [.box 0 (cur x_9.1 y.2.1 y.2.2),.int .i64 (x.2.2.2-(1:Int))] fun x_10 y_1=>(↑((1:Nat)+List.length y_1.1):Int)≤IntKind.max IntKind.i64∧(↑(List.length (#[(40:UInt8)].toList++y_1.1)+(2:Nat)):Int)≤IntKind.max IntKind.i64∧(↑(List.length (#[(40:UInt8)].toList++y_1.1++ #[(41:UInt8),(32:UInt8)].toList)+List.length y.1):Int)≤IntKind.max IntKind.i64∧(↑(List.length (#[(40:UInt8)].toList++y_1.1++ #[(41:UInt8),(32:UInt8)].toList++y.1)+(2:Nat)):Int)≤IntKind.max IntKind.i64∧inR IntKind.i64 (x.2.2.2-(1:Int))∧cA (CY n) [.box 0 (cur x_10.1 y_1.2.1 y_1.2.2),.int .i64 (x.2.2.2-(1:Int))] fun x_11 y_2=>(↑(List.length (#[(40:UInt8)].toList++y_1.1++ #[(41:UInt8),(32:UInt8)].toList++y.1++ #[(32:UInt8),(40:UInt8)].toList)+List.length y_2.1):Int)≤IntKind.max IntKind.i64∧(↑(List.length (#[(40:UInt8)].toList++y_1.1++ #[(41:UInt8),(32:UInt8)].toList++y.1++ #[(32:UInt8),(40:UInt8)].toList++y_2.1)+(1:Nat)):Int)≤IntKind.max IntKind.i64∧rA (Dz n) x [.str (#[(40:UInt8)].toList++y_1.1++ #[(41:UInt8),(32:UInt8)].toList++y.1++ #[(32:UInt8),(40:UInt8)].toList++y_2.1++ #[(41:UInt8)].toList),.box 0 (cur x_11.1 y_2.2.1 y_2.2.2),.top]) (Aa (Int.tmod y.1 (4:Int)==(7:Int)) (inR IntKind.i64 (x.2.2.2-(1:Int))∧cA (CY n) [.box 0 (cur x_1.1 y.2.1 y.2.2),.int .i64 (x.2.2.2-(1:Int))] fun x_2 y=>(↑((2:Nat)+List.length y.1):Int)≤IntKind.max IntKind.i64∧(↑(List.length (#[(40:UInt8),(40:UInt8)].toList++y.1)+(9:Nat)):Int)≤IntKind.max IntKind.i64∧inR IntKind.i64 (x.2.2.2-(1:Int))∧cA (CY n) [.box 0 (cur x_2.1 y.2.1 y.2.2),.int .i64 (x.2.2.2-(1:Int))] fun x_3 y_1=>(↑(List.length (#[(40:UInt8),(40:UInt8)].toList++y.1++ #[(41:UInt8),(41:UInt8),(32:UInt8),(43:UInt8),(32:UInt8),(49:UInt8),(32:UInt8),(43:UInt8),(32:UInt8)].toList)+List.length y_1.1):Int)≤IntKind.max IntKind.i64∧rA (Dz n) x [.str (#[(40:UInt8),(40:UInt8)].toList++y.1++ #[(41:UInt8),(41:UInt8),(32:UInt8),(43:UInt8),(32:UInt8),(49:UInt8),(32:UInt8),(43:UInt8),(32:UInt8)].toList++y_1.1),.box 0 (cur x_3.1 y_1.2.1 y_1.2.2),.top]) (Aa (Int.tmod y.1 (4:Int)==(8:Int)) (inR IntKind.i64 (x.2.2.2-(1:Int))∧cA (CY n) [.box 0 (cur x_1.1 y.2.1 y.2.2),.int .i64 (x.2.2.2-(1:Int))] fun x_2 y=>(↑(List.length y.1+(7:Nat)):Int)≤IntKind.max IntKind.i64∧inR IntKind.i64 (x.2.2.2-(1:Int))∧cA (CY n) [.box 0 (cur x_2.1 y.2.1 y.2.2),.int .i64 (x.2.2.2-(1:Int))] fun x_3 y_1=>(↑(List.length (y.1++ #[(32:UInt8),(60:UInt8),(32:UInt8),(51:UInt8),(32:UInt8),(63:UInt8),(32:UInt8)].toList)+List.length y_1.1):Int)≤IntKind.max IntKind.i64∧(↑(List.length (y.1++ #[(32:UInt8),(60:UInt8),(32:UInt8),(51:UInt8),(32:UInt8),(63:UInt8),(32:UInt8)].toList++y_1.1)+(3:Nat)):Int)≤IntKind.max IntKind.i64∧inR IntKind.i64 (x.2.2.2-(1:Int))∧cA (CY n) [.box 0 (cur x_3.1 y_1.2.1 y_1.2.2),.int .i64 (x.2.2.2-(1:Int))] fun x_4 y_2=>(↑(List.length (y.1++ #[(32:UInt8),(60:UInt8),(32:UInt8),(51:UInt8),(32:UInt8),(63:UInt8),(32:UInt8)].toList++y_1.1++ #[(32:UInt8),(58:UInt8),(32:UInt8)].toList)+List.length y_2.1):Int)≤IntKind.max IntKind.i64∧rA (Dz n) x [.str (y.1++ #[(32:UInt8),(60:UInt8),(32:UInt8),(51:UInt8),(32:UInt8),(63:UInt8),(32:UInt8)].toList++y_1.1++ #[(32:UInt8),(58:UInt8),(32:UInt8)].toList++y_2.1),.box 0 (cur x_4.1 y_2.2.1 y_2.2.2),.top]) (Aa (Int.tmod y.1 (4:Int)==(9:Int)) (inR IntKind.i64 (x.2.2.2-(1:Int))∧cA (CY n) [.box 0 (cur x_1.1 y.2.1 y.2.2),.int .i64 (x.2.2.2-(1:Int))] fun x_2 y=>(↑((6:Nat)+List.length y.1):Int)≤IntKind.max IntKind.i64∧(↑(List.length (#[(116:UInt8),(119:UInt8),(105:UInt8),(99:UInt8),(101:UInt8),(40:UInt8)].toList++y.1)+(1:Nat)):Int)≤IntKind.max IntKind.i64∧rA (Dz n) x [.str (#[(116:UInt8),(119:UInt8),(105:UInt8),(99:UInt8),(101:UInt8),(40:UInt8)].toList++y.1++ #[(41:UInt8)].toList),.box 0 (cur x_2.1 y.2.1 y.2.2),.top]) (Aa (Int.tmod y.1 (4:Int)==(10:Int)) (rA (Dz n) x [.str #[(40:UInt8),(50:UInt8),(32:UInt8),(43:UInt8),(32:UInt8),(51:UInt8),(41:UInt8),(32:UInt8),(42:UInt8),(32:UInt8),(40:UInt8),(52:UInt8),(32:UInt8),(45:UInt8),(32:UInt8),(49:UInt8),(41:UInt8)].toList,.box 0 (cur x_1.1 y.2.1 y.2.2),.top]) (inR IntKind.i64 (x.2.2.2-(1:Int))∧cA (CY n) [.box 0 (cur x_1.1 y.2.1 y.2.2),.int .i64 (x.2.2.2-(1:Int))] fun x_2 y=>(↑((1:Nat)+List.length y.1):Int)≤IntKind.max IntKind.i64∧(↑(List.length (#[(40:UInt8)].toList++y.1)+(1:Nat)):Int)≤IntKind.max IntKind.i64∧rA (Dz n) x [.str (#[(40:UInt8)].toList++y.1++ #[(41:UInt8)].toList),.box 0 (cur x_2.1 y.2.1 y.2.2),.top])))))))))))) (Aa (y.1==(0:Int)) (∃(x_2:List UInt8),#[(110:UInt8)].toList=x_2∧∃(x_3:List UInt8),#[(105:UInt8)].toList=x_3∧∃(x_4:List UInt8),#[(107:UInt8)].toList=x_4∧cA Cl [.box 0 (cur x_1.1 y.2.1 y.2.2),AV.sl true 0 1 (List UInt8) Bg [x_2,x_3,x_4]] fun x_5 y=>rA (Dz n) x [.str y.1,.box 0 (cur x_5.1 y.2.1 y.2.2),.top]) (Aa (y.1==(1:Int)) (∃(x_2:List UInt8),#[(110:UInt8)].toList=x_2∧∃(x_3:List UInt8),#[(105:UInt8)].toList=x_3∧∃(x_4:List UInt8),#[(107:UInt8)].toList=x_4∧cA Cl [.box 0 (cur x_1.1 y.2.1 y.2.2),AV.sl true 0 1 (List UInt8) Bg [x_2,x_3,x_4]] fun x_5 y=>rA (Dz n) x [.str y.1,.box 0 (cur x_5.1 y.2.1 y.2.2),.top]) (Aa (y.1==(2:Int)) (∃(x_2:List UInt8),#[(48:UInt8)].toList=x_2∧∃(x_3:List UInt8),#[(49:UInt8)].toList=x_3∧∃(x_4:List UInt8),#[(50:UInt8)].toList=x_4∧∃(x_5:List UInt8),#[(55:UInt8)].toList=x_5∧∃(x_6:List UInt8),#[(57:UInt8),(57:UInt8),(57:UInt8),(57:UInt8),(57:UInt8),(57:UInt8),(57:UInt8),(57:UInt8),(57:UInt8)].toList=x_6∧cA Cl [.box 0 (cur x_1.1 y.2.1 y.2.2),AV.sl true 0 1 (List UInt8) Bg [x_2,x_3,x_4,x_5,x_6]] fun x_7 y=>rA (Dz n) x [.str y.1,.box 0 (cur x_7.1 y.2.1 y.2.2),.top]) (Aa (y.1==(3:Int)) (∃(x_2:List UInt8),#[(48:UInt8)].toList=x_2∧∃(x_3:List UInt8),#[(49:UInt8)].toList=x_3∧∃(x_4:List UInt8),#[(50:UInt8)].toList=x_4∧∃(x_5:List UInt8),#[(55:UInt8)].toList=x_5∧∃(x_6:List UInt8),#[(57:UInt8),(57:UInt8),(57:UInt8),(57:UInt8),(57:UInt8),(57:UInt8),(57:UInt8),(57:UInt8),(57:UInt8)].toList=x_6∧cA Cl [.box 0 (cur x_1.1 y.2.1 y.2.2),AV.sl true 0 1 (List UInt8) Bg [x_2,x_3,x_4,x_5,x_6]] fun x_7 y=>rA (Dz n) x [.str y.1,.box 0 (cur x_7.1 y.2.1 y.2.2),.top]) (Aa (y.1==(4:Int)) (∃(x_2:List UInt8),#[(43:UInt8)].toList=x_2∧∃(x_3:List UInt8),#[(45:UInt8)].toList=x_3∧∃(x_4:List UInt8),#[(42:UInt8)].toList=x_4∧∃(x_5:List UInt8),#[(60:UInt8)].toList=x_5∧∃(x_6:List UInt8),#[(61:UInt8),(61:UInt8)].toList=x_6∧∃(x_7:List UInt8),#[(38:UInt8),(38:UInt8)].toList=x_7∧∃(x_8:List UInt8),#[(124:UInt8),(124:UInt8)].toList=x_8∧cA Cl [.box 0 (cur x_1.1 y.2.1 y.2.2),AV.sl true 0 1 (List UInt8) Bg [x_2,x_3,x_4,x_5,x_6,x_7,x_8]] fun x_9 y=>inR IntKind.i64 (x.2.2.2-(1:Int))∧cA (CY n) [.box 0 (cur x_9.1 y.2.1 y.2.2),.int .i64 (x.2.2.2-(1:Int))] fun x_10 y_1=>(↑((1:Nat)+List.length y_1.1):Int)≤IntKind.max IntKind.i64∧(↑(List.length (#[(40:UInt8)].toList++y_1.1)+(2:Nat)):Int)≤IntKind.max IntKind.i64∧(↑(List.length (#[(40:UInt8)].toList++y_1.1++ #[(41:UInt8),(32:UInt8)].toList)+List.length y.1):Int)≤IntKind.max IntKind.i64∧(↑(List.length (#[(40:UInt8)].toList++y_1.1++ #[(41:UInt8),(32:UInt8)].toList++y.1)+(2:Nat)):Int)≤IntKind.max IntKind.i64∧inR IntKind.i64 (x.2.2.2-(1:Int))∧cA (CY n) [.box 0 (cur x_10.1 y_1.2.1 y_1.2.2),.int .i64 (x.2.2.2-(1:Int))] fun x_11 y_2=>(↑(List.length (#[(40:UInt8)].toList++y_1.1++ #[(41:UInt8),(32:UInt8)].toList++y.1++ #[(32:UInt8),(40:UInt8)].toList)+List.length y_2.1):Int)≤IntKind.max IntKind.i64∧(↑(List.length (#[(40:UInt8)].toList++y_1.1++ #[(41:UInt8),(32:UInt8)].toList++y.1++ #[(32:UInt8),(40:UInt8)].toList++y_2.1)+(1:Nat)):Int)≤IntKind.max IntKind.i64∧rA (Dz n) x [.str (#[(40:UInt8)].toList++y_1.1++ #[(41:UInt8),(32:UInt8)].toList++y.1++ #[(32:UInt8),(40:UInt8)].toList++y_2.1++ #[(41:UInt8)].toList),.box 0 (cur x_11.1 y_2.2.1 y_2.2.2),.top]) (Aa (y.1==(5:Int)) (∃(x_2:List UInt8),#[(43:UInt8)].toList=x_2∧∃(x_3:List UInt8),#[(45:UInt8)].toList=x_3∧∃(x_4:List UInt8),#[(42:UInt8)].toList=x_4∧∃(x_5:List UInt8),#[(60:UInt8)].toList=x_5∧∃(x_6:List UInt8),#[(61:UInt8),(61:UInt8)].toList=x_6∧∃(x_7:List UInt8),#[(38:UInt8),(38:UInt8)].toList=x_7∧∃(x_8:List UInt8),#[(124:UInt8),(124:UInt8)].toList=x_8∧cA Cl [.box 0 (cur x_1.1 y.2.1 y.2.2),AV.sl true 0 1 (List UInt8) Bg [x_2,x_3,x_4,x_5,x_6,x_7,x_8]] fun x_9 y=>inR IntKind.i64 (x.2.2.2-(1:Int))∧cA (CY n) [.box 0 (cur x_9.1 y.2.1 y.2.2),.int .i64 (x.2.2.2-(1:Int))] fun x_10 y_1=>(↑((1:Nat)+List.length y_1.1):Int)≤IntKind.max IntKind.i64∧(↑(List.length (#[(40:UInt8)].toList++y_1.1)+(2:Nat)):Int)≤IntKind.max IntKind.i64∧(↑(List.length (#[(40:UInt8)].toList++y_1.1++ #[(41:UInt8),(32:UInt8)].toList)+List.length y.1):Int)≤IntKind.max IntKind.i64∧(↑(List.length (#[(40:UInt8)].toList++y_1.1++ #[(41:UInt8),(32:UInt8)].toList++y.1)+(2:Nat)):Int)≤IntKind.max IntKind.i64∧inR IntKind.i64 (x.2.2.2-(1:Int))∧cA (CY n) [.box 0 (cur x_10.1 y_1.2.1 y_1.2.2),.int .i64 (x.2.2.2-(1:Int))] fun x_11 y_2=>(↑(List.length (#[(40:UInt8)].toList++y_1.1++ #[(41:UInt8),(32:UInt8)].toList++y.1++ #[(32:UInt8),(40:UInt8)].toList)+List.length y_2.1):Int)≤IntKind.max IntKind.i64∧(↑(List.length (#[(40:UInt8)].toList++y_1.1++ #[(41:UInt8),(32:UInt8)].toList++y.1++ #[(32:UInt8),(40:UInt8)].toList++y_2.1)+(1:Nat)):Int)≤IntKind.max IntKind.i64∧rA (Dz n) x [.str (#[(40:UInt8)].toList++y_1.1++ #[(41:UInt8),(32:UInt8)].toList++y.1++ #[(32:UInt8),(40:UInt8)].toList++y_2.1++ #[(41:UInt8)].toList),.box 0 (cur x_11.1 y_2.2.1 y_2.2.2),.top]) (Aa (y.1==(6:Int)) (∃(x_2:List UInt8),#[(43:UInt8)].toList=x_2∧∃(x_3:List UInt8),#[(45:UInt8)].toList=x_3∧∃(x_4:List UInt8),#[(42:UInt8)].toList=x_4∧∃(x_5:List UInt8),#[(60:UInt8)].toList=x_5∧∃(x_6:List UInt8),#[(61:UInt8),(61:UInt8)].toList=x_6∧∃(x_7:List UInt8),#[(38:UInt8),(38:UInt8)].toList=x_7∧∃(x_8:List UInt8),#[(124:UInt8),(124:UInt8)].toList=x_8∧cA Cl [.box 0 (cur x_1.1 y.2.1 y.2.2),AV.sl true 0 1 (List UInt8) Bg [x_2,x_3,x_4,x_5,x_6,x_7,x_8]] fun x_9 y=>inR IntKind.i64 (x.2.2.2-(1:Int))∧cA (CY n) [.box 0 (cur x_9.1 y.2.1 y.2.2),.int .i64 (x.2.2.2-(1:Int))] fun x_10 y_1=>(↑((1:Nat)+List.length y_1.1):Int)≤IntKind.max IntKind.i64∧(↑(List.length (#[(40:UInt8)].toList++y_1.1)+(2:Nat)):Int)≤IntKind.max IntKind.i64∧(↑(List.length (#[(40:UInt8)].toList++y_1.1++ #[(41:UInt8),(32:UInt8)].toList)+List.length y.1):Int)≤IntKind.max IntKind.i64∧(↑(List.length (#[(40:UInt8)].toList++y_1.1++ #[(41:UInt8),(32:UInt8)].toList++y.1)+(2:Nat)):Int)≤IntKind.max IntKind.i64∧inR IntKind.i64 (x.2.2.2-(1:Int))∧cA (CY n) [.box 0 (cur x_10.1 y_1.2.1 y_1.2.2),.int .i64 (x.2.2.2-(1:Int))] fun x_11 y_2=>(↑(List.length (#[(40:UInt8)].toList++y_1.1++ #[(41:UInt8),(32:UInt8)].toList++y.1++ #[(32:UInt8),(40:UInt8)].toList)+List.length y_2.1):Int)≤IntKind.max IntKind.i64∧(↑(List.length (#[(40:UInt8)].toList++y_1.1++ #[(41:UInt8),(32:UInt8)].toList++y.1++ #[(32:UInt8),(40:UInt8)].toList++y_2.1)+(1:Nat)):Int)≤IntKind.max IntKind.i64∧rA (Dz n) x [.str (#[(40:UInt8)].toList++y_1.1++ #[(41:UInt8),(32:UInt8)].toList++y.1++ #[(32:UInt8),(40:UInt8)].toList++y_2.1++ #[(41:UInt8)].toList),.box 0 (cur x_11.1 y_2.2.1 y_2.2.2),.top]) (Aa (y.1==(7:Int)) (inR IntKind.i64 (x.2.2.2-(1:Int))∧cA (CY n) [.box 0 (cur x_1.1 y.2.1 y.2.2),.int .i64 (x.2.2.2-(1:Int))] fun x_2 y=>(↑((2:Nat)+List.length y.1):Int)≤IntKind.max IntKind.i64∧(↑(List.length (#[(40:UInt8),(40:UInt8)].toList++y.1)+(9:Nat)):Int)≤IntKind.max IntKind.i64∧inR IntKind.i64 (x.2.2.2-(1:Int))∧cA (CY n) [.box 0 (cur x_2.1 y.2.1 y.2.2),.int .i64 (x.2.2.2-(1:Int))] fun x_3 y_1=>(↑(List.length (#[(40:UInt8),(40:UInt8)].toList++y.1++ #[(41:UInt8),(41:UInt8),(32:UInt8),(43:UInt8),(32:UInt8),(49:UInt8),(32:UInt8),(43:UInt8),(32:UInt8)].toList)+List.length y_1.1):Int)≤IntKind.max IntKind.i64∧rA (Dz n) x [.str (#[(40:UInt8),(40:UInt8)].toList++y.1++ #[(41:UInt8),(41:UInt8),(32:UInt8),(43:UInt8),(32:UInt8),(49:UInt8),(32:UInt8),(43:UInt8),(32:UInt8)].toList++y_1.1),.box 0 (cur x_3.1 y_1.2.1 y_1.2.2),.top]) (Aa (y.1==(8:Int)) (inR IntKind.i64 (x.2.2.2-(1:Int))∧cA (CY n) [.box 0 (cur x_1.1 y.2.1 y.2.2),.int .i64 (x.2.2.2-(1:Int))] fun x_2 y=>(↑(List.length y.1+(7:Nat)):Int)≤IntKind.max IntKind.i64∧inR IntKind.i64 (x.2.2.2-(1:Int))∧cA (CY n) [.box 0 (cur x_2.1 y.2.1 y.2.2),.int .i64 (x.2.2.2-(1:Int))] fun x_3 y_1=>(↑(List.length (y.1++ #[(32:UInt8),(60:UInt8),(32:UInt8),(51:UInt8),(32:UInt8),(63:UInt8),(32:UInt8)].toList)+List.length y_1.1):Int)≤IntKind.max IntKind.i64∧(↑(List.length (y.1++ #[(32:UInt8),(60:UInt8),(32:UInt8),(51:UInt8),(32:UInt8),(63:UInt8),(32:UInt8)].toList++y_1.1)+(3:Nat)):Int)≤IntKind.max IntKind.i64∧inR IntKind.i64 (x.2.2.2-(1:Int))∧cA (CY n) [.box 0 (cur x_3.1 y_1.2.1 y_1.2.2),.int .i64 (x.2.2.2-(1:Int))] fun x_4 y_2=>(↑(List.length (y.1++ #[(32:UInt8),(60:UInt8),(32:UInt8),(51:UInt8),(32:UInt8),(63:UInt8),(32:UInt8)].toList++y_1.1++ #[(32:UInt8),(58:UInt8),(32:UInt8)].toList)+List.length y_2.1):Int)≤IntKind.max IntKind.i64∧rA (Dz n) x [.str (y.1++ #[(32:UInt8),(60:UInt8),(32:UInt8),(51:UInt8),(32:UInt8),(63:UInt8),(32:UInt8)].toList++y_1.1++ #[(32:UInt8),(58:UInt8),(32:UInt8)].toList++y_2.1),.box 0 (cur x_4.1 y_2.2.1 y_2.2.2),.top]) (Aa (y.1==(9:Int)) (inR IntKind.i64 (x.2.2.2-(1:Int))∧cA (CY n) [.box 0 (cur x_1.1 y.2.1 y.2.2),.int .i64 (x.2.2.2-(1:Int))] fun x_2 y=>(↑((6:Nat)+List.length y.1):Int)≤IntKind.max IntKind.i64∧(↑(List.length (#[(116:UInt8),(119:UInt8),(105:UInt8),(99:UInt8),(101:UInt8),(40:UInt8)].toList++y.1)+(1:Nat)):Int)≤IntKind.max IntKind.i64∧rA (Dz n) x [.str (#[(116:UInt8),(119:UInt8),(105:UInt8),(99:UInt8),(101:UInt8),(40:UInt8)].toList++y.1++ #[(41:UInt8)].toList),.box 0 (cur x_2.1 y.2.1 y.2.2),.top]) (Aa (y.1==(10:Int)) (rA (Dz n) x [.str #[(40:UInt8),(50:UInt8),(32:UInt8),(43:UInt8),(32:UInt8),(51:UInt8),(41:UInt8),(32:UInt8),(42:UInt8),(32:UInt8),(40:UInt8),(52:UInt8),(32:UInt8),(45:UInt8),(32:UInt8),(49:UInt8),(41:UInt8)].toList,.box 0 (cur x_1.1 y.2.1 y.2.2),.top]) (inR IntKind.i64 (x.2.2.2-(1:Int))∧cA (CY n) [.box 0 (cur x_1.1 y.2.1 y.2.2),.int .i64 (x.2.2.2-(1:Int))] fun x_2 y=>(↑((1:Nat)+List.length y.1):Int)≤IntKind.max IntKind.i64∧(↑(List.length (#[(40:UInt8)].toList++y.1)+(1:Nat)):Int)≤IntKind.max IntKind.i64∧rA (Dz n) x [.str (#[(40:UInt8)].toList++y.1++ #[(41:UInt8)].toList),.box 0 (cur x_2.1 y.2.1 y.2.2),.top]))))))))))))) (fun x=>by kernel_rfl) fun(x:List UInt8×Int×Int×Int) (hx:(Bx x.1 x.2.1∧n+1≤2)∧x.2.2.2≤(n+1:Nat)∧ -5≤x.2.2.2)=>(by
 dsimp only[FO,cA,cur,rA,DK,Cl,Dz,CY,Au,Az,mvL,lnL,mvE,lnE]
 obtain⟨b,i,h,d⟩:=x;dsimp only at hx ⊢
 obtain⟨⟨hx,hn⟩,hd,hd2⟩:=hx
 have hx:Bx b i:=hx
 have hv:=a5E (n:=n) (by omega);have hv2:=b8Y n
 (repeat' first|(with_reducible first|rfl|exact True.intro|apply AK|apply And.intro|((first|apply AA|apply AI|apply AB|apply AJ)<;>intro _))|(apply Ax<;>intro _)|apply AH|refine Ae () ?_ ?_|((first|apply AO|apply AN|apply AM|apply AL|apply AG|apply AF|apply AE|apply AD|apply AC)<;>try dsimp only)|apply Ae|(refine Prod.forall.2 ?_;intro _;try dsimp only)|(intro _;try dsimp only))
 all_goals(try(have hk:=a5F (And.left (show(((0:Int)<12→_)∧(_→_))∧Bx _ _ by assumption));have hk5:=a5G hk.1))
 all_goals(repeat(rename _∈_∧Bx _ _=>hq;obtain⟨hq1,_⟩:=hq;have hq2:=TA (n:=20) hq1 (by decide);clear hq1))
 all_goals(repeat(rename _∧Bx _ _=>hq;obtain⟨_,_⟩:=hq))
 all_goals first
  |rfl
  |(with_reducible assumption)
  |exact hx
  |(show Bx _ _;with_reducible assumption)
  |(rename _=[]=>hq;cases hq;done)
  |omega
  |(simp only[AR,List.length_append,List.length_cons,List.length_nil];omega)
  |skip)
theorem a5H:∀n,Ai G Go.Proofs.Tryz.prog 54 (CY n)
 |0=>b8Z
 |n+1=>b9a n (a5H n)
end Go.My
end
section
namespace Go.My
open Go.Eng Go.Proofs
variable {G:GInv}
def JV:Sig:= {X:=List UInt8×Int×Int×Int,args:=fun x=>[.box 0 (cur x.1 x.2.1 x.2.2.1),.int .i64 x.2.2.2],pre:=fun x=>(Bx x.1 x.2.1∧2≤2)∧x.2.2.2≤2∧ -5≤x.2.2.2,Y:=List UInt8×Int×Int,post:=fun x y=>y.1.length≤260∧Bx x.1 y.2.1,res:=fun x y=> .str y.1,outs:=fun x y=>[.box 0 (cur x.1 y.2.1 y.2.2),.top],keep:=true}
theorem b9b:Ai G Go.Proofs.Tryz.prog 54 JV:=a5H 2
theorem b9c{k:Int}(h:((0:Int)<5→0≤k∧k<5)∧((5:Int)≤0→k=0)):0≤k∧k<5:=h.1 (by decide)
def Om:Sig:= {X:=List UInt8×Int×Int,args:=fun x=>[.box 0 (cur x.1 x.2.1 x.2.2)],pre:=fun x=>Bx x.1 x.2.1,Y:=List UInt8×Int×Int,post:=fun x y=>y.1.length≤4000∧Bx x.1 y.2.1,res:=fun x y=> .str y.1,outs:=fun x y=>[.box 0 (cur x.1 y.2.1 y.2.2)],keep:=true}
def JW(x:List UInt8×Int×Int):LS:= {ι:=Int×Int×Int×List UInt8,inv:=fun i=>((0≤i.1∧i.1≤5)∧(i.2.2.2.length:Int)≤60+600*i.1)∧Bx x.1 i.2.1,regs:=fun i=>[(0,.box 0 (cur x.1 i.2.1 i.2.2.1)),(3,.str i.2.2.2),(4,.int .i64 i.1)],als:=[],meas:=fun i=>6-i.1.toNat}
theorem b9d:Ai G Tryz.prog 27 Om:=
 vcFun_okP [(31,0,DK),(55,0,Cl),(54,0,JV)] [(91,⟨List UInt8,Bg⟩)] false (fun x=>[(3,JW x)]) Tryz.func27 rfl (by decide) ⟨NU,SS,b9b,trivial⟩ (fun(x:List UInt8×Int×Int)=>True∧eA (JW x) [.box 0 (cur x.1 x.2.1 x.2.2),.str #[(116:UInt8),(119:UInt8),(105:UInt8),(99:UInt8),(101:UInt8),(40:UInt8),(120:UInt8),(41:UInt8),(32:UInt8),(123:UInt8),(32:UInt8),(114:UInt8),(101:UInt8),(116:UInt8),(117:UInt8),(114:UInt8),(110:UInt8),(32:UInt8),(120:UInt8),(32:UInt8),(43:UInt8),(32:UInt8),(120:UInt8),(59:UInt8),(32:UInt8),(125:UInt8),(10:UInt8),(10:UInt8),(109:UInt8),(97:UInt8),(105:UInt8),(110:UInt8),(40:UInt8),(110:UInt8),(44:UInt8),(32:UInt8),(107:UInt8),(41:UInt8),(32:UInt8),(123:UInt8),(32:UInt8),(118:UInt8),(97:UInt8),(114:UInt8),(32:UInt8),(105:UInt8),(32:UInt8),(61:UInt8),(32:UInt8),(48:UInt8),(59:UInt8),(32:UInt8)].toList,.int .i64 (0:Int)]∧∀(i:Int×Int×Int×List UInt8),(((0:Int)≤i.1∧i.1≤(5:Int))∧(↑(List.length i.2.2.2):Int)≤(60:Int)+(600:Int)*i.1)∧Bx x.1 i.2.1→cA DK [.box 0 (cur x.1 i.2.1 i.2.2.1),.int .i64 (5:Int)] fun x_1 y=>inR IntKind.i64 ((1:Int)+y.1)∧Aa (decide (i.1<(1:Int)+y.1)) (cA DK [.box 0 (cur x_1.1 y.2.1 y.2.2),.int .i64 (6:Int)] fun x_2 y=>Aa (y.1==(0:Int)) ((↑(List.length i.2.2.2+(6:Nat)):Int)≤IntKind.max IntKind.i64∧cA JV [.box 0 (cur x_2.1 y.2.1 y.2.2),.int .i64 (2:Int)] fun x_3 y=>(↑(List.length (i.2.2.2++ #[(112:UInt8),(114:UInt8),(105:UInt8),(110:UInt8),(116:UInt8),(40:UInt8)].toList)+List.length y.1):Int)≤IntKind.max IntKind.i64∧(↑(List.length (i.2.2.2++ #[(112:UInt8),(114:UInt8),(105:UInt8),(110:UInt8),(116:UInt8),(40:UInt8)].toList++y.1)+(3:Nat)):Int)≤IntKind.max IntKind.i64∧inR IntKind.i64 (i.1+(1:Int))∧eN (JW x) i [.box 0 (cur x_3.1 y.2.1 y.2.2),.str (i.2.2.2++ #[(112:UInt8),(114:UInt8),(105:UInt8),(110:UInt8),(116:UInt8),(40:UInt8)].toList++y.1++ #[(41:UInt8),(59:UInt8),(32:UInt8)].toList),.int .i64 (i.1+(1:Int))]) (Aa (y.1==(1:Int)) ((↑(List.length i.2.2.2+(4:Nat)):Int)≤IntKind.max IntKind.i64∧cA JV [.box 0 (cur x_2.1 y.2.1 y.2.2),.int .i64 (2:Int)] fun x_3 y=>(↑(List.length (i.2.2.2++ #[(105:UInt8),(32:UInt8),(61:UInt8),(32:UInt8)].toList)+List.length y.1):Int)≤IntKind.max IntKind.i64∧(↑(List.length (i.2.2.2++ #[(105:UInt8),(32:UInt8),(61:UInt8),(32:UInt8)].toList++y.1)+(2:Nat)):Int)≤IntKind.max IntKind.i64∧inR IntKind.i64 (i.1+(1:Int))∧eN (JW x) i [.box 0 (cur x_3.1 y.2.1 y.2.2),.str (i.2.2.2++ #[(105:UInt8),(32:UInt8),(61:UInt8),(32:UInt8)].toList++y.1++ #[(59:UInt8),(32:UInt8)].toList),.int .i64 (i.1+(1:Int))]) (Aa (y.1==(2:Int)) ((↑(List.length i.2.2.2+(4:Nat)):Int)≤IntKind.max IntKind.i64∧cA JV [.box 0 (cur x_2.1 y.2.1 y.2.2),.int .i64 (1:Int)] fun x_3 y=>(↑(List.length (i.2.2.2++ #[(105:UInt8),(102:UInt8),(32:UInt8),(40:UInt8)].toList)+List.length y.1):Int)≤IntKind.max IntKind.i64∧(↑(List.length (i.2.2.2++ #[(105:UInt8),(102:UInt8),(32:UInt8),(40:UInt8)].toList++y.1)+(27:Nat)):Int)≤IntKind.max IntKind.i64∧cA JV [.box 0 (cur x_3.1 y.2.1 y.2.2),.int .i64 (1:Int)] fun x_4 y_1=>(↑(List.length (i.2.2.2++ #[(105:UInt8),(102:UInt8),(32:UInt8),(40:UInt8)].toList++y.1++ #[(41:UInt8),(32:UInt8),(123:UInt8),(32:UInt8),(112:UInt8),(114:UInt8),(105:UInt8),(110:UInt8),(116:UInt8),(40:UInt8),(105:UInt8),(41:UInt8),(59:UInt8),(32:UInt8),(125:UInt8),(32:UInt8),(101:UInt8),(108:UInt8),(115:UInt8),(101:UInt8),(32:UInt8),(123:UInt8),(32:UInt8),(107:UInt8),(32:UInt8),(61:UInt8),(32:UInt8)].toList)+List.length y_1.1):Int)≤IntKind.max IntKind.i64∧(↑(List.length (i.2.2.2++ #[(105:UInt8),(102:UInt8),(32:UInt8),(40:UInt8)].toList++y.1++ #[(41:UInt8),(32:UInt8),(123:UInt8),(32:UInt8),(112:UInt8),(114:UInt8),(105:UInt8),(110:UInt8),(116:UInt8),(40:UInt8),(105:UInt8),(41:UInt8),(59:UInt8),(32:UInt8),(125:UInt8),(32:UInt8),(101:UInt8),(108:UInt8),(115:UInt8),(101:UInt8),(32:UInt8),(123:UInt8),(32:UInt8),(107:UInt8),(32:UInt8),(61:UInt8),(32:UInt8)].toList++y_1.1)+(4:Nat)):Int)≤IntKind.max IntKind.i64∧inR IntKind.i64 (i.1+(1:Int))∧eN (JW x) i [.box 0 (cur x_4.1 y_1.2.1 y_1.2.2),.str (i.2.2.2++ #[(105:UInt8),(102:UInt8),(32:UInt8),(40:UInt8)].toList++y.1++ #[(41:UInt8),(32:UInt8),(123:UInt8),(32:UInt8),(112:UInt8),(114:UInt8),(105:UInt8),(110:UInt8),(116:UInt8),(40:UInt8),(105:UInt8),(41:UInt8),(59:UInt8),(32:UInt8),(125:UInt8),(32:UInt8),(101:UInt8),(108:UInt8),(115:UInt8),(101:UInt8),(32:UInt8),(123:UInt8),(32:UInt8),(107:UInt8),(32:UInt8),(61:UInt8),(32:UInt8)].toList++y_1.1++ #[(59:UInt8),(32:UInt8),(125:UInt8),(32:UInt8)].toList),.int .i64 (i.1+(1:Int))]) (Aa (y.1==(3:Int)) ((↑(List.length i.2.2.2+(33:Nat)):Int)≤IntKind.max IntKind.i64∧cA JV [.box 0 (cur x_2.1 y.2.1 y.2.2),.int .i64 (1:Int)] fun x_3 y=>(↑(List.length (i.2.2.2++ #[(119:UInt8),(104:UInt8),(105:UInt8),(108:UInt8),(101:UInt8),(32:UInt8),(40:UInt8),(105:UInt8),(32:UInt8),(60:UInt8),(32:UInt8),(51:UInt8),(41:UInt8),(32:UInt8),(123:UInt8),(32:UInt8),(105:UInt8),(32:UInt8),(61:UInt8),(32:UInt8),(105:UInt8),(32:UInt8),(43:UInt8),(32:UInt8),(49:UInt8),(59:UInt8),(32:UInt8),(112:UInt8),(114:UInt8),(105:UInt8),(110:UInt8),(116:UInt8),(40:UInt8)].toList)+List.length y.1):Int)≤IntKind.max IntKind.i64∧(↑(List.length (i.2.2.2++ #[(119:UInt8),(104:UInt8),(105:UInt8),(108:UInt8),(101:UInt8),(32:UInt8),(40:UInt8),(105:UInt8),(32:UInt8),(60:UInt8),(32:UInt8),(51:UInt8),(41:UInt8),(32:UInt8),(123:UInt8),(32:UInt8),(105:UInt8),(32:UInt8),(61:UInt8),(32:UInt8),(105:UInt8),(32:UInt8),(43:UInt8),(32:UInt8),(49:UInt8),(59:UInt8),(32:UInt8),(112:UInt8),(114:UInt8),(105:UInt8),(110:UInt8),(116:UInt8),(40:UInt8)].toList++y.1)+(5:Nat)):Int)≤IntKind.max IntKind.i64∧inR IntKind.i64 (i.1+(1:Int))∧eN (JW x) i [.box 0 (cur x_3.1 y.2.1 y.2.2),.str (i.2.2.2++ #[(119:UInt8),(104:UInt8),(105:UInt8),(108:UInt8),(101:UInt8),(32:UInt8),(40:UInt8),(105:UInt8),(32:UInt8),(60:UInt8),(32:UInt8),(51:UInt8),(41:UInt8),(32:UInt8),(123:UInt8),(32:UInt8),(105:UInt8),(32:UInt8),(61:UInt8),(32:UInt8),(105:UInt8),(32:UInt8),(43:UInt8),(32:UInt8),(49:UInt8),(59:UInt8),(32:UInt8),(112:UInt8),(114:UInt8),(105:UInt8),(110:UInt8),(116:UInt8),(40:UInt8)].toList++y.1++ #[(41:UInt8),(59:UInt8),(32:UInt8),(125:UInt8),(32:UInt8)].toList),.int .i64 (i.1+(1:Int))]) (Aa (y.1==(4:Int)) ((↑(List.length i.2.2.2+(8:Nat)):Int)≤IntKind.max IntKind.i64∧inR IntKind.i64 (i.1+(1:Int))∧eN (JW x) i [.box 0 (cur x_2.1 y.2.1 y.2.2),.str (i.2.2.2++ #[(47:UInt8),(47:UInt8),(32:UInt8),(115:UInt8),(97:UInt8),(105:UInt8),(100:UInt8),(10:UInt8)].toList),.int .i64 (i.1+(1:Int))]) (∃(x_3:List UInt8),#[(112:UInt8),(114:UInt8),(105:UInt8),(110:UInt8),(116:UInt8),(40:UInt8),(39:UInt8),(110:UInt8),(111:UInt8),(39:UInt8),(41:UInt8),(59:UInt8),(32:UInt8)].toList=x_3∧∃(x_4:List UInt8),#[(114:UInt8),(101:UInt8),(116:UInt8),(117:UInt8),(114:UInt8),(110:UInt8),(32:UInt8),(110:UInt8),(59:UInt8),(32:UInt8)].toList=x_4∧∃(x_5:List UInt8),#[(122:UInt8),(32:UInt8),(61:UInt8),(32:UInt8),(49:UInt8),(59:UInt8),(32:UInt8)].toList=x_5∧∃(x_6:List UInt8),#[(109:UInt8),(97:UInt8),(105:UInt8),(110:UInt8),(40:UInt8),(49:UInt8),(44:UInt8),(32:UInt8),(50:UInt8),(41:UInt8),(59:UInt8),(32:UInt8)].toList=x_6∧cA Cl [.box 0 (cur x_2.1 y.2.1 y.2.2),AV.sl true 0 1 (List UInt8) Bg [x_3,x_4,x_5,x_6]] fun x_7 y=>(↑(List.length i.2.2.2+List.length y.1):Int)≤IntKind.max IntKind.i64∧inR IntKind.i64 (i.1+(1:Int))∧eN (JW x) i [.box 0 (cur x_7.1 y.2.1 y.2.2),.str (i.2.2.2++y.1),.int .i64 (i.1+(1:Int))])))))) ((↑(List.length i.2.2.2+(7:Nat)):Int)≤IntKind.max IntKind.i64∧cA JV [.box 0 (cur x_1.1 y.2.1 y.2.2),.int .i64 (2:Int)] fun x_2 y=>(↑(List.length (i.2.2.2++ #[(114:UInt8),(101:UInt8),(116:UInt8),(117:UInt8),(114:UInt8),(110:UInt8),(32:UInt8)].toList)+List.length y.1):Int)≤IntKind.max IntKind.i64∧(↑(List.length (i.2.2.2++ #[(114:UInt8),(101:UInt8),(116:UInt8),(117:UInt8),(114:UInt8),(110:UInt8),(32:UInt8)].toList++y.1)+(4:Nat)):Int)≤IntKind.max IntKind.i64∧rA Om x [.str (i.2.2.2++ #[(114:UInt8),(101:UInt8),(116:UInt8),(117:UInt8),(114:UInt8),(110:UInt8),(32:UInt8)].toList++y.1++ #[(59:UInt8),(32:UInt8),(125:UInt8),(10:UInt8)].toList),.box 0 (cur x_2.1 y.2.1 y.2.2)])) (fun x=>by kernel_rfl) fun(x:List UInt8×Int×Int) (hx:Bx x.1 x.2.1)=>(by
 dsimp only[FO,cA,cur,eA,eN,JW,rA,DK,Cl,Om,JV,Au,Az,mvL,lnL,mvE,lnE,Bq]
 obtain⟨b,i,h⟩:=x;dsimp only at hx ⊢
 have hx:Bx b i:=hx
 (repeat' first|(with_reducible first|rfl|exact True.intro|apply AK|apply And.intro|((first|apply AA|apply AI|apply AB|apply AJ)<;>intro _))|(apply Ax<;>intro _)|apply AH|refine Ae () ?_ ?_|((first|apply AO|apply AN|apply AM|apply AL|apply AG|apply AF|apply AE|apply AD|apply AC)<;>try dsimp only)|apply Ae|(refine Prod.forall.2 ?_;intro _;try dsimp only)|(intro _;try dsimp only))
 all_goals(try(have hk:=b9c (And.left (show(((0:Int)<5→_)∧(_→_))∧Bx _ _ by assumption))))
 all_goals(repeat(rename _∈_∧Bx _ _=>hq;obtain⟨hq1,_⟩:=hq;have hq2:=TA (n:=20) hq1 (by decide);clear hq1))
 all_goals(repeat(rename _∧Bx _ _=>hq;obtain⟨_,_⟩:=hq))
 all_goals first
  |rfl
  |(with_reducible assumption)
  |exact hx
  |(show Bx _ _;with_reducible assumption)
  |(rename _=[]=>hq;cases hq;done)
  |omega
  |((try simp only[AR,List.length_append,List.length_cons,List.length_nil] at*);omega)
  |skip
 all_goals trace_state)
def MB:Sig:= {X:=List UInt8,args:=fun x=>[.sl false 0 1 UInt8 byA x],pre:=fun x=>x.length≤2^21,Y:=List UInt8×Unit,post:=fun x y=>y.1.length≤4000,res:=fun x y=> .str y.1,outs:=fun x y=>[.top],keep:=true}
theorem b9e:Ai G Tryz.prog 7 MB:=
 vcFun_okP [(28,0,Hf),(27,0,Om),(10,0,GD)] [] false (fun x=>[]) Tryz.func7 rfl (by decide) ⟨XV,b9d,b8M,trivial⟩ (fun(x:List UInt8)=>True∧cA Hf [byL x] fun x_1 y=>cA Om [.box 0 (cur x_1 (0:Int) y)] fun x_2 y=>cA GD [.str y.1] fun x_3 y_1=>Aa (Option.isSome (CN x_3)) (rA MB x [.str y.1,.top]) (rA MB x [.str #[(109:UInt8),(97:UInt8),(105:UInt8),(110:UInt8),(40:UInt8),(110:UInt8),(44:UInt8),(32:UInt8),(107:UInt8),(41:UInt8),(32:UInt8),(123:UInt8),(32:UInt8),(112:UInt8),(114:UInt8),(105:UInt8),(110:UInt8),(116:UInt8),(40:UInt8),(40:UInt8),(110:UInt8),(32:UInt8),(43:UInt8),(32:UInt8),(50:UInt8),(41:UInt8),(32:UInt8),(42:UInt8),(32:UInt8),(40:UInt8),(51:UInt8),(32:UInt8),(45:UInt8),(32:UInt8),(49:UInt8),(41:UInt8),(41:UInt8),(59:UInt8),(32:UInt8),(114:UInt8),(101:UInt8),(116:UInt8),(117:UInt8),(114:UInt8),(110:UInt8),(32:UInt8),(107:UInt8),(59:UInt8),(32:UInt8),(125:UInt8)].toList,.top])) (fun x=>by kernel_rfl) fun(x:List UInt8) (hx:x.length≤2^21)=>(by
 dsimp only[FO,byL,cA,cur,Bc,nds,Ab,Av,rA,GD,Hf,MB,Om,Bu,sgs,srd,Au,Az,mvL,lnL,mvE,lnE]
 have hx:x.length≤2^21:=hx
 (repeat' first|(with_reducible first|rfl|exact True.intro|apply AK|apply And.intro|((first|apply AA|apply AI|apply AB|apply AJ)<;>intro _))|(apply Ax<;>intro _)|apply AH|refine Ae () ?_ ?_|((first|apply AO|apply AN|apply AM|apply AL|apply AG|apply AF|apply AE|apply AD|apply AC)<;>try dsimp only)|apply Ae|(refine Prod.forall.2 ?_;intro _;try dsimp only)|(intro _;try dsimp only))
 all_goals(repeat(rename _∧Bx _ _=>hq;obtain⟨_,_⟩:=hq))
 all_goals first
  |rfl
  |exact hx
  |exact XW hx
  |exact()
  |omega
  |(with_reducible assumption)
  |((try simp only[List.length_cons,List.length_nil]);omega)
  |skip
 all_goals trace_state)
def fwQ(y z:RnY):Prop:=((y=z∨y.2.2.1=2)∧y.1 <+: z.1)∧y.2.2.2≤z.2.2.2
theorem XX{y:RnY}:fwQ y y:=⟨⟨.inl rfl,List.prefix_refl _⟩,Int.le_refl _⟩
theorem b9f{ns:List Nd}{t:List UInt8}{az:List Int}{L M:Int}{y z:RnY}(hL:L≤M)(h:Xd ns t az L y)(g:Xd ns t az M z):fwQ y z:=by
 obtain⟨p,h1,rfl⟩:=h
 obtain⟨q,g1,rfl⟩:=g
 rcases(a1m (ns:=ns) (t:=t) (az:=az) (Pq (ns:=ns) zFU).2).rel hL h1 g1 with e|⟨e1,e2⟩
 ·subst e;exact XX
 ·exact⟨⟨.inr e1,e2.1⟩,e2.2⟩
theorem b9g{ns:List Nd}{t:List UInt8}{az:List Int}{L M:Int}{y z:RnY}(hL:L≤M)(h:rnQ ns t az L y)(g:rnQ ns t az M z):fwQ y z:=by
 rcases h.1 with⟨h1,h2⟩|⟨h1,h2⟩
 ·rcases g.1 with⟨g1,g2⟩|⟨g1,g2⟩
  ·rw[h2,g2];exact XX
  ·rw[h1] at g1;cases g1
 ·rcases g.1 with⟨g1,g2⟩|⟨g1,g2⟩
  ·rw[h1] at g1;cases g1
  ·exact b9f (by omega) h2 g2
theorem b9h{x t:List UInt8}{az:List Int}{L M:Int}{y z:RnY}(h:zsQ x t az L y)(g:zsQ x t az M z)(hL:L≤M):fwQ y z:=by
 rcases h.1 with⟨h1,h2⟩|⟨ns,h1,h2⟩
 ·rcases g.1 with⟨g1,g2⟩|⟨ms,g1,g2⟩
  ·rw[h2,g2];exact XX
  ·rw[h1] at g1;cases g1
 ·rcases g.1 with⟨g1,g2⟩|⟨ms,g1,g2⟩
  ·rw[h1] at g1;cases g1
  ·rw[h1] at g1;cases g1;exact b9g hL h2 g2
theorem b9i{y z:RnY}(h:fwQ y z):y.1.length≤z.1.length:=h.1.2.length_le
theorem b9j{y z:RnY}{i:Nat}{a b:Int}(h:fwQ y z)(ha:y.1[i]? =some a)(hb:z.1[i]? =some b):a=b:=by
 obtain⟨r,hr⟩:=h.1.2
 have hl:=(List.getElem?_eq_some_iff.1 ha).1
 rw[←hr,List.getElem?_append_left hl,ha] at hb
 exact Option.some.inj hb
theorem b9k{y z:RnY}(h:fwQ y z)(hc:¬y.2.2.1=2):y=z:=by
 rcases h.1.1 with e|e
 ·exact e
 ·exact absurd e hc
theorem b9l{y z:RnY}(h:fwQ y z):y.2.2.2≤z.2.2.2:=h.2
def fwI(y z:RnY)(i:Int):Prop:=(fwQ y z∧(y.1.length<2^62∧z.1.length<2^62))∧0≤i∧i≤y.1.length
theorem b9m{x t:List UInt8}{az:List Int}{L M:Int}{y z:RnY}(h:zsQ x t az L y)(g:zsQ x t az M z)(hL:L≤M):fwI y z 0:=⟨⟨b9h h g hL,h.2,g.2⟩,by omega,by omega⟩
theorem b9n{y z:RnY}{i:Int}(h:fwI y z i):(0≤i∧i≤y.1.length)∧(y.1.length<2^62∧z.1.length<2^62)∧y.1.length≤z.1.length:=⟨h.2,h.1.2,b9i h.1.1⟩
theorem b9o{y z:RnY}{i:Int}(h:fwI y z i)(hi:i<y.1.length):fwI y z (i+1):=⟨h.1,by have:=h.2;omega⟩
theorem XY{t:List UInt8}{n:Int}:∀ {l:Cls},BQ (Cd l t n) t=some n
 |[]=>by simp [Cd,BQ]
 |p::l=>by
  rw[Cd];split
  ·rename_i h;rw[BQ,if_pos h]
  ·rename_i h;rw[BQ,if_neg h];exact XY
theorem XZ{v:Int}{n:Int}{o:List Int}{i:Nat}(ho:o.length=12∧∀e∈o,0≤e∧e<10000)(hv:o[i]? =some v)(hn:0<n):0≤v.tmod n∧v.tmod n<n:=SR (ho.2 v (Ca hv)).1 hn
theorem b9p{v w:Int}(h1:0≤v∧v<5)(h2:0≤w∧w<5):∀a∈[v,w],bdd a:=by
 intro a ha
 simp only[List.mem_cons,List.not_mem_nil,or_false] at ha
 unfold bdd
 rcases ha with rfl|rfl<;>omega
def La(az:List Int):Prop:=(∀a∈az,bdd a)∧az.length≤12
theorem b9q{v w:Int}(h1:0≤v∧v<5)(h2:0≤w∧w<5):La [v,w]:=⟨b9p h1 h2,by simp⟩
abbrev FwX:=Int×List Int×Int×Int×Int×List Int×Int×Int×Int
abbrev fwY (i:FwX):RnY:=(i.2.1,i.2.2.1,i.2.2.2.1,i.2.2.2.2.1)
abbrev fwZ (i:FwX):RnY:=(i.2.2.2.2.2.1,i.2.2.2.2.2.2.1,i.2.2.2.2.2.2.2.1,i.2.2.2.2.2.2.2.2)
def plQ(o:List Int):Prop:=o.length=12∧∀e∈o,0≤e∧e<10000
theorem b9r{v w:Int}{o:List Int}(ho:o.length=12∧∀e∈o,0≤e∧e<10000)(hv:o[0]? =some v)(hw:o[1]? =some w):La [v.tmod 5,w.tmod 5]:=b9q (XZ ho hv (by omega)) (XZ ho hw (by omega))
theorem b9s{y z:RnY}{i:Int}{a b:Int}(h:fwI y z i)(ha:y.1[i.toNat]? =some a)(hb:z.1[i.toNat]? =some b)(hn:¬a=b):False:=hn (b9j h.1.1 ha hb)
theorem b9t{p q:(List Int×Int×Int×Int)×Unit→Prop}(a:List Int)(b c d:Int)(h2:q ((a,b,c,d),()))(h1:p ((a,b,c,d),())):∃x,p x∧q x:=⟨_,h1,h2⟩
theorem b9u{t:List UInt8}{o az:List Int}(h:t.length≤4000∧plQ o∧La az):o.length=12:=h.2.1.1
theorem b9v{t:List UInt8}{o az:List Int}(h:t.length≤4000∧plQ o∧La az):((∀a∈az,bdd a)∧az.length≤12)∧t.length≤4000:=⟨h.2.2,h.1⟩
theorem b9w{t:List UInt8}{o az:List Int}{v:Int}(h:t.length≤4000∧plQ o∧La az)(hv:o[2]? =some v):0≤v.tmod 30∧v.tmod 30<30:=XZ h.2.1 hv (by omega)
theorem b9x{y z:RnY}{i:Int}(h:fwI y z i)(hc:¬y.2.2.1=2):(y.1=z.1∧y.2.1=z.2.1)∧y.2.2.1=z.2.2.1∧y.2.2.2=z.2.2.2:=by rw[b9k h.1.1 hc];exact⟨⟨rfl,rfl⟩,rfl,rfl⟩
theorem b9y{y z:RnY}{i:Int}(h:fwI y z i):decide (y.2.2.2≤z.2.2.2)=true:=decide_eq_true (b9l h.1.1)
theorem b9z{l:Cls}{t:List UInt8}{n:Int}:(BQ (Cd l t n) t).isSome=true:=by rw[XY];rfl
theorem b9A{l:Cls}{t:List UInt8}{n:Int}:nOf (BQ (Cd l t n) t)=n:=by rw[XY];rfl
theorem b9B{l:Cls}{t:List UInt8}{n:Int}(h:l.length≤4):(Cd l t n).length<2^62:=by have:= @RL t n l;omega
attribute [local irreducible] La
attribute [local irreducible] zsQ fwQ fwI Cd BQ
def Iz:Sig:= {X:=List UInt8,args:=fun x=>[.sl false 0 1 UInt8 byA x],pre:=fun x=>x.length<2^63,Y:=Unit,post:=fun x y=>True,res:=fun x y=> .bool true,outs:=fun x y=>[.top],keep:=false}
def TC(x:List UInt8):LS:= {ι:=List UInt8×List Int×List Int,inv:=fun i=>i.1.length≤4000∧plQ i.2.1∧La i.2.2,regs:=fun i=>[(0,.sl false 0 1 UInt8 byA x),(3,.str i.1),(4,Ab i.2.1),(5,Ab i.2.2)],als:=[],meas:=fun _=>0}
def TD(x:List UInt8):LS:= {ι:=FwX,inv:=fun i=>fwI (fwY i) (fwZ i) i.1,regs:=fun i=>[(0,.sl false 0 1 UInt8 byA x),(7,.box 0 [Aj (fwY i).1,.int .i64 (fwY i).2.1,.int .i64 (fwY i).2.2.1,.int .i64 (fwY i).2.2.2]),(8,.box 0 [Aj (fwZ i).1,.int .i64 (fwZ i).2.1,.int .i64 (fwZ i).2.2.1,.int .i64 (fwZ i).2.2.2]),(9,.int .i64 i.1)],als:=[],meas:=fun i=>(fwY i).1.length-i.1.toNat}
theorem b9C:Ai G Tryz.prog 5 Iz:=
 vcFun_okP [(6,0,Oj),(7,0,MB),(9,0,Oi),(20,0,PT),(21,0,Ol),(22,0,Fb),(23,0,Js),(24,0,JN),(26,0,Kz),(25,0,Jt)] [(25,⟨Int,AZ⟩)] false (fun x=>[(100005,TC x),(10,TD x)]) Tryz.func5 rfl (by decide) ⟨b8R,b9e,b8Q,b5Q,b8X,VS,VR,b5S,b0L,b0M,trivial⟩ (fun(x:List UInt8)=>(∀(y:Unit),True→True∧True∧True)∧cA Oj [byL x] fun x_1 y=>Aa (decide ((↑(List.length x_1):Int)>(1048576:Int))) (rA Iz x [.bool true,.top]) (cA MB [byL x] fun x_2 y=>cA Oi [byL x] fun x_3 y_1=>true=true∧(((0:Int)≤(0:Int)∧(0:Int)<(↑(List.length y_1.1):Int))∧((0:Int)≤(1:Int)∧(1:Int)<(↑(List.length y_1.1):Int))∧((0:Nat)<List.length y_1.1∧∀(x_4:Int),y_1.1[(0:Nat)]? =some x_4→(5:Int)≠(0:Int)∧(1:Nat)<List.length y_1.1∧∀(x_5:Int),y_1.1[(1:Nat)]? =some x_5→(5:Int)≠(0:Int)∧∃(x_6:Int),Int.tmod x_4 (5:Int)=x_6∧∃(x_7:Int),Int.tmod x_5 (5:Int)=x_7∧true=true∧eA (TC x) [byL x,.str y.1,Ab y_1.1,Ab [x_6,x_7]])∧(1:Nat)<List.length y_1.1∧∀(x_4:Int),y_1.1[(1:Nat)]? =some x_4→(5:Int)≠(0:Int)∧(0:Nat)<List.length y_1.1∧∀(x_5:Int),y_1.1[(0:Nat)]? =some x_5→(5:Int)≠(0:Int)∧∃(x_6:Int),Int.tmod x_5 (5:Int)=x_6∧∃(x_7:Int),Int.tmod x_4 (5:Int)=x_7∧true=true∧eA (TC x) [byL x,.str y.1,Ab y_1.1,Ab [x_6,x_7]])∧∀(i:List UInt8×List Int×List Int),List.length i.1≤(4000:Nat)∧plQ i.2.1∧La i.2.2→((0:Int)≤(2:Int)∧(2:Int)<(↑(List.length i.2.1):Int))∧(2:Nat)<List.length i.2.1∧∀(x_4:Int),i.2.1[(2:Nat)]? =some x_4→(30:Int)≠(0:Int)∧cA PT [.str i.1,.str #[(109:UInt8),(97:UInt8),(105:UInt8),(110:UInt8)].toList,Ab i.2.2,.int .i64 (Int.tmod x_4 (30:Int))] fun x_5 y=>inR IntKind.i64 (Int.tmod x_4 (30:Int)+(40:Int))∧cA PT [.str i.1,.str #[(109:UInt8),(97:UInt8),(105:UInt8),(110:UInt8)].toList,AV.sl false 0 1 Int (fun(x:Int)=>fzL (AZ x)) i.2.2,.int .i64 (Int.tmod x_4 (30:Int)+(40:Int))] fun x_6 y_2=>eA (TD x) [byL x,.box 0 [Aj y.1,.int .i64 y.2.1,.int .i64 y.2.2.1,.int .i64 y.2.2.2],.box 0 [Aj y_2.1,.int .i64 y_2.2.1,.int .i64 y_2.2.2.1,.int .i64 y_2.2.2.2],.int .i64 (0:Int)]∧∀(i:FwX),fwI (fwY i) (fwZ i) i.1→Aa (decide (i.1<(↑(List.length (fwY i).1):Int))) (true=true∧true=true∧Aa (decide (i.1≥(↑(List.length (fwZ i).1):Int))) (rA Iz x [.bool false,.top]) (((0:Int)≤i.1∧i.1<(↑(List.length (fwY i).1):Int))∧∀(e:Int),(fwY i).1[Int.toNat i.1]? =some e→((0:Int)≤i.1∧i.1<(↑(List.length (fwZ i).1):Int))∧∀(e_1:Int),(fwZ i).1[Int.toNat i.1]? =some e_1→Aa (e != e_1) (rA Iz x [.bool false,.top]) (inR IntKind.i64 (i.1+(1:Int))∧eN (TD x) i [byL x,.box 0 [Aj (fwY i).1,.int .i64 (fwY i).2.1,.int .i64 (fwY i).2.2.1,.int .i64 (fwY i).2.2.2],.box 0 [Aj (fwZ i).1,.int .i64 (fwZ i).2.1,.int .i64 (fwZ i).2.2.1,.int .i64 (fwZ i).2.2.2],.int .i64 (i.1+(1:Int))]))) (cA Ol [byL x] fun x_7 y=>cA Fb [AV.sl false 0 2 (List UInt8×Int) Aw y.1,.str y.2,.int .i64 (↑(List.length x_7):Int)] fun x_8 y_3=>cA Js [AV.sl false 0 2 (List UInt8×Int) Aw (Cd x_8.1 x_8.2.1 x_8.2.2),.str y.2] fun x_9 y_4=>Aa ((fwY i).2.2.1==(2:Int)) (Aa (Option.isSome (BQ x_9.1 x_9.2)) (Aa (nOf (BQ x_9.1 x_9.2)==(↑(List.length x_7):Int)) (cA Kz [AV.sl false 0 2 (List UInt8×Int) Aw y.1,.str y.2,.int .i64 (↑(List.length x_7):Int)] fun x_10 y=>cA Jt [AV.sl false 0 2 (List UInt8×Int) Aw (Cd x_8.1 x_8.2.1 x_8.2.2),AV.sl false 0 2 (List UInt8×Int) Aw (Cd x_10.1 x_10.2.1 x_10.2.2)] fun x_11 y=>rA Iz x [.bool (decide ((fwY i).2.2.2≤(fwZ i).2.2.2)),.top]) (rA Iz x [.bool false,.top])) (rA Iz x [.bool false,.top])) (cA JN [.agg [Aj (fwY i).1,.int .i64 (fwY i).2.1,.int .i64 (fwY i).2.2.1,.int .i64 (fwY i).2.2.2],.agg [Aj (fwZ i).1,.int .i64 (fwZ i).2.1,.int .i64 (fwZ i).2.2.1,.int .i64 (fwZ i).2.2.2]] fun x_10 y_5=>Aa (Option.isSome (BQ x_9.1 x_9.2)) (Aa (nOf (BQ x_9.1 x_9.2)==(↑(List.length x_7):Int)) (cA Kz [AV.sl false 0 2 (List UInt8×Int) Aw y.1,.str y.2,.int .i64 (↑(List.length x_7):Int)] fun x_11 y=>cA Jt [AV.sl false 0 2 (List UInt8×Int) Aw (Cd x_8.1 x_8.2.1 x_8.2.2),AV.sl false 0 2 (List UInt8×Int) Aw (Cd x_11.1 x_11.2.1 x_11.2.2)] fun x_12 y=>rA Iz x [.bool (decide ((fwY i).2.2.2≤(fwZ i).2.2.2)),.top]) (rA Iz x [.bool false,.top])) (rA Iz x [.bool false,.top]))))) (fun x=>by kernel_rfl) fun(x:List UInt8) (hx:x.length<2^63)=>(by
 dsimp only[FO,byL,cA,Aw,cls,cur,eA,eN,TD,TC,Aj,Hx,Ab,rA,Js,Fb,Iz,Kz,Jt,JN,Oj,Ol,Oi,PT,MB,Au,Az,mvL,lnL,mvE,lnE,Bq]
 have hx:x.length<2^63:=hx
 (repeat' first|(apply b9t<;>try dsimp only)|(with_reducible first|rfl|exact True.intro|apply AK|apply And.intro|((first|apply AA|apply AI|apply AB|apply AJ)<;>intro _))|(apply Ax<;>intro _)|apply AH|refine Ae () ?_ ?_|((first|apply AO|apply AN|apply AM|apply AL|apply AG|apply AF|apply AE|apply AD|apply AC)<;>try dsimp only)|apply Ae|(refine Prod.forall.2 ?_;intro _;try dsimp only)|(intro _;try dsimp only))
 all_goals first
  |rfl
  |exact()
  |assumption
  |omega
  |exact b9r ‹_› ‹_› ‹_›
  |exact b9m ‹_› ‹_› (by omega)
  |exact b9o ‹_› ‹_›
  |exact(b9s ‹_› ‹_› ‹_› ‹_›).elim
  |exact b9B ‹_›
  |exact(And.right (show _∧∀e∈_,_ by assumption) _ ‹_›).1
  |exact(And.right (show _∧∀e∈_,_ by assumption) _ ‹_›).2
  |exact b9y (show fwI _ _ _ by assumption)
  |(exfalso;rename Option.isSome (BQ (Cd _ _ _) _)=false=>hq;rw[b9z] at hq;cases hq;done)
  |(exfalso;rename nOf (BQ (Cd _ _ _) _)≠_=>hq;exact hq b9A)
  |(have hA:=b9v ‹_›;first|exact hA.1|exact hA.1.1|exact hA.1.2|exact hA.1.1 _ ‹_› |omega)
  |(have hP:=b9u ‹_›;omega)
  |(have hT:=b9w ‹_› ‹_›;(try simp only[AR]);omega)
  |(have hB:=b9n (show fwI _ _ _ by assumption);dsimp only[fwY,fwZ] at hB;(try simp only[AR]);omega)
  |(have hE:=b9x (show fwI _ _ _ by assumption) ‹_›;dsimp only[fwY,fwZ] at hE;first|exact hE.1.1|exact hE.1.2|exact hE.2.1|exact hE.2.2|exact hE.1.1.symm|exact hE.1.2.symm|exact hE.2.1.symm|exact hE.2.2.symm|(exfalso;simp [hE] at*;done))
  |skip
 all_goals trace_state)
end Go.My
end
section
namespace Go.Eng
def Old(w:World):FP:=fun b=>w.heap.size≤b
def JX(P:Program)(t:TypeId){α:Type}(f:α→List AV)(good:α→Prop):Prop:=
 ∀ {H:Type} (enc:TypeId×Value→H) (w:World) (spare:Nat→Bool) (held:Bool) (Cv:Nat) (cs:List Value) (y:DataW H×List MemPlace),
   DataW.trod enc P w 0 spare held Cv t cs=some y→∃x:α,good x∧AY (Old w) w (f x) cs (fun _=>False)
theorem TE{Z:FP}{w:World}{a:AV}{v:Value}:AY Z w [a] [v] (fun _=>False)↔Am Z w a v (fun _=>False):=by
 simp only[AY]
 constructor
 ·rintro⟨u,cs',A,B,e,hj,h1,h2,h3⟩
  simp only[List.cons.injEq] at e
  obtain⟨rfl,rfl⟩:=e
  have:=(IA hj AS).1
  rwa [EE this] at h1
 ·intro h
  exact⟨v,[],fun _=>False,fun _=>False,rfl,BZ _,h,rfl,AS⟩
theorem b9D{Z:FP}{w:World}{a:AV}{azs:List AV}{v:Value}{vs:List Value}(h1:Am Z w a v (fun _=>False))(h2:AY Z w azs vs (fun _=>False)):
 AY Z w (a::azs) (v::vs) (fun _=>False):=by
 simp only[AY]
 exact⟨v,vs,_,_,rfl,BZ _,h1,h2⟩
theorem b9E{k:IntKind}{n:Int}(h:(Lit.int k n).wf=true):inR k n:=by
 unfold inR
 simpa [Lit.wf] using h
theorem b9F{P:Program}{t:TypeId}{k:IntKind}(ht:P.underlying t=some (.int k)):JX P t (fun n:Int=>[.int k n]) (fun n=>inR k n):=by
 intro H enc w spare held Cv cs y h
 obtain⟨n,rfl,_,hw⟩:=DataW.trod_int ht h
 exact⟨n,b9E hw,TE.2 (by simp [Am,emp])⟩
theorem a5I{α:Type}{p:Nat→α→Prop}:∀n,(∀i,i<n→∃x,p i x)→∃l:List α,l.length=n∧∀i x,l[i]? =some x→p i x
 |0,_=>⟨[],rfl,fun i x h=>by simp at h⟩
 |n+1,h=>by
  obtain⟨l,hl,hp⟩:=a5I n fun i hi=>h i (by omega)
  obtain⟨x,hx⟩:=h n (by omega)
  refine⟨l++[x],by simp [hl],fun i y hy=> ?_⟩
  by_cases hi:i<l.length
  ·rw[List.getElem?_append_left hi] at hy;exact hp i y hy
  ·rw[List.getElem?_append_right (by omega)] at hy
   have:i-l.length=0:=by
    rcases Nat.eq_zero_or_pos (i-l.length) with h|h
    ·exact h
    ·rw[List.getElem?_eq_none (by simp;omega)] at hy;cases hy
   rw[this] at hy;simp at hy;subst hy
   rwa [show i=n by omega]
theorem a5J{α:Type}{sz:Nat}{R:α→List Value→FP→Prop}:∀(xs:List α) (arr:List Value),
 (∀(i:Nat) (x:α),xs[i]? =some x→((arr.drop (i*sz)).take sz).length=sz∧R x ((arr.drop (i*sz)).take sz) (fun _=>False))→Rows sz R xs arr (fun _=>False)
 |[],arr,h=>AS
 |x::xs,arr,h=>by
  have h0:=h 0 x rfl
  simp only[Nat.zero_mul,List.drop_zero] at h0
  refine⟨_,_,BZ _,h0.1,h0.2,a5J xs (arr.drop sz) fun i y hy=> ?_⟩
  have:=h (i+1) y (by simpa using hy)
  rwa [Nat.succ_mul,Nat.add_comm,←List.drop_drop] at this
theorem b9G{P:Program}{t e:TypeId}{sz:Nat}{α:Type}{f:α→List AV}{good:α→Prop}(ht:P.underlying t=some (.slice e))(hc:P.cellsOf e=sz)(hpos:0<sz)
 (ho:JX P e f good):JX P t (fun l:List α=>[.sl false 0 sz α f l]) (fun l=>l.length<2^63∧∀x∈l,good x):=by
 intro H enc w spare held Cv cs y h
 rcases DataW.trod_slice ht h with⟨rfl,_⟩|⟨a,len,cap,elems,rest,n,_,rfl,_,hb,hl,hm,hlen,hel,_,_⟩
 ·refine⟨[],⟨by simp,by simp⟩,TE.2 ?_⟩
  simp only[Am]
  exact⟨none,0,0,rfl,rfl,Nat.le_refl _,.inr ⟨trivial,AS,.inl trivial⟩⟩
 ·have each:∀i,i<len→∃x:α,good x∧∃cs,w.cells? 0 (a.add (i*sz)) sz=some cs∧AY (Old w) w (f x) cs (fun _=>False):=by
   intro i hi
   have h1:=hel i hi
   rw[hc] at h1
   rw[List.getElem?_eq_getElem (by omega:i<elems.length),Option.bind_eq_some_iff] at h1
   obtain⟨cs,h2,h3⟩:=h1
   obtain⟨x,hg,hr⟩:=ho enc w spare held n cs _ h3
   exact⟨x,hg,cs,h2,hr⟩
  obtain⟨l,hll,hp⟩:=a5I len each
  refine⟨l,⟨?_,?_⟩,TE.2 ?_⟩
  ·unfold maxLen at hm;omega
  ·intro x hx
   obtain⟨i,hi⟩:=List.getElem?_of_mem hx
   exact(hp i x hi).1
  ·simp only[Am]
   refine⟨some a,len,cap,rfl,hll.symm,hl,.inr ⟨trivial,AS,?_⟩⟩
   rcases Nat.eq_zero_or_pos len with h0|h0
   ·exact .inl (List.length_eq_zero_iff.1 (by omega))
   ·refine .inr ?_
    obtain⟨x0,_,c0,hc0,_⟩:=each 0 h0
    have h00:=(World.cells?_some hc0).2.2 0 hpos
    have hcl:=(World.cells?_some hc0).2.1
    simp only[Nat.zero_mul,Addr.add] at h00
    obtain⟨b,off,sp⟩:=a
    simp only[World.cell?,if_true] at h00
    split at h00
    ·rename_i arr ty fr harr
     split at h00
     ·rw[List.getElem?_eq_getElem (by omega)] at h00;cases h00
     ·rename_i hsp
      have hsp:sp=none:=by simpa using hsp
      subst hsp
      have hlt:b<w.heap.size:=by
       rcases Nat.lt_or_ge b w.heap.size with h|h
       ·exact h
       ·rw[Array.getElem?_eq_none h] at harr;cases harr
      refine⟨b,off,arr,ty,fr,rfl,by unfold Old;omega,harr,a5J l _ fun i x hx=> ?_⟩
      have hi:i<l.length:=(List.getElem?_eq_some_iff.1 hx).1
      obtain⟨hg,cs,hcs,hr⟩:=hp i x hx
      obtain⟨_,hcl,hce⟩:=World.cells?_some hcs
      have e:((arr.toList.drop off).drop (i*sz)).take sz=cs:=by
       refine List.ext_getElem? fun j=> ?_
       rw[List.getElem?_take]
       split
       ·rename_i hj
        have:=hce j hj
        rw[←this]
        simp only[List.getElem?_drop,Array.getElem?_toList]
        have ea:((⟨b,off,none⟩:Addr).add (i*sz)).add j=⟨b,off+i*sz+j,none⟩:=by
         unfold Addr.add
         by_cases h1:i*sz=0<;>by_cases h2:j=0<;>simp [h1,h2]
        rw[ea]
        simp only[World.cell?,harr]
        simp [Nat.add_assoc]
       ·rw[List.getElem?_eq_none (by omega)]
      rw[e]
      exact⟨hcl,hr⟩
    ·rw[List.getElem?_eq_getElem (by omega)] at h00;cases h00
end Go.Eng
end
section
namespace Go.Eng
open Go.ChangeShapes Go.WideShapes Go.ChangeAt Go.RowKit
theorem b9H{Z Z' A':FP}{w w':World}(h:After Z w (fun _=>False) Z' w' A'):Below w.heap.size w w':=
 ⟨h.os,h.tape,h.output,h.size,fun b hb=>(h.old b hb (fun x=>x)).1⟩
theorem a5K{H:Type}{enc:TypeId×Value→H}{P:Program}(hl:laidOutB P=true){W W':World}(hb:Below W.heap.size W W'):
 ∀(ts:List TypeId) (vs:List Value) (ds:List (DataW H)) (ps:List MemPlace),ts.all (fun t=>P.readableRec t&&decide (t<P.types.size))=true→
 DataW.TrodAll enc P W 0 (fun _=>true) true ts vs ds ps→(∀x∈ps,x.block<W.heap.size)→DataW.TrodAll enc P W' 0 (fun b=>decide (b<W.heap.size)) true ts vs ds ps
 |[],[],[],ps,ht,h,hp=>h
 |t::ts,v::vs,d::ds,ps,ht,h,hp=>by
  obtain⟨p,q,h1,h2,rfl⟩:=h
  simp only[List.all_cons,Bool.and_eq_true,decide_eq_true_eq] at ht
  exact⟨p,q,Below.trod hl ht.1.1 ht.1.2 h1 hb (fun x hx=>hp x (List.mem_append_left _ hx)),a5K hl hb ts vs ds q ht.2 h2 (fun x hx=>hp x (List.mem_append_right _ hx)),rfl⟩
 |[],_::_,_,_,ht,h,hp=>h.elim
 |[],[],_::_,_,ht,h,hp=>h.elim
 |_::_,[],_,_,ht,h,hp=>h.elim
 |_::_,_::_,[],_,ht,h,hp=>h.elim
theorem b9I{H:Type}{enc:TypeId×Value→H}{P:Program}{f:Func}{s:ChangeSpec}{W W':World}{args:Array Value}{ds gs:List (DataW H)}{before:List MemPlace}{tb:TypeId}
 (hl:laidOutB P=true) (ht:f.params.toList.all (fun t=>P.readableRec t&&decide (t<P.types.size))=true) (hv:s.vars=[])
 (hs:s.fn H ds= {results:=[.lit (.bool true)],args:=ds}) (hr:f.resultTypes= #[tb]) (htb:P.underlying tb=some .bool)
 (hW:DataW.Whole enc P f.params.toList s.vars false W args.toList ds gs before) (hb:Below W.heap.size W W'):s.post enc P f false true false false W args (.bool true) W':=by
 have hW0:=hW
 obtain⟨p,q,hA,hV,rfl,hfz,hnd⟩:=hW
 rw[hv] at hV
 obtain⟨rfl,rfl⟩:=trodVars_none hV
 refine⟨ds,[],p++[],[],p,[],hW0,?_,?_,?_,hb.frame _,fun h=>by cases h⟩
 ·simp only[List.append_nil]
  rw[hs,hr]
  exact trodAll_mk1 (shut_bool htb _)
 ·simp only[List.append_nil]
  rw[hs]
  exact a5K hl hb _ _ _ _ ht hA (fun x hx=>by simpa using hW0.lt x (by simpa using hx))
 ·simp only[List.append_nil]
  rw[hs,hv]
  rfl
def noG:GInv:=⟨fun _ _=>True,fun _ _ _ _ _ _=>trivial⟩
def b9J(X:Type)(args:X→List AV)(pre:X→Prop)(n:Nat):Sig:=
 {X:=X,args:=args,pre:=pre,Y:=Unit,post:=fun _ _=>True,res:=fun _ _=> .bool true,outs:=fun _ _=>List.replicate n .top,keep:=false}
theorem b9K{H:Type}{enc:TypeId×Value→H}{P:Program}{fi:FuncId}{f:Func}{s:ChangeSpec}{W:World}{args:Array Value}{ds gs:List (DataW H)}{before:List MemPlace}{tb:TypeId}
 {X:Type} {azs:X→List AV} {pre:X→Prop} {n:Nat} {G:GInv} (hc:Ai G P fi (b9J X azs pre n)) (hG:G.p (Old W) W)
 (hl:laidOutB P=true) (ht:f.params.toList.all (fun t=>P.readableRec t&&decide (t<P.types.size))=true) (hv:s.vars=[])
 (hs:s.fn H ds= {results:=[.lit (.bool true)],args:=ds}) (hr:f.resultTypes= #[tb]) (htb:P.underlying tb=some .bool)
 (hW:DataW.Whole enc P f.params.toList s.vars false W args.toList ds gs before)
 (ho:∃x,pre x∧AY (Old W) W (azs x) args.toList (fun _=>False)):
 Calls P fi args W fun e W'=>∃v,e= .returned v∧s.post enc P f false true false false W args v W':=by
 obtain⟨x,hx,hrel⟩:=ho
 refine(hc.2 x hx (Old W) W args.toList _ hG hrel (fun b h=>h.elim) trivial).mono fun e W' h=> ?_
 obtain⟨y,v,Z',A',_,rfl,hr2,hafter⟩:=h
 simp only[AY] at hr2
 obtain⟨v',us,A1,A2,e1,_,h1,_⟩:=hr2
 simp only[List.cons.injEq] at e1
 obtain⟨rfl,_⟩:=e1
 have:v= .bool true:=by
  have h1:Am Z' W' (.bool true) v A1:=h1
  simp only[Am] at h1;exact h1.1
 subst this
 exact⟨_,rfl,b9I hl ht hv hs hr htb hW (b9H hafter)⟩
end Go.Eng
end
section
namespace Go.Eng
open Go.ChangeShapes Go.WideShapes Go.ChangeAt Go.RowKit
theorem b9L{H:Type}{enc:TypeId×Value→H}{P:Program}{t:TypeId}{α:Type}{f:α→AV}{good:α→Prop}(hO:JX P t (fun x=>[f x]) good){W:World}{v:Value}(hc:CQ v)
 {d:DataW H} {ps:List MemPlace} (h:DataW.Trod enc P W 0 (fun _=>true) true t v d ps):∃x,good x∧Am (Old W) W (f x) v (fun _=>False):=by
 obtain⟨Cv,hf⟩:=h
 rw[ML hc] at hf
 obtain⟨x,hg,hr⟩:=hO enc W _ _ Cv _ _ hf
 exact⟨x,hg,TE.1 hr⟩
theorem b9M{H:Type}{enc:TypeId×Value→H}{P:Program}{t e:TypeId}{α:Type}{f:α→AV}{good:α→Prop}(ht:P.underlying t=some (.slice e))(hO:JX P t (fun x=>[f x]) good)
 {W:World} {r:Reach} {base:Nat} {v:Value} (hv:Value.okWide P W r base t v)
 {d:DataW H} {ps:List MemPlace} (h:DataW.Trod enc P W 0 (fun _=>true) true t v d ps):∃x,good x∧Am (Old W) W (f x) v (fun _=>False):=
 b9L hO (by obtain⟨a,l,c,rfl⟩:=okWide_slice ht hv;trivial) h
theorem b9N{Z:FP}{w:World}:AY Z w [] [] (fun _=>False):=⟨rfl,AS⟩
end Go.Eng
end
section
set_option maxRecDepth 100000
namespace Go.My
open Go.Eng Go.Proofs
variable {G:GInv}
theorem opens_mapP{P:Program}{t:TypeId}{α β:Type}{f:α→List AV}{g:β→List AV}{p:α→Prop}{q:β→Prop}(m:α→β)(ho:JX P t f p)(hf:∀x,p x→f x=g (m x))(hg:∀x,p x→q (m x)):JX P t g q:=by
 intro H enc w spare held Cv cs y h
 obtain⟨x,hx,hr⟩:=ho enc w _ _ Cv _ _ h
 exact⟨m x,hg x hx,by rw[←hf x hx];exact hr⟩
theorem b9O:JX Tryz.prog 5 byA (fun _=>True):=
 opens_mapP (fun n:Int=>UInt8.ofNat n.toNat) (b9F (k:= .u8) rfl) (fun x h=>by
  have h1:0≤x∧x≤255:=by have h1:IntKind.min .u8≤x:=h.1;have h2:x≤IntKind.max .u8:=h.2;have e1:IntKind.min .u8=0:=rfl;have e2:IntKind.max .u8=255:=rfl;omega
  have:(UInt8.ofNat x.toNat).toNat=x.toNat:=by simp;omega
  rw[FO,this];congr 2;omega) (fun _ _=>trivial)
theorem b9P:JX Tryz.prog 22 (fun l:List UInt8=>[.sl false 0 1 UInt8 byA l]) (fun l=>l.length<2^63):=
 opens_mapP (fun l=>l) (b9G (e:=5) rfl (by kernel_rfl) (by decide) b9O) (fun _ _=>rfl) (fun _ h=>h.1)
end Go.My
end
