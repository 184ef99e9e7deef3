/- joined -/
import Derived.Test.YtaenadacepeagaaGreatDoorQJ
import Derived.Test.YtaenadacepeagaaGreatDoorProg
set_option linter.unusedSimpArgs false
set_option linter.unusedVariables false
section
namespace Go.My
open Go.Eng Go.Proofs
variable {G:GInv}
def eqF{α:Type}(p:α→α→Bool):List α→List α→Bool
 |[],[]=>true
 |x::a,y::b=>p x y&&eqF p a b
 |_,_=>false
theorem a2w{α:Type}{p:α→α→Bool}:∀ {a b:List α},a.length≠b.length→eqF p a b=false
 |[],[],h=>(h rfl).elim
 |[],_::_,_=>rfl
 |_::_,[],_=>rfl
 |x::a,y::b,h=>by
  rw[eqF,a2w (a:=a) (b:=b) (fun e=>h (by simp [e]))];simp
def eqW{α:Type}(p:α→α→Bool)(a b:List α)(i:Int):Prop:=((0≤i∧i≤a.length)∧a.length=b.length)∧eqF p a b=eqF p (a.drop i.toNat) (b.drop i.toNat)
theorem RW{α:Type}{p:α→α→Bool}{a b:List α}(h:(a.length:Int)=b.length):eqW p a b 0:=⟨⟨by omega,by omega⟩,rfl⟩
theorem Wi{α:Type}{p:α→α→Bool}{a b:List α}{i:Int}(h:eqW p a b i):(0≤i∧i≤a.length)∧a.length=b.length:=h.1
theorem a2x{α:Type}{p:α→α→Bool}{a b:List α}{i:Int}{x y:α}(h:eqW p a b i)(hx:a[i.toNat]? =some x)(hy:b[i.toNat]? =some y):eqF p a b=(p x y&&eqF p (a.drop (i+1).toNat) (b.drop (i+1).toNat)):=by
 have h1:=(List.getElem?_eq_some_iff.1 hx).1;have h2:=(List.getElem?_eq_some_iff.1 hy).1
 rw[h.2,List.drop_eq_getElem_cons h1,(List.getElem?_eq_some_iff.1 hx).2,List.drop_eq_getElem_cons h2,(List.getElem?_eq_some_iff.1 hy).2,eqF,show(i+1).toNat=i.toNat+1 by have:=h.1.1.1;omega]
theorem a2y{α:Type}{p:α→α→Bool}{a b:List α}{i:Int}{x y:α}(h:eqW p a b i)(hx:a[i.toNat]? =some x)(hy:b[i.toNat]? =some y)(hp:p x y=true):eqW p a b (i+1):=by
 have h1:=(List.getElem?_eq_some_iff.1 hx).1
 refine⟨⟨by have:=h.1.1;omega,h.1.2⟩,?_⟩
 rw[a2x h hx hy,hp];simp
theorem a2z{α:Type}{p:α→α→Bool}{a b:List α}{i:Int}{x y:α}(h:eqW p a b i)(hx:a[i.toNat]? =some x)(hy:b[i.toNat]? =some y)(hp:p x y=false):false=eqF p a b:=by rw[a2x h hx hy,hp];rfl
theorem a2A{α:Type}{p:α→α→Bool}{a b:List α}{i:Int}(h:eqW p a b i)(hi:¬i<a.length):true=eqF p a b:=by
 have:=h.1
 rw[h.2,List.drop_eq_nil_of_le (by omega),List.drop_eq_nil_of_le (by omega)];rfl
theorem a2B{α:Type}{p:α→α→Bool}{a b:List α}(h:(a.length:Int)≠b.length):false=eqF p a b:=(a2w (by omega)).symm
def EV(x y:Sg):Bool:=decide (x.kind=y.kind)&&(x.text==y.text)
attribute [local irreducible] eqW
def LA:Sig:= {X:=Sg×Sg,args:=fun x=>[.agg (sgA x.1),.agg (sgA x.2)],pre:=fun x=>True,Y:=Unit,post:=fun x y=>True,res:=fun x y=> .bool (EV x.1 x.2),outs:=fun x y=>[.top,.top],keep:=false}
theorem b3V:Am G Tryz.prog 65 LA:=
 vcFun_okP [] [] false (fun x=>[]) Tryz.func65 rfl (by decide) trivial (fun(x:Sg×Sg)=>(∀(y:Unit),True→True∧True∧True∧True)∧Aa (x.1.kind==x.2.kind) (rA LA x [.bool (x.1.text==x.2.text),.top,.top]) (rA LA x [.bool false,.top,.top])) (fun x=>by kernel_rfl) fun(x:Sg×Sg) (hx:True)=>(by
 dsimp only[rA,LA,Bv,Aw,AR]
 (repeat' first|(with_reducible first|rfl|exact True.intro|apply AM|apply And.intro|((first|apply AC|apply AK|apply AD|apply AL)<;>intro _))|(apply AB<;>intro _)|apply AJ|refine Ag () ?_ ?_|((first|apply AQ|apply AP|apply AO|apply AN|apply AI|apply AH|apply AG|apply AF|apply AE)<;>try dsimp only)|apply Ag|(refine Prod.forall.2 ?_;intro _;try dsimp only)|(intro _;try dsimp only))
 all_goals first
  |rfl
  |(simp [EV, *];done)
  |skip)
def Kl:Sig:= {X:=List Sg×List Sg,args:=fun x=>[sgs x.1,sgs x.2,.clo (.func 65) []],pre:=fun x=>x.1.length<2^62∧x.2.length<2^62,Y:=Unit,post:=fun x y=>True,res:=fun x y=> .bool (eqF EV x.1 x.2),outs:=fun x y=>[.top,.top,.top],keep:=false}
def RX(x:List Sg×List Sg):LS:= {ι:=Int,inv:=fun i=>eqW EV x.1 x.2 i,regs:=fun i=>[(0,sgs x.1),(1,sgs x.2),(2,.clo (.func 65) []),(15,sgs x.1),(16,.int .i64 x.1.length),(17,.int .i64 i)],als:=[],meas:=fun i=>x.1.length-i.toNat}
set_option maxRecDepth 100000 in
theorem b3W:Am G Tryz.prog 64 Kl:=
 vcFun_okP [(65,0,LA)] [] false (fun x=>[(4,RX x)]) Tryz.func64 rfl (by decide) ⟨b3V,trivial⟩ (fun(x:List Sg×List Sg)=>(∀(y:Unit),True→True∧True∧True∧True∧True)∧Aa ((↑(List.length x.1):Int) != (↑(List.length x.2):Int)) (rA Kl x [.bool false,.top,.top,.top]) (eA (RX x) [sgs x.1,sgs x.2,AV.clo (.func 65) [],sgs x.1,.int .i64 (↑(List.length x.1):Int),.int .i64 (0:Int)]∧∀(i:Int),eqW EV x.1 x.2 i→Aa (decide (i<(↑(List.length x.1):Int))) (((0:Int)≤i∧i<(↑(List.length x.1):Int))∧∀(e:Sg),x.1[Int.toNat i]? =some e→((0:Int)≤i∧i<(↑(List.length x.2):Int))∧∀(e_1:Sg),x.2[Int.toNat i]? =some e_1→cA LA [.agg [.int .i64 e.kind,.str e.text,.int .i64 e.pos,.bool e.blank],.agg [.int .i64 e_1.kind,.str e_1.text,.int .i64 e_1.pos,.bool e_1.blank]] fun x_1 y=>Aa (!EV x_1.1 x_1.2) (rA Kl x [.bool false,.top,.top,.top]) (inR IntKind.i64 (i+(1:Int))∧eN (RX x) i [sgs x.1,sgs x.2,AV.clo (.func 65) [],sgs x.1,.int .i64 (↑(List.length x.1):Int),.int .i64 (i+(1:Int))])) (rA Kl x [.bool true,.top,.top,.top]))) (fun x=>by kernel_rfl) fun(x:List Sg×List Sg) (hx:x.1.length<2^62∧x.2.length<2^62)=>(by
 dsimp only[cA,eA,eN,RX,rA,Kl,LA,Bv,sgs,Aw,AR,mvL,lnL,mvE,lnE,Br]
 obtain⟨h1,h2⟩:=hx
 (repeat' first|(with_reducible first|rfl|exact True.intro|apply AM|apply And.intro|((first|apply AC|apply AK|apply AD|apply AL)<;>intro _))|(apply AB<;>intro _)|apply AJ|refine Ag () ?_ ?_|((first|apply AQ|apply AP|apply AO|apply AN|apply AI|apply AH|apply AG|apply AF|apply AE)<;>try dsimp only)|apply Ag|(refine Prod.forall.2 ?_;intro _;try dsimp only)|(intro _;try dsimp only))
 all_goals first
  |rfl
  |(show _≤_;have hq:=Wi (show eqW _ _ _ _ by assumption);(try simp only[AS]);omega)
  |(show Lb _;exact UP ‹_› h1)
  |(show Lb _;exact UP ‹_› h2)
  |exact RW ‹_›
  |exact RW (by omega)
  |exact a2y ‹_› ‹_› ‹_› ‹_›
  |exact a2z ‹_› ‹_› ‹_› ‹_›
  |exact a2A ‹_› ‹_›
  |exact a2B ‹_›
  |omega
  |(have hq:=Wi (show eqW _ _ _ _ by assumption);(try simp only[AS]);omega)
  |skip)
def Ns:Sig:= {X:=List Sg×List Sg,args:=fun x=>[sgs x.1,sgs x.2],pre:=fun x=>x.1.length<2^62∧x.2.length<2^62,Y:=Unit,post:=fun x y=>True,res:=fun x y=> .bool (eqF EV x.1 x.2),outs:=fun x y=>[.top,.top],keep:=false}
theorem b3X:Am G Tryz.prog 34 Ns:=
 vcFun_okP [(64,65+1,Kl)] [] false (fun x=>[]) Tryz.func34 rfl (by decide) ⟨b3W,trivial⟩ (fun(x:List Sg×List Sg)=>(∀(y:Unit),True→True∧True∧True∧True)∧cA Kl [sgs x.1,sgs x.2,AV.clo (Fn.func (93:Nat)) []] fun x_1 y=>rA Ns x [.bool (eqF EV x_1.1 x_1.2),.top,.top]) (fun x=>by kernel_rfl) fun(x:List Sg×List Sg) (hx:x.1.length<2^62∧x.2.length<2^62)=>(by
 dsimp only[cA,rA,Kl,Ns,Bv,sgs,Aw,AR,mvL,lnL,mvE,lnE]
 obtain⟨h1,h2⟩:=hx
 (repeat' first|(with_reducible first|rfl|exact True.intro|apply AM|apply And.intro|((first|apply AC|apply AK|apply AD|apply AL)<;>intro _))|(apply AB<;>intro _)|apply AJ|refine Ag () ?_ ?_|((first|apply AQ|apply AP|apply AO|apply AN|apply AI|apply AH|apply AG|apply AF|apply AE)<;>try dsimp only)|apply Ag|(refine Prod.forall.2 ?_;intro _;try dsimp only)|(intro _;try dsimp only))
 all_goals first
  |rfl
  |exact h1
  |exact h2
  |skip)
def Jq:Sig:= {X:=List Sg×List Sg,args:=fun x=>[sgs x.1,sgs x.2],pre:=fun x=>x.1.length<2^62∧x.2.length<2^62,Y:=Unit,post:=fun x y=>True,res:=fun x y=> .bool (eqF EV x.1 x.2),outs:=fun x y=>[.top,.top],keep:=false}
def RY(x:List Sg×List Sg):LS:= {ι:=Int,inv:=fun i=>eqW EV x.1 x.2 i,regs:=fun i=>[(0,sgs x.1),(1,sgs x.2),(5,.int .i64 i)],als:=[],meas:=fun i=>x.1.length-i.toNat}
theorem b3Y:Am G Tryz.prog 37 Jq:=
 vcFun_okP [] [] false (fun x=>[(4,RY x)]) Tryz.func37 rfl (by decide) trivial (fun(x:List Sg×List Sg)=>(∀(y:Unit),True→True∧True∧True∧True)∧Aa ((↑(List.length x.1):Int) != (↑(List.length x.2):Int)) (rA Jq x [.bool false,.top,.top]) (eA (RY x) [sgs x.1,sgs x.2,.int .i64 (0:Int)]∧∀(i:Int),eqW EV x.1 x.2 i→Aa (decide (i<(↑(List.length x.1):Int))) (true=true∧true=true∧((0:Int)≤i∧i<(↑(List.length x.1):Int))∧∀(e:Sg),x.1[Int.toNat i]? =some e→((0:Int)≤i∧i<(↑(List.length x.2):Int))∧∀(e_1:Sg),x.2[Int.toNat i]? =some e_1→Aa (e.kind != e_1.kind) (rA Jq x [.bool false,.top,.top]) (((0:Int)≤i∧i<(↑(List.length x.1):Int))∧∀(e:Sg),x.1[Int.toNat i]? =some e→((0:Int)≤i∧i<(↑(List.length x.2):Int))∧∀(e_2:Sg),x.2[Int.toNat i]? =some e_2→Aa (!e.text==e_2.text) (rA Jq x [.bool false,.top,.top]) (inR IntKind.i64 (i+(1:Int))∧eN (RY x) i [sgs x.1,sgs x.2,.int .i64 (i+(1:Int))]))) (rA Jq x [.bool true,.top,.top]))) (fun x=>by kernel_rfl) fun(x:List Sg×List Sg) (hx:x.1.length<2^62∧x.2.length<2^62)=>(by
 dsimp only[eA,eN,RY,rA,Jq,Bv,sgs,Aw,AR,Br]
 obtain⟨h1,h2⟩:=hx
 (repeat' first|(with_reducible first|rfl|exact True.intro|apply AM|apply And.intro|((first|apply AC|apply AK|apply AD|apply AL)<;>intro _))|(apply AB<;>intro _)|apply AJ|refine Ag () ?_ ?_|((first|apply AQ|apply AP|apply AO|apply AN|apply AI|apply AH|apply AG|apply AF|apply AE)<;>try dsimp only)|apply Ag|(refine Prod.forall.2 ?_;intro _;try dsimp only)|(intro _;try dsimp only))
 all_goals(try((repeat(rename x.1[_]? =some _=>hq;revert hq;rename x.1[_]? =some _=>hr;intro hq;rw[hr] at hq;cases hq))))
 all_goals(try((repeat(rename x.2[_]? =some _=>hq;revert hq;rename x.2[_]? =some _=>hr;intro hq;rw[hr] at hq;cases hq))))
 all_goals first
  |rfl
  |exact RW ‹_›
  |exact RW (by omega)
  |(refine a2y ‹_› ‹_› ‹_› ?_;simp [EV, *];done)
  |(refine a2z ‹_› ‹_› ‹_› ?_;simp [EV, *];done)
  |exact a2A ‹_› ‹_›
  |exact a2B ‹_›
  |omega
  |(have hq:=Wi (show eqW _ _ _ _ by assumption);(try simp only[AS]);omega)
  |skip)
end Go.My
end
section
namespace Go.My
open Go.Eng Go.Proofs
variable {G:GInv}
def CG(l:List Sg)(i:Int):Bool:=decide (i+1<l.length)&&(ER l i 4 [44]&&(ER l (i+1) 4 [41]||ER l (i+1) 4 [93]))
def DX(l:List Sg):Nat→List Sg
 |0=>[]
 |n+1=>if CG l n then DX l n else DX l n++[sgO l n]
theorem Wj{l:List Sg}:∀ {n:Nat},(DX l n).length≤n
 |0=>Nat.le_refl _
 |n+1=>by
  have:= @Wj l n
  rw[DX];split
  ·omega
  ·simp;omega
theorem b3Z{l:List Sg}{i:Int}(h0:0≤i)(h:CG l i=true):DX l i.toNat=DX l (i+1).toNat:=by
 have e:((i.toNat:Nat):Int)=i:=by omega
 rw[show(i+1).toNat=i.toNat+1 by omega,DX,e,if_pos h]
theorem a2C{l:List Sg}{i:Int}(h0:0≤i)(h:CG l i=false):DX l i.toNat++[sgO l i]=DX l (i+1).toNat:=by
 have e:((i.toNat:Nat):Int)=i:=by omega
 rw[show(i+1).toNat=i.toNat+1 by omega,DX,e,if_neg (by simp [h])]
def FW(l:List Sg):Nat→List (List UInt8)
 |0=>[]
 |n+1=>if(sgO l n).kind=5 then FW l n++[(sgO l n).text] else FW l n
theorem Wk{l:List Sg}:∀ {n:Nat},(FW l n).length≤n
 |0=>Nat.le_refl _
 |n+1=>by
  have:= @Wk l n
  rw[FW];split
  ·simp;omega
  ·omega
theorem b4a{l:List Sg}{i:Int}(h0:0≤i)(h:(sgO l i).kind≠5):FW l i.toNat=FW l (i+1).toNat:=by
 have e:((i.toNat:Nat):Int)=i:=by omega
 rw[show(i+1).toNat=i.toNat+1 by omega,FW,e,if_neg h]
theorem b4b{l:List Sg}{i:Int}(h0:0≤i)(h:(sgO l i).kind=5):FW l i.toNat++[(sgO l i).text]=FW l (i+1).toNat:=by
 have e:((i.toNat:Nat):Int)=i:=by omega
 rw[show(i+1).toNat=i.toNat+1 by omega,FW,e,if_pos h]
def DH(l:List Sg):List Sg:=DX l l.length
def EB(l:List Sg):List (List UInt8):=FW l l.length
def lfI(l:List Sg)(i:Int)(o:List Sg):Prop:=(0≤i∧i≤l.length)∧o=DX l i.toNat
theorem a2D{l:List Sg}:lfI l 0 []:=⟨by omega,rfl⟩
theorem RZ{l:List Sg}{i:Int}{o:List Sg}(h:lfI l i o):(0≤i∧i≤l.length)∧o.length≤l.length:=by
 refine⟨h.1,?_⟩
 rw[h.2];have:= @Wj l i.toNat;have:=h.1;omega
theorem Wl{l:List Sg}{i:Int}{o:List Sg}(h:lfI l i o)(hi:i<l.length)(hs:CG l i=true):lfI l (i+1) o:=⟨by have:=h.1;omega,by rw[h.2];exact b3Z h.1.1 hs⟩
theorem a2E{l:List Sg}{i:Int}{o:List Sg}{e:Sg}(h:lfI l i o)(hi:i<l.length)(he:l[i.toNat]? =some e)(hs:CG l i=false):lfI l (i+1) (o++[e]):=⟨by have:=h.1;omega,by rw[h.2,←FO he];exact a2C h.1.1 hs⟩
theorem b4c{l:List Sg}{i:Int}{o:List Sg}(h:lfI l i o)(hi:i<l.length)(hs:CG l i=false):lfI l (i+1) (o++[sgO l i]):=⟨by have:=h.1;omega,by rw[h.2];exact a2C h.1.1 hs⟩
theorem Sa{l:List Sg}{i:Int}{o:List Sg}(h:lfI l i o)(hi:¬i<l.length):o=DH l:=by
 rw[h.2,DH,show i.toNat=l.length by have:=h.1;omega]
def ntI(l:List Sg)(i:Int)(o:List (List UInt8)):Prop:=(0≤i∧i≤l.length)∧o=FW l i.toNat
theorem a2F{l:List Sg}:ntI l 0 []:=⟨by omega,rfl⟩
theorem Sb{l:List Sg}{i:Int}{o:List (List UInt8)}(h:ntI l i o):(0≤i∧i≤l.length)∧o.length≤l.length:=by
 refine⟨h.1,?_⟩
 rw[h.2];have:= @Wk l i.toNat;have:=h.1;omega
theorem a2G{l:List Sg}{i:Int}{o:List (List UInt8)}{e:Sg}(h:ntI l i o)(hi:i<l.length)(hk:e.kind≠5)(he:l[i.toNat]? =some e):ntI l (i+1) o:=⟨by have:=h.1;omega,by rw[h.2];exact b4a h.1.1 (by rw[FO he];exact hk)⟩
theorem a2H{l:List Sg}{i:Int}{o:List (List UInt8)}{e e2:Sg}(h:ntI l i o)(hi:i<l.length)(hk:e.kind=5)(he:l[i.toNat]? =some e)(he2:l[i.toNat]? =some e2):ntI l (i+1) (o++[e2.text]):=by
 refine⟨by have:=h.1;omega,?_⟩
 rw[h.2,←FO he2];exact b4b h.1.1 (by rw[FO he];exact hk)
theorem a2I{l:List Sg}{i:Int}{o:List (List UInt8)}(h:ntI l i o)(hi:¬i<l.length):o=EB l:=by
 rw[h.2,EB,show i.toNat=l.length by have:=h.1;omega]
theorem Pj{l:List Sg}:(DH l).length≤l.length:= @Wj l l.length
attribute [local irreducible] DX FW lfI ntI DH EB
def HS:Sig:= {X:=List Sg×Int,args:=fun x=>[sgs x.1,.int .i64 x.2],pre:=fun x=>(0≤x.2∧x.2<x.1.length)∧x.1.length<2^62,Y:=Unit,post:=fun x y=>True,res:=fun x y=> .bool (CG x.1 x.2),outs:=fun x y=>[.top,.top],keep:=false}
theorem b4d:Am G Tryz.prog 66 HS:=
 vcFun_okP [] [] false (fun x=>[]) Tryz.func66 rfl (by decide) trivial (fun(x:List Sg×Int)=>(∀(y:Unit),True→True∧True∧True∧True)∧inR IntKind.i64 (x.2+(1:Int))∧Aa (decide (x.2+(1:Int)≥(↑(List.length x.1):Int))) (rA HS x [.bool false,.top,.top]) (((0:Int)≤x.2∧x.2<(↑(List.length x.1):Int))∧∀(e:Sg),x.1[Int.toNat x.2]? =some e→Aa (e.kind != (4:Int)) (rA HS x [.bool false,.top,.top]) (((0:Int)≤x.2∧x.2<(↑(List.length x.1):Int))∧∀(e:Sg),x.1[Int.toNat x.2]? =some e→Aa (!e.text== #[(44:UInt8)].toList) (rA HS x [.bool false,.top,.top]) (inR IntKind.i64 (x.2+(1:Int))∧((0:Int)≤x.2+(1:Int)∧x.2+(1:Int)<(↑(List.length x.1):Int))∧∀(e:Sg),x.1[Int.toNat (x.2+(1:Int))]? =some e→Aa (e.kind==(4:Int)) (Aa (e.text== #[(41:UInt8)].toList) (rA HS x [.bool true,.top,.top]) (rA HS x [.bool (e.text== #[(93:UInt8)].toList),.top,.top])) (rA HS x [.bool false,.top,.top]))))) (fun x=>by kernel_rfl) fun(x:List Sg×Int) (hx:(0≤x.2∧x.2<x.1.length)∧x.1.length<2^62)=>(by
 dsimp only[rA,HS,Bv,sgs,Aw,AR]
 obtain⟨h1,h2⟩:=hx
 (repeat' first|(with_reducible first|rfl|exact True.intro|apply AM|apply And.intro|((first|apply AC|apply AK|apply AD|apply AL)<;>intro _))|(apply AB<;>intro _)|apply AJ|refine Ag () ?_ ?_|((first|apply AQ|apply AP|apply AO|apply AN|apply AI|apply AH|apply AG|apply AF|apply AE)<;>try dsimp only)|apply Ag|(refine Prod.forall.2 ?_;intro _;try dsimp only)|(intro _;try dsimp only))
 all_goals(repeat(rename x.1[_]? =some _=>hq;have hq2:=FO hq;clear hq;subst hq2))
 all_goals first
  |rfl
  |((try simp only[AS]);omega)
  |(rw[Bool.eq_iff_iff];simp [CG,ER, *];done)
  |(rw[Bool.eq_iff_iff];simp [CG,ER, *];omega)
  |skip)
def LB:Sig:= {X:=List Sg,args:=fun x=>[sgs x],pre:=fun x=>x.length<2^30,Y:=Unit,post:=fun x y=>True,res:=fun x y=>sgs (DH x),outs:=fun x y=>[.top],keep:=true}
def Pk(x:List Sg):LS:= {ι:=Int×List Sg,inv:=fun i=>lfI x i.1 i.2,regs:=fun i=>[(0,sgs x),(3,Ad i.2),(6,sgs x),(7,.int .i64 x.length),(8,.int .i64 i.1)],als:=[],meas:=fun i=>x.length-i.1.toNat}
theorem b4e:Am G Tryz.prog 35 LB:=
 vcFun_okP [(66,0,HS)] [(28,⟨Sg,sgA⟩)] false (fun x=>[(3,Pk x)]) Tryz.func35 rfl (by decide) ⟨b4d,trivial⟩ (fun(x:List Sg)=>True∧eA (Pk x) [sgs x,.nil,sgs x,.int .i64 (↑(List.length x):Int),.int .i64 (0:Int)]∧∀(i:Int×List Sg),lfI x i.1 i.2→Aa (decide (i.1<(↑(List.length x):Int))) (((0:Int)≤i.1∧i.1<(↑(List.length x):Int))∧∀(e:Sg),x[Int.toNat i.1]? =some e→cA HS [sgs x,.int .i64 i.1] fun x_1 y=>Aa (!CG x_1.1 x_1.2) (∃(x_2:Sg),e.kind=x_2.kind∧e.text=x_2.text∧e.pos=x_2.pos∧e.blank=x_2.blank∧∃(zs:List Sg),Ad [x_2]=Ad zs∧Bu sgA∧Ba (List.length i.2+List.length zs) (40:Nat)∧inR IntKind.i64 (i.1+(1:Int))∧eN (Pk x) i [sgs x,Ad (i.2++zs),sgs x,.int .i64 (↑(List.length x):Int),.int .i64 (i.1+(1:Int))]) (inR IntKind.i64 (i.1+(1:Int))∧eN (Pk x) i [sgs x,Ad i.2,sgs x,.int .i64 (↑(List.length x):Int),.int .i64 (i.1+(1:Int))])) (rA LB x [Ad i.2,.top])) (fun x=>by kernel_rfl) fun(x:List Sg) (hx:x.length<2^30)=>(by
 dsimp only[cA,eA,eN,Pk,Ad,rA,LB,HS,Bv,sgs,Aw,AR,mvL,lnL,mvE,lnE,Br]
 have hx:x.length<2^30:=hx
 (repeat' first|(with_reducible first|rfl|exact True.intro|apply AM|apply And.intro|((first|apply AC|apply AK|apply AD|apply AL)<;>intro _))|(apply AB<;>intro _)|apply AJ|refine Ag () ?_ ?_|((first|apply AQ|apply AP|apply AO|apply AN|apply AI|apply AH|apply AG|apply AF|apply AE)<;>try dsimp only)|apply Ag|(refine Prod.forall.2 ?_;intro _;try dsimp only)|(intro _;try dsimp only))
 all_goals first
  |rfl
  |exact a2D
  |exact Wl ‹_› ‹_› ‹_›
  |exact a2E ‹_› ‹_› ‹_› ‹_›
  |exact Sa ‹_› ‹_›
  |exact congrArg _ (Sa ‹_› ‹_›)
  |omega
  |(have hq:=RZ (show lfI _ _ _ by assumption);(try simp only[AS]);omega)
  |(have hq:=RZ (show lfI _ _ _ by assumption);(try simp only[Ba,List.length_append,List.length_cons,List.length_nil]);omega)
  |skip)
def IG:Sig:= {X:=List Sg,args:=fun x=>[sgs x],pre:=fun x=>x.length<2^30,Y:=Unit,post:=fun x y=>True,res:=fun x y=>sgs (DH x),outs:=fun x y=>[.top],keep:=true}
def IH(x:List Sg):LS:= {ι:=Int×List Sg,inv:=fun i=>lfI x i.1 i.2,regs:=fun i=>[(0,sgs x),(3,Ad i.2),(4,.int .i64 i.1)],als:=[],meas:=fun i=>x.length-i.1.toNat}
theorem a2J:Am G Tryz.prog 33 IG:=
 vcFun_okP [] [(28,⟨Sg,sgA⟩)] false (fun x=>[(3,IH x)]) Tryz.func33 rfl (by decide) trivial (fun(x:List Sg)=>True∧eA (IH x) [sgs x,Ad [],.int .i64 (0:Int)]∧∀(i:Int×List Sg),lfI x i.1 i.2→Aa (decide (i.1<(↑(List.length x):Int))) (((0:Int)≤i.1∧i.1<(↑(List.length x):Int))∧∀(e:Sg),x[Int.toNat i.1]? =some e→Aa (e.kind==(4:Int)) (((0:Int)≤i.1∧i.1<(↑(List.length x):Int))∧∀(e:Sg),x[Int.toNat i.1]? =some e→Aa (e.text== #[(44:UInt8)].toList) (inR IntKind.i64 (i.1+(1:Int))∧Aa (decide (i.1+(1:Int)<(↑(List.length x):Int))) (inR IntKind.i64 (i.1+(1:Int))∧((0:Int)≤i.1+(1:Int)∧i.1+(1:Int)<(↑(List.length x):Int))∧∀(e:Sg),x[Int.toNat (i.1+(1:Int))]? =some e→Aa (e.kind==(4:Int)) (inR IntKind.i64 (i.1+(1:Int))∧((0:Int)≤i.1+(1:Int)∧i.1+(1:Int)<(↑(List.length x):Int))∧∀(e:Sg),x[Int.toNat (i.1+(1:Int))]? =some e→Aa (e.text== #[(41:UInt8)].toList) (inR IntKind.i64 (i.1+(1:Int))∧eN (IH x) i [sgs x,Ad i.2,.int .i64 (i.1+(1:Int))]) (inR IntKind.i64 (i.1+(1:Int))∧((0:Int)≤i.1+(1:Int)∧i.1+(1:Int)<(↑(List.length x):Int))∧∀(e:Sg),x[Int.toNat (i.1+(1:Int))]? =some e→Aa (e.text== #[(93:UInt8)].toList) (inR IntKind.i64 (i.1+(1:Int))∧eN (IH x) i [sgs x,Ad i.2,.int .i64 (i.1+(1:Int))]) (((0:Int)≤i.1∧i.1<(↑(List.length x):Int))∧∀(e:Sg),x[Int.toNat i.1]? =some e→∃(x_1:Sg),e.kind=x_1.kind∧e.text=x_1.text∧e.pos=x_1.pos∧e.blank=x_1.blank∧∃(zs:List Sg),Ad [x_1]=Ad zs∧Bu sgA∧Ba (List.length i.2+List.length zs) (40:Nat)∧inR IntKind.i64 (i.1+(1:Int))∧eN (IH x) i [sgs x,Ad (i.2++zs),.int .i64 (i.1+(1:Int))]))) (((0:Int)≤i.1∧i.1<(↑(List.length x):Int))∧∀(e:Sg),x[Int.toNat i.1]? =some e→∃(x_1:Sg),e.kind=x_1.kind∧e.text=x_1.text∧e.pos=x_1.pos∧e.blank=x_1.blank∧∃(zs:List Sg),Ad [x_1]=Ad zs∧Bu sgA∧Ba (List.length i.2+List.length zs) (40:Nat)∧inR IntKind.i64 (i.1+(1:Int))∧eN (IH x) i [sgs x,Ad (i.2++zs),.int .i64 (i.1+(1:Int))])) (((0:Int)≤i.1∧i.1<(↑(List.length x):Int))∧∀(e:Sg),x[Int.toNat i.1]? =some e→∃(x_1:Sg),e.kind=x_1.kind∧e.text=x_1.text∧e.pos=x_1.pos∧e.blank=x_1.blank∧∃(zs:List Sg),Ad [x_1]=Ad zs∧Bu sgA∧Ba (List.length i.2+List.length zs) (40:Nat)∧inR IntKind.i64 (i.1+(1:Int))∧eN (IH x) i [sgs x,Ad (i.2++zs),.int .i64 (i.1+(1:Int))])) (((0:Int)≤i.1∧i.1<(↑(List.length x):Int))∧∀(e:Sg),x[Int.toNat i.1]? =some e→∃(x_1:Sg),e.kind=x_1.kind∧e.text=x_1.text∧e.pos=x_1.pos∧e.blank=x_1.blank∧∃(zs:List Sg),Ad [x_1]=Ad zs∧Bu sgA∧Ba (List.length i.2+List.length zs) (40:Nat)∧inR IntKind.i64 (i.1+(1:Int))∧eN (IH x) i [sgs x,Ad (i.2++zs),.int .i64 (i.1+(1:Int))])) (((0:Int)≤i.1∧i.1<(↑(List.length x):Int))∧∀(e:Sg),x[Int.toNat i.1]? =some e→∃(x_1:Sg),e.kind=x_1.kind∧e.text=x_1.text∧e.pos=x_1.pos∧e.blank=x_1.blank∧∃(zs:List Sg),Ad [x_1]=Ad zs∧Bu sgA∧Ba (List.length i.2+List.length zs) (40:Nat)∧inR IntKind.i64 (i.1+(1:Int))∧eN (IH x) i [sgs x,Ad (i.2++zs),.int .i64 (i.1+(1:Int))])) (rA IG x [Ad i.2,.top])) (fun x=>by kernel_rfl) fun(x:List Sg) (hx:x.length<2^30)=>(by
 dsimp only[eA,eN,IH,Ad,rA,IG,Bv,sgs,Aw,AR,Br]
 have hx:x.length<2^30:=hx
 (repeat' first|(with_reducible first|rfl|exact True.intro|apply AM|apply And.intro|((first|apply AC|apply AK|apply AD|apply AL)<;>intro _))|(apply AB<;>intro _)|apply AJ|refine Ag () ?_ ?_|((first|apply AQ|apply AP|apply AO|apply AN|apply AI|apply AH|apply AG|apply AF|apply AE)<;>try dsimp only)|apply Ag|(refine Prod.forall.2 ?_;intro _;try dsimp only)|(intro _;try dsimp only))
 all_goals first
  |rfl
  |exact a2D
  |exact Wl ‹_› ‹_› ‹_›
  |exact a2E ‹_› ‹_› ‹_› ‹_›
  |exact Sa ‹_› ‹_›
  |exact congrArg _ (Sa ‹_› ‹_›)
  |omega
  |(have hq:=RZ (show lfI _ _ _ by assumption);(try simp only[AS]);omega)
  |(have hq:=RZ (show lfI _ _ _ by assumption);(try simp only[Ba,List.length_append,List.length_cons,List.length_nil]);omega)
  |skip
 all_goals(repeat(rename x[_]? =some _=>hq;have hq2:=FO hq;clear hq;subst hq2))
 all_goals first
  |(refine Wl ‹_› ‹_› ?_;simp [CG,ER, *];done)
  |(refine b4c ‹_› ‹_› ?_;simp [CG,ER, *];done)
  |skip)
def Jr:Sig:= {X:=List Sg,args:=fun x=>[sgs x],pre:=fun x=>x.length<2^30,Y:=Unit,post:=fun x y=>True,res:=fun x y=> .sl false 0 1 (List UInt8) Ai (EB x),outs:=fun x y=>[.top],keep:=true}
def Pl(x:List Sg):LS:= {ι:=Int×List (List UInt8),inv:=fun i=>ntI x i.1 i.2,regs:=fun i=>[(0,sgs x),(3,.sl true 0 1 (List UInt8) Ai i.2),(6,sgs x),(7,.int .i64 x.length),(8,.int .i64 i.1)],als:=[],meas:=fun i=>x.length-i.1.toNat}
theorem b4f:Am G Tryz.prog 18 Jr:=
 vcFun_okP [] [(39,⟨List UInt8,Ai⟩)] false (fun x=>[(3,Pl x)]) Tryz.func18 rfl (by decide) trivial (fun(x:List Sg)=>True∧eA (Pl x) [sgs x,.nil,sgs x,.int .i64 (↑(List.length x):Int),.int .i64 (0:Int)]∧∀(i:Int×List (List UInt8)),ntI x i.1 i.2→Aa (decide (i.1<(↑(List.length x):Int))) (((0:Int)≤i.1∧i.1<(↑(List.length x):Int))∧∀(e:Sg),x[Int.toNat i.1]? =some e→Aa (e.kind==(5:Int)) (∃(x_1:List UInt8),e.text=x_1∧∃(zs:List (List UInt8)),AV.sl true 0 1 (List UInt8) Ai [x_1]=AV.sl true 0 1 (List UInt8) Ai zs∧Bu Ai∧Ba (List.length i.2+List.length zs) (16:Nat)∧inR IntKind.i64 (i.1+(1:Int))∧eN (Pl x) i [sgs x,AV.sl true 0 1 (List UInt8) Ai (i.2++zs),sgs x,.int .i64 (↑(List.length x):Int),.int .i64 (i.1+(1:Int))]) (inR IntKind.i64 (i.1+(1:Int))∧eN (Pl x) i [sgs x,AV.sl true 0 1 (List UInt8) Ai i.2,sgs x,.int .i64 (↑(List.length x):Int),.int .i64 (i.1+(1:Int))])) (rA Jr x [AV.sl true 0 1 (List UInt8) Ai i.2,.top])) (fun x=>by kernel_rfl) fun(x:List Sg) (hx:x.length<2^30)=>(by
 dsimp only[eA,eN,Pl,rA,Jr,Bv,sgs,Aw,AR,Br]
 have hx:x.length<2^30:=hx
 (repeat' first|(with_reducible first|rfl|exact True.intro|apply AM|apply And.intro|((first|apply AC|apply AK|apply AD|apply AL)<;>intro _))|(apply AB<;>intro _)|apply AJ|refine Ag () ?_ ?_|((first|apply AQ|apply AP|apply AO|apply AN|apply AI|apply AH|apply AG|apply AF|apply AE)<;>try dsimp only)|apply Ag|(refine Prod.forall.2 ?_;intro _;try dsimp only)|(intro _;try dsimp only))
 all_goals first
  |rfl
  |exact a2F
  |exact a2G ‹_› ‹_› ‹_› ‹_›
  |exact a2H ‹_› ‹_› ‹_› ‹_› ‹_›
  |exact a2I ‹_› ‹_›
  |omega
  |(have hq:=Sb (show ntI _ _ _ by assumption);(try simp only[AS]);omega)
  |(have hq:=Sb (show ntI _ _ _ by assumption);(try simp only[Ba,List.length_append,List.length_cons,List.length_nil]);omega)
  |skip)
def Js:Sig:= {X:=List Sg,args:=fun x=>[sgs x],pre:=fun x=>x.length<2^30,Y:=Unit,post:=fun x y=>True,res:=fun x y=> .sl false 0 1 (List UInt8) Ai (EB x),outs:=fun x y=>[.top],keep:=true}
def Pm(x:List Sg):LS:= {ι:=Int×List (List UInt8),inv:=fun i=>ntI x i.1 i.2,regs:=fun i=>[(0,sgs x),(3,.sl true 0 1 (List UInt8) Ai i.2),(4,.int .i64 i.1)],als:=[],meas:=fun i=>x.length-i.1.toNat}
theorem b4g:Am G Tryz.prog 19 Js:=
 vcFun_okP [] [(39,⟨List UInt8,Ai⟩)] false (fun x=>[(3,Pm x)]) Tryz.func19 rfl (by decide) trivial (fun(x:List Sg)=>True∧eA (Pm x) [sgs x,AV.sl true 0 1 (List UInt8) Ai [],.int .i64 (0:Int)]∧∀(i:Int×List (List UInt8)),ntI x i.1 i.2→Aa (decide (i.1<(↑(List.length x):Int))) (((0:Int)≤i.1∧i.1<(↑(List.length x):Int))∧∀(e:Sg),x[Int.toNat i.1]? =some e→Aa (e.kind==(5:Int)) (((0:Int)≤i.1∧i.1<(↑(List.length x):Int))∧∀(e:Sg),x[Int.toNat i.1]? =some e→∃(x_1:List UInt8),e.text=x_1∧∃(zs:List (List UInt8)),AV.sl true 0 1 (List UInt8) Ai [x_1]=AV.sl true 0 1 (List UInt8) Ai zs∧Bu Ai∧Ba (List.length i.2+List.length zs) (16:Nat)∧inR IntKind.i64 (i.1+(1:Int))∧eN (Pm x) i [sgs x,AV.sl true 0 1 (List UInt8) Ai (i.2++zs),.int .i64 (i.1+(1:Int))]) (inR IntKind.i64 (i.1+(1:Int))∧eN (Pm x) i [sgs x,AV.sl true 0 1 (List UInt8) Ai i.2,.int .i64 (i.1+(1:Int))])) (rA Js x [AV.sl true 0 1 (List UInt8) Ai i.2,.top])) (fun x=>by kernel_rfl) fun(x:List Sg) (hx:x.length<2^30)=>(by
 dsimp only[eA,eN,Pm,rA,Js,Bv,sgs,Aw,AR,Br]
 have hx:x.length<2^30:=hx
 (repeat' first|(with_reducible first|rfl|exact True.intro|apply AM|apply And.intro|((first|apply AC|apply AK|apply AD|apply AL)<;>intro _))|(apply AB<;>intro _)|apply AJ|refine Ag () ?_ ?_|((first|apply AQ|apply AP|apply AO|apply AN|apply AI|apply AH|apply AG|apply AF|apply AE)<;>try dsimp only)|apply Ag|(refine Prod.forall.2 ?_;intro _;try dsimp only)|(intro _;try dsimp only))
 all_goals first
  |rfl
  |exact a2F
  |exact a2G ‹_› ‹_› ‹_› ‹_›
  |exact a2H ‹_› ‹_› ‹_› ‹_› ‹_›
  |exact a2I ‹_› ‹_›
  |omega
  |(have hq:=Sb (show ntI _ _ _ by assumption);(try simp only[AS]);omega)
  |(have hq:=Sb (show ntI _ _ _ by assumption);(try simp only[Ba,List.length_append,List.length_cons,List.length_nil]);omega)
  |skip)
def kwF(p q:List Sg):Bool:=eqF EV (DH p) (DH q)
def Km:Sig:= {X:=List Sg×List Sg,args:=fun x=>[sgs x.1,sgs x.2],pre:=fun x=>x.1.length<2^30∧x.2.length<2^30,Y:=Unit,post:=fun x y=>True,res:=fun x y=> .bool (kwF x.1 x.2),outs:=fun x y=>[.top,.top],keep:=false}
theorem b4h:Am G Tryz.prog 13 Km:=
 vcFun_okP [(35,0,LB),(34,0,Ns)] [] false (fun x=>[]) Tryz.func13 rfl (by decide) ⟨b4e,b3X,trivial⟩ (fun(x:List Sg×List Sg)=>(∀(y:Unit),True→True∧True∧True∧True)∧cA LB [sgs x.1] fun x_1 y=>cA LB [sgs x.2] fun x_2 y=>cA Ns [sgs (DH x_1),sgs (DH x_2)] fun x_3 y=>rA Km x [.bool (eqF EV x_3.1 x_3.2),.top,.top]) (fun x=>by kernel_rfl) fun(x:List Sg×List Sg) (hx:x.1.length<2^30∧x.2.length<2^30)=>(by
 dsimp only[cA,Ad,rA,LB,Ns,Km,Bv,sgs,Aw,AR,mvL,lnL,mvE,lnE]
 obtain⟨h1,h2⟩:=hx
 have hl1:= @Pj x.1;have hl2:= @Pj x.2
 (repeat' first|(with_reducible first|rfl|exact True.intro|apply AM|apply And.intro|((first|apply AC|apply AK|apply AD|apply AL)<;>intro _))|(apply AB<;>intro _)|apply AJ|refine Ag () ?_ ?_|((first|apply AQ|apply AP|apply AO|apply AN|apply AI|apply AH|apply AG|apply AF|apply AE)<;>try dsimp only)|apply Ag|(refine Prod.forall.2 ?_;intro _;try dsimp only)|(intro _;try dsimp only))
 all_goals first
  |rfl
  |omega
  |skip)
def LC:Sig:= {X:=List Sg×List Sg,args:=fun x=>[sgs x.1,sgs x.2],pre:=fun x=>x.1.length<2^30∧x.2.length<2^30,Y:=Unit,post:=fun x y=>True,res:=fun x y=> .bool (kwF x.1 x.2),outs:=fun x y=>[.top,.top],keep:=false}
theorem b4i:Am G Tryz.prog 16 LC:=
 vcFun_okP [(33,0,IG),(37,0,Jq)] [] false (fun x=>[]) Tryz.func16 rfl (by decide) ⟨a2J,b3Y,trivial⟩ (fun(x:List Sg×List Sg)=>(∀(y:Unit),True→True∧True∧True∧True)∧cA IG [sgs x.1] fun x_1 y=>cA IG [sgs x.2] fun x_2 y=>cA Jq [sgs (DH x_1),sgs (DH x_2)] fun x_3 y=>rA LC x [.bool (eqF EV x_3.1 x_3.2),.top,.top]) (fun x=>by kernel_rfl) fun(x:List Sg×List Sg) (hx:x.1.length<2^30∧x.2.length<2^30)=>(by
 dsimp only[cA,Ad,rA,IG,Jq,LC,Bv,sgs,Aw,AR,mvL,lnL,mvE,lnE]
 obtain⟨h1,h2⟩:=hx
 have hl1:= @Pj x.1;have hl2:= @Pj x.2
 (repeat' first|(with_reducible first|rfl|exact True.intro|apply AM|apply And.intro|((first|apply AC|apply AK|apply AD|apply AL)<;>intro _))|(apply AB<;>intro _)|apply AJ|refine Ag () ?_ ?_|((first|apply AQ|apply AP|apply AO|apply AN|apply AI|apply AH|apply AG|apply AF|apply AE)<;>try dsimp only)|apply Ag|(refine Prod.forall.2 ?_;intro _;try dsimp only)|(intro _;try dsimp only))
 all_goals first
  |rfl
  |omega
  |skip)
def sgD(t:List UInt8):List Sg:=(Cj t).getD []
attribute [local irreducible] Cp Cj kwF sgD eqF
end Go.My
end
section
namespace Go.My
open Go.Eng
def FL(L:List Nd)(k:Int):List Sg:=Az L (L.length+1) k
theorem Wm{f g:Int→List Sg}:∀ {l:List Int},(∀c∈l,f c=g c)→l.flatMap f=l.flatMap g
 |[],_=>rfl
 |c::l,h=>by rw[List.flatMap_cons,List.flatMap_cons,h c (by simp),Wm fun d hd=>h d (by simp [hd])]
theorem Wn{f g:Int→List Sg}{m:List UInt8}:∀ {l:List Int},(∀c∈l,f c=g c)→Bb f m l=Bb g m l
 |[],_=>rfl
 |c::l,h=>by
  rw[Bb,Bb,h c (by simp)]
  congr 1
  exact Wm (f:=fun d=>mkS m::f d) (g:=fun d=>mkS m::g d) fun d hd=>by show mkS m::f d=mkS m::g d;rw[h d (by simp [hd])]
theorem Sc{f g:Int→List Sg}{x:Nd}(hl:(CM x.kind).1≤x.kids.length)(h:∀c∈x.kids,f c=g c):Bo f x=Bo g x:=by
 have h0:∀i:Nat,i<x.kids.length→f (kd x i)=g (kd x i):=fun i hi=>by
  refine h _ ?_
  have e:x.kids[i]? =some x.kids[i]:=List.getElem?_eq_getElem hi
  rw[MR e];exact List.getElem_mem hi
 have hs:∀m,Bb f m x.kids=Bb g m x.kids:=fun m=>Wn h
 have hd:∀m,Bb f m (x.kids.drop 1)=Bb g m (x.kids.drop 1):=fun m=>Wn fun c hc=>h c (List.mem_of_mem_drop hc)
 have ht:∀m n,Bb f m (x.kids.take n)=Bb g m (x.kids.take n):=fun m n=>Wn fun c hc=>h c (List.mem_of_mem_take hc)
 have hf:x.kids.flatMap f=x.kids.flatMap g:=Wm h
 have hk:x.kind=5∨x.kind=9∨x.kind=20∨x.kind=6∨x.kind=11∨x.kind=13∨x.kind=14→1≤x.kids.length:=by
  intro hk
  have:(CM x.kind).1=1:=by rcases hk with e|e|e|e|e|e|e<;>rw[e]<;>rfl
  omega
 have h8:x.kind=8→3≤x.kids.length:=by intro e;have:(CM x.kind).1=3:=(by rw[e];rfl);omega
 have h16:x.kind=16∨x.kind=17→2≤x.kids.length:=by
  intro hk
  have:(CM x.kind).1=2:=by rcases hk with e|e<;>rw[e]<;>rfl
  omega
 unfold Bo
 refine ite_congr rfl (fun _=>rfl) fun _=> ?_
 refine ite_congr rfl (fun _=>rfl) fun _=> ?_
 refine ite_congr rfl (fun _=>rfl) fun _=> ?_
 refine ite_congr rfl (fun _=>by rw[hs]) fun _=> ?_
 refine ite_congr rfl (fun e=>by rw[h0 0 (by have:=hk (by omega);omega),hd]) fun _=> ?_
 refine ite_congr rfl (fun e=>by rw[h0 0 (by have:=hk (by omega);omega)]) fun _=> ?_
 refine ite_congr rfl (fun _=>by rw[hs]) fun _=> ?_
 refine ite_congr rfl (fun e=>by have:=h8 e;rw[h0 0 (by omega),h0 1 (by omega),h0 2 (by omega)]) fun _=> ?_
 refine ite_congr rfl (fun e=>by have:=hk (by omega);rw[ht,h0 _ (by omega)]) fun _=> ?_
 refine ite_congr rfl (fun _=>by rw[hs]) fun _=> ?_
 refine ite_congr rfl (fun e=>by rw[h0 0 (by have:=hk (by omega);omega)]) fun _=> ?_
 refine ite_congr rfl (fun _=>by rw[hf]) fun _=> ?_
 refine ite_congr rfl (fun _=>by rw[hf]) fun _=> ?_
 refine ite_congr rfl (fun _=>by rw[hf]) fun _=> ?_
 refine ite_congr rfl (fun _=>by rw[hf]) fun _=> ?_
 refine ite_congr rfl (fun e=> ?_) fun _=> ?_
 ·have:=h16 (by omega)
  rw[h0 0 (by omega),h0 1 (by omega)]
  congr 1
  exact ite_congr rfl (fun e3=>by rw[h0 2 (by omega)]) fun _=>rfl
 refine ite_congr rfl (fun e=>by have:=h16 (by omega);rw[h0 0 (by omega),h0 1 (by omega)]) fun _=> ?_
 refine ite_congr rfl (fun _=>by rw[hf]) fun _=> ?_
 refine ite_congr rfl (fun _=>rfl) fun _=> ?_
 refine ite_congr rfl (fun e=>by have:=hk (by omega);rw[ht,h0 _ (by omega)]) fun _=> ?_
 exact ite_congr rfl (fun _=>by rw[hf]) fun _=>by rw[hf]
theorem Wo{L:List Nd}:∀ {n m:Nat} {k:Int},Iv L k→k<n→k<m→Az L n k=Az L m k
 |0,_,k,h,h1,_=>by have:=CR.1 h.1;omega
 |_,0,k,h,_,h2=>by have:=CR.1 h.1;omega
 |n+1,m+1,k,h,h1,h2=>by
  rw[Az,Az]
  have hs:=JV h
  have hm:∀c∈(Aj L k).kids,Az L n c=Az L m c:=fun c hc=>by
   have:=QQ h hc
   exact Wo this.1 (by omega) (by omega)
  exact Sc hs.2.1 hm
def Pn(L:List Nd):Prop:=∀i:Nat,i<L.length→Cb L i=true
theorem Sd{L:List Nd}(h:Pn L){k:Int}(h0:0≤k)(hk:k<L.length):Iv L k:=⟨CR.2 ⟨h0,hk⟩,fun i hi=>h i (by omega)⟩
theorem b4j{L:List Nd}(h:Pn L){k:Int}(h0:0≤k)(hk:k<L.length):FL L k=Bo (FL L) (Aj L k):=by
 have hu:=Sd h h0 hk
 rw[FL,Az]
 refine Sc (JV hu).2.1 fun c hc=> ?_
 have:=QQ hu hc
 exact Wo this.1 (by omega) (by omega)
theorem bind_some{α β:Type}{o:Option α}{f:α→Option β}{r:β}(h:o.bind f=some r):∃a,o=some a∧f a=some r:=Option.bind_eq_some_iff.1 h
def GQ(sg:List Sg)(n:Nat):Nat:=(DX sg n).length
theorem Wp{sg:List Sg}{n:Nat}:GQ sg (n+1)=GQ sg n+if CG sg n then 0 else 1:=by
 unfold GQ
 rw[DX]
 split<;>simp
theorem a2K{sg:List Sg}{m:Nat}:∀ {n:Nat},m≤n→GQ sg m≤GQ sg n
 |0,h=>by rw[show m=0 by omega];exact Nat.le_refl _
 |n+1,h=>by
  by_cases e:m=n+1
  ·subst e;exact Nat.le_refl _
  ·have:=a2K (sg:=sg) (m:=m) (n:=n) (by omega)
   rw[Wp];omega
theorem a2L{sg:List Sg}{n:Nat}(hs:CG sg (n:Int)=false):∀ {m:Nat},n<m→(DX sg m)[GQ sg n]? =some (sgO sg n)
 |0,h=>by omega
 |m+1,h=>by
  by_cases e:n=m
  ·subst e
   rw[DX,hs]
   simp only[Bool.false_eq_true,if_false]
   unfold GQ
   rw[List.getElem?_append_right (Nat.le_refl _)]
   simp
  ·have h1:=a2L hs (m:=m) (by omega)
   rw[DX]
   split
   ·exact h1
   ·rw[List.getElem?_append_left (EK h1).1];exact h1
structure Rg where
 fr:Int
 to:Int
def nb(x:Nd):Nd:=⟨x.kind,x.text,x.kids,false⟩
def muK(sg:List Sg)(i:Int):Int:=GQ sg i.toNat
def trK(sg:List Sg)(s:Ps):Ps:=⟨muK sg s.pos,s.deep,s.nodes.map nb⟩
structure LKS (sg sg2:List Sg):Prop where
 toks:sg2.map kt=(DH sg).map kt
 blank:∀e∈sg2,e.blank=false
 cc:nCC (sg.map kt)
 tx:∀e∈sg,(e.text=[44]∨e.text=[41]∨e.text=[61,62])→e.kind=4
theorem II{sg:List Sg}{i:Int}(h0:0≤i)(h:CG sg i=false):muK sg (i+1)=muK sg i+1:=by
 unfold muK
 rw[show(i+1).toNat=i.toNat+1 by omega,Wp,show((i.toNat:Nat):Int)=i by omega,h];simp
theorem Wq{sg:List Sg}{i:Int}(h0:0≤i)(h:CG sg i=true):muK sg (i+1)=muK sg i:=by
 unfold muK
 rw[show(i+1).toNat=i.toNat+1 by omega,Wp,show((i.toNat:Nat):Int)=i by omega,h];simp
theorem LD{sg:List Sg}{i j:Int}(h:i≤j):muK sg i≤muK sg j:=by
 unfold muK
 have:=a2K (sg:=sg) (m:=i.toNat) (n:=j.toNat) (by omega);omega
theorem Wr{sg:List Sg}{i:Int}:0≤muK sg i:=by unfold muK;omega
theorem HT{sg:List Sg}{i:Int}(h:CG sg i=true):tkK sg i=cmK∧Cx (tkK sg (i+1))=true∧i+1<sg.length:=by
 simp only[CG,Bool.and_eq_true,Bool.or_eq_true,decide_eq_true_eq,ER,beq_iff_eq] at h
 refine⟨by unfold tkK kt;rw[h.2.1.1,h.2.1.2];rfl,?_,h.1⟩
 unfold Cx tkK kt
 rcases h.2.2 with h|h<;>rw[h.1,h.2]<;>decide
theorem Jt{sg:List Sg}{i:Int}(h:tkK sg i≠cmK):CG sg i=false:=by
 cases hh:CG sg i with
 |false=>rfl
 |true=>exact(h (HT hh).1).elim
theorem b4k{sg:List Sg}{i:Int}(h0:0≤i)(h:tkK sg i=cmK)(hc:Cx (tkK sg (i+1))=true):CG sg i=true:=by
 have h1:(tkK sg (i+1)).1≠0:=by
  simp only[Cx,Bool.or_eq_true,beq_iff_eq] at hc
  rcases hc with hc|hc<;>rw[hc]<;>decide
 have hl:=Hi h1 (by omega)
 have a1:(sgO sg i).kind=4:=congrArg Prod.fst h
 have a2:(sgO sg i).text=[44]:=congrArg Prod.snd h
 simp only[CG,Bool.and_eq_true,Bool.or_eq_true,decide_eq_true_eq,ER,beq_iff_eq]
 refine⟨hl,⟨a1,a2⟩,?_⟩
 simp only[Cx,Bool.or_eq_true,beq_iff_eq] at hc
 exact hc.imp (fun h=>⟨congrArg Prod.fst h,congrArg Prod.snd h⟩) (fun h=>⟨congrArg Prod.fst h,congrArg Prod.snd h⟩)
theorem Ws{sg:List Sg}{i:Int}(h:(sg.length:Int)≤i):tkK sg i=(0,[]):=by
 unfold tkK kt sgO;rw[List.getD,List.getElem?_eq_none (by omega)];rfl
theorem LKS.len{sg sg2:List Sg}(h:LKS sg sg2):(sg2.length:Int)=muK sg sg.length:=by
 have:=congrArg List.length h.toks
 simp only[List.length_map] at this
 rw[this];unfold muK GQ DH;simp
theorem LKS.ns{sg sg2:List Sg}(h:LKS sg sg2){i:Int}(h0:0≤i)(hs:CG sg i=false):tkK sg2 (muK sg i)=tkK sg i:=by
 by_cases hl:i<sg.length
 ·have h1:=a2L (sg:=sg) (n:=i.toNat) (by rw[show((i.toNat:Nat):Int)=i by omega];exact hs) (m:=sg.length) (by omega)
  have h2:((DH sg).map kt)[GQ sg i.toNat]? =some (kt (sgO sg (i.toNat:Int))):=by rw[List.getElem?_map];unfold DH;rw[h1];rfl
  rw[←h.toks,List.getElem?_map,Option.map_eq_some_iff] at h2
  obtain⟨e,h3,h4⟩:=h2
  unfold tkK sgO muK
  rw[List.getD,show((GQ sg i.toNat:Nat):Int).toNat=GQ sg i.toNat from Int.toNat_natCast _,h3,Option.getD_some,h4]
  rw[show((i.toNat:Nat):Int)=i by omega];rfl
 ·have h1:=LD (sg:=sg) (i:=sg.length) (j:=i) (by omega)
  rw[Ws (sg:=sg2) (by rw[h.len];exact h1),Ws (by omega)]
theorem LKS.sp{sg sg2:List Sg}(h:LKS sg sg2){i:Int}(h0:0≤i)(hs:CG sg i=true):tkK sg2 (muK sg i)=tkK sg (i+1):=by
 obtain⟨h1,h2,h3⟩:=HT hs
 have hn:CG sg (i+1)=false:=Jt (by
  intro e;rw[e] at h2;simp [Cx,cmK] at h2)
 rw[←Wq h0 hs];exact h.ns (by omega) hn
theorem LKS.bl{sg sg2:List Sg}(h:LKS sg sg2)(i:Int):(sgO sg2 i).blank=false:=by
 unfold sgO
 rw[List.getD]
 cases hh:sg2[i.toNat]? with
 |none=>rfl
 |some e=>exact h.blank e (List.mem_of_getElem? hh)
theorem HU{sg:List Sg}{s:Ps}{t:List UInt8}:isM sg s t=true↔tkK sg s.pos=(4,t):=by
 unfold isM isT tkK kt
 simp only[Bool.and_eq_true,decide_eq_true_eq,beq_iff_eq,Prod.mk.injEq]
theorem LE{sg:List Sg}{s:Ps}{t:List UInt8}:isW sg s t=true↔tkK sg s.pos=(1,t):=by
 unfold isW isT tkK kt
 simp only[Bool.and_eq_true,decide_eq_true_eq,beq_iff_eq,Prod.mk.injEq]
theorem LKS.tk{sg sg2:List Sg}(h:LKS sg sg2){i:Int}(h0:0≤i)(hn:tkK sg i≠cmK):tkK sg2 (muK sg i)=tkK sg i∧muK sg (i+1)=muK sg i+1:=⟨h.ns h0 (Jt hn),II h0 (Jt hn)⟩
theorem LKS.in2{sg sg2:List Sg}(h:LKS sg sg2){i:Int}(h0:0≤i)(hn:tkK sg i≠cmK)(hl:i<sg.length):muK sg i<sg2.length:=by
 rw[h.len]
 have:=(h.tk h0 hn).2
 have:=LD (sg:=sg) (i:=i+1) (j:=sg.length) (by omega);omega
theorem LKS.mT{sg sg2:List Sg}(h:LKS sg sg2){s:Ps}{t:List UInt8}(h0:0≤s.pos)(hm:isM sg s t=true)(ht:t≠[44]):isM sg2 (trK sg s) t=true∧trK sg (adv s)=adv (trK sg s):=by
 have e:=HU.1 hm
 have hn:tkK sg s.pos≠cmK:=by rw[e];intro hc;exact ht (congrArg Prod.snd hc)
 have:=h.tk h0 hn
 refine⟨HU.2 (this.1.trans e),?_⟩
 unfold trK adv;simp only;rw[this.2]
theorem LKS.mF{sg sg2:List Sg}(h:LKS sg sg2){s:Ps}{t:List UInt8}(h0:0≤s.pos)(hm:isM sg s t=false)(h1:Cx (4,t)=false):isM sg2 (trK sg s) t=false:=by
 rw[Bool.eq_false_iff] at hm ⊢
 intro hc;apply hm
 have hc:=HU.1 hc
 have hc:tkK sg2 (muK sg s.pos)=(4,t):=hc
 cases hs:CG sg s.pos with
 |false=>exact HU.2 ((h.ns h0 hs).symm.trans hc)
 |true=>
  have h2:=(HT hs).2.1
  rw[←h.sp h0 hs,hc,h1] at h2;cases h2
theorem LKS.mN{sg sg2:List Sg}(h:LKS sg sg2){s:Ps}(t:List UInt8)(h0:0≤s.pos)(hn:tkK sg s.pos≠cmK):isM sg2 (trK sg s) t=isM sg s t:=by
 rw[Bool.eq_iff_iff,HU,HU]
 show tkK sg2 (muK sg s.pos)=_↔_
 rw[(h.tk h0 hn).1]
theorem LKS.advN{sg sg2:List Sg}(h:LKS sg sg2){s:Ps}(h0:0≤s.pos)(hn:tkK sg s.pos≠cmK):trK sg (adv s)=adv (trK sg s):=by
 unfold trK adv;simp only;rw[(h.tk h0 hn).2]
theorem LKS.nm{sg sg2:List Sg}(h:LKS sg sg2){i:Int}(h0:0≤i):Cv sg2 (muK sg i)=Cv sg i:=by
 have e:∀l j,Cv l j=(decide ((tkK l j).1=1)&& !kw (tkK l j).2):=fun _ _=>rfl
 rw[e,e]
 cases hs:CG sg i with
 |false=>rw[h.ns h0 hs]
 |true=>
  obtain⟨h1,h2,_⟩:=HT hs
  rw[h.sp h0 hs,h1]
  simp only[Cx,Bool.or_eq_true,beq_iff_eq] at h2
  rcases h2 with h2|h2<;>rw[h2]<;>rfl
def SM(sg:List Sg)(f f2:Ps→PR):Prop:=∀s k s',0≤s.pos→f s=some (k,s')→f2 (trK sg s)=some (k,trK sg s')
theorem IJ{sg:List Sg}{x:Nd}{s s':Ps}{k:Int}(h:Bc x s=some (k,s')):Bc (nb x) (trK sg s)=some (k,trK sg s'):=by
 have e:=Ft h
 unfold Bc at h ⊢
 simp only[trK,List.length_map]
 split at h
 ·cases h
 ·rename_i hl
  rw[if_neg hl]
  simp only[Prod.mk.injEq] at e
  obtain⟨rfl,rfl⟩:=e
  simp
theorem Wt{sg sg2:List Sg}(hk:LKS sg sg2){x:Nd}{s s':Ps}{k:Int}(h0:0≤s.pos)(hn:tkK sg s.pos≠cmK)(h:Eb (Bc x s)=some (k,s')):Eb (Bc (nb x) (trK sg s))=some (k,trK sg s'):=by
 obtain⟨q,h1,h2⟩:=OH h
 have e:=Ft h1
 have:=IJ (sg:=sg) (k:=q.1) (s':=q.2) h1
 unfold Eb
 rw[this]
 simp only[Prod.mk.injEq] at h2
 obtain⟨rfl,rfl⟩:=h2
 rw[Option.map_some]
 have hp:q.2.pos=s.pos:=by rw[e]
 rw[hk.advN (by rw[hp];exact h0) (by rw[hp];exact hn)]
theorem HV{sg sg2:List Sg}(hk:LKS sg sg2){m:List UInt8}{x:Nd}{s s':Ps}{k:Int}(h0:0≤s.pos)(hm:m≠[44])(h:Bm sg m x s=some (k,s')):Bm sg2 m (nb x) (trK sg s)=some (k,trK sg s'):=by
 have t:=(Fu h).1
 unfold Bm at h ⊢
 split at h
 ·rename_i hc
  rw[(hk.mT h0 hc hm).1]
  simp only[if_true]
  exact Wt hk h0 (by rw[t];intro e;exact hm (congrArg Prod.snd e)) h
 ·cases h
theorem IK{sg sg2:List Sg}(hk:LKS sg sg2){t:List UInt8}{s s':Ps}(h0:0≤s.pos)(ht:t≠[44])(h:BB sg t s=some s'):BB sg2 t (trK sg s)=some (trK sg s'):=by
 unfold BB at h ⊢
 split at h
 ·rename_i hc
  have:=hk.mT h0 hc ht
  rw[this.1]
  simp only[Option.some.injEq,if_true] at h ⊢
  subst h;exact this.2.symm
 ·cases h
theorem LF{sg sg2:List Sg}(hk:LKS sg sg2){i:Int}(h0:0≤i)(hn:tkK sg i≠cmK):(sgO sg2 (muK sg i)).text=(sgO sg i).text∧(sgO sg2 (muK sg i)).kind=(sgO sg i).kind:=by
 have:=(hk.tk h0 hn).1
 exact⟨congrArg Prod.snd this,congrArg Prod.fst this⟩
theorem Nt{sg sg2:List Sg}(hk:LKS sg sg2){k:Int}{b:Bool}{s s':Ps}{c:Int}(h0:0≤s.pos)(hn:tkK sg s.pos≠cmK)(h:Et sg k b s=some (c,s')):Et sg2 k false (trK sg s)=some (c,trK sg s'):=by
 have:=Wt hk h0 hn h
 unfold Et
 rw[show(trK sg s).pos=muK sg s.pos from rfl,(LF hk h0 hn).1]
 exact this
theorem Nu{sg:List Sg}{i:Int}(h:Cv sg i=true):tkK sg i≠cmK:=by rw[MU h];exact nc1
theorem Se{sg sg2:List Sg}(hk:LKS sg sg2):SM sg (BN sg) (BN sg2):=fun s k s' h0 h=>by
 unfold BN at h ⊢
 split at h
 ·rename_i hn
  rw[show(trK sg s).pos=muK sg s.pos from rfl,hk.nm h0,hn]
  simp only[if_true]
  exact Nt hk h0 (Nu hn) h
 ·cases h
theorem Wu{sg sg2:List Sg}(hk:LKS sg sg2){s s':Ps}{t:List UInt8}(h0:0≤s.pos)(h:Eu sg s=some (t,s')):Eu sg2 (trK sg s)=some (t,trK sg s'):=by
 unfold Eu at h ⊢
 split at h
 ·rename_i hn
  rw[show(trK sg s).pos=muK sg s.pos from rfl,hk.nm h0,hn]
  simp only[if_true,Option.some.injEq,Prod.mk.injEq] at h ⊢
  obtain⟨rfl,rfl⟩:=h
  exact⟨(LF hk h0 (Nu hn)).1,(hk.advN h0 (Nu hn)).symm⟩
 ·cases h
def Nv(sg sg2:List Sg)(s:Ps)(n:Nat):Prop:=(sg2.length:Int)-muK sg s.pos+1≤n∧1≤n
theorem a2M{sg:List Sg}{s:Ps}{p:Int×Ps}(r:RV sg s p)(h0:0≤s.pos):muK sg s.pos+1≤muK sg p.2.pos:=by
 have:=II h0 (Jt r.hd.2)
 have:=LD (sg:=sg) (i:=s.pos+1) (j:=p.2.pos) (by have:=r.lt;omega);omega
theorem Po{sg sg2:List Sg}(hk:LKS sg sg2){one one2:Ps→PR}(ho:OV sg one)(hs:SM sg one one2){m:List UInt8}(hm:Cx (4,m)=true):∀(n:Nat) (ks:List Int) (s:Ps) (ks':List Int) (s':Ps) (n2:Nat),0≤s.pos→Bs sg one m n ks s=some (ks',s')→tkK sg s'.pos=(4,m)→Nv sg sg2 s n2→
 Bs sg2 one2 m n2 ks (trK sg s)=some (ks',trK sg s')
 |0,ks,s,ks',s',n2,_,h,_,_=>by cases h
 |n+1,ks,s,ks',s',0,h0,h,ht,he=>by have:=he.2;omega
 |n+1,ks,s,ks',s',n2+1,h0,h,ht,he=>by
  have hm1:m≠[44]:=by intro e;rw[e] at hm;simp [Cx] at hm
  unfold Bs at h ⊢
  split at h
  ·rename_i hc
   rw[(hk.mT h0 hc hm1).1]
   simp only[if_true,Option.some.injEq,Prod.mk.injEq] at h ⊢
   obtain⟨rfl,rfl⟩:=h
   exact⟨rfl,rfl⟩
  ·rename_i hc
   obtain⟨p,hp,h⟩:=Option.bind_eq_some_iff.1 h
   have hr:=ho s p h0 hp
   have hmu:=a2M hr h0
   rw[hk.mN m h0 hr.hd.2,if_neg hc,hs s p.1 p.2 h0 hp,Option.bind_some]
   have hp0:0≤p.2.pos:=by have:=hr.lt;omega
   have hin:=hk.in2 h0 hr.hd.2 (by have:=hr.lt;have:=hr.sm.hb;omega)
   split at h
   ·rename_i hcm
    have tcm:=HU.1 hcm
    cases hsp:CG sg p.2.pos with
    |true=>
     have e2:isM sg2 (trK sg p.2) [44]=false:=by
      rw[Bool.eq_false_iff];intro hc2
      have hc2:tkK sg2 (muK sg p.2.pos)=(4,[44]):=HU.1 hc2
      have h2:=(HT hsp).2.1
      rw[←hk.sp hp0 hsp,hc2] at h2;simp [Cx] at h2
     have e3:trK sg (adv p.2)=trK sg p.2:=by
      unfold trK adv;simp only;rw[Wq hp0 hsp]
     simp only[e2,Bool.false_eq_true,if_false]
     cases n with
     |zero=>cases h
     |succ n=>
      unfold Bs at h
      split at h
      ·simp only[Option.some.injEq,Prod.mk.injEq] at h
       obtain⟨rfl,rfl⟩:=h
       rw[e3]
      ·obtain⟨q,hq,_⟩:=Option.bind_eq_some_iff.1 h
       have hr2:=ho (adv p.2) q (by show 0≤p.2.pos+1;omega) hq
       have h2:=(HT hsp).2.1
       have h3:Cx (tkK sg (p.2.pos+1))=false:=hr2.hd.1
       rw[h3] at h2;cases h2
    |false=>
     have e2:isM sg2 (trK sg p.2) [44]=true:=HU.2 ((hk.ns hp0 hsp).trans tcm)
     have e3:adv (trK sg p.2)=trK sg (adv p.2):=by
      unfold trK adv;simp only;rw[II hp0 hsp]
     simp only[e2,if_true]
     rw[e3]
     refine Po hk ho hs hm n _ _ _ _ n2 (by show 0≤p.2.pos+1;omega) h ht ⟨?_,?_⟩
     ·have h1:=he.1
      show(sg2.length:Int)-muK sg (p.2.pos+1)+1≤n2
      rw[II hp0 hsp];omega
     ·have h1:=he.1;omega
   ·rename_i hcm
    rw[hk.mF hp0 (Bool.eq_false_iff.2 hcm) (by decide)]
    simp only[Bool.false_eq_true,if_false,Option.some.injEq,Prod.mk.injEq] at h ⊢
    obtain⟨rfl,rfl⟩:=h
    exact⟨rfl,rfl⟩
theorem Ju{sg sg2:List Sg}{s:Ps}:Nv sg sg2 s (sg2.length+1):=⟨by have:= @Wr sg s.pos;omega,by omega⟩
theorem a2N{sg sg2:List Sg}(hk:LKS sg sg2){val val2:Ps→PR}(ho:OV sg val)(hs:SM sg val val2){k c:Int}{s s':Ps}(h0:0≤s.pos)(h:Cy sg val k s=some (c,s')):Cy sg2 val2 k (trK sg s)=some (c,trK sg s'):=by
 unfold Cy at h ⊢
 obtain⟨s1,h1,h2⟩:=Option.bind_eq_some_iff.1 h
 obtain⟨⟨ks,s2⟩,h3,h4⟩:=Option.bind_eq_some_iff.1 h2
 have e1:=(EO h1).2
 have t4:=(Fu h4).1
 have hp1:0≤s1.pos:=by rw[e1];show 0≤s.pos+1;omega
 obtain⟨l,_,_,_,_,k4,_,_⟩:=Iy ho Iz _ _ _ _ _ hp1 h3 t4
 rw[IK hk h0 (by decide) h1,Option.bind_some,Po hk ho hs Iz _ _ _ _ _ _ hp1 h3 t4 Ju,Option.bind_some]
 exact HV hk (by simp only;omega) (by decide) h4
theorem a2O{sg:List Sg}{val:Ps→PR}(ho:OV sg val){k c:Int}{s s':Ps}(h0:0≤s.pos)(h:Cy sg val k s=some (c,s')):tkK sg s.pos=(4,[40])∧s.pos+1≤s'.pos:=by
 unfold Cy at h
 obtain⟨s1,h1,h2⟩:=Option.bind_eq_some_iff.1 h
 obtain⟨⟨ks,s2⟩,h3,h4⟩:=Option.bind_eq_some_iff.1 h2
 obtain⟨t1,e1⟩:=EO h1
 obtain⟨t4,e4⟩:=Fu h4
 subst e1
 obtain⟨l,_,_,_,_,k4,_,_⟩:=Iy ho Iz _ _ _ _ _ (by show 0≤s.pos+1;omega) h3 t4
 simp only[Prod.mk.injEq] at e4
 obtain⟨_,rfl⟩:=e4
 have:s.pos+1≤s2.pos:=k4
 exact⟨t1,by show s.pos+1≤s2.pos+1;omega⟩
theorem Pp{sg:List Sg}{i j:Int}(h0:0≤i)(hn:tkK sg i≠cmK)(h:i+1≤j):muK sg i+1≤muK sg j:=by
 have:=II h0 (Jt hn);have:=LD (sg:=sg) h;omega
theorem a2P:((4,[40]):KT)≠cmK:=by decide
theorem Wv:((4,[46]):KT)≠cmK:=by decide
theorem Ww{sg sg2:List Sg}(hk:LKS sg sg2){val val2:Ps→PR}(ho:OV sg val)(hs:SM sg val val2):∀(n:Nat) {k c:Int} {s s':Ps} (n2:Nat),0≤s.pos→s.pos≤sg.length→Ed sg val n k s=some (c,s')→Nv sg sg2 s n2→Ed sg2 val2 n2 k (trK sg s)=some (c,trK sg s')
 |0,_,_,_,_,_,_,_,h,_=>by cases h
 |n+1,_,_,_,_,0,_,_,_,he=>by have:=he.2;omega
 |n+1,k,c,s,s',n2+1,h0,hl,h,he=>by
  unfold Ed at h ⊢
  split at h
  ·rename_i hm
   rw[(hk.mT h0 hm (by decide)).1]
   simp only[if_true]
   obtain⟨q,h1,h2⟩:=Option.bind_eq_some_iff.1 h
   have hc:=a2O ho h0 h1
   rw[a2N hk ho hs h0 h1,Option.bind_some]
   have hmu:=Pp h0 (by rw[hc.1];exact a2P) hc.2
   have hin:=hk.in2 h0 (by rw[hc.1];exact a2P) (Hi (by rw[hc.1];exact d4) h0)
   have hq:q.2.pos≤sg.length:=by
    have t:=h1
    unfold Cy at t
    obtain⟨s1,u1,u2⟩:=Option.bind_eq_some_iff.1 t
    obtain⟨⟨ks,s2⟩,u3,u4⟩:=Option.bind_eq_some_iff.1 u2
    obtain⟨t4,e4⟩:=Fu u4
    have:q.2.pos=s2.pos+1:=by rw[e4]
    have hs2:0≤s2.pos:=by have:=hc.2;omega
    have:=Hi (sg:=sg) (a:=s2.pos) (by rw[t4];exact d4) hs2
    omega
   refine Ww hk ho hs n n2 (by have:=hc.2;omega) hq h2 ⟨?_,?_⟩
   ·have:=he.1;omega
   ·have:=he.1;omega
  ·rename_i hm
   rw[hk.mF h0 (Bool.eq_false_iff.2 hm) (by decide)]
   simp only[Bool.false_eq_true,if_false]
   split at h
   ·rename_i hm2
    have hm2':=hk.mT h0 hm2 (by decide)
    rw[hm2'.1]
    simp only[if_true]
    have t2:=HU.1 hm2
    have e1:(trK sg s).pos+1=muK sg (s.pos+1):=by
     have:=(hk.tk h0 (by rw[t2];exact Wv)).2
     show muK sg s.pos+1=_;omega
    split at h
    ·rename_i hn
     rw[e1,hk.nm (by omega),hn]
     simp only[if_true]
     obtain⟨q,h1,h2⟩:=Option.bind_eq_some_iff.1 h
     have tn:=MU hn
     have hs1:Eb (Bc ⟨6,(sgO sg2 (muK sg (s.pos+1))).text,[k],false⟩ (adv (trK sg s)))=some (q.1,trK sg q.2):=by
      rw[(LF hk (by omega) (Nu hn)).1,←hm2'.2]
      exact Wt hk (s:=adv s) (by show 0≤s.pos+1;omega) (Nu hn) h1
     rw[hs1,Option.bind_some]
     obtain⟨r,h3,h4⟩:=OH h1
     have hq:q.2.pos=s.pos+1+1:=by rw[h4,Ft h3];rfl
     have hmu:=Pp h0 (by rw[t2];exact Wv) (show s.pos+1≤q.2.pos by omega)
     have hin:=hk.in2 h0 (by rw[t2];exact Wv) (Hi (by rw[t2];exact d4) h0)
     have hl2:=Hi (sg:=sg) (a:=s.pos+1) (by rw[tn];exact d1) (by omega)
     refine Ww hk ho hs n n2 (by omega) (by omega) h2 ⟨?_,?_⟩
     ·have:=he.1;omega
     ·have:=he.1;omega
    ·cases h
   ·rename_i hm2
    rw[hk.mF h0 (Bool.eq_false_iff.2 hm2) (by decide)]
    simp only[Bool.false_eq_true,if_false,Option.some.injEq,Prod.mk.injEq] at h ⊢
    obtain⟨rfl,rfl⟩:=h
    exact⟨rfl,rfl⟩
theorem a2Q{sg sg2:List Sg}(hk:LKS sg sg2){val val2:Ps→PR}(ho:OV sg val)(hs:SM sg val val2):∀(n:Nat) {ks ks':List Int} {s s':Ps} (n2:Nat),0≤s.pos→Ee sg val n ks s=some (ks',s')→Nv sg sg2 s n2→Ee sg2 val2 n2 ks (trK sg s)=some (ks',trK sg s')
 |0,_,_,_,_,_,_,h,_=>by cases h
 |n+1,_,_,_,_,0,_,_,he=>by have:=he.2;omega
 |n+1,ks,ks',s,s',n2+1,h0,h,he=>by
  unfold Ee at h ⊢
  split at h
  ·rename_i hm
   have hm':=hk.mT h0 hm (by decide)
   have t:=HU.1 hm
   rw[hm'.1]
   simp only[if_true]
   obtain⟨p,h1,h2⟩:=Option.bind_eq_some_iff.1 h
   obtain⟨q,h3,h4⟩:=Option.bind_eq_some_iff.1 h2
   have r1:=Jb sg (adv s) p (by show 0≤s.pos+1;omega) h1
   have l1:s.pos+1<p.2.pos:=r1.lt
   have hc:=a2O ho (by omega) h3
   have e1:=Se hk (adv s) p.1 p.2 (by show 0≤s.pos+1;omega) h1
   rw[hm'.2] at e1
   rw[e1,Option.bind_some,a2N hk ho hs (by omega) h3,Option.bind_some]
   have ne:tkK sg s.pos≠cmK:=by rw[t];decide
   have hmu:=Pp h0 ne (show s.pos+1≤q.2.pos by have:=hc.2;omega)
   have hin:=hk.in2 h0 ne (Hi (by rw[t];exact d4) h0)
   refine a2Q hk ho hs n n2 (by have:=hc.2;omega) h4 ⟨?_,?_⟩
   ·have:=he.1;omega
   ·have:=he.1;omega
  ·rename_i hm
   rw[hk.mF h0 (Bool.eq_false_iff.2 hm) (by decide)]
   simp only[Bool.false_eq_true,if_false,Option.some.injEq,Prod.mk.injEq] at h ⊢
   obtain⟨rfl,rfl⟩:=h
   exact⟨rfl,rfl⟩
theorem b4l{l:Nat}{m:List UInt8}(h:m∈BI l):Cx (4,m)=false∧m≠[44]∧m≠[]:=by
 unfold BI at h
 split at h<;>simp at h
 all_goals(first|(rcases h with rfl|rfl<;>decide)|(subst h;decide))
theorem b4m{sg sg2:List Sg}(hk:LKS sg sg2){l:Nat}{s:Ps}(h0:0≤s.pos):Ec sg2 l (trK sg s)=Ec sg l s:=by
 have e:∀m∈BI l,isM sg2 (trK sg s) m=isM sg s m:=fun m hm=>by
  have:=b4l hm
  cases hh:isM sg s m with
  |true=>exact(hk.mT h0 hh this.2.1).1
  |false=>exact hk.mF h0 hh this.1
 unfold Ec
 congr 1
 have:∀L:List (List UInt8),(∀m∈L,isM sg2 (trK sg s) m=isM sg s m)→L.find? (fun m=>isM sg2 (trK sg s) m)=L.find? fun m=>isM sg s m:=by
  intro L
  induction L with
  |nil=>intro _;rfl
  |cons a L ih=>
   intro hL
   rw[List.find?_cons,List.find?_cons,hL a (by simp),ih fun m hm=>hL m (by simp [hm])]
 exact this _ e
def b4n(sg sg2:List Sg)(s:Ps)(t:List UInt8)(n:Nat):Prop:=2*((sg2.length:Int)-muK sg s.pos)+(if t=[] then 1 else 2)≤n∧muK sg s.pos≤sg2.length
theorem Wx{sg sg2:List Sg}(hk:LKS sg sg2){l:Nat}{one one2:Ps→PR}(ho:OV sg one)(hs:SM sg one one2):∀(n:Nat) {t:List UInt8} {ks:List Int} {s s':Ps} {c:Int} (n2:Nat),0≤s.pos→EM sg l one n t ks s=some (c,s')→b4n sg sg2 s t n2→EM sg2 l one2 n2 t ks (trK sg s)=some (c,trK sg s')
 |0,_,_,_,_,_,_,_,h,_=>by cases h
 |n+1,t,_,s,_,_,0,_,_,he=>by have h1:=he.1;have h2:=he.2;split at h1<;>omega
 |n+1,t,ks,s,s',c,n2+1,h0,h,he=>by
  unfold EM at h ⊢
  rw[b4m hk h0]
  split at h
  ·rename_i h7
   rw[if_pos h7]
   obtain⟨q,h1,h2⟩:=Option.bind_eq_some_iff.1 h
   have e:=Ft h1
   have e1:=IJ (sg:=sg) (k:=q.1) (s':=q.2) h1
   rw[show(⟨7,t,ks,false⟩:Nd)=nb ⟨7,t,ks,false⟩ from rfl,e1,Option.bind_some]
   have hq:q.2.pos=s.pos:=by rw[e]
   refine Wx hk ho hs n n2 (by omega) h2 ⟨?_,?_⟩
   ·have h3:=he.1
    rw[if_neg h7.1] at h3
    rw[hq,if_pos rfl];omega
   ·rw[hq];exact he.2
  ·rename_i h7
   rw[if_neg h7]
   split at h
   ·rename_i hc
    rw[if_pos hc]
    simp only[Option.some.injEq,Prod.mk.injEq] at h ⊢
    obtain⟨rfl,rfl⟩:=h
    exact⟨rfl,rfl⟩
   ·rename_i hc
    rw[if_neg hc]
    obtain⟨q,h1,h2⟩:=Option.bind_eq_some_iff.1 h
    obtain⟨t1,t2⟩:=a0q hc
    have ne:tkK sg s.pos≠cmK:=by rw[t1];intro e;exact t2 (congrArg Prod.snd e)
    have r:=ho (adv s) q (by show 0≤s.pos+1;omega) h1
    have l1:s.pos+1<q.2.pos:=r.lt
    have e1:=hs (adv s) q.1 q.2 (by show 0≤s.pos+1;omega) h1
    rw[hk.advN h0 ne] at e1
    rw[e1,Option.bind_some]
    have a1:=II h0 (Jt ne)
    have a2:muK sg (s.pos+1)+1≤muK sg q.2.pos:=a2M r (by show 0≤s.pos+1;omega)
    have a3:muK sg q.2.pos≤sg2.length:=by rw[hk.len];exact LD r.sm.hb
    refine Wx hk ho hs n n2 (by omega) h2 ⟨?_,a3⟩
    have h3:=he.1
    rw[if_neg hc]
    split at h3<;>omega
theorem a2R:∀ {l:List KT} {i:Nat},nCC l→l[i]? =some cmK→l[i+1]? =some cmK→False
 |[],i,_,h,_=>by simp at h
 |x::l,0,h,h1,h2=>by
  simp only[List.getElem?_cons_zero,Option.some.injEq] at h1
  simp only[Nat.zero_add,List.getElem?_cons_succ] at h2
  apply h.1
  refine⟨h1,?_⟩
  cases l with
  |nil=>simp at h2
  |cons y l=>simpa using h2
 |x::l,i+1,h,h1,h2=>a2R (l:=l) (i:=i) h.2 (by simpa using h1) (by simpa using h2)
theorem a2S{sg:List Sg}{i:Int}{t:KT}(h0:0≤i)(h:tkK sg i=t)(ht:t.1≠0):(sg.map kt)[i.toNat]? =some t:=by
 have hl:=Hi (by rw[h];exact ht) h0
 have hlt:i.toNat<sg.length:=by omega
 rw[List.getElem?_map,List.getElem?_eq_getElem hlt,Option.map_some]
 rw[←h]
 unfold tkK sgO
 rw[List.getD,List.getElem?_eq_getElem hlt];rfl
theorem LKS.cc2{sg sg2:List Sg}(hk:LKS sg sg2){i:Int}(h0:0≤i)(h:tkK sg i=cmK):tkK sg (i+1)≠cmK:=fun h2=>by
 have a:=a2S h0 h (by decide)
 have b:=a2S (by omega) h2 (by decide)
 rw[show(i+1).toNat=i.toNat+1 by omega] at b
 exact a2R hk.cc a b
theorem LKS.txk{sg sg2:List Sg}(hk:LKS sg sg2){i:Int}(t:List UInt8)(ht:t=[44]∨t=[41]∨t=[61,62]):(sgO sg i).text=t↔tkK sg i=(4,t):=by
 constructor
 ·intro h
  have:(sgO sg i).kind=4:=by
   unfold sgO at h ⊢
   rw[List.getD] at h ⊢
   cases hh:sg[i.toNat]? with
   |none=>rw[hh] at h;simp only[Option.getD_none,Es] at h;rcases ht with rfl|rfl|rfl<;>cases h
   |some e=>rw[hh] at h;exact hk.tx e (List.mem_of_getElem? hh) (by simp only[Option.getD_some] at h;rw[h];exact ht)
  unfold tkK kt;rw[this,h]
 ·intro h;exact congrArg Prod.snd h
theorem LKS.tx2{sg sg2:List Sg}(hk:LKS sg sg2){i:Int}(h0:0≤i)(t:List UInt8)(hn:tkK sg i≠cmK):(sgO sg2 (muK sg i)).text=t↔(sgO sg i).text=t:=by rw[(LF hk h0 hn).1]
theorem a2T{sg sg2:List Sg}(hk:LKS sg sg2):∀(n:Nat) {i:Int} (n2:Nat),0≤i→tkK sg i≠cmK→(sg.length:Int)-i+1≤n→(sg2.length:Int)-muK sg i+1≤n2→1≤n→1≤n2→
 Da sg2 n2 (muK sg i)=muK sg (Da sg n i)∧tkK sg (Da sg n i)≠cmK∧0≤Da sg n i
 |0,_,_,_,_,_,_,h,_=>by omega
 |n+1,_,0,_,_,_,_,_,h=>by omega
 |n+1,i,n2+1,h0,hn,e1,e2,_,_=>by
  unfold Da
  rw[hk.nm h0]
  split
  ·rename_i hnm
   have hl:=Hi (sg:=sg) (a:=i) (by rw[MU hnm];exact d1) h0
   have hin:=hk.in2 h0 hn hl
   have m1:=II h0 (Jt hn)
   have e3:muK sg i+1=muK sg (i+1):=m1.symm
   rw[e3]
   by_cases hc:(sgO sg (i+1)).text=[44]
   ·rw[if_pos hc]
    have tc:=(hk.txk [44] (.inl rfl)).1 hc
    have hn2:=hk.cc2 (i:=i+1) (by omega) tc
    cases hsp:CG sg (i+1) with
    |true=>
     have h4:=(HT hsp).2.1
     have hx:(sgO sg2 (muK sg (i+1))).text≠[44]:=by
      intro e
      have t5:=hk.sp (by omega) hsp
      have:(tkK sg2 (muK sg (i+1))).2=[44]:=e
      rw[t5] at this
      simp only[Cx,Bool.or_eq_true,beq_iff_eq] at h4
      rcases h4 with h4|h4<;>(rw[h4] at this;cases this)
     rw[if_neg hx]
     have hnm2:Cv sg (i+2)=false:=by
      have e:∀l j,Cv l j=(decide ((tkK l j).1=1)&& !kw (tkK l j).2):=fun _ _=>rfl
      rw[e]
      rw[show i+1+1=i+2 by omega] at h4
      simp only[Cx,Bool.or_eq_true,beq_iff_eq] at h4
      rcases h4 with h4|h4<;>rw[h4]<;>rfl
     have ha:Da sg n (i+2)=i+2:=by
      cases n with
      |zero=>rfl
      |succ n=>unfold Da;rw[hnm2];rfl
     rw[ha]
     have:=Wq (by omega) hsp
     refine⟨by rw[←this,show i+1+1=i+2 by omega],?_,by omega⟩
     rw[show i+2=i+1+1 by omega];exact hn2
    |false=>
     have t5:=hk.ns (by omega) hsp
     have hx:(sgO sg2 (muK sg (i+1))).text=[44]:=by
      have:(tkK sg2 (muK sg (i+1))).2=[44]:=by rw[t5,tc]
      exact this
     rw[if_pos hx]
     have m2:=II (by omega) hsp
     have e4:muK sg i+2=muK sg (i+2):=by rw[show i+2=i+1+1 by omega,m2,m1];omega
     rw[e4]
     have hl2:=Hi (sg:=sg) (a:=i+1) (by rw[tc];decide) (by omega)
     have hm3:muK sg (i+2)≤sg2.length:=by rw[hk.len];exact LD (by omega)
     exact a2T hk n n2 (by omega) (by rw[show i+2=i+1+1 by omega];exact hn2) (by omega) (by omega) (by omega) (by omega)
   ·rw[if_neg hc]
    have hn1:tkK sg (i+1)≠cmK:=fun e=>hc ((hk.txk [44] (.inl rfl)).2 e)
    rw[if_neg (fun e=>hc ((hk.tx2 (by omega) [44] hn1).1 e))]
    exact⟨rfl,hn1,by omega⟩
  ·exact⟨rfl,hn,h0⟩
theorem a2U{sg sg2:List Sg}(hk:LKS sg sg2){s:Ps}(h0:0≤s.pos)(hm:tkK sg s.pos≠cmK)(hn:tkK sg (s.pos+1)≠cmK):Gg sg2 (trK sg s)=Gg sg s:=by
 have m1:=II h0 (Jt hm)
 obtain⟨a1,a2,a3⟩:=a2T hk (sg.length+1) (i:=s.pos+1) (sg2.length+1) (by omega) hn (by omega) (by have:= @Wr sg (s.pos+1);omega) (by omega) (by omega)
 unfold Gg
 rw[show(trK sg s).pos+1=muK sg (s.pos+1) from m1.symm,a1]
 generalize Da sg (sg.length+1) (s.pos+1)=j at a2 a3
 have m2:=II a3 (Jt a2)
 rw[show muK sg j+1=muK sg (j+1) from m2.symm,(LF hk a3 a2).1]
 congr 1
 rw[Bool.eq_iff_iff,beq_iff_eq,beq_iff_eq]
 by_cases hc:tkK sg (j+1)=cmK
 ·have hx:(sgO sg (j+1)).text=[44]:=congrArg Prod.snd hc
  constructor
  ·intro e
   exfalso
   cases hsp:CG sg (j+1) with
   |true=>
    have h4:=(HT hsp).2.1
    have t5:=hk.sp (by omega) hsp
    have:(tkK sg2 (muK sg (j+1))).2=[61,62]:=e
    rw[t5] at this
    simp only[Cx,Bool.or_eq_true,beq_iff_eq] at h4
    rcases h4 with h4|h4<;>(rw[h4] at this;cases this)
   |false=>
    have t5:=hk.ns (by omega) hsp
    have:(tkK sg2 (muK sg (j+1))).2=[61,62]:=e
    rw[t5,hc] at this;cases this
  ·intro e;rw[hx] at e;cases e
 ·exact hk.tx2 (by omega) _ hc
theorem HW{sg:List Sg}{s:Ps}{p:Int×Ps}(r:RV sg s p)(h0:0≤s.pos):0≤p.2.pos∧p.2.pos≤sg.length:=⟨by have:=r.lt;omega,r.sm.hb⟩
theorem a2V{sg:List Sg}{s:Ps}{d:Int}:trK sg (dp s d)=dp (trK sg s) d:=rfl
theorem Gu{sg sg2:List Sg}(hk:LKS sg sg2):∀(n:Nat) (nt:NT),SM sg (pE sg n nt) (pE sg2 n nt)
 |0,_=>fun s k s' _ h=>by cases h
 |n+1,.value=>fun s k s' h0 h=>by
  unfold pE at h ⊢
  obtain⟨q,h1,h⟩:=Option.bind_eq_some_iff.1 h
  have r:=Dp sg n .pick s q h0 h1
  have rp:=HW r h0
  rw[Gu hk n .pick s q.1 q.2 h0 h1,Option.bind_some]
  split at h
  ·rename_i hm
   rw[(hk.mT rp.1 hm (by decide)).1]
   simp only[if_true]
   obtain⟨⟨ks,s2⟩,h2,h3⟩:=Option.bind_eq_some_iff.1 h
   rw[a2Q hk (Dp sg n .value) (Gu hk n .value) _ _ rp.1 h2 Ju,Option.bind_some]
   exact IJ h3
  ·rename_i hm
   rw[hk.mF rp.1 (Bool.eq_false_iff.2 hm) (by decide)]
   simp only[Bool.false_eq_true,if_false,Option.some.injEq] at h ⊢
   rw[h]
 |n+1,.pick=>fun s k s' h0 h=>by
  unfold pE at h ⊢
  split at h
  ·cases h
  rename_i hd
  rw[if_neg (show¬20≤(trK sg s).deep from hd)]
  obtain⟨q,h1,h⟩:=Option.bind_eq_some_iff.1 h
  have r:=Dp sg n (.chain 0) (dp s 1) q h0 h1
  have rp:=HW r h0
  rw[←a2V,Gu hk n (.chain 0) (dp s 1) q.1 q.2 h0 h1,Option.bind_some]
  split at h
  ·rename_i hm
   have hm':=hk.mT rp.1 hm (by decide)
   rw[hm'.1]
   simp only[if_true]
   obtain⟨a,h2,h⟩:=Option.bind_eq_some_iff.1 h
   obtain⟨s1,h3,h⟩:=Option.bind_eq_some_iff.1 h
   obtain⟨b,h4,h⟩:=Option.bind_eq_some_iff.1 h
   rw[Option.map_eq_some_iff] at h
   obtain⟨u,h5,h6⟩:=h
   have ra:=Dp sg n .pick (adv q.2) a (by show 0≤q.2.pos+1;omega) h2
   have rpa:=HW ra (by show 0≤q.2.pos+1;omega)
   have e3:=(EO h3).2
   have p3:0≤s1.pos:=by rw[e3];show 0≤a.2.pos+1;omega
   rw[←hm'.2,Gu hk n .pick (adv q.2) a.1 a.2 (by show 0≤q.2.pos+1;omega) h2,Option.bind_some,IK hk rpa.1 (by decide) h3,Option.bind_some,Gu hk n .pick s1 b.1 b.2 p3 h4,Option.bind_some]
   have:=IJ (sg:=sg) (k:=u.1) (s':=u.2) h5
   rw[show(⟨8,[],[q.1,a.1,b.1],false⟩:Nd)=nb ⟨8,[],[q.1,a.1,b.1],false⟩ from rfl,this,Option.map_some]
   simp only[Prod.mk.injEq] at h6
   obtain⟨rfl,rfl⟩:=h6
   rfl
  ·rename_i hm
   rw[hk.mF rp.1 (Bool.eq_false_iff.2 hm) (by decide)]
   simp only[Bool.false_eq_true,if_false,Option.some.injEq,Prod.mk.injEq] at h ⊢
   obtain⟨rfl,rfl⟩:=h
   exact⟨rfl,rfl⟩
 |n+1,.chain l=>fun s k s' h0 h=>by
  unfold pE at h ⊢
  split at h
  ·rename_i hl
   rw[if_pos hl]
   exact Gu hk n .fin s k s' h0 h
  ·rename_i hl
   rw[if_neg hl]
   obtain⟨q,h1,h⟩:=Option.bind_eq_some_iff.1 h
   have r:=Dp sg n (.chain (l+1)) s q h0 h1
   have rp:=HW r h0
   rw[Gu hk n (.chain (l+1)) s q.1 q.2 h0 h1,Option.bind_some]
   refine Wx hk (Dp sg n (.chain (l+1))) (Gu hk n (.chain (l+1))) _ _ rp.1 h ⟨?_,?_⟩
   ·have:= @Wr sg q.2.pos
    rw[if_pos rfl];omega
   ·rw[hk.len];exact LD rp.2
 |n+1,.fin=>fun s k s' h0 h=>by
  unfold pE at h ⊢
  obtain⟨q,h1,h⟩:=Option.bind_eq_some_iff.1 h
  have r:=Dp sg n .base s q h0 h1
  have rp:=HW r h0
  rw[Gu hk n .base s q.1 q.2 h0 h1,Option.bind_some]
  exact Ww hk (Dp sg n .value) (Gu hk n .value) _ _ rp.1 rp.2 h Ju
 |n+1,.base=>fun s k s' h0 h=>by
  have r:=Dp sg (n+1) .base s (k,s') h0 h
  have hne:=r.hd.2
  have hkd:(sgO sg2 (trK sg s).pos).kind=(sgO sg s.pos).kind:=(LF hk h0 hne).2
  unfold pE at h ⊢
  rw[hkd]
  split at h
  ·rename_i h1
   rw[if_pos h1];exact Se hk s k s' h0 h
  rename_i h1
  rw[if_neg h1]
  split at h
  ·rename_i h2
   rw[if_pos h2];exact Nt hk h0 hne h
  rename_i h2
  rw[if_neg h2]
  split at h
  ·rename_i h3
   rw[if_pos h3];exact Nt hk h0 hne h
  rename_i h3
  rw[if_neg h3,hk.mN [91] h0 hne]
  split at h
  ·rename_i hm
   rw[if_pos hm]
   obtain⟨⟨ks,s2⟩,h4,h5⟩:=Option.bind_eq_some_iff.1 h
   have t5:=(Fu h5).1
   obtain⟨l,_,_,_,_,k4,_,_⟩:=Iy (Dp sg n .value) Va _ _ _ _ _ (by show 0≤s.pos+1;omega) h4 t5
   have k4:s.pos+1≤s2.pos:=k4
   rw[←hk.advN h0 hne,Po hk (Dp sg n .value) (Gu hk n .value) Va _ _ _ _ _ _ (by show 0≤s.pos+1;omega) h4 t5 Ju,Option.bind_some]
   exact HV hk (by simp only;omega) (by decide) h5
  rename_i h4
  rw[if_neg h4,hk.mN [40] h0 hne]
  split at h
  ·rename_i hm
   have hm2:isM sg s [40]=true∧Gg sg s=true:=by rw[Bool.and_eq_true] at hm;exact hm
   obtain⟨⟨ks,s2⟩,h5,h6⟩:=Option.bind_eq_some_iff.1 h
   obtain⟨s3,h7,h8⟩:=Option.bind_eq_some_iff.1 h6
   obtain⟨s4,h9,h10⟩:=Option.bind_eq_some_iff.1 h8
   obtain⟨q,h11,h12⟩:=Option.bind_eq_some_iff.1 h10
   have t7:=(EO h7).1
   obtain⟨l,el,k1,_,_,k4,_,k6⟩:=Iy (Jb sg) Iz _ _ _ _ _ (by show 0≤s.pos+1;omega) h5 t7
   have k4:s.pos+1≤s2.pos:=k4
   have hn1:tkK sg (s.pos+1)≠cmK:=by
    by_cases hl:l=[]
    ·have e:=k1 hl
     subst e
     have t7:tkK sg (s.pos+1)=(4,[41]):=t7
     rw[t7];decide
    ·exact(k6 hl).2
   rw[a2U hk h0 hne hn1,hm2.1,hm2.2]
   simp only[Bool.and_self,if_true]
   have p3:0≤s3.pos:=by rw[(EO h7).2];show 0≤s2.pos+1;omega
   have p4:0≤s4.pos:=by rw[(EO h9).2];show 0≤s3.pos+1;omega
   rw[←hk.advN h0 hne,Po hk (Jb sg) (Se hk) Iz _ _ _ _ _ _ (by show 0≤s.pos+1;omega) h5 t7 Ju,Option.bind_some,IK hk (by simp only;omega) (by decide) h7,Option.bind_some,IK hk p3 (by decide) h9,Option.bind_some,Gu hk n .pick s4 q.1 q.2 p4 h11,Option.bind_some]
   exact IJ h12
  rename_i h5
  split at h
  ·rename_i hm
   have har:Gg sg s=false:=by
    cases ha:Gg sg s with
    |false=>rfl
    |true=>exact(h5 (by rw[hm,ha];rfl)).elim
   obtain⟨q,h6,h7⟩:=Option.bind_eq_some_iff.1 h
   have r2:=Dp sg n .value (adv s) q (by show 0≤s.pos+1;omega) h6
   have hn1:tkK sg (s.pos+1)≠cmK:=r2.hd.2
   have rp:=HW r2 (by show 0≤s.pos+1;omega)
   rw[a2U hk h0 hne hn1,hm,har]
   simp only[Bool.and_false,Bool.false_eq_true,if_false,if_true]
   rw[←hk.advN h0 hne,Gu hk n .value (adv s) q.1 q.2 (by show 0≤s.pos+1;omega) h6,Option.bind_some]
   exact HV hk rp.1 (by decide) h7
  ·cases h
theorem Pq{sg sg2:List Sg}(hk:LKS sg sg2):SM sg (Cg sg) (Cg sg2):=Gu hk peN .value
def SB(sg:List Sg)(f f2:Bool→Ps→PR):Prop:=∀b,SM sg (f b) (f2 false)
theorem Wy{sg:List Sg}{s:Ps}{p:Int×Ps}(r:RS sg s p)(h0:0≤s.pos):0≤p.2.pos∧p.2.pos≤sg.length:=⟨by have:=r.lt;omega,r.sm.hb⟩
theorem Wz{sg:List Sg}{s s':Ps}{t:List UInt8}(h:Eu sg s=some (t,s')):s'.pos=s.pos+1:=by
 have e:=(OI h).2
 simp only at e
 rw[e];rfl
theorem Pr{sg:List Sg}{s s':Ps}{t:List UInt8}(h:BB sg t s=some s'):s'.pos=s.pos+1:=by rw[(EO h).2];rfl
theorem WA{sg sg2:List Sg}(hk:LKS sg sg2):SB sg (CW sg) (CW sg2):=fun b s k s' h0 h=>by
 unfold CW at h ⊢
 obtain⟨⟨nm,s1⟩,h1,h2⟩:=Option.bind_eq_some_iff.1 h
 have p1:=Wz h1
 rw[Wu hk h0 h1,Option.bind_some]
 simp only at h2 ⊢
 split at h2
 ·rename_i hm
  have hm':=hk.mT (by omega) hm (by decide)
  rw[hm'.1]
  simp only[if_true]
  obtain⟨q,h3,h4⟩:=Option.bind_eq_some_iff.1 h2
  have r:=HI sg (adv s1) q (by show 0≤s1.pos+1;omega) h3
  rw[←hm'.2,Pq hk (adv s1) q.1 q.2 (by show 0≤s1.pos+1;omega) h3,Option.bind_some]
  exact HV hk (HW r (by show 0≤s1.pos+1;omega)).1 (by decide) h4
 ·rename_i hm
  rw[hk.mF (by omega) (Bool.eq_false_iff.2 hm) (by decide)]
  simp only[Bool.false_eq_true,if_false]
  exact HV hk (by omega) (by decide) h2
theorem a2W{sg sg2:List Sg}(hk:LKS sg sg2):SM sg (Db sg) (Db sg2):=fun s k s' h0 h=>by
 unfold Db at h ⊢
 obtain⟨s1,h1,h2⟩:=Option.bind_eq_some_iff.1 h
 obtain⟨q,h3,h4⟩:=Option.bind_eq_some_iff.1 h2
 have p1:=Pr h1
 have r:=HI sg s1 q (by omega) h3
 rw[Option.map_eq_some_iff] at h4
 obtain⟨s2,h5,h6⟩:=h4
 rw[IK hk h0 (by decide) h1,Option.bind_some,Pq hk s1 q.1 q.2 (by omega) h3,Option.bind_some,IK hk (HW r (by omega)).1 (by decide) h5,Option.map_some]
 simp only[Prod.mk.injEq] at h6
 obtain⟨rfl,rfl⟩:=h6;rfl
theorem WB{sg sg2:List Sg}(hk:LKS sg sg2){one one2:Bool→Ps→PR}(ho:∀b,OS sg (one b))(hs:SB sg one one2)(hf:∀b s p,0≤s.pos→one b s=some p→tkK sg s.pos≠cmK){m:List UInt8}(hm:m≠[44]):∀(n:Nat) {ks ks':List Int} {s s':Ps} (n2:Nat),0≤s.pos→Cz sg one m n ks s=some (ks',s')→Nv sg sg2 s n2→Cz sg2 one2 m n2 ks (trK sg s)=some (ks',trK sg s')
 |0,_,_,_,_,_,_,h,_=>by cases h
 |n+1,_,_,_,_,0,_,_,he=>by have:=he.2;omega
 |n+1,ks,ks',s,s',n2+1,h0,h,he=>by
  unfold Cz at h ⊢
  split at h
  ·rename_i hc
   rw[(hk.mT h0 hc hm).1]
   simp only[if_true,Option.some.injEq,Prod.mk.injEq] at h ⊢
   obtain⟨rfl,rfl⟩:=h
   exact⟨rfl,rfl⟩
  ·rename_i hc
   obtain⟨p,h1,h2⟩:=Option.bind_eq_some_iff.1 h
   have hn:=hf _ s p h0 h1
   have r:=ho _ s p h0 h1
   rw[hk.mN m h0 hn,if_neg hc,show(sgO sg2 (trK sg s).pos).blank=false from hk.bl _,Bool.false_and,hs _ s p.1 p.2 h0 h1,Option.bind_some]
   have hmu:=Pp h0 hn (show s.pos+1≤p.2.pos by have:=r.lt;omega)
   have hin:=hk.in2 h0 hn (by have:=r.lt;have:=r.sm.hb;omega)
   refine WB hk ho hs hf hm n n2 (Wy r h0).1 h2 ⟨?_,?_⟩
   ·have:=he.1;omega
   ·have:=he.1;omega
theorem a2X{sg sg2:List Sg}(hk:LKS sg sg2){one one2:Bool→Ps→PR}(ho:∀b,OS sg (one b))(hs:SB sg one one2)(hf:∀b s p,0≤s.pos→one b s=some p→tkK sg s.pos≠cmK):SM sg (BC sg one) (BC sg2 one2):=fun s k s' h0 h=>by
 unfold BC at h ⊢
 split at h
 ·cases h
 rename_i hd
 rw[if_neg (show¬20≤(trK sg s).deep from hd)]
 obtain⟨s1,h1,h2⟩:=Option.bind_eq_some_iff.1 h
 obtain⟨⟨ks,s2⟩,h3,h4⟩:=Option.bind_eq_some_iff.1 h2
 rw[Option.map_eq_some_iff] at h4
 obtain⟨q,h5,h6⟩:=h4
 have p1:s1.pos=s.pos+1:=Pr (s:=dp s 1) h1
 obtain⟨l,_,_,_,k4,_⟩:=OJ ho _ _ _ _ _ (by omega) h3
 rw[←a2V,IK hk (s:=dp s 1) h0 (by decide) h1,Option.bind_some,WB hk ho hs hf (by decide) _ _ (by omega) h3 Ju,Option.bind_some]
 have:=HV hk (k:=q.1) (s':=q.2) (by simp only;omega) (by decide) h5
 simp only at this ⊢
 rw[show(⟨18,[],ks,false⟩:Nd)=nb ⟨18,[],ks,false⟩ from rfl,this,Option.map_some]
 simp only[Prod.mk.injEq] at h6
 obtain⟨rfl,rfl⟩:=h6;rfl
theorem Kn{sg sg2:List Sg}(hk:LKS sg sg2){s:Ps}(t:List UInt8)(h0:0≤s.pos):isW sg2 (trK sg s) t=isW sg s t:=by
 rw[Bool.eq_iff_iff,LE,LE]
 show tkK sg2 (muK sg s.pos)=_↔_
 cases hs:CG sg s.pos with
 |false=>rw[hk.ns h0 hs]
 |true=>
  obtain⟨h1,h2,_⟩:=HT hs
  rw[hk.sp h0 hs,h1]
  simp only[Cx,Bool.or_eq_true,beq_iff_eq] at h2
  rcases h2 with h2|h2<;>rw[h2]<;>simp [cmK]
theorem WC(sg:List Sg):∀(n:Nat) (b:Bool) (s:Ps) (p:Int×Ps),0≤s.pos→stR sg n b s=some p→tkK sg s.pos≠cmK
 |0,_,s,p,_,h=>by cases h
 |n+1,b,s,p,h0,h=>by
  unfold stR at h
  have kw:∀t,isW sg s t=true→tkK sg s.pos≠cmK:=fun t hw=>by rw[LE.1 hw];exact nc1
  split at h
  ·rename_i hc
   intro e;have e1:(sgO sg s.pos).kind=4:=congrArg Prod.fst e
   omega
  split at h
  ·exact kw _ ‹_›
  split at h
  ·exact kw _ ‹_›
  split at h
  ·exact kw _ ‹_›
  split at h
  ·exact kw _ ‹_›
  split at h
  ·rename_i hn
   rw[Bool.and_eq_true] at hn
   exact Nu hn.1
  ·obtain⟨q,h1,_⟩:=Option.bind_eq_some_iff.1 h
   exact(HI sg s q h0 h1).hd.2
theorem Nw{sg sg2:List Sg}(hk:LKS sg sg2){s:Ps}(h0:0≤s.pos):(sgO sg2 (trK sg s).pos).kind=5↔(sgO sg s.pos).kind=5:=by
 show(tkK sg2 (muK sg s.pos)).1=5↔(tkK sg s.pos).1=5
 cases hs:CG sg s.pos with
 |false=>rw[hk.ns h0 hs]
 |true=>
  obtain⟨h1,h2,_⟩:=HT hs
  rw[hk.sp h0 hs,h1]
  simp only[Cx,Bool.or_eq_true,beq_iff_eq] at h2
  rcases h2 with h2|h2<;>rw[h2]<;>simp [cmK]
theorem a2Y{sg sg2:List Sg}(hk:LKS sg sg2):∀(n:Nat),SB sg (stR sg n) (stR sg2 n)
 |0=>fun b s k s' _ h=>by cases h
 |n+1=>fun b s k s' h0 h=>by
  have hone:OS sg (BC sg (stR sg n)):=Vf fun b=>OK sg n b
  have hblk:SM sg (BC sg (stR sg n)) (BC sg2 (stR sg2 n)):=a2X hk (fun b=>OK sg n b) (a2Y hk n) (WC sg n)
  have hne:=WC sg (n+1) b s _ h0 h
  unfold stR at h ⊢
  rw[Kn hk _ h0,Kn hk _ h0,Kn hk _ h0,Kn hk _ h0]
  split at h
  ·rename_i h5
   rw[if_pos ((Nw hk h0).2 h5)]
   exact Nt hk h0 hne h
  rename_i h5
  rw[if_neg (fun e=>h5 ((Nw hk h0).1 e))]
  split at h
  ·rename_i hw
   rw[if_pos hw,←hk.advN h0 hne]
   exact WA hk b (adv s) k s' (by show 0≤s.pos+1;omega) h
  rename_i hw
  rw[if_neg hw]
  split at h
  ·rename_i hw
   rw[if_pos hw,←hk.advN h0 hne]
   split at h
   ·rename_i hm
    rw[if_pos (hk.mT (s:=adv s) (by show 0≤s.pos+1;omega) hm (by decide)).1]
    exact HV hk (s:=adv s) (by show 0≤s.pos+1;omega) (by decide) h
   ·rename_i hm
    rw[if_neg (by rw[hk.mF (s:=adv s) (by show 0≤s.pos+1;omega) (Bool.eq_false_iff.2 hm) (by decide)];simp)]
    obtain⟨q,h1,h2⟩:=Option.bind_eq_some_iff.1 h
    have r:=HI sg (adv s) q (by show 0≤s.pos+1;omega) h1
    rw[Pq hk (adv s) q.1 q.2 (by show 0≤s.pos+1;omega) h1,Option.bind_some]
    exact HV hk (HW r (by show 0≤s.pos+1;omega)).1 (by decide) h2
  rename_i hw
  rw[if_neg hw]
  split at h
  ·rename_i hw
   rw[if_pos hw,←hk.advN h0 hne]
   obtain⟨q,h2,h3⟩:=Option.bind_eq_some_iff.1 h
   obtain⟨u,h4,h5⟩:=Option.bind_eq_some_iff.1 h3
   obtain⟨c1,c2,c3,c4⟩:=QW (by show 0≤s.pos+1;omega) h2
   have c2:s.pos+1<q.2.pos:=c2
   have r:=hone q.2 u (by omega) h4
   have l2:=r.lt
   rw[a2W hk (adv s) q.1 q.2 (by show 0≤s.pos+1;omega) h2,Option.bind_some,hblk q.2 u.1 u.2 (by omega) h4,Option.bind_some,Kn hk _ (by omega:0≤u.2.pos)]
   split at h5
   ·rename_i he
    rw[if_pos he,←hk.advN (by omega) (by rw[LE.1 he];exact nc1)]
    obtain⟨v,h6,h7⟩:=Option.bind_eq_some_iff.1 h5
    rw[hblk (adv u.2) v.1 v.2 (by show 0≤u.2.pos+1;omega) h6,Option.bind_some]
    exact IJ h7
   ·rename_i he
    rw[if_neg he]
    exact IJ h5
  rename_i hw
  rw[if_neg hw]
  split at h
  ·rename_i hw
   rw[if_pos hw,←hk.advN h0 hne]
   obtain⟨q,h2,h3⟩:=Option.bind_eq_some_iff.1 h
   obtain⟨u,h4,h5⟩:=Option.bind_eq_some_iff.1 h3
   obtain⟨c1,c2,c3,c4⟩:=QW (by show 0≤s.pos+1;omega) h2
   have c2:s.pos+1<q.2.pos:=c2
   rw[a2W hk (adv s) q.1 q.2 (by show 0≤s.pos+1;omega) h2,Option.bind_some,hblk q.2 u.1 u.2 (by omega) h4,Option.bind_some]
   exact IJ h5
  rename_i hw
  rw[if_neg hw]
  have hnm:Cv sg2 (trK sg s).pos=Cv sg s.pos:=hk.nm h0
  rw[hnm,←hk.advN h0 hne]
  split at h
  ·rename_i hn
   have hn2:Cv sg s.pos=true∧isM sg (adv s) [61]=true:=by rw[Bool.and_eq_true] at hn;exact hn
   have hm':=hk.mT (s:=adv s) (by show 0≤s.pos+1;omega) hn2.2 (by decide)
   rw[hn2.1,hm'.1]
   simp only[Bool.and_self,if_true]
   obtain⟨q,h1,h2⟩:=Option.bind_eq_some_iff.1 h
   have r:=HI sg (adv (adv s)) q (by show 0≤s.pos+1+1;omega) h1
   rw[←hm'.2,Pq hk (adv (adv s)) q.1 q.2 (by show 0≤s.pos+1+1;omega) h1,Option.bind_some]
   have e:=(LF hk h0 hne).1
   rw[show(sgO sg2 (trK sg s).pos).text=(sgO sg s.pos).text from e]
   exact HV hk (HW r (by show 0≤s.pos+1+1;omega)).1 (by decide) h2
  ·rename_i hn
   have hn2:¬(Cv sg s.pos&&isM sg2 (trK sg (adv s)) [61])=true:=by
    intro e
    rw[Bool.and_eq_true] at e
    apply hn
    rw[Bool.and_eq_true]
    refine⟨e.1,?_⟩
    cases hh:isM sg (adv s) [61] with
    |true=>rfl
    |false=>
     have:=hk.mF (s:=adv s) (by show 0≤s.pos+1;omega) hh (by decide)
     rw[this] at e;exact e.2
   rw[if_neg hn2]
   obtain⟨q,h1,h2⟩:=Option.bind_eq_some_iff.1 h
   have r:=HI sg s q h0 h1
   rw[Pq hk s q.1 q.2 h0 h1,Option.bind_some]
   exact HV hk (HW r h0).1 (by decide) h2
theorem b4o{sg sg2:List Sg}(hk:LKS sg sg2):SM sg (EN sg) (EN sg2):=a2X hk (fun b=>OK sg stN b) (a2Y hk stN) (WC sg stN)
theorem a2Z{sg sg2:List Sg}(hk:LKS sg sg2):SB sg (Ef sg) (Ef sg2):=fun b s k s' h0 h=>by
 unfold Ef at h ⊢
 obtain⟨⟨nm,s1⟩,h1,h2⟩:=Option.bind_eq_some_iff.1 h
 obtain⟨s2,h3,h4⟩:=Option.bind_eq_some_iff.1 h2
 obtain⟨⟨ks,s3⟩,h5,h6⟩:=Option.bind_eq_some_iff.1 h4
 obtain⟨s4,h7,h8⟩:=Option.bind_eq_some_iff.1 h6
 obtain⟨r,h9,h10⟩:=Option.bind_eq_some_iff.1 h8
 have p1:=Wz h1
 simp only at h3
 have p2:=Pr h3
 have t7:=(EO h7).1
 obtain⟨l,_,_,_,_,k4,_,_⟩:=Iy (Jb sg) Iz _ _ _ _ _ (by omega) h5 t7
 have p4:=Pr h7
 simp only at p4
 rw[Wu hk h0 h1,Option.bind_some]
 simp only
 rw[IK hk (by omega) (by decide) h3,Option.bind_some,Po hk (Jb sg) (Se hk) Iz _ _ _ _ _ _ (by omega) h5 t7 Ju,Option.bind_some]
 simp only
 rw[IK hk (by show 0≤s3.pos;omega) (by decide) h7,Option.bind_some,b4o hk s4 r.1 r.2 (by omega) h9,Option.bind_some]
 exact IJ h10
theorem a3a{sg:List Sg}{b:Bool}{s:Ps}{p:Int×Ps}(h:Ef sg b s=some p):tkK sg s.pos≠cmK:=by
 unfold Ef at h
 obtain⟨⟨nm,s1⟩,h1,h2⟩:=Option.bind_eq_some_iff.1 h
 rw[(OI h1).1];exact nc1
theorem a3b{sg:List Sg}(b:Bool)(s:Ps)(p:Int×Ps)(h0:0≤s.pos)(h:CJ sg b s=some p):tkK sg s.pos≠cmK:=by
 unfold CJ at h
 split at h
 ·intro e;have e1:(sgO sg s.pos).kind=4:=congrArg Prod.fst e
  omega
 split at h
 ·rename_i hw;rw[LE.1 hw];exact nc1
 ·exact a3a h
theorem a3c{sg:List Sg}(b:Bool)(s:Ps)(p:Int×Ps)(h0:0≤s.pos)(h:CN sg b s=some p):tkK sg s.pos≠cmK:=by
 unfold CN at h
 split at h
 ·intro e;have e1:(sgO sg s.pos).kind=4:=congrArg Prod.fst e
  omega
 split at h
 ·rename_i hw;rw[LE.1 hw];exact nc1
 split at h
 ·rename_i hw;rw[LE.1 hw];exact nc1
 ·exact a3a h
theorem b4p{sg sg2:List Sg}(hk:LKS sg sg2):SB sg (CJ sg) (CJ sg2):=fun b s k s' h0 h=>by
 have hne:=a3b b s _ h0 h
 unfold CJ at h ⊢
 rw[Kn hk _ h0]
 split at h
 ·rename_i h5
  rw[if_pos ((Nw hk h0).2 h5)]
  exact Nt hk h0 hne h
 rename_i h5
 rw[if_neg (fun e=>h5 ((Nw hk h0).1 e))]
 split at h
 ·rename_i hw
  rw[if_pos hw,←hk.advN h0 hne]
  exact WA hk b (adv s) k s' (by show 0≤s.pos+1;omega) h
 ·rename_i hw
  rw[if_neg hw]
  exact a2Z hk b s k s' h0 h
theorem b4q{sg sg2:List Sg}(hk:LKS sg sg2):SB sg (CN sg) (CN sg2):=fun b s k s' h0 h=>by
 have hne:=a3c b s _ h0 h
 unfold CN at h ⊢
 rw[Kn hk _ h0,Kn hk _ h0]
 split at h
 ·rename_i h5
  rw[if_pos ((Nw hk h0).2 h5)]
  exact Nt hk h0 hne h
 rename_i h5
 rw[if_neg (fun e=>h5 ((Nw hk h0).1 e))]
 split at h
 ·rename_i hw
  rw[if_pos hw,←hk.advN h0 hne]
  exact WA hk b (adv s) k s' (by show 0≤s.pos+1;omega) h
 rename_i hw
 rw[if_neg hw]
 split at h
 ·rename_i hw
  rw[if_pos hw,←hk.advN h0 hne]
  unfold Gh at h ⊢
  obtain⟨⟨nm,s1⟩,h1,h2⟩:=Option.bind_eq_some_iff.1 h
  obtain⟨s2,h3,h4⟩:=Option.bind_eq_some_iff.1 h2
  obtain⟨⟨ks,s3⟩,h5,h6⟩:=Option.bind_eq_some_iff.1 h4
  have p1:s1.pos=s.pos+1+1:=Wz h1
  simp only at h3
  have p2:=Pr h3
  obtain⟨l,_,_,_,k4,_⟩:=OJ (fun b=>Vg sg b) _ _ _ _ _ (by omega) h5
  rw[Wu hk (by show 0≤s.pos+1;omega) h1,Option.bind_some]
  simp only
  rw[IK hk (by omega) (by decide) h3,Option.bind_some,WB hk (fun b=>Vg sg b) (b4p hk) a3b (by decide) _ _ (by omega) h5 Ju,Option.bind_some]
  exact HV hk (by simp only;omega) (by decide) h6
 ·rename_i hw
  rw[if_neg hw]
  exact a2Z hk b s k s' h0 h
theorem a3d{sg sg2:List Sg}(hk:LKS sg sg2):∀(n:Nat) {ks:List Int} {ms ms2:List (Int×Int)} {s:Ps} {r:(List Int×List (Int×Int))×Ps} (n2:Nat),0≤s.pos→s.pos≤sg.length→Hh sg n ks ms s=some r→Nv sg sg2 s n2→∃m3,Hh sg2 n2 ks ms2 (trK sg s)=some ((r.1.1,m3),trK sg r.2)
 |0,_,_,_,_,_,_,_,_,h,_=>by cases h
 |n+1,_,_,_,_,_,0,_,_,_,he=>by have:=he.2;omega
 |n+1,ks,ms,ms2,s,r,n2+1,h0,hl,h,he=>by
  unfold Hh at h ⊢
  split at h
  ·rename_i hlt
   obtain⟨p,h1,h2⟩:=Option.bind_eq_some_iff.1 h
   have hn:=a3c _ s p h0 h1
   have q:=a0s sg _ s p h0 h1
   have hin:=hk.in2 h0 hn hlt
   rw[if_pos (show(trK sg s).pos<sg2.length from hin),show(sgO sg2 (trK sg s).pos).blank=false from hk.bl _,Bool.false_and,b4q hk _ s p.1 p.2 h0 h1,Option.bind_some]
   have hmu:=Pp h0 hn (show s.pos+1≤p.2.pos by have:=q.lt;omega)
   refine a3d hk n n2 (Wy q h0).1 (Wy q h0).2 h2 ⟨?_,?_⟩
   ·have:=he.1;omega
   ·have:=he.1;omega
  ·rename_i hlt
   simp only[Option.some.injEq] at h
   subst h
   have e:s.pos=sg.length:=by omega
   have:¬(trK sg s).pos<sg2.length:=by
    show¬muK sg s.pos<sg2.length
    rw[e,hk.len];omega
   rw[if_neg this]
   exact⟨ms2,rfl⟩
theorem Pt{L:List Nd}(i:Int):Aj (L.map nb) i=nb (Aj L i):=by
 unfold Aj
 rw[List.getD,List.getD,List.getElem?_map]
 cases L[i.toNat]? <;>rfl
theorem b4r{L:List Nd}{i:Int}(h:Cb L i=true):Cb (L.map nb) i=true:=by
 have e:BQ (L.map nb)=BQ L:=by funext j;unfold BQ;rw[Pt];rfl
 have e2:BF (L.map nb)=BF L:=by funext j;unfold BF;rw[List.length_map]
 have e3:Ep (L.map nb) (nb (Aj L i))=Ep L (Aj L i):=by
  unfold Ep CQ
  rw[e,e2]
  simp only[Pt]
  rfl
 unfold Cb HA at h ⊢
 rw[Pt,e3,e,e2]
 simp only[Bool.and_eq_true] at h ⊢
 exact⟨h.1,h.2.1,h.2.2.1,h.2.2.2.1,h.2.2.2.2.1,h.2.2.2.2.2.1,by simp [nb]⟩
theorem a3e{L:List Nd}:∀(n:Nat) {ds:List Int},De L n=some ds→De (L.map nb) n=some ds
 |0,ds,h=>h
 |n+1,ds,h=>by
  unfold De at h ⊢
  cases hd:De L n with
  |none=>rw[hd] at h;cases h
  |some es=>
   rw[hd] at h
   rw[a3e n hd]
   simp only at h ⊢
   split at h
   ·rename_i hn
    rw[if_pos (b4r hn),Pt];exact h
   ·cases h
theorem b4s{L:List Nd}{k:Int}(h:Dr L k≠0):Dr (L.map nb) k=Dr L k:=by
 obtain⟨h1,⟨ds,h2⟩,_⟩:=Ql h
 unfold Dr
 have e2:BF (L.map nb) k=BF L k:=by unfold BF;rw[List.length_map]
 rw[e2,a3e _ h2,h2]
theorem b4t{L:List Nd}(h:BO L=true):BO (L.map nb)=true:=by
 unfold BO at h ⊢
 simp only[Bool.and_eq_true,decide_eq_true_eq,Bool.not_eq_true',decide_eq_false_iff_not] at h ⊢
 have e:BQ (L.map nb)=BQ L:=by funext j;unfold BQ;rw[Pt];rfl
 have ek:BR (L.map nb)=BR L:=by unfold BR;rw[List.flatMap_map];rfl
 rw[List.length_map,e,b4s h.2.2.1,ek]
 exact h
theorem b4u{sg sg2:List Sg}(hk:LKS sg sg2){ms:List (Int×Int)}{L:List Nd}(h:FM sg=some (ms,L)):∃m3,FM sg2=some (m3,L.map nb):=by
 unfold FM at h ⊢
 obtain⟨r,h1,h2⟩:=Option.bind_eq_some_iff.1 h
 obtain⟨q,h3,h4⟩:=Option.bind_eq_some_iff.1 h2
 obtain⟨m3,h5⟩:=a3d hk _ (ms2:=[]) (sg2.length+1) (by decide) (by show(0:Int)≤_;omega) h1 Ju
 have e0:trK sg ps0=ps0:=by unfold trK ps0 muK GQ;rfl
 rw[e0] at h5
 rw[h5,Option.bind_some]
 have h6:=IJ (sg:=sg) (k:=q.1) (s':=q.2) h3
 refine⟨m3,?_⟩
 rw[show(⟨22,[],r.1.1,false⟩:Nd)=nb ⟨22,[],r.1.1,false⟩ from rfl]
 simp only
 rw[h6,Option.bind_some]
 split at h4
 ·rename_i ht
  simp only[Option.some.injEq,Prod.mk.injEq] at h4
  obtain⟨_,rfl⟩:=h4
  show(if BO (q.2.nodes.map nb)=true then _ else none)=_
  rw[if_pos (b4t ht)]
  rfl
 ·cases h4
def VTK(k:Int)(x:List UInt8):Prop:=(x≠[]∧(x.headD 0).toNat≠32∧(x.headD 0).toNat≠10)∧
 ∀rest:List UInt8,((k=5∧∃r,rest=10::r)∨(k≠5∧(rest=[]∨∃r,rest=32::r)))→Be (x++rest)=⟨k,x,x.length,true⟩
theorem Sf{p:UInt8→Bool}:∀ {w rest:List UInt8},(∀c∈w,p c=true)→(∀c,rest.head? =some c→p c=false)→(w++rest).takeWhile p=w
 |[],[],_,_=>rfl
 |[],c::r,_,h=>by rw[List.nil_append,List.takeWhile_cons,h c rfl];rfl
 |c::w,rest,h1,h2=>by
  rw[List.cons_append,List.takeWhile_cons,h1 c (by simp)]
  simp only[if_true]
  rw[Sf (fun d hd=>h1 d (by simp [hd])) h2]
theorem Sh{p:UInt8→Bool}:∀ {l:List UInt8} {c:UInt8},c∈l.takeWhile p→p c=true
 |[],c,h=>by simp at h
 |d::l,c,h=>by
  rw[List.takeWhile_cons] at h
  split at h
  ·rename_i hd
   rcases List.mem_cons.1 h with rfl|h
   ·exact hd
   ·exact Sh h
  ·cases h
theorem a3f{p:UInt8→Bool}:∀ {u rest:List UInt8} {i:Nat},CI p u=some i→CI p (u++rest)=some i
 |[],_,i,h=>by simp [CI] at h
 |c::u,rest,i,h=>by
  rw[List.cons_append]
  unfold CI at h ⊢
  split
  ·rename_i hc;rw[if_pos hc] at h;exact h
  ·rename_i hc
   rw[if_neg hc,Option.map_eq_some_iff] at h
   obtain⟨j,h1,rfl⟩:=h
   rw[a3f h1];rfl
theorem a3g{p:UInt8→Bool}:∀ {u:List UInt8} {i:Nat},CI p u=some i→CI p (u.take (i+1))=some i
 |[],i,h=>by simp [CI] at h
 |c::u,i,h=>by
  unfold CI at h
  split at h
  ·rename_i hc
   simp only[Option.some.injEq] at h;subst h
   rw[List.take_succ_cons];unfold CI;rw[if_pos hc]
  ·rename_i hc
   rw[Option.map_eq_some_iff] at h
   obtain⟨j,h1,rfl⟩:=h
   rw[List.take_succ_cons];unfold CI;rw[if_neg hc,a3g h1];rfl
theorem WD{b:UInt8}(h:Cf b=true∨Bj b=true∨b.toNat=39):b.toNat≠32∧b.toNat≠10:=by
 simp only[Cf,Bj,Bool.or_eq_true,Bool.and_eq_true,decide_eq_true_eq] at h;omega
theorem WE{k:Int}{rest:List UInt8}(hk:k≠5)(h:(k=5∧∃r,rest=10::r)∨(k≠5∧(rest=[]∨∃r,rest=32::r))):rest=[]∨∃r,rest=32::r:=by
 rcases h with h|h
 ·exact(hk h.1).elim
 ·exact h.2
theorem b4v{b:UInt8}:BW [b,32]=false:=by simp [BW,mk2]
theorem a3h{x:List UInt8}(h:BW x=true):x≠[]∧(x.headD 0).toNat≠32∧(x.headD 0).toNat≠10:=by
 match x with
 |[]=>simp [BW,mk2] at h
 |[c]=>
  simp only[BW,mk2,Bool.or_eq_true,beq_iff_eq,List.elem_iff] at h
  refine⟨by simp,?_⟩
  simp only[List.headD_cons]
  have:c∈mk1:=by rcases h with h|h;(·simp at h);exact h
  simp only[mk1,List.mem_cons,List.not_mem_nil,or_false] at this
  rcases this with rfl|rfl|rfl|rfl|rfl|rfl|rfl|rfl|rfl|rfl|rfl|rfl|rfl|rfl|rfl|rfl<;>decide
 |c::d::l=>
  have h:mk2 (c::d::l)=true:=by simpa [BW] using h
  simp only[mk2,Bool.or_eq_true,beq_iff_eq,List.cons.injEq] at h
  refine⟨by simp,?_⟩
  simp only[List.headD_cons]
  rcases h with h|h|h|h|h<;>(rw[h.1];decide)
theorem b4w{s:List UInt8}(h:(Be s).ok=true):VTK (Be s).kind (Be s).text:=by
 cases s with
 |nil=>simp [Be] at h
 |cons b t=>
  by_cases h1:Cf b=true
  ·rw[UA h1] at h ⊢
   simp only[decide_eq_true_eq] at h ⊢
   have hi:=a5R h1
   have e:(b::t).takeWhile BD=b::t.takeWhile BD:=by rw[List.takeWhile_cons,hi];rfl
   rw[e] at h ⊢
   refine⟨⟨by simp,(WD (.inl h1))⟩,fun rest hr=> ?_⟩
   have hr:=WE (by decide) hr
   have e2:(b::(t.takeWhile BD++rest)).takeWhile BD=b::t.takeWhile BD:=by
    rw[←List.cons_append]
    refine Sf (fun c hc=> ?_) fun c hc=> ?_
    ·rcases List.mem_cons.1 hc with rfl|hc
     ·exact hi
     ·exact Sh hc
    ·rcases hr with rfl|⟨r,rfl⟩
     ·cases hc
     ·simp at hc;subst hc;decide
   rw[List.cons_append,UA h1,e2,decide_eq_true h]
  ·have h1:Cf b=false:=by simpa using h1
   by_cases h2:Bj b=true
   ·rw[UB h1 h2] at h ⊢
    simp only[decide_eq_true_eq] at h ⊢
    have e:(b::t).takeWhile Bj=b::t.takeWhile Bj:=by rw[List.takeWhile_cons,h2];rfl
    rw[e] at h ⊢
    refine⟨⟨by simp,(WD (.inr (.inl h2)))⟩,fun rest hr=> ?_⟩
    have hr:=WE (by decide) hr
    have e2:(b::(t.takeWhile Bj++rest)).takeWhile Bj=b::t.takeWhile Bj:=by
     rw[←List.cons_append]
     refine Sf (fun c hc=> ?_) fun c hc=> ?_
     ·rcases List.mem_cons.1 hc with rfl|hc
      ·exact h2
      ·exact Sh hc
     ·rcases hr with rfl|⟨r,rfl⟩
      ·cases hc
      ·simp at hc;subst hc;decide
    rw[List.cons_append,UB h1 h2,e2,decide_eq_true h]
   ·have h2:Bj b=false:=by simpa using h2
    by_cases h3:b.toNat=39
    ·have e:∀l,Be (b::l)=⟨3,(CY (b::l)).1,(CY (b::l)).1.length,(CY (b::l)).2⟩:=fun l=>by
      simp only[Be,h1,h2,h3,Bool.false_eq_true,if_false,if_true]
     rw[e] at h ⊢
     simp only at h ⊢
     rw[Qo] at h ⊢
     simp only[List.drop_succ_cons,List.drop_zero] at h ⊢
     cases hi:CI isQ t with
     |none=>rw[hi] at h;cases h
     |some i=>
      rw[hi] at h
      simp only at h ⊢
      have hlt:=Qp hi
      rw[List.take_succ_cons] at h ⊢
      refine⟨⟨by simp,(WD (.inr (.inr h3)))⟩,fun rest hr=> ?_⟩
      have e3:CY (b::(t.take (i+1)++rest))=(b::t.take (i+1),true):=by
       rw[Qo]
       simp only[List.drop_succ_cons,List.drop_zero]
       rw[a3f (a3g hi)]
       simp only
       have:(b::(t.take (i+1)++rest)).take (i+2)=b::t.take (i+1):=by
        rw[List.take_succ_cons,List.take_left' (by rw[List.length_take];omega)]
       rw[this,h]
      rw[List.cons_append,e,e3]
    ·by_cases h4:(b::t).take 2=[47,47]
     ·have e:∀l,(b::l).take 2=[47,47]→Be (b::l)=⟨5,Ca ((b::l).takeWhile BM),((b::l).takeWhile BM).length,((b::l).takeWhile BM).all BZ⟩:=fun l hl=>by
       simp only[Be,h1,h2,h3,hl,Bool.false_eq_true,if_false,if_true]
      rw[e t h4] at h ⊢
      simp only at h ⊢
      obtain⟨n,hn⟩:=a5P ((b::t).takeWhile BM)
      obtain⟨rfl,c,u,rfl,rfl⟩:b=47∧∃c u,t=c::u∧c=47:=by
       cases t with
       |nil=>simp at h4
       |cons c u=>simp at h4;exact⟨h4.1,c,u,rfl,h4.2⟩
      have ew:(47::47::u).takeWhile BM=47::47::u.takeWhile BM:=by
       rw[List.takeWhile_cons,List.takeWhile_cons];rfl
      have h2n:∃v,Ca (47::47::u.takeWhile BM)=47::47::v:=by
       have:∀(w:List UInt8) (n:Nat),w.length=n→∃v,Ca (47::47::w)=47::47::v:=by
        intro w n
        induction n generalizing w with
        |zero=>intro hw;rw[List.length_eq_zero_iff.1 hw];exact⟨[],rfl⟩
        |succ n ih=>
         intro hw
         have hne:w≠[]:=by intro e;rw[e] at hw;cases hw
         have ed:=(List.dropLast_concat_getLast hne).symm
         rw[ed]
         have:(47::47::(w.dropLast++[w.getLast hne]):List UInt8)=(47::47::w.dropLast)++[w.getLast hne]:=by simp
         rw[this,UC]
         split
         ·exact ih _ (by rw[List.length_dropLast];omega)
         ·exact⟨w.dropLast++[w.getLast hne],by simp⟩
       exact this _ _ rfl
      obtain⟨v,hv⟩:=h2n
      rw[ew] at h hn ⊢
      rw[hv] at hn ⊢
      have hmem:∀c∈(47::47::v:List UInt8),BM c=true∧BZ c=true:=by
       intro c hc
       rw[hn] at hc
       have hc:=List.mem_of_mem_take hc
       refine⟨?_,List.all_eq_true.1 h c hc⟩
       rw[←ew] at hc;exact Sh hc
      refine⟨⟨by simp,by simp,by simp⟩,fun rest hr=> ?_⟩
      obtain⟨r,rfl⟩:∃r,rest=10::r:=by rcases hr with hr|hr;exact hr.2;exact(hr.1 rfl).elim
      have e3:((47::47::v)++10::r:List UInt8).takeWhile BM=47::47::v:=Sf (fun c hc=>(hmem c hc).1) (fun c hc=>by simp at hc;subst hc;decide)
      have e4:Ca (47::47::v)=47::47::v:=by
       have:∀x:List UInt8,Ca (Ca x)=Ca x:=by
        intro x
        unfold Ca
        rw[List.reverse_reverse]
        congr 1
        generalize x.reverse=y
        induction y with
        |nil=>rfl
        |cons a y ih=>
         rw[List.dropWhile_cons]
         split
         ·exact ih
         ·rename_i ha
          rw[List.dropWhile_cons,if_neg ha]
       rw[←hv];exact this _
      have:=e (47::v++10::r) (by simp)
      rw[show(47::47::v)++10::r=47::(47::v++10::r) from rfl,this,show(47::(47::v++10::r):List UInt8)=(47::47::v)++10::r from rfl,e3,e4]
      have:(47::47::v:List UInt8).all BZ=true:=List.all_eq_true.2 fun c hc=>(hmem c hc).2
      rw[this]
     ·have eM:∀l,(b::l).take 2≠[47,47]→Be (b::l)=if BW ((b::l).take 2) then⟨4,(b::l).take 2,((b::l).take 2).length,true⟩ else if BW ((b::l).take 1) then⟨4,(b::l).take 1,1,true⟩ else⟨0,[],0,false⟩:=fun l hl=>by
       simp only[Be,h1,h2,h3,hl,Bool.false_eq_true,if_false]
      have one:BW [b]=true→VTK 4 [b]:=fun hm=>by
       refine⟨a3h hm,fun rest hr=> ?_⟩
       have hr:=WE (by decide) hr
       rcases hr with rfl|⟨r,rfl⟩
       ·rw[List.append_nil,eM [] (by simp)]
        simp [hm]
       ·rw[List.singleton_append,eM (32::r) (by simp)]
        simp [b4v,hm]
      rw[eM t h4] at h ⊢
      by_cases h5:BW ((b::t).take 2)=true
      ·rw[if_pos h5] at h ⊢
       simp only at h ⊢
       cases t with
       |nil=>exact one h5
       |cons c u=>
        have e2:(b::c::u).take 2=[b,c]:=rfl
        rw[e2] at h5 h4 ⊢
        refine⟨a3h h5,fun rest hr=> ?_⟩
        rw[show [b,c]++rest=b::c::rest from rfl,eM (c::rest) h4,show(b::c::rest).take 2=[b,c] from rfl,if_pos h5]
      ·rw[if_neg h5] at h ⊢
       by_cases h6:BW ((b::t).take 1)=true
       ·rw[if_pos h6];exact one h6
       ·rw[if_neg h6] at h;cases h
def Cq:List Sg→List UInt8
 |[]=>[]
 |e::l=>e.text++((if e.kind=5 then [10] else if l=[] then [] else [32])++Cq l)
theorem WF{t:List UInt8}:∀(l:List Sg) (n:Nat) (at_ br:Int),0≤at_→(br=0∨br=1)→t.drop at_.toNat=Cq l→(∀e∈l,VTK e.kind e.text)→(t.length:Int)-at_+1≤n→1≤n→
 ∃l',Dn t n at_ br=some l'∧l'.map kt=l.map kt∧∀e∈l',e.blank=false
 |[],n,at_,br,h0,hb,hd,hv,hn,hn1=>by
  cases n with
  |zero=>omega
  |succ n=>
   have hl:t.length≤at_.toNat:=List.drop_eq_nil_iff.1 hd
   refine⟨[],?_,rfl,by simp⟩
   unfold Dn
   rw[List.getElem?_eq_none hl]
 |e::l,n,at_,br,h0,hb,hd,hv,hn,hn1=>by
  cases n with
  |zero=>omega
  |succ n=>
   obtain⟨⟨v1,v2,v3⟩,v4⟩:=hv e (by simp)
   have hd:t.drop at_.toNat=e.text++((if e.kind=5 then [10] else if l=[] then [] else [32])++Cq l):=hd
   have hs:Be (t.drop at_.toNat)=⟨e.kind,e.text,e.text.length,true⟩:=by
    rw[hd]
    refine v4 _ ?_
    by_cases h5:e.kind=5
    ·exact .inl ⟨h5,_,by rw[if_pos h5];rfl⟩
    ·refine .inr ⟨h5,?_⟩
     rw[if_neg h5]
     by_cases hl:l=[]
     ·subst hl;exact .inl rfl
     ·rw[if_neg hl];exact .inr ⟨_,rfl⟩
   have htl:1≤e.text.length:=List.length_pos_iff.2 v1
   obtain⟨c,hc,hc1⟩:∃c,t[at_.toNat]? =some c∧c=e.text.headD 0:=by
    have:(t.drop at_.toNat)[0]? =some (e.text.headD 0):=by
     rw[hd]
     cases ht:e.text with
     |nil=>exact(v1 ht).elim
     |cons a u=>rfl
    rw[List.getElem?_drop] at this
    exact⟨_,by simpa using this,rfl⟩
   have hlen:at_.toNat+e.text.length≤t.length:=by
    have:=congrArg List.length hd
    rw[List.length_drop,List.length_append] at this
    have h1:=(List.getElem?_eq_some_iff.1 hc).1
    omega
   have hd2:t.drop (at_+e.text.length).toNat=(if e.kind=5 then [10] else if l=[] then [] else [32])++Cq l:=by
    rw[show(at_+(e.text.length:Int)).toNat=at_.toNat+e.text.length by omega,←List.drop_drop,hd,List.drop_left' rfl]
   have step:∀l',Dn t n (at_+e.text.length) 0=some l'→Dn t (n+1) at_ br=some (⟨e.kind,e.text,at_,false⟩::l'):=fun l' hl'=>by
    unfold Dn
    rw[hc]
    simp only
    rw[if_neg (by rw[hc1];exact v2),if_neg (by rw[hc1];exact v3),hs]
    simp only[if_true]
    rw[hl']
    have:decide (br>1)=false:=decide_eq_false (by omega)
    rw[this];rfl
   have hvl:∀x∈l,VTK x.kind x.text:=fun x hx=>hv x (by simp [hx])
   have sep:∀(ch:UInt8) (br2:Int),(ch=32∧br2=0)∨(ch=10∧br2=1)→(if e.kind=5 then [10] else if l=[] then [] else [32])=[ch]→∃l',Dn t n (at_+e.text.length) 0=some l'∧l'.map kt=l.map kt∧∀x∈l',x.blank=false:=by
    intro ch br2 hch hse
    rw[hse] at hd2
    have hg:t[(at_+(e.text.length:Int)).toNat]? =some ch:=by
     have:(t.drop (at_+(e.text.length:Int)).toNat)[0]? =some ch:=by rw[hd2];rfl
     rw[List.getElem?_drop] at this;simpa using this
    have hg1:=(List.getElem?_eq_some_iff.1 hg).1
    cases n with
    |zero=>omega
    |succ n=>
     have hd3:t.drop (at_+e.text.length+1).toNat=Cq l:=by
      rw[show(at_+(e.text.length:Int)+1).toNat=(at_+(e.text.length:Int)).toNat+1 by omega,←List.drop_drop,hd2];rfl
     obtain⟨l',g1,g2,g3⟩:=WF l n (at_+e.text.length+1) br2 (by omega) (by omega) hd3 hvl (by omega) (by omega)
     refine⟨l',?_,g2,g3⟩
     unfold Dn
     rw[hg]
     simp only
     rcases hch with⟨rfl,rfl⟩|⟨rfl,rfl⟩
     ·rw[if_pos (by decide)];exact g1
     ·rw[if_neg (by decide),if_pos (by decide)];exact g1
   have fin:∃l',Dn t n (at_+e.text.length) 0=some l'∧l'.map kt=l.map kt∧∀x∈l',x.blank=false:=by
    by_cases h5:e.kind=5
    ·exact sep 10 1 (.inr ⟨rfl,rfl⟩) (by rw[if_pos h5])
    ·by_cases hl:l=[]
     ·subst hl
      have:t.drop (at_+(e.text.length:Int)).toNat=Cq []:=by rw[hd2,if_neg h5,if_pos rfl];rfl
      exact WF [] n (at_+e.text.length) 0 (by omega) (.inl rfl) this (by simp) (by omega) (by omega)
     ·exact sep 32 0 (.inl ⟨rfl,rfl⟩) (by rw[if_neg h5,if_neg hl])
   obtain⟨l',g1,g2,g3⟩:=fin
   refine⟨_,step l' g1,by rw[List.map_cons,List.map_cons,g2];rfl,?_⟩
   intro x hx
   rcases List.mem_cons.1 hx with rfl|hx
   ·rfl
   ·exact g3 x hx
end Go.My
end
section
namespace Go.My
open Go.Eng Go.Proofs
variable {G:GInv}
structure Gr where
 notes:List Int
 member:Int
end Go.My
end
section
namespace Go.My
open Go.Eng
section
variable {α:Type} (lt:α→α→Bool)
variable {lt}
end
end Go.My
end
section
namespace Go.My
open Go.Eng Go.Proofs
variable {G:GInv}
end Go.My
end
section
namespace Go.My
open Go.Eng Go.Proofs
variable {G:GInv}
section
variable {α:Type}
variable {mk:Int→α→α} {sz:α→Nat}
end
end Go.My
end
section
namespace Go.My
open Go.Eng Go.Proofs
variable {G:GInv}
theorem Pu{a:Int}{b:List UInt8}{c:Int}{d:Bool}{q:Sg→Prop}(h:q ⟨a,b,c,d⟩):∃x:Sg,a=x.kind∧b=x.text∧c=x.pos∧d=x.blank∧q x:=⟨⟨a,b,c,d⟩,rfl,rfl,rfl,rfl,h⟩
def Ho(l:List (List UInt8)):AV:= .sl false 0 1 (List UInt8) Ai l
def tlr(ns:List Nd)(s:List Sg)(st:List Int):AV:= .box 0 [nds ns,Ad s,Ab st]
def BJ:Sig:= {X:=List Nd×List Sg×List Int×List (List UInt8),args:=fun x=>[tlr x.1 x.2.1 x.2.2.1,Ho x.2.2.2],pre:=fun x=>x.2.1.length≤2^26∧x.2.2.2.length≤2^10,Y:=Unit,post:=fun x y=>True,res:=fun x y=> .tup [],outs:=fun x y=>[tlr x.1 (x.2.1++x.2.2.2.map mkS) x.2.2.1,.top],keep:=true}
def WG(x:List Nd×List Sg×List Int×List (List UInt8)):LS:= {ι:=Int,inv:=fun i=>0≤i∧i≤x.2.2.2.length,regs:=fun i=>[(0,tlr x.1 (x.2.1++(x.2.2.2.take i.toNat).map mkS) x.2.2.1),(6,Ho x.2.2.2),(7,.int .i64 x.2.2.2.length),(8,.int .i64 i)],als:=[],meas:=fun i=>x.2.2.2.length-i.toNat}
theorem WH:Am G Tryz.prog 99 BJ:=
 vcFun_okP [] [(28,⟨Sg,sgA⟩)] false (fun x=>[(1,WG x)]) Tryz.func99 rfl (by decide) trivial (fun(x:List Nd×List Sg×List Int×List (List UInt8))=>True∧eA (WG x) [.box 0 [nds x.1,Ad x.2.1,Ab x.2.2.1],AV.sl false 0 1 (List UInt8) Ai x.2.2.2,.int .i64 (↑(List.length x.2.2.2):Int),.int .i64 (0:Int)]∧∀(i:Int),(0:Int)≤i∧i≤(↑(List.length x.2.2.2):Int)→Aa (decide (i<(↑(List.length x.2.2.2):Int))) (((0:Int)≤i∧i<(↑(List.length x.2.2.2):Int))∧∀(e:List UInt8),x.2.2.2[Int.toNat i]? =some e→∃(x_1:Sg),(4:Int)=x_1.kind∧e=x_1.text∧(0:Int)=x_1.pos∧false=x_1.blank∧∃(zs:List Sg),Ad [x_1]=Ad zs∧Bu sgA∧Ba (List.length (x.2.1++List.map mkS (List.take (Int.toNat i) x.2.2.2))+List.length zs) (40:Nat)∧inR IntKind.i64 (i+(1:Int))∧∃(i':Int),((0:Int)≤i'∧i'≤(↑(List.length x.2.2.2):Int))∧List.length x.2.2.2-Int.toNat i'<List.length x.2.2.2-Int.toNat i∧(nds x.1=nds x.1∧Ad (x.2.1++List.map mkS (List.take (Int.toNat i) x.2.2.2)++zs)=Ad (x.2.1++List.map mkS (List.take (Int.toNat i') x.2.2.2))∧Ab x.2.2.1=Ab x.2.2.1∧AV.sl false 0 1 (List UInt8) Ai x.2.2.2=AV.sl false 0 1 (List UInt8) Ai x.2.2.2∧(↑(List.length x.2.2.2):Int)=(↑(List.length x.2.2.2):Int)∧i+(1:Int)=i'∧True)∧True) (rA BJ x [.tup [],.box 0 [nds x.1,Ad (x.2.1++List.map mkS (List.take (Int.toNat i) x.2.2.2)),Ab x.2.2.1],.top])) (fun x=>by kernel_rfl) fun(x:List Nd×List Sg×List Int×List (List UInt8)) (hx:x.2.1.length≤2^26∧x.2.2.2.length≤2^10)=>(by
 dsimp only[eA,WG,Bx,nds,Ab,Ad,rA,BJ,Bv,Ho,tlr,Aw,AR,Br]
 obtain⟨h1,h2⟩:=hx
 (repeat' first|refine Pu ?_|(with_reducible first|rfl|exact True.intro|apply AM|apply And.intro|((first|apply AC|apply AK|apply AD|apply AL)<;>intro _))|(apply AB<;>intro _)|apply AJ|refine Ag () ?_ ?_|((first|apply AQ|apply AP|apply AO|apply AN|apply AI|apply AH|apply AG|apply AF|apply AE)<;>try dsimp only)|apply Ag|(refine Prod.forall.2 ?_;intro _;try dsimp only)|(intro _;try dsimp only))
 all_goals first
  |rfl
  |(simp;done)
  |(rw[Dz (And.left ‹_›),Fb ‹_›];simp [mkS,sg0];done)
  |(rw[List.take_of_length_le (by omega)];done)
  |((try simp only[AS,Ba,List.length_append,List.length_map,List.length_take,List.length_cons,List.length_nil]);omega)
  |skip)
def Dq:Sig:= {X:=List Nd×List Sg×List Int×List UInt8,args:=fun x=>[tlr x.1 x.2.1 x.2.2.1,.str x.2.2.2],pre:=fun x=>x.2.1.length≤2^26,Y:=Unit,post:=fun x y=>True,res:=fun x y=> .tup [],outs:=fun x y=>[tlr x.1 (x.2.1++[wdS x.2.2.2]) x.2.2.1,.top],keep:=true}
theorem a3i:Am G Tryz.prog 98 Dq:=
 vcFun_okP [] [(28,⟨Sg,sgA⟩)] false (fun x=>[]) Tryz.func98 rfl (by decide) trivial (fun(x:List Nd×List Sg×List Int×List UInt8)=>True∧∃(x_1:Sg),(1:Int)=x_1.kind∧x.2.2.2=x_1.text∧(0:Int)=x_1.pos∧false=x_1.blank∧∃(zs:List Sg),Ad [x_1]=Ad zs∧Bu sgA∧Ba (List.length x.2.1+List.length zs) (40:Nat)∧∃(y:Unit),True∧nds x.1=nds x.1∧Ad (x.2.1++zs)=Ad (x.2.1++[wdS x.2.2.2])∧Ab x.2.2.1=Ab x.2.2.1∧True) (fun x=>by kernel_rfl) fun(x:List Nd×List Sg×List Int×List UInt8) (hx:x.2.1.length≤2^26)=>(by
 dsimp only[nds,Ab,Ad]
 have hx:x.2.1.length≤2^26:=hx
 (repeat' first|refine Pu ?_|(with_reducible first|rfl|exact True.intro|apply AM|apply And.intro|((first|apply AC|apply AK|apply AD|apply AL)<;>intro _))|(apply AB<;>intro _)|apply AJ|refine Ag () ?_ ?_|((first|apply AQ|apply AP|apply AO|apply AN|apply AI|apply AH|apply AG|apply AF|apply AE)<;>try dsimp only)|apply Ag|(refine Prod.forall.2 ?_;intro _;try dsimp only)|(intro _;try dsimp only))
 all_goals first
  |rfl
  |((try simp only[AS,Ba,List.length_append,List.length_cons,List.length_nil]);omega)
  |skip)
end Go.My
end
section
namespace Go.My
open Go.Eng
structure Rw where
 stop:Int→Option Nd
 tgt:Int→Int→Int→Int
 par:Int→Int→Int→Bool
end Go.My
end
