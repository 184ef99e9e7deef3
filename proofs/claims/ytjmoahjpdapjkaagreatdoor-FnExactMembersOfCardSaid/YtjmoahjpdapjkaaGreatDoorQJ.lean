/- A part of the proof: the engine and the contracts, joined. -/
import Derived.Test.YtjmoahjpdapjkaaGreatDoorQI
section
set_option linter.unusedVariables false
set_option linter.unusedSimpArgs false
namespace Go.My
open Go.Eng Go.Proofs
variable {G:GInv}
def vQ(r n:Nat)(s:ST)(g:Gs):Prop:=vP r n s g∧sgM s.sg
def wQ(r n:Nat)(s:ST)(g:Gs):Prop:=wP r n s g∧sgM s.sg
def Lx(n:Nat):Sig:= {X:=ST×Int×Int×Bool×List Nd,args:=fun x=>[srd x.1 (xg x)],pre:=fun x=>vQ 11 n x.1 (xg x),Y:=Int×Int×Int×Bool×List Nd,post:=fun x y=>Af x.1.sg (xg x) (pE x.1.sg n .value) (yS y),res:=fun x y=> .int .i64 y.1,outs:=fun x y=>[srd x.1 (yG y.2)],keep:=true}
def GG(n:Nat):Sig:= {X:=ST×Int×Int×Bool×List Nd,args:=fun x=>[srd x.1 (xg x)],pre:=fun x=>vQ 10 n x.1 (xg x),Y:=Int×Int×Int×Bool×List Nd,post:=fun x y=>Af x.1.sg (xg x) (pE x.1.sg n .pick) (yS y),res:=fun x y=> .int .i64 y.1,outs:=fun x y=>[srd x.1 (yG y.2)],keep:=true}
def HP(n:Nat):Sig:= {X:=ST×Int×Int×Bool×List Nd×Int,args:=fun x=>[srd x.1 (xh x),.int .i64 x.2.2.2.2.2],pre:=fun x=>wQ (9-x.2.2.2.2.2.toNat) n x.1 (xh x)∧0≤x.2.2.2.2.2∧x.2.2.2.2.2≤6,Y:=Int×Int×Int×Bool×List Nd,post:=fun x y=>Af x.1.sg (xh x) (pE x.1.sg n (.chain x.2.2.2.2.2.toNat)) (yS y),res:=fun x y=> .int .i64 y.1,outs:=fun x y=>[srd x.1 (yG y.2),.top],keep:=true}
def Rk(n:Nat):Sig:= {X:=ST×Int×Int×Bool×List Nd,args:=fun x=>[srd x.1 (xg x)],pre:=fun x=>wQ 2 n x.1 (xg x),Y:=Int×Int×Int×Bool×List Nd,post:=fun x y=>Af x.1.sg (xg x) (pE x.1.sg n .fin) (yS y),res:=fun x y=> .int .i64 y.1,outs:=fun x y=>[srd x.1 (yG y.2)],keep:=true}
def Rl(n:Nat):Sig:= {X:=ST×Int×Int×Bool×List Nd,args:=fun x=>[srd x.1 (xg x)],pre:=fun x=>wQ 1 n x.1 (xg x),Y:=Int×Int×Int×Bool×List Nd,post:=fun x y=>Af x.1.sg (xg x) (pE x.1.sg n .base) (yS y),res:=fun x y=> .int .i64 y.1,outs:=fun x y=>[srd x.1 (yG y.2)],keep:=true}
structure qAll (G:GInv) (n:Nat):Prop where
 val:Aj G Go.Proofs.Tryz.prog 107 (Lx n)
 pick:Aj G Go.Proofs.Tryz.prog 142 (GG n)
 chain:Aj G Go.Proofs.Tryz.prog 171 (HP n)
 fin:Aj G Go.Proofs.Tryz.prog 185 (Rk n)
 base:Aj G Go.Proofs.Tryz.prog 191 (Rl n)
def saI(sg:List Sg)(p:Int)(i:Int)(N:Nat):Prop:=(p+1≤i∧i≤sg.length+1∧(sg.length:Int)-i<N)∧Ev sg (sg.length+1) (p+1)=Ev sg N i
def arG(sg:List Sg)(x:Gs):Bool:=isG sg x 4 [40]&&JZ sg ⟨x.pos,x.deep,x.nodes⟩
theorem b1G{sg:List Sg}{p i:Int}{N:Nat}(h:saI sg p i N):p+1≤i∧i≤sg.length+1:=⟨h.1.1,h.1.2.1⟩
theorem b1H{sg:List Sg}{p:Int}(h0:0≤p)(h:p≤sg.length):saI sg p (p+1) (sg.length+1):=⟨by omega,rfl⟩
theorem a1Y{sg:List Sg}{p i:Int}{N:Nat}(h0:0≤p)(h:saI sg p i N)(h1:i+1<sg.length)(hk:(sgO sg i).kind=1)(ht:((sgO sg (i+1)).text==[44])=true):saI sg p (i+1+1) (N-1)∧N-1<N:=by
 obtain⟨⟨a1,a2,a3⟩,h4⟩:=h
 match N with
 |0=>omega
 |N+1=>
  refine⟨⟨⟨by omega,by omega,by simp;omega⟩,?_⟩,by omega⟩
  rw[h4,Ev,if_pos ⟨h1,hk⟩,if_pos (by simpa using ht)]
  simp only[Nat.add_sub_cancel];congr 1;omega
theorem b1I{sg:List Sg}{p i:Int}{N:Nat}(h:saI sg p i N)(h1:i+1<sg.length)(hk:(sgO sg i).kind=1)(ht:((sgO sg (i+1)).text==[44])=false):Ev sg (sg.length+1) (p+1)=i+1:=by
 obtain⟨⟨a1,a2,a3⟩,h4⟩:=h
 match N with
 |0=>omega
 |N+1=>rw[h4,Ev,if_pos ⟨h1,hk⟩,if_neg (by simpa using ht)]
theorem b1J{sg:List Sg}{p i:Int}{N:Nat}(h:saI sg p i N)(h1:¬i+1<sg.length):Ev sg (sg.length+1) (p+1)=i:=by
 rw[h.2]
 match N with
 |0=>rfl
 |N+1=>rw[Ev,if_neg (fun hh=>h1 hh.1)]
theorem b1K{sg:List Sg}{p i:Int}{N:Nat}(h:saI sg p i N)(hk:(sgO sg i).kind≠1):Ev sg (sg.length+1) (p+1)=i:=by
 rw[h.2]
 match N with
 |0=>rfl
 |N+1=>rw[Ev,if_neg (fun hh=>hk hh.2)]
theorem b1L{sg:List Sg}{x:Gs}(h:isG sg x 4 [40]=false):false=arG sg x:=by simp [arG,h]
theorem Vm{sg:List Sg}{x:Gs}{i:Int}{b:Bool}(h:isG sg x 4 [40]=true)(hi:Ev sg (sg.length+1) (x.pos+1)=i)(hb:b=Fl sg i):b=arG sg x:=by
 rw[arG,h,Bool.true_and,JZ];simp only[hi];exact hb
theorem a1Z{sg:List Sg}{i k:Int}{e:Sg}(he:sg[i.toNat]? =some e)(hk:e.kind=k):(sgO sg i).kind=k:=by rw[Ga he];exact hk
theorem a2a{sg:List Sg}{i:Int}{e:Sg}{m:List UInt8}{b:Bool}(he:sg[i.toNat]? =some e)(hk:(e.text==m)=b):((sgO sg i).text==m)=b:=by rw[Ga he];exact hk
def lqJ(sg:List Sg)(one:Ps→PR)(m:List UInt8)(x y:Gs)(ks:List Int)(N:Nat):Prop:=EJ sg one m x y ks N∧(y.bad=false→x.bad=false)
theorem a2b{sg:List Sg}{one:Ps→PR}{m:List UInt8}{x:Gs}(h:gsOk sg x):lqJ sg one m x x [] (sg.length+1):=⟨Uo h,fun h=>h⟩
theorem Jk{s:ST}{one:Ps→PR}{m:List UInt8}{x y:Gs}{ks:List Int}{N:Nat}(hs:sgB s.sg)(h:lqJ s.sg one m x y ks N):rOk s y:=Uw hs h
theorem Oy{s:ST}{one:Ps→PR}{m:List UInt8}{x y:Gs}{ks:List Int}{N:Nat}(hs:sgB s.sg)(h:lqJ s.sg one m x y ks N):ks.length≤3000:=Uv hs h
theorem b1M{s:ST}{one:Ps→PR}{m:List UInt8}{x y:Gs}{ks:List Int}{N n:Nat}(hx:wQ 11 n s x)(h:lqJ s.sg one m x y ks N)(hb:y.bad=false)(hq:isG s.sg y 4 m=false):vQ 11 n s (Ah s.sg y m):=by
 rw[CZ hq];exact⟨a0g hx.1.1.1.1 h hb hx.1.1.2 hx.1.2,hx.2⟩
theorem Rm{sg:List Sg}{one:Ps→PR}{m:List UInt8}{x y:Gs}{ks:List Int}{N:Nat}{z:Int×Gs}(h:lqJ sg one m x y ks N)(hq:isG sg y 4 m=false)(hz:Af sg (Ah sg y m) one z)(hc:isG sg z.2 4 [44]=true):
 lqJ sg one m x (Ah sg z.2 [44]) (ks++[z.1]) (N-1)∧N-1<N:=by
 rw[CZ hq] at hz;exact Og h hz hq hc
theorem a2c{s:ST}{one:Ps→PR}{m:List UInt8}{ks0:List Int}{x y:Gs}{ks:List Int}{N:Nat}{z:Int×Gs}(hs:sgB s.sg)(h:lqJ s.sg one m x y ks N)(hq:isG s.sg y 4 m=false)(hz:Af s.sg (Ah s.sg y m) one z)(hc:isG s.sg z.2 4 [44]=false):
 vlQ s.sg one m ks0 x (ks0++ks++[z.1],Al s.sg (Ah s.sg z.2 [44]) m):=by
 rw[CZ hq] at hz
 have a:=Ut h hz hq hc
 refine⟨_,⟨a,?_⟩,?_⟩
 ·have:=Oy hs h;simp;omega
 ·simp only[List.append_assoc]
theorem a2d{s:ST}{one:Ps→PR}{m:List UInt8}{ks0:List Int}{x y:Gs}{ks:List Int}{N:Nat}(hs:sgB s.sg)(h:lqJ s.sg one m x y ks N)(hb:y.bad=true):vlQ s.sg one m ks0 x (ks0++ks,y):=by
 refine⟨_,⟨Up h.1 hb,?_⟩,by simp only[Rh hb]⟩
 have:=Oy hs h;simp only;omega
theorem a2e{s:ST}{one:Ps→PR}{m:List UInt8}{ks0:List Int}{x y:Gs}{ks:List Int}{N:Nat}(hs:sgB s.sg)(h:lqJ s.sg one m x y ks N)(hq:isG s.sg y 4 m=true):vlQ s.sg one m ks0 x (ks0++ks,Ah s.sg y m):=by
 refine⟨_,⟨Uq h.1 hq,?_⟩,by simp only[Da hq,Jj hq]⟩
 have:=Oy hs h;simp only;omega
theorem Fo{s:ST}{y:Gs}{m:List UInt8}(h:rOk s y):rOk s (Ah s.sg y m):=by
 cases hq:isG s.sg y 4 m with
 |true=>rw[Da hq];exact⟨h.1,EY h.2 (Cy hq (by omega)).2⟩
 |false=>rw[CZ hq];exact h
theorem Hk{s:ST}{y:Gs}{k:Int}(h:rOk s y)(hk:k≠0):rOk s (Bf s.sg y k):=by
 unfold Bf;split
 ·rename_i hq;exact⟨h.1,EY h.2 (Rc hk hq).2⟩
 ·exact h
theorem MN{s:ST}{y:Gs}{m:List UInt8}(h:rOk s y):Af s.sg (Ah s.sg y m) (Bz s.sg) (Ax (Bf s.sg (Ah s.sg y m) 1),Ag (Bf s.sg (Ah s.sg y m) 1) ⟨1,BA s.sg (Ah s.sg y m) 1,[],false⟩):=b1r h.1 (Fo h).2
theorem Vn{s:ST}{y:Gs}{m:List UInt8}(h:rOk s y):rOk s (Ag (Bf s.sg (Ah s.sg y m) 1) ⟨1,BA s.sg (Ah s.sg y m) 1,[],false⟩):=⟨h.1,Ey (MN (m:=m) h)⟩
attribute [local irreducible] pE Bl CP fnR Af Bm gsOk Al Bs Ag BX CY Ah Cz Dj Ax BB pkG isG nmG kdG Bf BA Bz vlQ lqJ saI
def DX:Sig:= {X:=ST×Int×Int×Bool×List Nd,args:=fun x=>[srd x.1 (xg x)],pre:=fun x=>rOk x.1 (xg x),Y:=Unit,post:=fun x y=>True,res:=fun x y=> .bool (arG x.1.sg (xg x)),outs:=fun x y=>[srd x.1 (xg x)],keep:=true}
def Rn(x:ST×Int×Int×Bool×List Nd):LS:= {ι:=Int×Nat,inv:=fun i=>saI x.1.sg (xg x).pos i.1 i.2,regs:=fun i=>[(0,srd x.1 (xg x)),(3,.int .i64 i.1)],als:=[],meas:=fun i=>i.2}
theorem b1N:Aj G Tryz.prog 195 DX:=
 vcFun_okP [(106,0,DV)] [] false (fun x=>[(5,Rn x)]) Tryz.func195 rfl (by decide) ⟨Ov,trivial⟩ (fun(x:ST×Int×Int×Bool×List Nd)=>True∧cA DV [srd x.1 (xg x),.int .i64 (4:Int),.str #[(40:UInt8)].toList] fun x_1 y=>Aa (!isG x_1.1.sg (xh x_1) x_1.2.2.2.2.2.1 x_1.2.2.2.2.2.2) (rA DX x [.bool false,srd x_1.1 (xh x_1)]) (inR IntKind.i64 ((xg x).pos+(1:Int))∧eA (Rn x) [srd x_1.1 (xh x_1),.int .i64 ((xg x).pos+(1:Int))]∧∀(i:Int×Nat),saI x.1.sg (xg x).pos i.1 i.2→inR IntKind.i64 (i.1+(1:Int))∧Aa (decide (i.1+(1:Int)<(↑(List.length x.1.sg):Int))) (((0:Int)≤i.1∧i.1<(↑(List.length x.1.sg):Int))∧∀(e:Sg),x.1.sg[Int.toNat i.1]? =some e→Aa (e.kind==(1:Int)) (inR IntKind.i64 (i.1+(1:Int))∧((0:Int)≤i.1+(1:Int)∧i.1+(1:Int)<(↑(List.length x.1.sg):Int))∧∀(e:Sg),x.1.sg[Int.toNat (i.1+(1:Int))]? =some e→Aa (!e.text== #[(44:UInt8)].toList) (inR IntKind.i64 (i.1+(1:Int)+(1:Int))∧Aa (decide (i.1+(1:Int)+(1:Int)<(↑(List.length x.1.sg):Int))) (((0:Int)≤i.1+(1:Int)∧i.1+(1:Int)<(↑(List.length x.1.sg):Int))∧∀(e:Sg),x.1.sg[Int.toNat (i.1+(1:Int))]? =some e→Aa (e.text== #[(41:UInt8)].toList) (((0:Int)≤i.1+(1:Int)∧i.1+(1:Int)<(↑(List.length x.1.sg):Int))∧∀(e:Sg),x.1.sg[Int.toNat (i.1+(1:Int))]? =some e→Aa (e.kind==(4:Int)) (inR IntKind.i64 (i.1+(1:Int)+(1:Int))∧((0:Int)≤i.1+(1:Int)+(1:Int)∧i.1+(1:Int)+(1:Int)<(↑(List.length x.1.sg):Int))∧∀(e:Sg),x.1.sg[Int.toNat (i.1+(1:Int)+(1:Int))]? =some e→Aa (e.text== #[(61:UInt8),(62:UInt8)].toList) (inR IntKind.i64 (i.1+(1:Int)+(1:Int))∧((0:Int)≤i.1+(1:Int)+(1:Int)∧i.1+(1:Int)+(1:Int)<(↑(List.length x.1.sg):Int))∧∀(e:Sg),x.1.sg[Int.toNat (i.1+(1:Int)+(1:Int))]? =some e→rA DX x [.bool (e.kind==(4:Int)),srd x.1 (xg x)]) (rA DX x [.bool false,srd x.1 (xg x)])) (rA DX x [.bool false,srd x.1 (xg x)])) (rA DX x [.bool false,srd x.1 (xg x)])) (rA DX x [.bool false,srd x.1 (xg x)])) (inR IntKind.i64 (i.1+(1:Int)+(1:Int))∧eN (Rn x) i [srd x.1 (xg x),.int .i64 (i.1+(1:Int)+(1:Int))])) (inR IntKind.i64 (i.1+(1:Int))∧Aa (decide (i.1+(1:Int)<(↑(List.length x.1.sg):Int))) (((0:Int)≤i.1∧i.1<(↑(List.length x.1.sg):Int))∧∀(e:Sg),x.1.sg[Int.toNat i.1]? =some e→Aa (e.text== #[(41:UInt8)].toList) (((0:Int)≤i.1∧i.1<(↑(List.length x.1.sg):Int))∧∀(e:Sg),x.1.sg[Int.toNat i.1]? =some e→Aa (e.kind==(4:Int)) (inR IntKind.i64 (i.1+(1:Int))∧((0:Int)≤i.1+(1:Int)∧i.1+(1:Int)<(↑(List.length x.1.sg):Int))∧∀(e:Sg),x.1.sg[Int.toNat (i.1+(1:Int))]? =some e→Aa (e.text== #[(61:UInt8),(62:UInt8)].toList) (inR IntKind.i64 (i.1+(1:Int))∧((0:Int)≤i.1+(1:Int)∧i.1+(1:Int)<(↑(List.length x.1.sg):Int))∧∀(e:Sg),x.1.sg[Int.toNat (i.1+(1:Int))]? =some e→rA DX x [.bool (e.kind==(4:Int)),srd x.1 (xg x)]) (rA DX x [.bool false,srd x.1 (xg x)])) (rA DX x [.bool false,srd x.1 (xg x)])) (rA DX x [.bool false,srd x.1 (xg x)])) (rA DX x [.bool false,srd x.1 (xg x)]))) (inR IntKind.i64 (i.1+(1:Int))∧Aa (decide (i.1+(1:Int)<(↑(List.length x.1.sg):Int))) (((0:Int)≤i.1∧i.1<(↑(List.length x.1.sg):Int))∧∀(e:Sg),x.1.sg[Int.toNat i.1]? =some e→Aa (e.text== #[(41:UInt8)].toList) (((0:Int)≤i.1∧i.1<(↑(List.length x.1.sg):Int))∧∀(e:Sg),x.1.sg[Int.toNat i.1]? =some e→Aa (e.kind==(4:Int)) (inR IntKind.i64 (i.1+(1:Int))∧((0:Int)≤i.1+(1:Int)∧i.1+(1:Int)<(↑(List.length x.1.sg):Int))∧∀(e:Sg),x.1.sg[Int.toNat (i.1+(1:Int))]? =some e→Aa (e.text== #[(61:UInt8),(62:UInt8)].toList) (inR IntKind.i64 (i.1+(1:Int))∧((0:Int)≤i.1+(1:Int)∧i.1+(1:Int)<(↑(List.length x.1.sg):Int))∧∀(e:Sg),x.1.sg[Int.toNat (i.1+(1:Int))]? =some e→rA DX x [.bool (e.kind==(4:Int)),srd x.1 (xg x)]) (rA DX x [.bool false,srd x.1 (xg x)])) (rA DX x [.bool false,srd x.1 (xg x)])) (rA DX x [.bool false,srd x.1 (xg x)])) (rA DX x [.bool false,srd x.1 (xg x)])))) (fun x=>by kernel_rfl) fun(x:ST×Int×Int×Bool×List Nd) (hx:rOk x.1 (xg x))=>(by
 dsimp only[cA,eA,eN,Rn,Bg,Au,rA,DX,DV,Bj,sgs,srd,Av,AB,mvL,lnL,mvE,lnE,Bw]
 obtain⟨s,p,d,b,ns⟩:=x;dsimp only[xg,xh] at hx ⊢
 have hx:rOk s ⟨p,d,b,ns⟩:=hx;have hs:=DK hx;dsimp only at hs
 (repeat' first|(with_reducible first|rfl|exact True.intro|apply AK|apply And.intro|((first|apply Az|apply AI|apply AA|apply AJ)<;>intro _))|(apply Aw<;>intro _)|apply AH|refine Ae () ?_ ?_|((first|apply AO|apply AN|apply AM|apply AL|apply AG|apply AF|apply AE|apply AD|apply AC)<;>try dsimp only)|apply Ae|(refine Prod.forall.2 ?_;intro _;try dsimp only)|(intro _;try dsimp only))
 all_goals(try dsimp only[xg,xh,yG,yS,iG] at*)
 all_goals first
  |(show Nat;skip)
  |rfl
  |exact hx
  |exact b1H hs.1.1.1 hs.1.1.2
  |exact b1L (x:=⟨p,d,b,ns⟩) ‹_›
  |exact(a1Y hs.1.1.1 ‹_› ‹_› (a1Z ‹_› ‹_›) (a2a ‹_› ‹_›)).1
  |(have hq:=b1G (show saI _ _ _ _ by assumption);(try simp only[AR]);omega)
  |omega
  |skip
 all_goals first
  |exact(a1Y hs.1.1.1 ‹_› ‹_› (a1Z ‹_› ‹_›) (a2a ‹_› ‹_›)).2
  |skip
 all_goals(repeat(rename s.sg[_]? =some _=>hq;have hq2:=Ga hq;clear hq;subst hq2))
 all_goals first
  |(refine Vm (x:=⟨p,d,b,ns⟩) ‹_› (b1I ‹_› ‹_› ‹_› ‹_›) ?_;rw[Bool.eq_iff_iff];simp [Fl,Ew, *];done)
  |(refine Vm (x:=⟨p,d,b,ns⟩) ‹_› (b1J ‹_› ‹_›) ?_;rw[Bool.eq_iff_iff];simp [Fl,Ew, *];done)
  |(refine Vm (x:=⟨p,d,b,ns⟩) ‹_› (b1K ‹_› ‹_›) ?_;rw[Bool.eq_iff_iff];simp [Fl,Ew, *];done)
  |skip)
def Gg(n:Nat):Sig:= {X:=ST×Int×Int×Bool×List Nd×List UInt8×List Int,args:=fun x=>[srd x.1 (xh x),.str x.2.2.2.2.2.1,Ab x.2.2.2.2.2.2],pre:=fun x=>wQ 11 n x.1 (xh x)∧x.2.2.2.2.2.2.length≤1,Y:=List Int×Int×Int×Bool×List Nd,post:=fun x y=>vlQ x.1.sg (pE x.1.sg n .value) x.2.2.2.2.2.1 x.2.2.2.2.2.2 (xh x) (yS y),res:=fun x y=>Ab y.1,outs:=fun x y=>[srd x.1 (yG y.2),.top,.top],keep:=true}
def Ro(n:Nat)(x:ST×Int×Int×Bool×List Nd×List UInt8×List Int):LS:= {ι:=Int×Int×Bool×List Nd×List Int×Nat,inv:=fun i=>lqJ x.1.sg (pE x.1.sg n .value) x.2.2.2.2.2.1 (xh x) (iG i) i.2.2.2.2.1 i.2.2.2.2.2,regs:=fun i=>[(0,srd x.1 (iG i)),(1,.str x.2.2.2.2.2.1),(2,Ab (x.2.2.2.2.2.2++i.2.2.2.2.1))],als:=[],meas:=fun i=>i.2.2.2.2.2}
theorem Vo(n:Nat)(h:qAll G n):Aj G Tryz.prog 143 (Gg n):=
 vcFun_okP [(73,0,Cb),(107,0,(Lx n)),(72,0,BN)] [(45,⟨Int,Bb⟩)] false (fun x=>[(1,Ro n x)]) Tryz.func143 rfl (by decide) ⟨Hi,h.val,HM,trivial⟩ (fun(x:ST×Int×Int×Bool×List Nd×List UInt8×List Int)=>True∧eA (Ro n x) [srd x.1 (xh x),.str x.2.2.2.2.2.1,Ab x.2.2.2.2.2.2]∧∀(i:Int×Int×Bool×List Nd×List Int×Nat),lqJ x.1.sg (pE x.1.sg n NT.value) x.2.2.2.2.2.1 (xh x) (iG i) i.2.2.2.2.1 i.2.2.2.2.2→Aa (!(iG i).bad) (cA Cb [srd x.1 (iG i),.str x.2.2.2.2.2.1] fun x_1 y=>Aa (!isG x_1.1.sg (xh x_1) (4:Int) x_1.2.2.2.2.2) (cA (Lx n) [srd x_1.1 (Ah x_1.1.sg (xh x_1) x_1.2.2.2.2.2)] fun x_2 y=>∃(x_3:Int),y.1=x_3∧∃(zs:List Int),Ab [x_3]=Ab zs∧Be Bb∧AS (List.length (x.2.2.2.2.2.2++i.2.2.2.2.1)+List.length zs) (8:Nat)∧cA Cb [srd x_2.1 (yG y.2),.str #[(44:UInt8)].toList] fun x_4 y=>Aa (!isG x_4.1.sg (xh x_4) (4:Int) x_4.2.2.2.2.2) (cA BN [srd x_4.1 (Ah x_4.1.sg (xh x_4) x_4.2.2.2.2.2),.str x.2.2.2.2.2.1] fun x_5 y=>rA (Gg n) x [Ab (x.2.2.2.2.2.2++i.2.2.2.2.1++zs),srd x_5.1 (Al x_5.1.sg (xh x_5) x_5.2.2.2.2.2),.top,.top]) (eN (Ro n x) i [srd x_4.1 (Ah x_4.1.sg (xh x_4) x_4.2.2.2.2.2),.str x.2.2.2.2.2.1,Ab (x.2.2.2.2.2.2++i.2.2.2.2.1++zs)])) (rA (Gg n) x [Ab (x.2.2.2.2.2.2++i.2.2.2.2.1),srd x_1.1 (Ah x_1.1.sg (xh x_1) x_1.2.2.2.2.2),.top,.top])) (rA (Gg n) x [Ab (x.2.2.2.2.2.2++i.2.2.2.2.1),srd x.1 (iG i),.top,.top])) (fun x=>by kernel_rfl) fun(x:ST×Int×Int×Bool×List Nd×List UInt8×List Int) (hx:wQ 11 n x.1 (xh x)∧x.2.2.2.2.2.2.length≤1)=>(by
 dsimp only[cA,eA,eN,Ro,Bg,Ab,Au,rA,Cb,Lx,Gg,BN,Bj,sgs,srd,Av,AB,mvL,lnL,mvE,lnE,Bw]
 obtain⟨s,p,d,b,ns,m,ks0⟩:=x;dsimp only[xg,xh] at hx ⊢
 obtain⟨hx,hk0⟩:=hx
 have hx:wQ 11 n s ⟨p,d,b,ns⟩:=hx
 have hs:=hx.1.1.1.1;have h1:=hx.1.1.1
 (repeat' first|(with_reducible first|rfl|exact True.intro|apply AK|apply And.intro|((first|apply Az|apply AI|apply AA|apply AJ)<;>intro _))|(apply Aw<;>intro _)|apply AH|refine Ae () ?_ ?_|((first|apply AO|apply AN|apply AM|apply AL|apply AG|apply AF|apply AE|apply AD|apply AC)<;>try dsimp only)|apply Ae|(refine Prod.forall.2 ?_;intro _;try dsimp only)|(intro _;try dsimp only))
 all_goals(try dsimp only[xg,xh,yG,yS,iG] at*)
 all_goals(try simp only[CM] at*)
 all_goals first
  |(show Nat;skip)
  |rfl
  |exact h1
  |exact a2b h1.2
  |exact Jk hs ‹_›
  |exact b1M hx ‹_› ‹_› ‹_›
  |exact Dq h1 ‹_›
  |exact Fo (Dq h1 ‹_›)
  |exact(Rm ‹_› ‹_› ‹_› ‹_›).1
  |exact a2c hs ‹_› ‹_› ‹_› ‹_›
  |exact a2d hs ‹_› ‹_›
  |exact a2e hs ‹_› ‹_›
  |(simp;done)
  |(have hq:=Oy hs (show lqJ _ _ _ _ _ _ _ by assumption);(try simp only[AS,List.length_append,List.length_cons,List.length_nil]);omega)
  |skip
 all_goals first
  |exact(Rm ‹_› ‹_› ‹_› ‹_›).2
  |(simp;done)
  |skip)
def Gh:Sig:= {X:=ST×Int×Int×Bool×List Nd,args:=fun x=>[srd x.1 (xg x)],pre:=fun x=>rOk x.1 (xg x),Y:=List Int×Int×Int×Bool×List Nd,post:=fun x y=>vlQ x.1.sg (Bz x.1.sg) [41] [] (Al x.1.sg (xg x) [40]) (yS y),res:=fun x y=>Ab y.1,outs:=fun x y=>[srd x.1 (yG y.2)],keep:=true}
def Rp(x:ST×Int×Int×Bool×List Nd):LS:= {ι:=Int×Int×Bool×List Nd×List Int×Nat,inv:=fun i=>lqJ x.1.sg (Bz x.1.sg) [41] (Al x.1.sg (xg x) [40]) (iG i) i.2.2.2.2.1 i.2.2.2.2.2,regs:=fun i=>[(0,srd x.1 (iG i)),(3,Ab i.2.2.2.2.1)],als:=[],meas:=fun i=>i.2.2.2.2.2}
theorem Vp:Aj G Tryz.prog 74 Gh:=
 vcFun_okP [(73,0,Cb),(72,0,BN),(43,0,Bq),(69,0,CF)] [(45,⟨Int,Bb⟩)] false (fun x=>[(3,Rp x)]) Tryz.func74 rfl (by decide) ⟨Hi,HM,Hj,Kk,trivial⟩ (fun(x:ST×Int×Int×Bool×List Nd)=>True∧cA BN [srd x.1 (xg x),.str #[(40:UInt8)].toList] fun x_1 y=>eA (Rp x) [srd x_1.1 (Al x_1.1.sg (xh x_1) x_1.2.2.2.2.2),Ab []]∧∀(i:Int×Int×Bool×List Nd×List Int×Nat),lqJ x.1.sg (Bz x.1.sg) [(41:UInt8)] (Al x.1.sg (xg x) [(40:UInt8)]) (iG i) i.2.2.2.2.1 i.2.2.2.2.2→Aa (!(iG i).bad) (cA Cb [srd x.1 (iG i),.str #[(41:UInt8)].toList] fun x_2 y=>Aa (!isG x_2.1.sg (xh x_2) (4:Int) x_2.2.2.2.2.2) (cA CF [srd x_2.1 (Ah x_2.1.sg (xh x_2) x_2.2.2.2.2.2),.int .i64 (1:Int)] fun x_3 y=>cA Bq [srd x_3.1 (Bf x_3.1.sg (xh x_3) x_3.2.2.2.2.2),.int .i64 (1:Int),.str (BA x_3.1.sg (xh x_3) x_3.2.2.2.2.2),Ab []] fun x_4 y=>∃(x_5:Int),Ax (xh x_4)=x_5∧∃(zs:List Int),Ab [x_5]=Ab zs∧Be Bb∧AS (List.length i.2.2.2.2.1+List.length zs) (8:Nat)∧cA Cb [srd x_4.1 (Ag (xh x_4) {kind:=x_4.2.2.2.2.2.1,text:=x_4.2.2.2.2.2.2.1,kids:=x_4.2.2.2.2.2.2.2,blank:=false}),.str #[(44:UInt8)].toList] fun x_6 y=>Aa (!isG x_6.1.sg (xh x_6) (4:Int) x_6.2.2.2.2.2) (cA BN [srd x_6.1 (Ah x_6.1.sg (xh x_6) x_6.2.2.2.2.2),.str #[(41:UInt8)].toList] fun x_7 y=>rA Gh x [Ab (i.2.2.2.2.1++zs),srd x_7.1 (Al x_7.1.sg (xh x_7) x_7.2.2.2.2.2)]) (eN (Rp x) i [srd x_6.1 (Ah x_6.1.sg (xh x_6) x_6.2.2.2.2.2),Ab (i.2.2.2.2.1++zs)])) (rA Gh x [Ab i.2.2.2.2.1,srd x_2.1 (Ah x_2.1.sg (xh x_2) x_2.2.2.2.2.2)])) (rA Gh x [Ab i.2.2.2.2.1,srd x.1 (iG i)])) (fun x=>by kernel_rfl) fun(x:ST×Int×Int×Bool×List Nd) (hx:rOk x.1 (xg x))=>(by
 dsimp only[cA,eA,eN,Rp,Bg,Ab,Au,rA,Cb,Gh,Bq,CF,BN,Bj,sgs,srd,Av,AB,mvL,lnL,mvE,lnE,Bw]
 obtain⟨s,p,d,b,ns⟩:=x;dsimp only[xg,xh] at hx ⊢
 have h1:rOk s ⟨p,d,b,ns⟩:=hx;have hs:=h1.1
 have t:=Ef (m:=[40]) h1
 (repeat' first|(with_reducible first|rfl|exact True.intro|apply AK|apply And.intro|((first|apply Az|apply AI|apply AA|apply AJ)<;>intro _))|(apply Aw<;>intro _)|apply AH|refine Ae () ?_ ?_|((first|apply AO|apply AN|apply AM|apply AL|apply AG|apply AF|apply AE|apply AD|apply AC)<;>try dsimp only)|apply Ae|(refine Prod.forall.2 ?_;intro _;try dsimp only)|(intro _;try dsimp only))
 all_goals(try dsimp only[xg,xh,yG,yS,iG] at*)
 all_goals(try simp only[CM] at*)
 all_goals first
  |(show Nat;skip)
  |rfl
  |exact h1
  |omega
  |exact a2b t.1.2
  |exact Jk hs ‹_›
  |exact Fo (Jk hs ‹_›)
  |exact Hk (Fo (Jk hs ‹_›)) (by omega)
  |exact Vn (Jk hs ‹_›)
  |exact Fo (Vn (Jk hs ‹_›))
  |exact(Rm ‹_› ‹_› (MN (Jk hs ‹_›)) ‹_›).1
  |exact a2c (ks0:=[]) hs ‹_› ‹_› (MN (Jk hs ‹_›)) ‹_›
  |exact a2d (ks0:=[]) hs ‹_› ‹_›
  |exact a2e (ks0:=[]) hs ‹_› ‹_›
  |(have hq:=Oy hs (show lqJ _ _ _ _ _ _ _ by assumption);(try simp only[AS,List.length_append,List.length_cons,List.length_nil]);omega)
  |skip
 all_goals first
  |exact(Rm ‹_› ‹_› (MN (Jk hs ‹_›)) ‹_›).2
  |skip)
end Go.My
end
section
set_option linter.unusedVariables false
set_option linter.unusedSimpArgs false
namespace Go.My
open Go.Eng Go.Proofs
variable {G:GInv}
theorem Jl{sg:List Sg}{x:Gs}{k:Int}(h:kdG sg x k=false)(hk:k≠1):(pkG sg x 0).kind≠k:=by
 rw[Ow hk] at h;simpa using h
theorem b1O{sg:List Sg}{x:Gs}{n:Nat}{k:Int}{y:Gs}(hs:sgB sg)(h:gsOk sg x)(h1:kdG sg x 1=false)(hk:(pkG sg x 0).kind=1)(hy:y=Bd x):Af sg x (pE sg (n+1) .base) (k,y):=by
 have a:=Ur (n:=n) hs h hk
 rw[Ix] at h1
 rw[Dj,Cz,if_neg (by simp [h1]),if_neg (by simp [h1])] at a
 subst hy
 exact ML a h rfl (Int.le_refl _) rfl (fun hb=>by simp [Bd] at hb)
theorem b1P{sg:List Sg}{x:Gs}{n:Nat}(hs:sgB sg)(h:gsOk sg x)(h1:kdG sg x 1=true):Af sg x (pE sg (n+1) .base) (Ax (Bf sg x 1),Ag (Bf sg x 1) ⟨1,BA sg x 1,[],false⟩):=by
 have hn:=h1
 rw[Ix] at hn
 have a:=Ur (n:=n) hs h (by simp [nmG] at hn;exact hn.1)
 rw[Dj,Cz,if_pos hn,if_pos hn] at a
 exact MM hs h (by omega) h1 a
theorem a2f{sg:List Sg}{x:Gs}{n:Nat}{k:Int}(hs:sgB sg)(h:gsOk sg x)(hk:k=2∨k=3)(h1:kdG sg x k=true):Af sg x (pE sg (n+1) .base) (Ax (Bf sg x k),Ag (Bf sg x k) ⟨k,BA sg x k,[],false⟩):=by
 have hn:=h1
 rw[Ow (by omega)] at hn
 exact MM hs h (by omega) h1 (Us hs h (by simpa using hn) hk)
theorem Vq{sg:List Sg}{x:Gs}{m:List UInt8}(hq:isG sg x 4 m=true):(pkG sg x 0).kind≠1:=by
 simp [isG] at hq;rw[hq.1];omega
theorem b1Q{s:ST}{x:Gs}{n:Nat}{v:List Int×Gs}(h:rOk s x)(h1:kdG s.sg x 1=false)(h2:kdG s.sg x 2=false)(h3:kdG s.sg x 3=false)(hq:isG s.sg x 4 [91]=true)(hv:vlQ s.sg (pE s.sg n .value) [93] [] (Ah s.sg x [91]) v):
 Af s.sg x (pE s.sg (n+1) .base) (Ax v.2,Ag v.2 ⟨4,[],v.1,false⟩):=by
 rw[Da hq] at hv
 obtain⟨l,⟨a,b⟩,rfl⟩:=hv
 exact HN a.1 ⟨by simp,by simp;omega⟩ (a0c h.2 (Vq hq) (Jl h2 (by omega)) (Jl h3 (by omega)) hq a b)
theorem b1R{s:ST}{x:Gs}{n:Nat}{v:List Int×Gs}{z:Int×Gs}(hm:sgM s.sg)(h:rOk s x)(h1:kdG s.sg x 1=false)(h2:kdG s.sg x 2=false)(h3:kdG s.sg x 3=false)(hn:isG s.sg x 4 [91]=false)(ha:arG s.sg (Ah s.sg x [91])=true)
 (hv:vlQ s.sg (Bz s.sg) [41] [] (Al s.sg (Ah s.sg x [91]) [40]) v) (hz:Af s.sg (Al s.sg v.2 [61,62]) (pE s.sg n .pick) z):Af s.sg x (pE s.sg (n+1) .base) (Ax z.2,Ag z.2 ⟨9,[],v.1++[z.1],false⟩):=by
 rw[CZ hn] at ha hv
 simp only[arG,Bool.and_eq_true] at ha
 obtain⟨l,⟨a,b⟩,rfl⟩:=hv
 refine b1E hm h.2 (Vq ha.1) (Jl h2 (by omega)) (Jl h3 (by omega)) hn ha.1 (fun s0 hs=> ?_) (a0f (l:=l) h.2 a b hz)
 obtain⟨_,rfl⟩:=Ep.1 hs;exact ha.2
theorem b1S{s:ST}{x:Gs}{n:Nat}{z:Int×Gs}(hm:sgM s.sg)(h:rOk s x)(h1:kdG s.sg x 1=false)(h2:kdG s.sg x 2=false)(h3:kdG s.sg x 3=false)(hn:isG s.sg x 4 [91]=false)(ha:arG s.sg (Ah s.sg x [91])=false)(hb:(Al s.sg (Ah s.sg x [91]) [40]).bad=false)
 (hz:Af s.sg (Al s.sg (Ah s.sg x [91]) [40]) (pE s.sg n .value) z):Af s.sg x (pE s.sg (n+1) .base) (Ax (Al s.sg z.2 [41]),Ag (Al s.sg z.2 [41]) ⟨11,[],[z.1],false⟩):=by
 rw[CZ hn] at ha hb hz
 have hq:isG s.sg x 4 [40]=true:=by
  cases hq:isG s.sg x 4 [40] with
  |true=>rfl
  |false=>rw[Ox hq] at hb;cases hb
 rw[Jj hq] at hz
 simp only[arG,hq,Bool.true_and] at ha
 refine b1F hm h.2 (Vq hq) (Jl h2 (by omega)) (Jl h3 (by omega)) hn hq (fun s0 hs=> ?_) hz
 obtain⟨_,rfl⟩:=Ep.1 hs;exact ha
theorem b1T{s:ST}{x:Gs}{n:Nat}{k:Int}(h:rOk s x)(h1:kdG s.sg x 1=false)(h2:kdG s.sg x 2=false)(h3:kdG s.sg x 3=false)(hn:isG s.sg x 4 [91]=false)(hx:x.bad=false)(hb:(Al s.sg (Ah s.sg x [91]) [40]).bad=true):
 Af s.sg x (pE s.sg (n+1) .base) (k,Al s.sg (Ah s.sg x [91]) [40]):=by
 rw[CZ hn] at hb ⊢
 have hq:isG s.sg x 4 [40]=false:=by
  cases hq:isG s.sg x 4 [40] with
  |false=>rfl
  |true=>rw[Jj hq] at hb;simp only[Ai] at hb;rw[hx] at hb;cases hb
 rw[Ox hq]
 rcases Classical.em ((pkG s.sg x 0).kind=1) with e|e
 ·exact b1O h.1 h.2 h1 e rfl
 ·exact a0e h.2 e (Jl h2 (by omega)) (Jl h3 (by omega)) hn hq
theorem b1U{s:ST}{x:Gs}{n:Nat}(hx:wQ 1 (n+1) s x)(hq:isG s.sg x 4 [91]=true):wQ 11 n s (Ah s.sg x [91]):=by
 rw[Da hq];exact⟨(Qv hq (by omega) hx.1.1.1 hx.1.1.2 hx.1.2 (by omega)).1,hx.2⟩
theorem b1V{s:ST}{x:Gs}{n:Nat}{v:List Int×Gs}(hx:wQ 1 (n+1) s x)(hn:isG s.sg x 4 [91]=false)(ha:arG s.sg (Ah s.sg x [91])=true)(hv:vlQ s.sg (Bz s.sg) [41] [] (Al s.sg (Ah s.sg x [91]) [40]) v):vQ 10 n s (Al s.sg v.2 [61,62]):=by
 rw[CZ hn] at ha hv
 simp only[arG,Bool.and_eq_true] at ha
 obtain⟨l,a,rfl⟩:=hv
 exact⟨a0l (x:=x) (n:=n) (l:=l) hx.1.1.1 (hx.1.1.2 (Cy ha.1 (by omega)).1) ha.1 (by have:=hx.1.2;omega) a,hx.2⟩
theorem b1W{s:ST}{x:Gs}{n:Nat}(hx:wQ 1 (n+1) s x)(hn:isG s.sg x 4 [91]=false)(hb:(Al s.sg (Ah s.sg x [91]) [40]).bad=false):vQ 11 n s (Al s.sg (Ah s.sg x [91]) [40]):=by
 rw[CZ hn] at hb ⊢
 have hq:isG s.sg x 4 [40]=true:=by
  cases hq:isG s.sg x 4 [40] with
  |true=>rfl
  |false=>rw[Ox hq] at hb;cases hb
 rw[Jj hq];exact⟨(Qv hq (by omega) hx.1.1.1 hx.1.1.2 hx.1.2 (by omega)).2,hx.2⟩
theorem Vr{s:ST}{one:Ps→PR}{m:List UInt8}{ks0:List Int}{x:Gs}{y:List Int×Gs}(hs:sgB s.sg)(h:vlQ s.sg one m ks0 x y):rOk s y.2:=(Vl hs h).1
theorem Vs{s:ST}{one:Ps→PR}{m:List UInt8}{ks0:List Int}{x:Gs}{y:List Int×Gs}(hs:sgB s.sg)(h:vlQ s.sg one m ks0 x y):y.1.length≤ks0.length+3001:=(Vl hs h).2.1
def eqJ(sg:List Sg)(n:Nat)(x y:Gs)(k:Int)(N:Nat):Prop:=enI sg n x y k N∧(y.bad=false→y.deep≤20)
theorem b1X{s:ST}{x:Gs}{n:Nat}{z:Int×Gs}(hx:wQ 2 (n+1) s x)(hz:Af s.sg x (pE s.sg n .base) z):eqJ s.sg n x z.2 z.1 (s.sg.length+1):=Uz hx.1.1.1 hx.1.1.2 hz
theorem a2g{s:ST}{x y:Gs}{n:Nat}{k:Int}{N:Nat}(hx:wQ 2 (n+1) s x)(h:eqJ s.sg n x y k N):rOk s y:=⟨hx.1.1.1.1,h.1.1.1⟩
theorem b1Y{s:ST}{x y:Gs}{n:Nat}{k:Int}{N:Nat}(hx:wQ 2 (n+1) s x)(h:eqJ s.sg n x y k N)(hq:isG s.sg y 4 [40]=true):wQ 11 n s (Ah s.sg y [40]):=by
 have hb:=(Cy hq (by omega)).1
 have:=h.1.2.2 hb;have:=hx.1.2
 have hl:=Cy hq (by omega)
 rw[Da hq]
 have e1:(Ai y).pos=y.pos+1:=rfl
 have e2:(Ai y).deep=y.deep:=rfl
 exact⟨⟨⟨⟨hx.1.1.1.1,EY h.1.1.1 hl.2⟩,fun _=>by rw[e2];exact h.2 hb⟩,by omega⟩,hx.2⟩
theorem a2h{s:ST}{x y:Gs}{n:Nat}{k:Int}{N:Nat}{v:List Int×Gs}(hx:wQ 2 (n+1) s x)(h:eqJ s.sg n x y k N)(hq:isG s.sg y 4 [40]=true)(hv:vlQ s.sg (pE s.sg n .value) [41] [k] (Ah s.sg y [40]) v):
 eqJ s.sg n x (Ag v.2 ⟨5,[],v.1,false⟩) (Ax v.2) (N-1)∧N-1<N:=by
 rw[Da hq,←Jj hq] at hv
 have hw:=a1X h.1.1.1 hv
 exact Qw h hw hq
theorem a2i{s:ST}{x y:Gs}{n:Nat}{k:Int}{N:Nat}(hx:wQ 2 (n+1) s x)(h:eqJ s.sg n x y k N)(hp:isG s.sg y 4 [40]=false)(hq:isG s.sg (Ah s.sg y [40]) 4 [46]=true):
 eqJ s.sg n x (Ag (Bf s.sg (Ah s.sg (Ah s.sg y [40]) [46]) 1) ⟨6,BA s.sg (Ah s.sg (Ah s.sg y [40]) [46]) 1,[k],false⟩) (Ax (Bf s.sg (Ah s.sg (Ah s.sg y [40]) [46]) 1)) (N-1)∧N-1<N:=by
 rw[CZ hp] at hq ⊢
 rw[Da hq]
 obtain⟨a,b⟩:=b1A hx.1.1.1.1 h.1 hp hq
 refine⟨⟨a,fun _=> ?_⟩,b⟩
 rw[Qy]
 have:=h.2 (Cy hq (by omega)).1
 have e:(Bf s.sg (Ai y) 1).deep=y.deep:=by unfold Bf;split<;>rfl
 omega
theorem Vt{s:ST}{x y:Gs}{n:Nat}{k:Int}{N:Nat}(hx:wQ 2 (n+1) s x)(h:eqJ s.sg n x y k N):rOk s (Ah s.sg y [40])∧rOk s (Ah s.sg (Ah s.sg y [40]) [46])∧rOk s (Bf s.sg (Ah s.sg (Ah s.sg y [40]) [46]) 1):=
 have a:=Fo (m:=[40]) (a2g hx h)
 ⟨a,Fo a,Hk (Fo a) (by omega)⟩
theorem b1Z{s:ST}{x y:Gs}{n:Nat}{k:Int}{N:Nat}(h:eqJ s.sg n x y k N)(hb:y.bad=true):Af s.sg x (pE s.sg (n+1) .fin) (k,y):=ZY h.1 hb
theorem b2a{s:ST}{x y:Gs}{n:Nat}{k:Int}{N:Nat}(h:eqJ s.sg n x y k N)(hb:y.bad=false)(hp:isG s.sg y 4 [40]=false)(hq:isG s.sg (Ah s.sg y [40]) 4 [46]=false):Af s.sg x (pE s.sg (n+1) .fin) (k,Ah s.sg (Ah s.sg y [40]) [46]):=by
 rw[CZ hp] at hq ⊢
 rw[CZ hq];exact a0b h.1 hb hp hq
attribute [local irreducible] pE Bl CP fnR Af Bm gsOk Al Bs Ag BX CY Ah Cz Dj Ax BB pkG isG nmG kdG Bf BA Bz vlQ lqJ saI arG eqJ
def Iy(n:Nat):Sig:= {X:=ST×Int×Int×Bool×List Nd,args:=fun x=>[srd x.1 (xg x)],pre:=fun x=>wQ 1 (n+1) x.1 (xg x),Y:=Int×Int×Int×Bool×List Nd,post:=fun x y=>Af x.1.sg (xg x) (pE x.1.sg (n+1) .base) (yS y),res:=fun x y=> .int .i64 y.1,outs:=fun x y=>[srd x.1 (yG y.2)],keep:=true}
theorem b2b(n:Nat)(h:qAll G n):Aj G Tryz.prog 191 (Iy n):=
 vcFun_okP [(68,0,DW),(69,0,CF),(43,0,Bq),(73,0,Cb),(143,0,(Gg n)),(195,0,DX),(74,0,Gh),(72,0,BN),(142,0,(GG n)),(107,0,(Lx n))] [(45,⟨Int,Bb⟩)] false (fun x=>[]) Tryz.func191 rfl (by decide) ⟨Rd,Kk,Hj,Hi,(Vo n h),b1N,Vp,HM,h.pick,h.val,trivial⟩ (fun(x:ST×Int×Int×Bool×List Nd)=>True∧Aa (xg x).bad (rA (Iy n) x [.int .i64 (0:Int),srd x.1 (xg x)]) (cA DW [srd x.1 (xg x),.int .i64 (1:Int)] fun x_1 y=>Aa (kdG x_1.1.sg (xh x_1) x_1.2.2.2.2.2) (cA CF [srd x_1.1 (xh x_1),.int .i64 (1:Int)] fun x_2 y=>cA Bq [srd x_2.1 (Bf x_2.1.sg (xh x_2) x_2.2.2.2.2.2),.int .i64 (1:Int),.str (BA x_2.1.sg (xh x_2) x_2.2.2.2.2.2),Ab []] fun x_3 y=>rA (Iy n) x [.int .i64 (Ax (xh x_3)),srd x_3.1 (Ag (xh x_3) {kind:=x_3.2.2.2.2.2.1,text:=x_3.2.2.2.2.2.2.1,kids:=x_3.2.2.2.2.2.2.2,blank:=false})]) (cA DW [srd x_1.1 (xh x_1),.int .i64 (2:Int)] fun x_2 y=>Aa (kdG x_2.1.sg (xh x_2) x_2.2.2.2.2.2) (cA CF [srd x_2.1 (xh x_2),.int .i64 (2:Int)] fun x_3 y=>cA Bq [srd x_3.1 (Bf x_3.1.sg (xh x_3) x_3.2.2.2.2.2),.int .i64 (2:Int),.str (BA x_3.1.sg (xh x_3) x_3.2.2.2.2.2),Ab []] fun x_4 y=>rA (Iy n) x [.int .i64 (Ax (xh x_4)),srd x_4.1 (Ag (xh x_4) {kind:=x_4.2.2.2.2.2.1,text:=x_4.2.2.2.2.2.2.1,kids:=x_4.2.2.2.2.2.2.2,blank:=false})]) (cA DW [srd x_2.1 (xh x_2),.int .i64 (3:Int)] fun x_3 y=>Aa (kdG x_3.1.sg (xh x_3) x_3.2.2.2.2.2) (cA CF [srd x_3.1 (xh x_3),.int .i64 (3:Int)] fun x_4 y=>cA Bq [srd x_4.1 (Bf x_4.1.sg (xh x_4) x_4.2.2.2.2.2),.int .i64 (3:Int),.str (BA x_4.1.sg (xh x_4) x_4.2.2.2.2.2),Ab []] fun x_5 y=>rA (Iy n) x [.int .i64 (Ax (xh x_5)),srd x_5.1 (Ag (xh x_5) {kind:=x_5.2.2.2.2.2.1,text:=x_5.2.2.2.2.2.2.1,kids:=x_5.2.2.2.2.2.2.2,blank:=false})]) (cA Cb [srd x_3.1 (xh x_3),.str #[(91:UInt8)].toList] fun x_4 y=>Aa (isG x_4.1.sg (xh x_4) (4:Int) x_4.2.2.2.2.2) (cA (Gg n) [srd x_4.1 (Ah x_4.1.sg (xh x_4) x_4.2.2.2.2.2),.str #[(93:UInt8)].toList,Ab []] fun x_5 y=>cA Bq [srd x_5.1 (yG y.2),.int .i64 (4:Int),.str #[].toList,Ab y.1] fun x_6 y=>rA (Iy n) x [.int .i64 (Ax (xh x_6)),srd x_6.1 (Ag (xh x_6) {kind:=x_6.2.2.2.2.2.1,text:=x_6.2.2.2.2.2.2.1,kids:=x_6.2.2.2.2.2.2.2,blank:=false})]) (cA DX [srd x_4.1 (Ah x_4.1.sg (xh x_4) x_4.2.2.2.2.2)] fun x_5 y=>Aa (arG x_5.1.sg (xg x_5)) (cA Gh [srd x_5.1 (xg x_5)] fun x_6 y=>cA BN [srd x_6.1 (yG y.2),.str #[(61:UInt8),(62:UInt8)].toList] fun x_7 y_1=>cA (GG n) [srd x_7.1 (Al x_7.1.sg (xh x_7) x_7.2.2.2.2.2)] fun x_8 y_2=>∃(x_9:Int),y_2.1=x_9∧∃(zs:List Int),Ab [x_9]=Ab zs∧Be Bb∧AS (List.length y.1+List.length zs) (8:Nat)∧cA Bq [srd x_8.1 (yG y_2.2),.int .i64 (9:Int),.str #[].toList,Ab (y.1++zs)] fun x_10 y=>rA (Iy n) x [.int .i64 (Ax (xh x_10)),srd x_10.1 (Ag (xh x_10) {kind:=x_10.2.2.2.2.2.1,text:=x_10.2.2.2.2.2.2.1,kids:=x_10.2.2.2.2.2.2.2,blank:=false})]) (cA BN [srd x_5.1 (xg x_5),.str #[(40:UInt8)].toList] fun x_6 y=>Aa (Al x_6.1.sg (xh x_6) x_6.2.2.2.2.2).bad (rA (Iy n) x [.int .i64 (0:Int),srd x_6.1 (Al x_6.1.sg (xh x_6) x_6.2.2.2.2.2)]) (cA (Lx n) [srd x_6.1 (Al x_6.1.sg (xh x_6) x_6.2.2.2.2.2)] fun x_7 y=>cA BN [srd x_7.1 (yG y.2),.str #[(41:UInt8)].toList] fun x_8 y_1=>∃(x_9:Int),y.1=x_9∧cA Bq [srd x_8.1 (Al x_8.1.sg (xh x_8) x_8.2.2.2.2.2),.int .i64 (11:Int),.str #[].toList,Ab [x_9]] fun x_10 y=>rA (Iy n) x [.int .i64 (Ax (xh x_10)),srd x_10.1 (Ag (xh x_10) {kind:=x_10.2.2.2.2.2.1,text:=x_10.2.2.2.2.2.2.1,kids:=x_10.2.2.2.2.2.2.2,blank:=false})])))))))) (fun x=>by kernel_rfl) fun(x:ST×Int×Int×Bool×List Nd) (hx:wQ 1 (n+1) x.1 (xg x))=>(by
 dsimp only[cA,Bg,Ab,Au,rA,DX,Iy,DW,Cb,Gh,GG,Bq,CF,Lx,Gg,BN,Bj,sgs,srd,Av,AB,mvL,lnL,mvE,lnE]
 obtain⟨s,p,d,b,ns⟩:=x;dsimp only[xg,xh] at hx ⊢
 have hx:wQ 1 (n+1) s ⟨p,d,b,ns⟩:=hx
 have h1:=hx.1.1.1;have hs:=h1.1
 (repeat' first|(with_reducible first|rfl|exact True.intro|apply AK|apply And.intro|((first|apply Az|apply AI|apply AA|apply AJ)<;>intro _))|(apply Aw<;>intro _)|apply AH|refine Ae () ?_ ?_|((first|apply AO|apply AN|apply AM|apply AL|apply AG|apply AF|apply AE|apply AD|apply AC)<;>try dsimp only)|apply Ae|(refine Prod.forall.2 ?_;intro _;try dsimp only)|(intro _;try dsimp only))
 all_goals(try dsimp only[xg,xh,yG,yS,iG] at*)
 all_goals(try simp only[CM] at*)
 all_goals first
  |rfl
  |exact h1
  |omega
  |(simp;done)
  |exact a1W h1.2 ‹_›
  |exact b1P hs h1.2 ‹_›
  |exact a2f hs h1.2 (.inl rfl) ‹_›
  |exact a2f hs h1.2 (.inr rfl) ‹_›
  |exact Hk h1 (by omega)
  |exact b1U hx ‹_›
  |exact b1Q h1 ‹_› ‹_› ‹_› ‹_› ‹_›
  |exact Vr hs ‹_›
  |exact Fo h1
  |exact b1V hx ‹_› ‹_› ‹_›
  |exact b1W hx ‹_› ‹_›
  |exact(Ef (Fo h1)).1
  |exact Dq h1 ‹_›
  |exact(Ef (Dq h1 ‹_›)).1
  |exact b1R hx.2 h1 ‹_› ‹_› ‹_› ‹_› ‹_› ‹_› ‹_›
  |exact b1S hx.2 h1 ‹_› ‹_› ‹_› ‹_› ‹_› ‹_› ‹_›
  |exact b1T h1 ‹_› ‹_› ‹_› ‹_› ‹_› ‹_›
  |(have hq:=Vs hs (show vlQ _ _ _ [] _ _ by assumption);(try simp only[AS,List.length_append,List.length_cons,List.length_nil] at*);omega)
  |skip)
def Rq(n:Nat):Sig:= {X:=ST×Int×Int×Bool×List Nd,args:=fun x=>[srd x.1 (xg x)],pre:=fun x=>wQ 2 (n+1) x.1 (xg x),Y:=Int×Int×Int×Bool×List Nd,post:=fun x y=>Af x.1.sg (xg x) (pE x.1.sg (n+1) .fin) (yS y),res:=fun x y=> .int .i64 y.1,outs:=fun x y=>[srd x.1 (yG y.2)],keep:=true}
def Oz(n:Nat)(x:ST×Int×Int×Bool×List Nd):LS:= {ι:=Int×Int×Bool×List Nd×Int×Nat,inv:=fun i=>eqJ x.1.sg n (xg x) (iG i) i.2.2.2.2.1 i.2.2.2.2.2,regs:=fun i=>[(0,srd x.1 (iG i)),(3,.int .i64 i.2.2.2.2.1)],als:=[],meas:=fun i=>i.2.2.2.2.2}
theorem b2c(n:Nat)(h:qAll G n):Aj G Tryz.prog 185 (Rq n):=
 vcFun_okP [(191,0,(Rl n)),(73,0,Cb),(143,0,(Gg n)),(43,0,Bq),(69,0,CF)] [(45,⟨Int,Bb⟩)] false (fun x=>[(2,Oz n x)]) Tryz.func185 rfl (by decide) ⟨h.base,Hi,(Vo n h),Hj,Kk,trivial⟩ (fun(x:ST×Int×Int×Bool×List Nd)=>True∧cA (Rl n) [srd x.1 (xg x)] fun x_1 y=>eA (Oz n x) [srd x_1.1 (yG y.2),.int .i64 y.1]∧∀(i:Int×Int×Bool×List Nd×Int×Nat),eqJ x.1.sg n (xg x) (iG i) i.2.2.2.2.1 i.2.2.2.2.2→Aa (!(iG i).bad) (cA Cb [srd x.1 (iG i),.str #[(40:UInt8)].toList] fun x_2 y=>Aa (isG x_2.1.sg (xh x_2) (4:Int) x_2.2.2.2.2.2) (∃(x_3:Int),i.2.2.2.2.1=x_3∧cA (Gg n) [srd x_2.1 (Ah x_2.1.sg (xh x_2) x_2.2.2.2.2.2),.str #[(41:UInt8)].toList,Ab [x_3]] fun x_4 y=>cA Bq [srd x_4.1 (yG y.2),.int .i64 (5:Int),.str #[].toList,Ab y.1] fun x_5 y=>eN (Oz n x) i [srd x_5.1 (Ag (xh x_5) {kind:=x_5.2.2.2.2.2.1,text:=x_5.2.2.2.2.2.2.1,kids:=x_5.2.2.2.2.2.2.2,blank:=false}),.int .i64 (Ax (xh x_5))]) (cA Cb [srd x_2.1 (Ah x_2.1.sg (xh x_2) x_2.2.2.2.2.2),.str #[(46:UInt8)].toList] fun x_3 y=>Aa (isG x_3.1.sg (xh x_3) (4:Int) x_3.2.2.2.2.2) (cA CF [srd x_3.1 (Ah x_3.1.sg (xh x_3) x_3.2.2.2.2.2),.int .i64 (1:Int)] fun x_4 y=>∃(x_5:Int),i.2.2.2.2.1=x_5∧cA Bq [srd x_4.1 (Bf x_4.1.sg (xh x_4) x_4.2.2.2.2.2),.int .i64 (6:Int),.str (BA x_4.1.sg (xh x_4) x_4.2.2.2.2.2),Ab [x_5]] fun x_6 y=>eN (Oz n x) i [srd x_6.1 (Ag (xh x_6) {kind:=x_6.2.2.2.2.2.1,text:=x_6.2.2.2.2.2.2.1,kids:=x_6.2.2.2.2.2.2.2,blank:=false}),.int .i64 (Ax (xh x_6))]) (rA (Rq n) x [.int .i64 i.2.2.2.2.1,srd x_3.1 (Ah x_3.1.sg (xh x_3) x_3.2.2.2.2.2)]))) (rA (Rq n) x [.int .i64 i.2.2.2.2.1,srd x.1 (iG i)])) (fun x=>by kernel_rfl) fun(x:ST×Int×Int×Bool×List Nd) (hx:wQ 2 (n+1) x.1 (xg x))=>(by
 dsimp only[cA,eA,eN,Oz,Bg,Ab,Au,rA,Rl,Rq,Cb,Bq,CF,Gg,Bj,sgs,srd,Av,AB,mvL,lnL,mvE,lnE,Bw]
 obtain⟨s,p,d,b,ns⟩:=x;dsimp only[xg,xh] at hx ⊢
 have hx:wQ 2 (n+1) s ⟨p,d,b,ns⟩:=hx
 have h1:=hx.1.1.1;have hs:=h1.1
 (repeat' first|(with_reducible first|rfl|exact True.intro|apply AK|apply And.intro|((first|apply Az|apply AI|apply AA|apply AJ)<;>intro _))|(apply Aw<;>intro _)|apply AH|refine Ae () ?_ ?_|((first|apply AO|apply AN|apply AM|apply AL|apply AG|apply AF|apply AE|apply AD|apply AC)<;>try dsimp only)|apply Ae|(refine Prod.forall.2 ?_;intro _;try dsimp only)|(intro _;try dsimp only))
 all_goals(try dsimp only[xg,xh,yG,yS,iG] at*)
 all_goals(try simp only[CM] at*)
 all_goals first
  |(show Nat;skip)
  |rfl
  |exact⟨a0v hx.1.1.1 hx.1.1.2 hx.1.2,hx.2⟩
  |exact b1X hx ‹_›
  |exact a2g hx ‹_›
  |exact b1Y hx ‹_› ‹_›
  |exact(Vt hx ‹_›).1
  |exact(Vt hx ‹_›).2.1
  |exact(Vt hx ‹_›).2.2
  |exact Vr hs ‹_›
  |exact(a2h hx ‹_› ‹_› ‹_›).1
  |exact(a2i hx ‹_› ‹_› ‹_›).1
  |exact b1Z ‹_› ‹_›
  |exact b2a ‹_› ‹_› ‹_› ‹_›
  |omega
  |(simp;done)
  |skip
 all_goals first
  |exact(a2h hx ‹_› ‹_› ‹_›).2
  |exact(a2i hx ‹_› ‹_› ‹_›).2
  |skip)
end Go.My
end
section
set_option linter.unusedVariables false
set_option linter.unusedSimpArgs false
namespace Go.My
open Go.Eng Go.Proofs
variable {G:GInv}
theorem bt{a b:List UInt8}(h:(a==b)=true):a=b:=by simpa using h
theorem bf{a b:List UInt8}(h:(a==b)=false):a≠b:=by simpa using h
def csJ(sg:List Sg)(n l:Nat)(x y:Gs)(t:List UInt8)(ks:List Int)(N:Nat):Prop:=chS sg n l x y t ks N∧(y.bad=false→y.deep≤20)
theorem b2d{s:ST}{x:Gs}{n:Nat}{l:Int}(hx:wQ (9-l.toNat) (n+1) s x)(hl:l>5)(h6:l≤6):wQ 2 n s x:=by
 have e:l.toNat=6:=by omega
 have a:=hx.1.2
 rw[e] at a
 exact⟨⟨hx.1.1,by omega⟩,hx.2⟩
theorem b2e{s:ST}{x:Gs}{n:Nat}{l:Int}{z:Int×Gs}(hl:l>5)(h6:l≤6)(h:Af s.sg x (pE s.sg n .fin) z):Af s.sg x (pE s.sg (n+1) (.chain l.toNat)) z:=a0y (by omega) h
theorem b2f{s:ST}{x:Gs}{n:Nat}{l:Int}(hx:wQ (9-l.toNat) (n+1) s x)(h0:0≤l)(hl:¬l>5):wQ (9-(l+1).toNat) n s x:=⟨⟨hx.1.1,by have:=hx.1.2;omega⟩,hx.2⟩
theorem b2g{s:ST}{x:Gs}{n:Nat}{l:Int}{z:Int×Gs}(hx:wQ (9-l.toNat) (n+1) s x)(h0:0≤l)(hl:¬l>5)(hz:Af s.sg x (pE s.sg n (.chain (l+1).toNat)) z):csJ s.sg n l.toNat x z.2 [] [z.1] (2*s.sg.length+4):=by
 rw[show(l+1).toNat=l.toNat+1 by omega] at hz
 exact⟨b1s hx.1.1.1.2 (by omega) hz,Lk hz hx.1.1.2⟩
theorem a2j{s:ST}{x y:Gs}{n l:Nat}{t:List UInt8}{ks:List Int}{N:Nat}(hs:sgB s.sg)(h:csJ s.sg n l x y t ks N):rOk s y:=⟨hs,h.1.1.1⟩
theorem a2k{s:ST}{x y:Gs}{n l:Nat}{t:List UInt8}{ks:List Int}{N:Nat}{i:Int}{m:List UInt8}(hs:sgB s.sg)(h:csJ s.sg n l x y t ks N)(hq:mkQ s.sg y l i m):rOk s (gM y m):=by
 unfold gM;split
 ·exact a2j hs h
 ·rename_i hm
  rcases hq.2 with h2|h2
  ·exact(hm h2.1).elim
  ·have hg:=(Hc (sg:=s.sg) (l:=l) (g:=y) (by rw[←h2.2];exact hm)).1
   exact⟨hs,EY h.1.1.1 (Cy hg (by omega)).2⟩
theorem a2l{s:ST}{x y:Gs}{n:Nat}{l:Int}{t:List UInt8}{ks:List Int}{N:Nat}{i:Int}{m:List UInt8}(hx:wQ (9-l.toNat) (n+1) s x)(h0:0≤l)(hl:¬l>5)(h:csJ s.sg n l.toNat x y t ks N)(hq:mkQ s.sg y l.toNat i m)(hm:m≠[]):wQ (9-(l+1).toNat) n s (gM y m):=by
 have hr:=a2k hx.1.1.1.1 h hq
 rw[Ri hm] at hr ⊢
 rcases hq.2 with h2|h2
 ·exact(hm h2.1).elim
 ·have hg:=(Hc (sg:=s.sg) (l:=l.toNat) (g:=y) (by rw[←h2.2];exact hm)).1
  have hb:=Cy hg (by omega)
  have e1:(Ai y).pos=y.pos+1:=rfl
  have e2:(Ai y).deep=y.deep:=rfl
  have:=h.1.1.2.2.1;have:=hx.1.2;have:=h.2 hb.1
  exact⟨⟨⟨hr,fun _=>by omega⟩,by omega⟩,hx.2⟩
theorem b2h{s:ST}{x y:Gs}{n:Nat}{l:Int}{t:List UInt8}{ks:List Int}{N:Nat}{i:Int}{m:List UInt8}(hx:wQ (9-l.toNat) (n+1) s x)(h0:0≤l)(hl:¬l>5)(h:csJ s.sg n l.toNat x y t ks N)(hq:mkQ s.sg y l.toNat i m)(hm:m≠[])(ht:t≠[]):wQ (9-(l+1).toNat) n s (Ag (gM y m) ⟨7,t,ks,false⟩):=by
 have a:=a2l hx h0 hl h hq hm
 obtain⟨d1,d2,d3⟩:= @Hb (gM y m) ⟨7,t,ks,false⟩
 have hw:=Vi (ks:=ks) hx.1.1.1.1 (h.1.2.2.2.2.2 ht).2 (by have:=h.1.2.2.1;have:=h.1.1.1.1;omega)
 exact⟨⟨⟨⟨a.1.1.1.1,Ir a.1.1.1.2 hw⟩,fun hb=>by rw[d1];exact a.1.1.2 (d3 hb)⟩,by rw[d2];exact a.1.2⟩,a.2⟩
theorem Rr{s:ST}{x y:Gs}{n:Nat}{l:Int}{t:List UInt8}{ks:List Int}{N:Nat}{i:Int}{m:List UInt8}{z:Int×Gs}(h0:0≤l)(h:csJ s.sg n l.toNat x y t ks N)(hq:mkQ s.sg y l.toNat i m)(hi:¬i<((Bu l.toNat).length:Int))(hm:m≠[])(ht:t=[]∨m=t)
 (hz:Af s.sg (gM y m) (pE s.sg n (.chain (l+1).toNat)) z):csJ s.sg n l.toNat x z.2 m (ks++[z.1]) (N-1)∧N-1<N:=by
 have e:=Rj hq hi
 rw[Ri hm,show(l+1).toNat=l.toNat+1 by omega] at hz
 obtain⟨a,b⟩:=b1t h.1 (by rw[←e];exact hm) (by rw[←e];exact ht) hz
 rw[←e] at a
 have hg:=(Hc (sg:=s.sg) (l:=l.toNat) (g:=y) (by rw[←e];exact hm)).1
 exact⟨⟨a,Lk hz (fun _=>h.2 (Cy hg (by omega)).1)⟩,b⟩
theorem a2m{s:ST}{x y:Gs}{n:Nat}{l:Int}{t:List UInt8}{ks:List Int}{N:Nat}{i:Int}{m:List UInt8}{z:Int×Gs}(hs:sgB s.sg)(h0:0≤l)(h:csJ s.sg n l.toNat x y t ks N)(hq:mkQ s.sg y l.toNat i m)(hi:¬i<((Bu l.toNat).length:Int))(hm:m≠[])(ht:t≠[])(hne:m≠t)
 (hz:Af s.sg (Ag (gM y m) ⟨7,t,ks,false⟩) (pE s.sg n (.chain (l+1).toNat)) z):csJ s.sg n l.toNat x z.2 m ([Ax (gM y m)]++[z.1]) (N-2)∧N-2<N:=by
 have e:=Rj hq hi
 rw[Ri hm] at hz ⊢
 rw[show(l+1).toNat=l.toNat+1 by omega] at hz
 obtain⟨a,b⟩:=b1u hs h.1 (by rw[←e];exact hm) ht (by rw[←e];exact hne) hz
 rw[←e] at a
 have hg:=(Hc (sg:=s.sg) (l:=l.toNat) (g:=y) (by rw[←e];exact hm)).1
 refine⟨⟨a,Lk hz (fun hb=> ?_)⟩,b⟩
 rw[Qy];exact h.2 (Cy hg (by omega)).1
theorem b2i{s:ST}{x y:Gs}{n l:Nat}{t:List UInt8}{ks:List Int}{N:Nat}{i:Int}{m:List UInt8}{k:Int}(h:csJ s.sg n l x y t ks N)(hq:mkQ s.sg y l i m)(hi:¬i<((Bu l).length:Int))(hm:m=[])(hl:(ks.length:Int)=1)(hk:ks[(0:Int).toNat]? =some k):Af s.sg x (pE s.sg (n+1) (.chain l)) (k,gM y m):=by
 have e:=Rj hq hi
 subst hm
 exact a1U h.1 (.inr e.symm) (by omega) hk
theorem b2j{s:ST}{x y:Gs}{n l:Nat}{t:List UInt8}{ks:List Int}{N:Nat}{i:Int}{m:List UInt8}(hs:sgB s.sg)(h:csJ s.sg n l x y t ks N)(hq:mkQ s.sg y l i m)(hi:¬i<((Bu l).length:Int))(hm:m=[])(hl:(ks.length:Int)≠1):Af s.sg x (pE s.sg (n+1) (.chain l)) (Ax (gM y m),Ag (gM y m) ⟨7,t,ks,false⟩):=by
 have e:=Rj hq hi
 subst hm
 exact a1V hs h.1 (.inr e.symm) (by omega)
theorem b2k{s:ST}{x y:Gs}{n l:Nat}{t:List UInt8}{ks:List Int}{N:Nat}{k:Int}(h:csJ s.sg n l x y t ks N)(hb:y.bad=true)(hl:(ks.length:Int)=1)(hk:ks[(0:Int).toNat]? =some k):Af s.sg x (pE s.sg (n+1) (.chain l)) (k,y):=a1U h.1 (.inl hb) (by omega) hk
theorem b2l{s:ST}{x y:Gs}{n l:Nat}{t:List UInt8}{ks:List Int}{N:Nat}(hs:sgB s.sg)(h:csJ s.sg n l x y t ks N)(hb:y.bad=true)(hl:(ks.length:Int)≠1):Af s.sg x (pE s.sg (n+1) (.chain l)) (Ax y,Ag y ⟨7,t,ks,false⟩):=a1V hs h.1 (.inl hb) (by omega)
theorem b2m{s:ST}{x y:Gs}{n l:Nat}{t:List UInt8}{ks:List Int}{N:Nat}(hs:sgB s.sg)(h:csJ s.sg n l x y t ks N):ks.length≤3001∧1≤ks.length:=by
 have h1:=h.1.2.2.1;have h2:=h.1.1.1.1.2;have h3:=hs.1
 refine⟨by omega,?_⟩
 rcases Classical.em (t=[]) with e|e
 ·have:=h.1.2.2.2.2.1 e;omega
 ·have:=(h.1.2.2.2.2.2 e).1;omega
theorem b2n{sg:List Sg}{y:Gs}{l:Nat}{i:Int}{m:List UInt8}(h:mkQ sg y l i m):(0≤i∧i≤(Bu l).length)∧(Bu l).length≤2:=⟨h.1,a0n⟩
theorem Kl{sg:List Sg}{y:Gs}{l:Nat}{i:Int}{m v:List UInt8}(h:mkQ sg y l i m)(hm:m=[])(ha:(Bu l)[i.toNat]? =some v)(hg:isG sg (gM y m) 4 v=true):
 (Ah sg (gM y m) v).pos=(gM y v).pos∧(Ah sg (gM y m) v).bad=(gM y v).bad∧(Ah sg (gM y m) v).deep=(gM y v).deep∧(Ah sg (gM y m) v).nodes=(gM y v).nodes:=by
 rw[(Vk h hm ha hg).2];exact⟨rfl,rfl,rfl,rfl⟩
theorem b2o{sg:List Sg}{p d:Int}{b:Bool}{ns:List Nd}{f:Ps→PR}{z:Int×Gs}(hd:d≤20)(h:d+1>20)(hz:Af sg ⟨p,d+1,true,ns⟩ f z):Af sg (pkX ⟨p,d,b,ns⟩) f z:=by
 have e:pkX ⟨p,d,b,ns⟩=⟨p,d+1,true,ns⟩:=by simp only[pkX];rw[if_pos (show d=20 by omega)];rfl
 rw[e];exact hz
theorem b2p{sg:List Sg}{p d:Int}{b:Bool}{ns:List Nd}{f:Ps→PR}{z:Int×Gs}(h:¬d+1>20)(hz:Af sg ⟨p,d+1,b,ns⟩ f z):Af sg (pkX ⟨p,d,b,ns⟩) f z:=by
 have e:pkX ⟨p,d,b,ns⟩=⟨p,d+1,b,ns⟩:=by simp only[pkX];rw[if_neg (show¬d=20 by omega)];rfl
 rw[e];exact hz
theorem b2q{s:ST}{p d:Int}{b:Bool}{ns:List Nd}{n:Nat}(hx:vQ 10 (n+1) s ⟨p,d,b,ns⟩)(h:d+1>20):wQ (9-(0:Int).toNat) n s ⟨p,d+1,true,ns⟩:=by
 have a:=(Qx hx.1.1.1 hx.1.1.2 hx.1.2).1
 have hd:=hx.1.1.2;simp only at hd
 have e:pkX ⟨p,d,b,ns⟩=⟨p,d+1,true,ns⟩:=by simp only[pkX];rw[if_pos (show d=20 by omega)];rfl
 rw[e] at a;exact⟨a,hx.2⟩
theorem b2r{s:ST}{p d:Int}{b:Bool}{ns:List Nd}{n:Nat}(hx:vQ 10 (n+1) s ⟨p,d,b,ns⟩)(h:¬d+1>20):wQ (9-(0:Int).toNat) n s ⟨p,d+1,b,ns⟩:=by
 have a:=(Qx hx.1.1.1 hx.1.1.2 hx.1.2).1
 have e:pkX ⟨p,d,b,ns⟩=⟨p,d+1,b,ns⟩:=by simp only[pkX];rw[if_neg (show¬d=20 by omega)];rfl
 rw[e] at a;exact⟨a,hx.2⟩
theorem b2s{s:ST}{x y:Gs}{n:Nat}{ks:List Int}{N:Nat}(hx:vQ 11 (n+1) s x)(h:vaJ s.sg n x y ks N)(hq:isG s.sg y 4 [46,46]=true):
 wQ 11 n s (Al s.sg (Ag (Bf s.sg (Ah s.sg y [46,46]) 1) ⟨1,BA s.sg (Ah s.sg y [46,46]) 1,[],false⟩) [40]):=by
 have hr:=Qz hx.1.1.1 h
 have a:=MN (m:=[46,46]) hr
 have e:=CC a
 have t:=FE (m:=[40]) (Ey a)
 rw[Da hq] at a e t ⊢
 simp only at e t
 have e1:(Ai y).pos=y.pos+1:=rfl
 have e2:(Ai y).deep=y.deep:=rfl
 have:=h.1.1.2.2.1;have:=h.2;have:=hx.1.2
 exact⟨⟨⟨⟨hx.1.1.1.1,t.1⟩,fun _=>by omega⟩,by omega⟩,hx.2⟩
theorem a2n{s:ST}{x y:Gs}{n:Nat}{ks:List Int}{N:Nat}{v:List Int×Gs}(hs:sgB s.sg)(h:vaJ s.sg n x y ks N)(hq:isG s.sg y 4 [46,46]=true)
 (hv:vlQ s.sg (pE s.sg n .value) [41] [Ax (Bf s.sg (Ah s.sg y [46,46]) 1)] (Al s.sg (Ag (Bf s.sg (Ah s.sg y [46,46]) 1) ⟨1,BA s.sg (Ah s.sg y [46,46]) 1,[],false⟩) [40]) v):
 vaJ s.sg n x (Ag v.2 ⟨5,[],v.1,false⟩) (ks++[Ax v.2]) (N-1)∧N-1<N:=by
 have a:=MN (m:=[46,46]) (show rOk s y from⟨hs,h.1.1.1⟩)
 have hw:=a1X (Ey a) hv
 have e:=(CC a).1
 rw[Da hq] at a e
 obtain⟨c1,c2⟩:=Hd (b1B h.1 hq a (by rw[Da hq] at hw;exact hw))
 have e2:(Ai y).deep=y.deep:=rfl
 have e3:=(CC hw).1
 rw[Da hq] at e3
 have:=h.2
 exact⟨UC ⟨c1,by simp only at*;omega⟩,c2⟩
theorem Vu{s:ST}{x y:Gs}{n:Nat}{ks:List Int}{N:Nat}(hs:sgB s.sg)(h:vaJ s.sg n x y ks N):rOk s (Ah s.sg y [46,46])∧rOk s (Bf s.sg (Ah s.sg y [46,46]) 1)∧rOk s (Ag (Bf s.sg (Ah s.sg y [46,46]) 1) ⟨1,BA s.sg (Ah s.sg y [46,46]) 1,[],false⟩):=
 have hr:rOk s y:=⟨hs,h.1.1.1⟩
 ⟨Fo hr,Hk (Fo hr) (by omega),Vn hr⟩
def lqI(s:ST)(e:Int)(j:Int×Int×Bool×List Nd×List UInt8×List Int×Nat):LS:= {
 ι:=Int×List UInt8,inv:=fun i=>mkQ s.sg (iF j) e.toNat i.1 i.2,regs:=fun i=>[(0,srd s (gM (iF j) i.2)),(1,.int .i64 e),(5,Ab j.2.2.2.2.2.1),(6,.str j.2.2.2.2.1),(7,.sl false 0 1 (List UInt8) BW (Bu e.toNat)),(8,.str i.2),(9,.int .i64 i.1)],als:=[],meas:=fun i=>(Bu e.toNat).length-i.1.toNat}
def lqO(n:Nat)(x:ST×Int×Int×Bool×List Nd×Int):LS:= {
 ι:=Int×Int×Bool×List Nd×List UInt8×List Int×Nat,inv:=fun i=>csJ x.1.sg n x.2.2.2.2.2.toNat (xh x) (iF i) i.2.2.2.2.1 i.2.2.2.2.2.1 i.2.2.2.2.2.2,regs:=fun i=>[(0,srd x.1 (iF i)),(1,.int .i64 x.2.2.2.2.2),(5,Ab i.2.2.2.2.2.1),(6,.str i.2.2.2.2.1),(7,.sl false 0 1 (List UInt8) BW (Bu x.2.2.2.2.2.toNat))],als:=[],meas:=fun i=>i.2.2.2.2.2.2,
 sub:=fun j=>[(9,lqI x.1 x.2.2.2.2.2 j)]}
attribute [local irreducible] pE Bl CP fnR Af Bm gsOk Al Bs Ag BX CY Ah Cz Dj Ax BB pkG isG nmG kdG Bf BA Bz vlQ lqJ saI arG eqJ csJ mkQ gM vaJ
def HQ:Sig:= {X:=Int,args:=fun x=>[.int .i64 x],pre:=fun x=>0≤x∧x≤5,Y:=Unit,post:=fun x y=>True,res:=fun x y=> .sl false 0 1 (List UInt8) BW (Bu x.toNat),outs:=fun x y=>[.top],keep:=true}
theorem b2t:Aj G Tryz.prog 186 HQ:=
 vcFun_okP [] [(41,⟨List UInt8,BW⟩)] false (fun x=>[]) Tryz.func186 rfl (by decide) trivial (fun(x:Int)=>True∧Aa (x==(0:Int)) (∃(x_1:List UInt8),#[(124:UInt8),(124:UInt8)].toList=x_1∧rA HQ x [AV.sl true (0:Nat) (1:Nat) (List UInt8) BW [x_1],.top]) (Aa (x==(1:Int)) (∃(x_1:List UInt8),#[(38:UInt8),(38:UInt8)].toList=x_1∧rA HQ x [AV.sl true (0:Nat) (1:Nat) (List UInt8) BW [x_1],.top]) (Aa (x==(2:Int)) (∃(x_1:List UInt8),#[(61:UInt8),(61:UInt8)].toList=x_1∧rA HQ x [AV.sl true (0:Nat) (1:Nat) (List UInt8) BW [x_1],.top]) (Aa (x==(3:Int)) (∃(x_1:List UInt8),#[(60:UInt8)].toList=x_1∧rA HQ x [AV.sl true (0:Nat) (1:Nat) (List UInt8) BW [x_1],.top]) (Aa (x==(4:Int)) (∃(x_1:List UInt8),#[(43:UInt8)].toList=x_1∧∃(x_2:List UInt8),#[(45:UInt8)].toList=x_2∧rA HQ x [AV.sl true (0:Nat) (1:Nat) (List UInt8) BW [x_1,x_2],.top]) (∃(x_1:List UInt8),#[(42:UInt8)].toList=x_1∧rA HQ x [AV.sl true (0:Nat) (1:Nat) (List UInt8) BW [x_1],.top])))))) (fun x=>by kernel_rfl) fun(x:Int) (hx:0≤x∧x≤5)=>(by
 dsimp only[rA,HQ,Av,AB]
 obtain⟨h1,h2⟩:=hx
 have hh:x=0∨x=1∨x=2∨x=3∨x=4∨x=5:=by omega
 rcases hh with rfl|rfl|rfl|rfl|rfl|rfl
 all_goals(repeat' first|(with_reducible first|rfl|exact True.intro|apply AK|apply And.intro|((first|apply Az|apply AI|apply AA|apply AJ)<;>intro _))|(apply Aw<;>intro _)|apply AH|refine Ae () ?_ ?_|((first|apply AO|apply AN|apply AM|apply AL|apply AG|apply AF|apply AE|apply AD|apply AC)<;>try dsimp only)|apply Ae|(refine Prod.forall.2 ?_;intro _;try dsimp only)|(intro _;try dsimp only))
 all_goals first
  |rfl
  |omega
  |(simp [AS];done)
  |skip)
def Ly(n:Nat):Sig:= {X:=ST×Int×Int×Bool×List Nd×Int,args:=fun x=>[srd x.1 (xh x),.int .i64 x.2.2.2.2.2],pre:=fun x=>wQ (9-x.2.2.2.2.2.toNat) (n+1) x.1 (xh x)∧0≤x.2.2.2.2.2∧x.2.2.2.2.2≤6,Y:=Int×Int×Int×Bool×List Nd,post:=fun x y=>Af x.1.sg (xh x) (pE x.1.sg (n+1) (.chain x.2.2.2.2.2.toNat)) (yS y),res:=fun x y=> .int .i64 y.1,outs:=fun x y=>[srd x.1 (yG y.2),.top],keep:=true}
theorem b2u(n:Nat)(h:qAll G n):Aj G Tryz.prog 171 (Ly n):=
 vcFun_okP [(185,0,(Rk n)),(171,0,(HP n)),(186,0,HQ),(73,0,Cb),(43,0,Bq)] [(45,⟨Int,Bb⟩),(41,⟨List UInt8,BW⟩)] false (fun x=>[(6,lqO n x)]) Tryz.func171 rfl (by decide) ⟨h.fin,h.chain,b2t,Hi,Hj,trivial⟩ (fun(x:ST×Int×Int×Bool×List Nd×Int)=>True∧Aa (decide (x.2.2.2.2.2>(5:Int))) (cA (Rk n) [srd x.1 (xh x)] fun x_1 y=>rA (Ly n) x [.int .i64 y.1,srd x_1.1 (yG y.2),.top]) (inR IntKind.i64 (x.2.2.2.2.2+(1:Int))∧cA (HP n) [srd x.1 (xh x),.int .i64 (x.2.2.2.2.2+(1:Int))] fun x_1 y=>∃(x_2:Int),y.1=x_2∧cA HQ [.int .i64 x.2.2.2.2.2] fun x_3 y_1=>eA (lqO n x) [srd x_1.1 (yG y.2),.int .i64 x.2.2.2.2.2,Ab [x_2],.str #[].toList,AV.sl false (0:Nat) (1:Nat) (List UInt8) BW (Bu (Int.toNat x_3))]∧∀(i:Int×Int×Bool×List Nd×List UInt8×List Int×Nat),csJ x.1.sg n (Int.toNat x.2.2.2.2.2) (xh x) (iF i) i.2.2.2.2.1 i.2.2.2.2.2.1 i.2.2.2.2.2.2→Aa (!(iF i).bad) (eA (lqI x.1 x.2.2.2.2.2 i) [srd x.1 (iF i),.int .i64 x.2.2.2.2.2,Ab i.2.2.2.2.2.1,.str i.2.2.2.2.1,AV.sl false (0:Nat) (1:Nat) (List UInt8) BW (Bu (Int.toNat x.2.2.2.2.2)),.str #[].toList,.int .i64 (0:Int)]∧∀(i_1:Int×List UInt8),mkQ x.1.sg (iF i) (Int.toNat x.2.2.2.2.2) i_1.1 i_1.2→Aa (decide (i_1.1<(↑(List.length (Bu (Int.toNat x.2.2.2.2.2))):Int))) (Aa (i_1.2== #[].toList) (((0:Int)≤i_1.1∧i_1.1<(↑(List.length (Bu (Int.toNat x.2.2.2.2.2))):Int))∧∀(e:List UInt8),(Bu (Int.toNat x.2.2.2.2.2))[Int.toNat i_1.1]? =some e→cA Cb [srd x.1 (gM (iF i) i_1.2),.str e] fun x_4 y=>Aa (isG x_4.1.sg (xh x_4) (4:Int) x_4.2.2.2.2.2) (((0:Int)≤i_1.1∧i_1.1<(↑(List.length (Bu (Int.toNat x.2.2.2.2.2))):Int))∧∀(e:List UInt8),(Bu (Int.toNat x.2.2.2.2.2))[Int.toNat i_1.1]? =some e→inR IntKind.i64 (i_1.1+(1:Int))∧eN (lqI x.1 x.2.2.2.2.2 i) i_1 [srd x_4.1 (Ah x_4.1.sg (xh x_4) x_4.2.2.2.2.2),.int .i64 x.2.2.2.2.2,Ab i.2.2.2.2.2.1,.str i.2.2.2.2.1,AV.sl false (0:Nat) (1:Nat) (List UInt8) BW (Bu (Int.toNat x.2.2.2.2.2)),.str e,.int .i64 (i_1.1+(1:Int))]) (inR IntKind.i64 (i_1.1+(1:Int))∧eN (lqI x.1 x.2.2.2.2.2 i) i_1 [srd x_4.1 (Ah x_4.1.sg (xh x_4) x_4.2.2.2.2.2),.int .i64 x.2.2.2.2.2,Ab i.2.2.2.2.2.1,.str i.2.2.2.2.1,AV.sl false (0:Nat) (1:Nat) (List UInt8) BW (Bu (Int.toNat x.2.2.2.2.2)),.str i_1.2,.int .i64 (i_1.1+(1:Int))])) (inR IntKind.i64 (i_1.1+(1:Int))∧eN (lqI x.1 x.2.2.2.2.2 i) i_1 [srd x.1 (gM (iF i) i_1.2),.int .i64 x.2.2.2.2.2,Ab i.2.2.2.2.2.1,.str i.2.2.2.2.1,AV.sl false (0:Nat) (1:Nat) (List UInt8) BW (Bu (Int.toNat x.2.2.2.2.2)),.str i_1.2,.int .i64 (i_1.1+(1:Int))])) (Aa (i_1.2== #[].toList) (Aa ((↑(List.length i.2.2.2.2.2.1):Int)==(1:Int)) (((0:Int)≤(0:Int)∧(0:Int)<(↑(List.length i.2.2.2.2.2.1):Int))∧(0:Nat)<List.length i.2.2.2.2.2.1∧∀(x_4:Int),i.2.2.2.2.2.1[(0:Nat)]? =some x_4→rA (Ly n) x [.int .i64 x_4,srd x.1 (gM (iF i) i_1.2),.top]) (cA Bq [srd x.1 (gM (iF i) i_1.2),.int .i64 (7:Int),.str i.2.2.2.2.1,Ab i.2.2.2.2.2.1] fun x_4 y=>rA (Ly n) x [.int .i64 (Ax (xh x_4)),srd x_4.1 (Ag (xh x_4) {kind:=x_4.2.2.2.2.2.1,text:=x_4.2.2.2.2.2.2.1,kids:=x_4.2.2.2.2.2.2.2,blank:=false}),.top])) (Aa (!i.2.2.2.2.1== #[].toList) (Aa (!i_1.2==i.2.2.2.2.1) (cA Bq [srd x.1 (gM (iF i) i_1.2),.int .i64 (7:Int),.str i.2.2.2.2.1,Ab i.2.2.2.2.2.1] fun x_4 y=>∃(x_5:Int),Ax (xh x_4)=x_5∧inR IntKind.i64 (x.2.2.2.2.2+(1:Int))∧cA (HP n) [srd x_4.1 (Ag (xh x_4) {kind:=x_4.2.2.2.2.2.1,text:=x_4.2.2.2.2.2.2.1,kids:=x_4.2.2.2.2.2.2.2,blank:=false}),.int .i64 (x.2.2.2.2.2+(1:Int))] fun x_6 y=>∃(x_7:Int),y.1=x_7∧∃(zs:List Int),Ab [x_7]=Ab zs∧Be Bb∧AS (List.length [x_5]+List.length zs) (8:Nat)∧eN (lqO n x) i [srd x_6.1 (yG y.2),.int .i64 x.2.2.2.2.2,Ab ([x_5]++zs),.str i_1.2,AV.sl false (0:Nat) (1:Nat) (List UInt8) BW (Bu (Int.toNat x.2.2.2.2.2))]) (inR IntKind.i64 (x.2.2.2.2.2+(1:Int))∧cA (HP n) [srd x.1 (gM (iF i) i_1.2),.int .i64 (x.2.2.2.2.2+(1:Int))] fun x_4 y=>∃(x_5:Int),y.1=x_5∧∃(zs:List Int),Ab [x_5]=Ab zs∧Be Bb∧AS (List.length i.2.2.2.2.2.1+List.length zs) (8:Nat)∧eN (lqO n x) i [srd x_4.1 (yG y.2),.int .i64 x.2.2.2.2.2,Ab (i.2.2.2.2.2.1++zs),.str i_1.2,AV.sl false (0:Nat) (1:Nat) (List UInt8) BW (Bu (Int.toNat x.2.2.2.2.2))])) (inR IntKind.i64 (x.2.2.2.2.2+(1:Int))∧cA (HP n) [srd x.1 (gM (iF i) i_1.2),.int .i64 (x.2.2.2.2.2+(1:Int))] fun x_4 y=>∃(x_5:Int),y.1=x_5∧∃(zs:List Int),Ab [x_5]=Ab zs∧Be Bb∧AS (List.length i.2.2.2.2.2.1+List.length zs) (8:Nat)∧eN (lqO n x) i [srd x_4.1 (yG y.2),.int .i64 x.2.2.2.2.2,Ab (i.2.2.2.2.2.1++zs),.str i_1.2,AV.sl false (0:Nat) (1:Nat) (List UInt8) BW (Bu (Int.toNat x.2.2.2.2.2))])))) (Aa ((↑(List.length i.2.2.2.2.2.1):Int)==(1:Int)) (((0:Int)≤(0:Int)∧(0:Int)<(↑(List.length i.2.2.2.2.2.1):Int))∧(0:Nat)<List.length i.2.2.2.2.2.1∧∀(x_4:Int),i.2.2.2.2.2.1[(0:Nat)]? =some x_4→rA (Ly n) x [.int .i64 x_4,srd x.1 (iF i),.top]) (cA Bq [srd x.1 (iF i),.int .i64 (7:Int),.str i.2.2.2.2.1,Ab i.2.2.2.2.2.1] fun x_4 y=>rA (Ly n) x [.int .i64 (Ax (xh x_4)),srd x_4.1 (Ag (xh x_4) {kind:=x_4.2.2.2.2.2.1,text:=x_4.2.2.2.2.2.2.1,kids:=x_4.2.2.2.2.2.2.2,blank:=false}),.top])))) (fun x=>by kernel_rfl) fun(x:ST×Int×Int×Bool×List Nd×Int) (hx:wQ (9-x.2.2.2.2.2.toNat) (n+1) x.1 (xh x)∧0≤x.2.2.2.2.2∧x.2.2.2.2.2≤6)=>(by
 dsimp only[cA,eA,eN,lqI,lqO,Bg,Ab,Au,rA,HP,Ly,Rk,HQ,Cb,Bq,Bj,sgs,srd,Av,AB,mvL,lnL,mvE,lnE,Bw]
 obtain⟨s,p,d,b,ns,e⟩:=x;dsimp only[xg,xh] at hx ⊢
 obtain⟨hx,h4,h5⟩:=hx
 have hx:wQ (9-e.toNat) (n+1) s ⟨p,d,b,ns⟩:=hx
 have h1:=hx.1.1.1;have hs:=h1.1
 (repeat' first|(with_reducible first|rfl|exact True.intro|apply AK|apply And.intro|((first|apply Az|apply AI|apply AA|apply AJ)<;>intro _))|(apply Aw<;>intro _)|apply AH|refine Ae () ?_ ?_|((first|apply AO|apply AN|apply AM|apply AL|apply AG|apply AF|apply AE|apply AD|apply AC)<;>try dsimp only)|apply Ae|(refine Prod.forall.2 ?_;intro _;try dsimp only)|(intro _;try dsimp only))
 all_goals(try dsimp only[xg,xh,yG,yS,iG,iF] at*)
 all_goals(try simp only[CM] at*)
 all_goals first
  |(show Nat;skip)
  |rfl
  |assumption
  |exact h1
  |exact b2d hx ‹_› h5
  |exact b2e ‹_› h5 ‹_›
  |exact b2f hx h4 ‹_›
  |exact b2g hx h4 ‹_› ‹_›
  |exact a2j hs ‹_›
  |exact a2k hs ‹_› ‹_›
  |exact b1v
  |(simp only[Vj];done)
  |exact(Kl ‹_› ‹_› ‹_› ‹_›).1
  |exact(Kl ‹_› ‹_› ‹_› ‹_›).2.1
  |exact(Kl ‹_› ‹_› ‹_› ‹_›).2.2.1
  |exact(Kl ‹_› ‹_› ‹_› ‹_›).2.2.2
  |exact b1w ‹_› ‹_› ‹_› ‹_›
  |exact(Vk ‹_› ‹_› ‹_› ‹_›).1
  |exact b1x ‹_› ‹_› ‹_›
  |exact a2l hx h4 ‹_› ‹_› ‹_› ‹_›
  |exact b2h hx h4 ‹_› ‹_› ‹_› ‹_› (bf ‹_›)
  |exact(a2m hs h4 ‹_› ‹_› ‹_› ‹_› (bf ‹_›) (bf ‹_›) ‹_›).1
  |exact(Rr h4 ‹_› ‹_› ‹_› ‹_› (.inl (bt ‹_›)) ‹_›).1
  |exact(Rr h4 ‹_› ‹_› ‹_› ‹_› (.inr (bt ‹_›)) ‹_›).1
  |exact b2i ‹_› ‹_› ‹_› ‹_› ‹_› ‹_›
  |exact b2j hs ‹_› ‹_› ‹_› ‹_› ‹_›
  |exact b2k ‹_› ‹_› ‹_› ‹_›
  |exact b2l hs ‹_› ‹_› ‹_›
  |((try simp only[AR]);omega)
  |(have hq:=b2n (show mkQ _ _ _ _ _ by assumption);(try simp only[AR]);omega)
  |(have hq:=b2m hs (show csJ _ _ _ _ _ _ _ _ by assumption);(try simp only[AS,List.length_append,List.length_cons,List.length_nil]);omega)
  |skip
 all_goals first
  |exact(a2m hs h4 ‹_› ‹_› ‹_› ‹_› (bf ‹_›) (bf ‹_›) ‹_›).2
  |exact(Rr h4 ‹_› ‹_› ‹_› ‹_› (.inl (bt ‹_›)) ‹_›).2
  |exact(Rr h4 ‹_› ‹_› ‹_› ‹_› (.inr (bt ‹_›)) ‹_›).2
  |(simp only[Vj];done)
  |skip
 all_goals(try(repeat(rename(Bu _)[_]? =some _=>hq;revert hq;rename(Bu _)[_]? =some _=>hr;intro hq;rw[hr] at hq;cases hq)))
 all_goals first
  |exact(Vk ‹_› ‹_› ‹_› ‹_›).1
  |exact(Kl ‹_› ‹_› ‹_› ‹_›).1
  |exact(Kl ‹_› ‹_› ‹_› ‹_›).2.1
  |exact(Kl ‹_› ‹_› ‹_› ‹_›).2.2.1
  |exact(Kl ‹_› ‹_› ‹_› ‹_›).2.2.2
  |(rw[CZ ‹_›];done)
  |skip)
def Lz(n:Nat):Sig:= {X:=ST×Int×Int×Bool×List Nd,args:=fun x=>[srd x.1 (xg x)],pre:=fun x=>vQ 10 (n+1) x.1 (xg x),Y:=Int×Int×Int×Bool×List Nd,post:=fun x y=>Af x.1.sg (xg x) (pE x.1.sg (n+1) .pick) (yS y),res:=fun x y=> .int .i64 y.1,outs:=fun x y=>[srd x.1 (yG y.2)],keep:=true}
theorem b2v(n:Nat)(h:qAll G n):Aj G Tryz.prog 142 (Lz n):=
 vcFun_okP [(171,0,(HP n)),(73,0,Cb),(142,0,(GG n)),(72,0,BN),(43,0,Bq)] [(45,⟨Int,Bb⟩)] false (fun x=>[]) Tryz.func142 rfl (by decide) ⟨h.chain,Hi,h.pick,HM,Hj,trivial⟩ (fun(x:ST×Int×Int×Bool×List Nd)=>True∧Aa (xg x).bad (rA (Lz n) x [.int .i64 (0:Int),srd x.1 (xg x)]) (inR IntKind.i64 ((xg x).deep+(1:Int))∧Aa (decide ((xg x).deep+(1:Int)>(20:Int))) (cA (HP n) [.box 0 [sgs x.1.sg,.int .i64 (xg x).pos,.bool true,.int .i64 ((xg x).deep+(1:Int)),Au (xg x).nodes],.int .i64 (0:Int)] fun x_1 y=>cA Cb [srd x_1.1 (yG y.2),.str #[(63:UInt8)].toList] fun x_2 y_1=>Aa (isG x_2.1.sg (xh x_2) (4:Int) x_2.2.2.2.2.2) (cA (GG n) [srd x_2.1 (Ah x_2.1.sg (xh x_2) x_2.2.2.2.2.2)] fun x_3 y_2=>cA BN [srd x_3.1 (yG y_2.2),.str #[(58:UInt8)].toList] fun x_4 y_3=>cA (GG n) [srd x_4.1 (Al x_4.1.sg (xh x_4) x_4.2.2.2.2.2)] fun x_5 y_4=>∃(x_6:Int),y.1=x_6∧∃(x_7:Int),y_2.1=x_7∧∃(x_8:Int),y_4.1=x_8∧cA Bq [srd x_5.1 (yG y_4.2),.int .i64 (8:Int),.str #[].toList,Ab [x_6,x_7,x_8]] fun x_9 y=>inR IntKind.i64 ((Ag (xh x_9) {kind:=x_9.2.2.2.2.2.1,text:=x_9.2.2.2.2.2.2.1,kids:=x_9.2.2.2.2.2.2.2,blank:=false}).deep-(1:Int))∧rA (Lz n) x [.int .i64 (Ax (xh x_9)),.box 0 [sgs x_9.1.sg,.int .i64 (Ag (xh x_9) {kind:=x_9.2.2.2.2.2.1,text:=x_9.2.2.2.2.2.2.1,kids:=x_9.2.2.2.2.2.2.2,blank:=false}).pos,.bool (Ag (xh x_9) {kind:=x_9.2.2.2.2.2.1,text:=x_9.2.2.2.2.2.2.1,kids:=x_9.2.2.2.2.2.2.2,blank:=false}).bad,.int .i64 ((Ag (xh x_9) {kind:=x_9.2.2.2.2.2.1,text:=x_9.2.2.2.2.2.2.1,kids:=x_9.2.2.2.2.2.2.2,blank:=false}).deep-(1:Int)),Au (Ag (xh x_9) {kind:=x_9.2.2.2.2.2.1,text:=x_9.2.2.2.2.2.2.1,kids:=x_9.2.2.2.2.2.2.2,blank:=false}).nodes]]) (inR IntKind.i64 ((Ah x_2.1.sg (xh x_2) x_2.2.2.2.2.2).deep-(1:Int))∧rA (Lz n) x [.int .i64 y.1,.box 0 [sgs x_2.1.sg,.int .i64 (Ah x_2.1.sg (xh x_2) x_2.2.2.2.2.2).pos,.bool (Ah x_2.1.sg (xh x_2) x_2.2.2.2.2.2).bad,.int .i64 ((Ah x_2.1.sg (xh x_2) x_2.2.2.2.2.2).deep-(1:Int)),Au (Ah x_2.1.sg (xh x_2) x_2.2.2.2.2.2).nodes]])) (cA (HP n) [.box 0 [sgs x.1.sg,.int .i64 (xg x).pos,.bool (xg x).bad,.int .i64 ((xg x).deep+(1:Int)),Au (xg x).nodes],.int .i64 (0:Int)] fun x_1 y=>cA Cb [srd x_1.1 (yG y.2),.str #[(63:UInt8)].toList] fun x_2 y_1=>Aa (isG x_2.1.sg (xh x_2) (4:Int) x_2.2.2.2.2.2) (cA (GG n) [srd x_2.1 (Ah x_2.1.sg (xh x_2) x_2.2.2.2.2.2)] fun x_3 y_2=>cA BN [srd x_3.1 (yG y_2.2),.str #[(58:UInt8)].toList] fun x_4 y_3=>cA (GG n) [srd x_4.1 (Al x_4.1.sg (xh x_4) x_4.2.2.2.2.2)] fun x_5 y_4=>∃(x_6:Int),y.1=x_6∧∃(x_7:Int),y_2.1=x_7∧∃(x_8:Int),y_4.1=x_8∧cA Bq [srd x_5.1 (yG y_4.2),.int .i64 (8:Int),.str #[].toList,Ab [x_6,x_7,x_8]] fun x_9 y=>inR IntKind.i64 ((Ag (xh x_9) {kind:=x_9.2.2.2.2.2.1,text:=x_9.2.2.2.2.2.2.1,kids:=x_9.2.2.2.2.2.2.2,blank:=false}).deep-(1:Int))∧rA (Lz n) x [.int .i64 (Ax (xh x_9)),.box 0 [sgs x_9.1.sg,.int .i64 (Ag (xh x_9) {kind:=x_9.2.2.2.2.2.1,text:=x_9.2.2.2.2.2.2.1,kids:=x_9.2.2.2.2.2.2.2,blank:=false}).pos,.bool (Ag (xh x_9) {kind:=x_9.2.2.2.2.2.1,text:=x_9.2.2.2.2.2.2.1,kids:=x_9.2.2.2.2.2.2.2,blank:=false}).bad,.int .i64 ((Ag (xh x_9) {kind:=x_9.2.2.2.2.2.1,text:=x_9.2.2.2.2.2.2.1,kids:=x_9.2.2.2.2.2.2.2,blank:=false}).deep-(1:Int)),Au (Ag (xh x_9) {kind:=x_9.2.2.2.2.2.1,text:=x_9.2.2.2.2.2.2.1,kids:=x_9.2.2.2.2.2.2.2,blank:=false}).nodes]]) (inR IntKind.i64 ((Ah x_2.1.sg (xh x_2) x_2.2.2.2.2.2).deep-(1:Int))∧rA (Lz n) x [.int .i64 y.1,.box 0 [sgs x_2.1.sg,.int .i64 (Ah x_2.1.sg (xh x_2) x_2.2.2.2.2.2).pos,.bool (Ah x_2.1.sg (xh x_2) x_2.2.2.2.2.2).bad,.int .i64 ((Ah x_2.1.sg (xh x_2) x_2.2.2.2.2.2).deep-(1:Int)),Au (Ah x_2.1.sg (xh x_2) x_2.2.2.2.2.2).nodes]])))) (fun x=>by kernel_rfl) fun(x:ST×Int×Int×Bool×List Nd) (hx:vQ 10 (n+1) x.1 (xg x))=>(by
 dsimp only[cA,Bg,Ab,Au,rA,HP,Cb,GG,Lz,Bq,BN,Bj,sgs,srd,Av,AB,mvL,lnL,mvE,lnE]
 obtain⟨s,p,d,b,ns⟩:=x;dsimp only[xg,xh] at hx ⊢
 have hx:vQ 10 (n+1) s ⟨p,d,b,ns⟩:=hx
 have h1:=hx.1.1.1;have h2:=hx.1.1.2;have h3:=hx.1.2;have hs:=h1.1;dsimp only at h2 h3
 (repeat' first|(with_reducible first|rfl|exact True.intro|apply AK|apply And.intro|((first|apply Az|apply AI|apply AA|apply AJ)<;>intro _))|(apply Aw<;>intro _)|apply AH|refine Ae () ?_ ?_|((first|apply AO|apply AN|apply AM|apply AL|apply AG|apply AF|apply AE|apply AD|apply AC)<;>try dsimp only)|apply Ae|(refine Prod.forall.2 ?_;intro _;try dsimp only)|(intro _;try dsimp only))
 all_goals(try dsimp only[xg,xh,yG,yS,iG,iF] at*)
 all_goals(try simp only[CM] at*)
 all_goals(try(first|(have hz:=b2o (b:=b) h2 ‹_› (show Af s.sg ⟨p,d+1,true,ns⟩ (pE s.sg n (.chain _)) _ by assumption))|(have hz:=b2p ‹_› (show Af s.sg ⟨p,d+1,b,ns⟩ (pE s.sg n (.chain _)) _ by assumption))))
 all_goals first
  |rfl
  |assumption
  |exact a1W h1.2 ‹_›
  |exact b2q hx ‹_›
  |exact b2r hx ‹_›
  |exact Dq h1 hz
  |(clear hz;exact Dq h1 ‹_›)
  |exact⟨UB h1 h2 h3 hz ‹_›,hx.2⟩
  |exact⟨a0B h1 h2 h3 hz ‹_› ‹_›,hx.2⟩
  |exact a0C h1 h2 hz ‹_› ‹_› ‹_›
  |exact a0D h1 h2 hz ‹_›
  |(have hq:=a0E h1 hz ‹_›;(try dsimp only at hq);(try simp only[AR]);omega)
  |(have hq:=a0F (show Af s.sg (Al s.sg _ _) _ _ by assumption);(try dsimp only at hq);(try simp only[AR,Qy]);omega)
  |(have hq:=(DK h1).1.2;dsimp only at hq;(try simp only[AR]);omega)
  |skip)
def Rs(n:Nat):Sig:= {X:=ST×Int×Int×Bool×List Nd,args:=fun x=>[srd x.1 (xg x)],pre:=fun x=>vQ 11 (n+1) x.1 (xg x),Y:=Int×Int×Int×Bool×List Nd,post:=fun x y=>Af x.1.sg (xg x) (pE x.1.sg (n+1) .value) (yS y),res:=fun x y=> .int .i64 y.1,outs:=fun x y=>[srd x.1 (yG y.2)],keep:=true}
def Rt(n:Nat)(x:ST×Int×Int×Bool×List Nd):LS:= {ι:=Int×Int×Bool×List Nd×List Int×Nat,inv:=fun i=>vaJ x.1.sg n (xg x) (iG i) i.2.2.2.2.1 i.2.2.2.2.2,regs:=fun i=>[(0,srd x.1 (iG i)),(4,Ab i.2.2.2.2.1)],als:=[],meas:=fun i=>i.2.2.2.2.2}
theorem b2w(n:Nat)(h:qAll G n):Aj G Tryz.prog 107 (Rs n):=
 vcFun_okP [(142,0,(GG n)),(106,0,DV),(73,0,Cb),(69,0,CF),(43,0,Bq),(72,0,BN),(143,0,(Gg n))] [(45,⟨Int,Bb⟩)] false (fun x=>[(5,Rt n x)]) Tryz.func107 rfl (by decide) ⟨h.pick,Ov,Hi,Kk,Hj,HM,(Vo n h),trivial⟩ (fun(x:ST×Int×Int×Bool×List Nd)=>True∧cA (GG n) [srd x.1 (xg x)] fun x_1 y=>cA DV [srd x_1.1 (yG y.2),.int .i64 (4:Int),.str #[(46:UInt8),(46:UInt8)].toList] fun x_2 y_1=>Aa (!isG x_2.1.sg (xh x_2) x_2.2.2.2.2.2.1 x_2.2.2.2.2.2.2) (rA (Rs n) x [.int .i64 y.1,srd x_2.1 (xh x_2)]) (∃(x_3:Int),y.1=x_3∧eA (Rt n x) [srd x_2.1 (xh x_2),Ab [x_3]]∧∀(i:Int×Int×Bool×List Nd×List Int×Nat),vaJ x.1.sg n (xg x) (iG i) i.2.2.2.2.1 i.2.2.2.2.2→cA Cb [srd x.1 (iG i),.str #[(46:UInt8),(46:UInt8)].toList] fun x_4 y=>Aa (isG x_4.1.sg (xh x_4) (4:Int) x_4.2.2.2.2.2) (cA CF [srd x_4.1 (Ah x_4.1.sg (xh x_4) x_4.2.2.2.2.2),.int .i64 (1:Int)] fun x_5 y=>cA Bq [srd x_5.1 (Bf x_5.1.sg (xh x_5) x_5.2.2.2.2.2),.int .i64 (1:Int),.str (BA x_5.1.sg (xh x_5) x_5.2.2.2.2.2),Ab []] fun x_6 y=>cA BN [srd x_6.1 (Ag (xh x_6) {kind:=x_6.2.2.2.2.2.1,text:=x_6.2.2.2.2.2.2.1,kids:=x_6.2.2.2.2.2.2.2,blank:=false}),.str #[(40:UInt8)].toList] fun x_7 y=>∃(x_8:Int),Ax (xh x_6)=x_8∧cA (Gg n) [srd x_7.1 (Al x_7.1.sg (xh x_7) x_7.2.2.2.2.2),.str #[(41:UInt8)].toList,Ab [x_8]] fun x_9 y=>cA Bq [srd x_9.1 (yG y.2),.int .i64 (5:Int),.str #[].toList,Ab y.1] fun x_10 y=>∃(x_11:Int),Ax (xh x_10)=x_11∧∃(zs:List Int),Ab [x_11]=Ab zs∧Be Bb∧AS (List.length i.2.2.2.2.1+List.length zs) (8:Nat)∧eN (Rt n x) i [srd x_10.1 (Ag (xh x_10) {kind:=x_10.2.2.2.2.2.1,text:=x_10.2.2.2.2.2.2.1,kids:=x_10.2.2.2.2.2.2.2,blank:=false}),Ab (i.2.2.2.2.1++zs)]) (cA Bq [srd x_4.1 (Ah x_4.1.sg (xh x_4) x_4.2.2.2.2.2),.int .i64 (10:Int),.str #[].toList,Ab i.2.2.2.2.1] fun x_5 y=>rA (Rs n) x [.int .i64 (Ax (xh x_5)),srd x_5.1 (Ag (xh x_5) {kind:=x_5.2.2.2.2.2.1,text:=x_5.2.2.2.2.2.2.1,kids:=x_5.2.2.2.2.2.2.2,blank:=false})]))) (fun x=>by kernel_rfl) fun(x:ST×Int×Int×Bool×List Nd) (hx:vQ 11 (n+1) x.1 (xg x))=>(by
 dsimp only[cA,eA,eN,Rt,Bg,Ab,Au,rA,DV,Cb,GG,Bq,CF,Rs,Gg,BN,Bj,sgs,srd,Av,AB,mvL,lnL,mvE,lnE,Bw]
 obtain⟨s,p,d,b,ns⟩:=x;dsimp only[xg,xh] at hx ⊢
 have hx:vQ 11 (n+1) s ⟨p,d,b,ns⟩:=hx
 have h1:=hx.1.1.1;have h2:=hx.1.1.2;have h3:=hx.1.2;have hs:=h1.1;dsimp only at h2 h3
 (repeat' first|(with_reducible first|rfl|exact True.intro|apply AK|apply And.intro|((first|apply Az|apply AI|apply AA|apply AJ)<;>intro _))|(apply Aw<;>intro _)|apply AH|refine Ae () ?_ ?_|((first|apply AO|apply AN|apply AM|apply AL|apply AG|apply AF|apply AE|apply AD|apply AC)<;>try dsimp only)|apply Ae|(refine Prod.forall.2 ?_;intro _;try dsimp only)|(intro _;try dsimp only))
 all_goals(try dsimp only[xg,xh,yG,yS,iG] at*)
 all_goals(try simp only[CM] at*)
 all_goals first
  |(show Nat;skip)
  |rfl
  |assumption
  |exact⟨a0G h1 h2 h3,hx.2⟩
  |exact Dq h1 ‹_›
  |exact a0H h1 ‹_› ‹_›
  |exact a0I h1 h2 ‹_› ‹_›
  |exact Qz h1 ‹_›
  |exact(Vu hs ‹_›).1
  |exact(Vu hs ‹_›).2.1
  |exact(Vu hs ‹_›).2.2
  |exact b2s hx ‹_› ‹_›
  |exact Vr hs ‹_›
  |exact(a2n hs ‹_› ‹_› ‹_›).1
  |exact a0L h1 ‹_› ‹_›
  |exact a0M h1 ‹_› ‹_›
  |omega
  |(simp;done)
  |(have hq:=a0J hs (show vaJ _ _ _ _ _ _ by assumption);(try simp only[AS,List.length_append,List.length_cons,List.length_nil]);omega)
  |skip
 all_goals first
  |exact(a2n hs ‹_› ‹_› ‹_›).2
  |skip)
theorem Vv{r:Nat}{s:ST}{g:Gs}(hr:1≤r)(h:wQ r 0 s g):False:=QL hr h.1
theorem a2o{r:Nat}{s:ST}{g:Gs}(hr:1≤r)(h:vQ r 0 s g):False:=UH hr h.1
theorem b2x:qAll G 0:=
 ⟨Gf Tryz.func107 rfl (by decide) (fun x h=>a2o (by omega) h),Gf Tryz.func142 rfl (by decide) (fun x h=>a2o (by omega) h),
  Gf Tryz.func171 rfl (by decide) (fun x h=>Vv (by have:=h.2;omega) h.1),Gf Tryz.func185 rfl (by decide) (fun x h=>Vv (by omega) h),Gf Tryz.func191 rfl (by decide) (fun x h=>Vv (by omega) h)⟩
theorem b2y(n:Nat):qAll G n:=by
 induction n with
 |zero=>exact b2x
 |succ n ih=>exact⟨b2w n ih,b2v n ih,b2u n ih,b2c n ih,b2b n ih⟩
def FH:Sig:= {X:=ST×Int×Int×Bool×List Nd,args:=fun x=>[srd x.1 (xg x)],pre:=fun x=>okD x.1 (xg x)∧sgM x.1.sg,Y:=Int×Int×Int×Bool×List Nd,post:=fun x y=>Af x.1.sg (xg x) (Ca x.1.sg) (yS y),res:=fun x y=> .int .i64 y.1,outs:=fun x y=>[srd x.1 (yG y.2)],keep:=true}
theorem a2p{s:ST}{g:Gs}(h:okD s g∧sgM s.sg):vQ 11 peN s g:=⟨UI h.1,h.2⟩
theorem Vw:Aj G Go.Proofs.Tryz.prog 107 FH:=
 have c:=(b2y (G:=G) peN).val
 ⟨⟨c.1.1,fun x y hx hy=>c.1.2 x y (a2p hx) hy⟩,fun x hx=>c.2 x (a2p hx)⟩
end Go.My
end
section
set_option linter.unusedVariables false
set_option linter.unusedSimpArgs false
namespace Go.My
open Go.Eng
def Vx(e:Nd)(b:Bool):Nd:=⟨e.kind,e.text,e.kids,b⟩
def Ru(b:Bool)(p:Int×Ps):Int×Ps:=(p.1,⟨p.2.pos,p.2.deep,p.2.nodes.set p.1.toNat (Vx (An p.2.nodes p.1) b)⟩)
def BL(f:Bool→Ps→PR):Prop:=∀b s,f b s=(f false s).map (Ru b)∧∀p,f b s=some p→1≤p.2.nodes.length∧p.1=(p.2.nodes.length:Int)-1
theorem MO{k:Int}{t:List UInt8}{ks:List Int}:BL (fun b=>Ba ⟨k,t,ks,b⟩):=by
 intro b s
 by_cases h:300≤s.nodes.length
 ·simp only[Vh h];exact⟨rfl,fun p hp=>by cases hp⟩
 ·simp only[Vg h]
  refine⟨?_,fun p hp=>by simp only[Option.some.injEq] at hp;subst hp;simp⟩
  simp only[Option.map_some,Ru,Int.toNat_natCast]
  congr 3
  have e:An (s.nodes++[⟨k,t,ks,false⟩]) (s.nodes.length:Int)=⟨k,t,ks,false⟩:=BG (by simp)
  rw[e]
  simp [Vx]
theorem a2q{f:Bool→Ps→PR}(h:BL f):BL (fun b s=>En (f b s)):=by
 intro b s
 obtain⟨h1,h2⟩:=h b s
 refine⟨?_,fun p hp=> ?_⟩
 ·simp only[En];rw[h1]
  cases f false s with
  |none=>rfl
  |some p=>rfl
 ·simp only[En,Option.map_eq_some_iff] at hp
  obtain⟨q,hq,rfl⟩:=hp
  exact h2 q hq
theorem FI{α:Type}{h:Ps→Option (α×Ps)}{g:Bool→α→Ps→PR}(hg:∀a,BL (fun b=>g b a)):BL (fun b s=>(h s).bind fun p=>g b p.1 p.2):=by
 intro b s
 simp only
 cases h s with
 |none=>exact⟨rfl,fun p hp=>by cases hp⟩
 |some p=>exact hg p.1 b p.2
theorem Vy{h:Ps→Option Ps}{g:Bool→Ps→PR}(hg:BL g):BL (fun b s=>(h s).bind fun p=>g b p):=by
 intro b s
 simp only
 cases h s with
 |none=>exact⟨rfl,fun p hp=>by cases hp⟩
 |some p=>exact hg b p
theorem FJ{c:Ps→Prop}[inst:∀s,Decidable (c s)]{f g:Bool→Ps→PR}(hf:BL f)(hg:BL g):BL (fun b s=>if c s then f b s else g b s):=by
 intro b s
 by_cases h:c s
 ·simp only[if_pos h];exact hf b s
 ·simp only[if_neg h];exact hg b s
theorem a2r:BL (fun _ _=>none):=fun b s=>⟨rfl,fun p hp=>by cases hp⟩
theorem LA{f:Bool→Ps→PR}{a:Ps→Ps}(h:BL f):BL (fun b s=>f b (a s)):=fun b s=>h b (a s)
theorem b2z{f:Ps→Bool→Ps→PR}(h:∀q,BL (f q)):BL (fun b s=>f s b s):=fun b s=>h s b s
theorem Vz{sg:List Sg}{k:Int}:BL (DU sg k):=fun b s=>a2q (MO (k:=k) (t:=(sgO sg s.pos).text) (ks:=[])) b s
theorem LB{sg:List Sg}{m:List UInt8}{k:Int}{t:List UInt8}{ks:List Int}:BL (fun b=>Bo sg m ⟨k,t,ks,b⟩):=FJ (c:=fun s=>isM sg s m=true) (a2q MO) a2r
theorem VA{sg:List Sg}:BL (Dm sg):=
 FI (h:=Fi sg) (g:=fun b t s=>if isM sg s [61] then(Ca sg (adv s)).bind fun q=>Bo sg [59] ⟨12,t,[q.1],b⟩ q.2 else Bo sg [59] ⟨12,t,[],b⟩ s) (fun t=>
  FJ (c:=fun s=>isM sg s [61]=true) (FI (h:=fun s=>Ca sg (adv s)) (g:=fun b k s=>Bo sg [59] ⟨12,t,[k],b⟩ s) (fun _=>LB)) LB)
theorem b2A{sg:List Sg}:BL (Gd sg):=
 FJ (c:=fun s=>isM sg s [59]=true) LB (FI (h:=Ca sg) (g:=fun b k s=>Bo sg [59] ⟨15,[],[k],b⟩ s) (fun _=>LB))
theorem b2B{sg:List Sg}{n:Nat}:BL (ifR sg n):=
 FI (h:=Di sg) (g:=fun b c s=>(BH sg (stR sg n) s).bind fun q=>if isW sg q.2 [101,108,115,101] then(BH sg (stR sg n) (adv q.2)).bind fun r=>Ba ⟨16,[],[c,q.1,r.1],b⟩ r.2 else Ba ⟨16,[],[c,q.1],b⟩ q.2) (fun c=>
  FI (h:=BH sg (stR sg n)) (g:=fun b k s=>if isW sg s [101,108,115,101] then(BH sg (stR sg n) (adv s)).bind fun r=>Ba ⟨16,[],[c,k,r.1],b⟩ r.2 else Ba ⟨16,[],[c,k],b⟩ s) (fun k=>
   FJ (c:=fun s=>isW sg s [101,108,115,101]=true) (FI (h:=fun s=>BH sg (stR sg n) (adv s)) (g:=fun b r s=>Ba ⟨16,[],[c,k,r],b⟩ s) (fun _=>MO)) MO))
theorem b2C{sg:List Sg}{n:Nat}:BL (whR sg n):=
 FI (h:=Di sg) (g:=fun b c s=>(BH sg (stR sg n) s).bind fun q=>Ba ⟨17,[],[c,q.1],b⟩ q.2) (fun c=>FI (h:=BH sg (stR sg n)) (g:=fun b k s=>Ba ⟨17,[],[c,k],b⟩ s) (fun _=>MO))
theorem b2D{sg:List Sg}:BL (doR sg):=FI (h:=Ca sg) (g:=fun b k s=>Bo sg [59] ⟨14,[],[k],b⟩ s) (fun _=>LB)
theorem VB{sg:List Sg}:∀ {n:Nat},BL (stR sg n)
 |0=>a2r
 |n+1=>by
  intro b s
  rw[Jf,Jf]
  exact FJ (c:=fun s=>(sgO sg s.pos).kind=5) Vz (FJ (c:=fun s=>isW sg s [118,97,114]=true) (LA (a:=adv) VA) (FJ (c:=fun s=>isW sg s [114,101,116,117,114,110]=true) (LA (a:=adv) b2A)
   (FJ (c:=fun s=>isW sg s [105,102]=true) (LA (a:=adv) b2B) (FJ (c:=fun s=>isW sg s [119,104,105,108,101]=true) (LA (a:=adv) b2C)
     (FJ (c:=fun s=>(Dh sg s.pos&&isM sg (adv s) [61])=true) (b2z (f:=fun q b s=>(Ca sg (adv (adv s))).bind fun p=>Bo sg [59] ⟨13,(sgO sg q.pos).text,[p.1],b⟩ p.2) (fun q=>FI (h:=fun s=>Ca sg (adv (adv s))) (g:=fun b k s=>Bo sg [59] ⟨13,(sgO sg q.pos).text,[k],b⟩ s) (fun _=>LB))) b2D))))) b s
theorem a2s{sg:List Sg}:BL (EX sg):=
 FI (h:=Fi sg) (g:=fun b t s=>(BF sg [40] s).bind fun s1=>(Bl sg (Bz sg) [41] (sg.length+1) [] s1).bind fun q=>(BF sg [41] q.2).bind fun s2=>(EH sg s2).bind fun r=>Ba ⟨20,t,q.1++[r.1],b⟩ r.2) (fun t=>
  Vy (h:=BF sg [40]) (g:=fun b s1=>(Bl sg (Bz sg) [41] (sg.length+1) [] s1).bind fun q=>(BF sg [41] q.2).bind fun s2=>(EH sg s2).bind fun r=>Ba ⟨20,t,q.1++[r.1],b⟩ r.2)
   (FI (h:=Bl sg (Bz sg) [41] (sg.length+1) []) (g:=fun b ks s=>(BF sg [41] s).bind fun s2=>(EH sg s2).bind fun r=>Ba ⟨20,t,ks++[r.1],b⟩ r.2) (fun ks=>
     Vy (h:=BF sg [41]) (g:=fun b s2=>(EH sg s2).bind fun r=>Ba ⟨20,t,ks++[r.1],b⟩ r.2) (FI (h:=EH sg) (g:=fun b k s=>Ba ⟨20,t,ks++[k],b⟩ s) (fun _=>MO)))))
theorem VC{sg:List Sg}:BL (CS sg):=FJ (c:=fun s=>(sgO sg s.pos).kind=5) Vz (FJ (c:=fun s=>isW sg s [118,97,114]=true) (LA (a:=adv) VA) a2s)
theorem b2E{sg:List Sg}:BL (Fk sg):=
 FI (h:=Fi sg) (g:=fun b t s=>(BF sg [123] s).bind fun s1=>(CK sg (CS sg) [125] (sg.length+1) [] s1).bind fun q=>Bo sg [125] ⟨21,t,q.1,b⟩ q.2) (fun t=>
  Vy (h:=BF sg [123]) (g:=fun b s1=>(CK sg (CS sg) [125] (sg.length+1) [] s1).bind fun q=>Bo sg [125] ⟨21,t,q.1,b⟩ q.2)
   (FI (h:=CK sg (CS sg) [125] (sg.length+1) []) (g:=fun b ks s=>Bo sg [125] ⟨21,t,ks,b⟩ s) (fun _=>LB)))
theorem VD{sg:List Sg}:BL (Dn sg):=FJ (c:=fun s=>(sgO sg s.pos).kind=5) Vz (FJ (c:=fun s=>isW sg s [118,97,114]=true) (LA (a:=adv) VA) (FJ (c:=fun s=>isW sg s [99,108,97,115,115]=true) (LA (a:=adv) b2E) a2s))
theorem a2t{sg:List Sg}{x y:Gs}{f:Bool→Ps→PR}{k:Int}(hf:BL f)(h:Af sg x (f false) (k,y))(hb:y.bad=false):1≤y.nodes.length∧k=(y.nodes.length:Int)-1:=by
 obtain⟨⟨a1,a2,a3,a4,a5⟩,_⟩:=h
 simp only at a4 a5
 rw[CX hb] at a4
 cases hp:(pur x).bind (f false) with
 |none=>rw[hp] at a4;cases a4
 |some p=>
  rw[hp] at a4
  simp only[Option.map_some,Option.some.injEq] at a4
  have e:=a5 p hp
  cases hs:pur x with
  |none=>rw[hs] at hp;cases hp
  |some s=>
   rw[hs] at hp;simp only[Option.bind_some] at hp
   have:=(hf false s).2 p hp
   rw[←a4] at this;simp only at this;rw[e];exact this
theorem VE{sg:List Sg}{x y:Gs}{f:Bool→Ps→PR}{k:Int}{b:Bool}(hf:BL f)(h:Af sg x (f false) (k,y)):Af sg x (f b) (k,gBl y k b):=by
 have hk:=a2t hf h
 obtain⟨⟨a1,a2,a3,a4,a5⟩,c⟩:=h
 simp only at a1 a2 a3 a4 a5 c
 have eb:(pur x).bind (f b)=((pur x).bind (f false)).map (Ru b):=by
  cases pur x with
  |none=>rfl
  |some s=>exact(hf b s).1
 cases hb:y.bad with
 |true=>
  have e:gBl y k b=y:=by rw[gBl,if_neg (by simp [hb])]
  rw[e]
  rw[DJ hb] at a4
  have hn:(pur x).bind (f false)=none:=by
   cases hp:(pur x).bind (f false) with
   |none=>rfl
   |some p=>rw[hp] at a4;cases a4
  refine⟨⟨a1,a2,a3,?_,fun p hp=> ?_⟩,c⟩
  ·rw[eb,hn,DJ hb];rfl
  ·rw[eb,hn] at hp;cases hp
 |false=>
  obtain⟨k1,k2⟩:=hk hb
  have hlt:k<(y.nodes.length:Int):=by omega
  have e:gBl y k b=⟨y.pos,y.deep,y.bad,y.nodes.set k.toNat (Vx (An y.nodes k) b)⟩:=by rw[gBl,if_pos ⟨hb,hlt⟩];rfl
  rw[e]
  have hat:Cv (An y.nodes k):=by
   have hkl:k.toNat<y.nodes.length:=by omega
   have:=a1.2.2.2 (y.nodes[k.toNat]) (List.getElem_mem hkl)
   rw[BG (List.getElem?_eq_getElem hkl)];exact this
  refine⟨⟨⟨a1.1,a1.2.1,by simpa using a1.2.2.1,fun w hw=> ?_⟩,a2,a3,?_,fun p hp=> ?_⟩,c⟩
  ·rcases List.mem_or_eq_of_mem_set hw with hw|hw
   ·exact a1.2.2.2 w hw
   ·subst hw;exact hat
  ·rw[eb]
   rw[CX hb] at a4
   cases hp:(pur x).bind (f false) with
   |none=>rw[hp] at a4;cases a4
   |some p=>
    rw[hp] at a4
    simp only[Option.map_some,Option.some.injEq] at a4 ⊢
    have:=a5 p hp
    rw[CX (by exact hb)]
    simp only[Ru,←a4,this]
  ·rw[eb,Option.map_eq_some_iff] at hp
   obtain⟨q,hq,rfl⟩:=hp
   exact a5 q hq
theorem MP{sg:List Sg}{x y:Gs}{f:Bool→Ps→PR}{k:Int}(hf:BL f)(h:Af sg x (f false) (k,y)):y.bad=false→0≤k:=fun hb=>by have:=a2t hf h hb;omega
theorem VF{sg:List Sg}{y:Gs}(hb:y.bad=false):blG sg y=(pkG sg y 0).blank:=by
 rw[blG,pkG]
 by_cases h:y.pos<sg.length
 ·rw[if_neg (by simp [hb];omega)];simp [h]
 ·rw[if_pos (.inr (by omega))];simp [h,Ec]
theorem b2F{sg:List Sg}{x:Gs}{one:Bool→Ps→PR}(h:gsOk sg x)(hd:x.deep≤20):restP sg x (BH sg one) (pkX (Al sg x [123]))
 (fun s1=>(CK sg one [125] (sg.length+1) [] s1).bind fun p=>(Bo sg [125] ⟨18,[],p.1,false⟩ p.2).map fun q=>(q.1,dp q.2 (-1))) 1:=by
 have t:=FE (m:=[123]) h
 have a:=a0S (one:=one) h hd
 have t1:=t.1;have t2:=t.2.1
 by_cases h20:x.deep=20
 ·rw[if_pos h20] at a
  have e:pkX (Al sg x [123])=gDp (Bd (Al sg x [123])) 1:=by rw[pkX,if_pos (by omega)]
  have e2:Al sg (gDp (Bd x) 1) [123]=gDp (Bd x) 1:=Rh rfl
  rw[e2] at a
  rw[e]
  refine Ve a ⟨t1.1,by simp only[gDp,Bd];omega,t1.2.2⟩ (by simp only[gDp,Bd];omega) (by simp only[gDp,Bd];omega) rfl
 ·rw[if_neg h20] at a
  have e:pkX (Al sg x [123])=gDp (Al sg x [123]) 1:=by rw[pkX,if_neg (by omega)]
  rw[e]
  have e2:Al sg (gDp x 1) [123]=gDp (Al sg x [123]) 1:=by
   have:isG sg (gDp x 1) 4 [123]=isG sg x 4 [123]:=rfl
   cases hq:isG sg x 4 [123] with
   |true=>rw[Jj hq,Jj (by rw[this];exact hq)];rfl
   |false=>rw[Ox hq,Ox (by rw[this];exact hq)];rfl
  rw[e2] at a;exact a
theorem a2u{g:Gs}{d:Int}{w:Nd}:Ag (gDp g d) w=gDp (Ag g w) d∧Ax (gDp g d)=Ax g:=by
 have hf:CQ (gDp g d)=CQ g:=rfl
 unfold Ag Ax
 rw[hf]
 cases CQ g<;>exact⟨rfl,rfl⟩
theorem a2v{sg:List Sg}{one:Bool→Ps→PR}{x:Gs}{l:List Int×Gs}(h:gsOk sg x)(hd:x.deep≤20)(hl:Bm sg (pkX (Al sg x [123])) (CK sg one [125] (sg.length+1) []) l)(hll:l.1.length≤3001):
 Af sg x (BH sg one) (Ax (gDp (Al sg l.2 [125]) (-1)),Ag (gDp (Al sg l.2 [125]) (-1)) ⟨18,[],l.1,false⟩):=by
 have k1:=BJ (k:=fun ks s=>(Bo sg [125] ⟨18,[],ks,false⟩ s).map fun q=>(q.1,dp q.2 (-1))) (b2F h hd) hl (fun _ _=>rfl)
 have hw:Cv ⟨18,[],l.1,false⟩:=⟨by simp,by simp only;omega⟩
 have hc:=HN k1.1 hw (JW (m:=[125]) k1.1 hw)
 have k2:=BJ (k:=fun k s=>some (k,dp s (-1))) k1 hc.1 (fun s _=>by cases Bo sg [125] ⟨18,[],l.1,false⟩ s<;>rfl)
 simp only at k2
 rw[(a2u (w:=⟨18,[],l.1,false⟩)).1,(a2u (w:=⟨18,[],l.1,false⟩)).2]
 refine⟨FC (JY (e:= -1) k2 ?_ (fun s hs=>rfl)),fun hb=> ?_⟩
 ·have:=k2.2.1;have:=h.2.1;omega
 ·have:=hc.2 hb
  have:=k1.2.2.1
  simp only[gDp] at*;omega
end Go.My
end
