/- joined -/
import Derived.Test.YtaenadacepeagaaGreatDoorQK
set_option linter.unusedSimpArgs false
set_option linter.unusedVariables false
section
namespace Go.My
open Go.Eng Go.Proofs
variable {G:GInv}
def fB(n:Nat)(s:List Sg):Prop:=s.length+80000*n≤24080000
def EC(ns:List Nd)(n:Nat)(c:Int):Prop:=Iv ns c∧c<n∧(vis ns n c).length≤300
structure TX where
 ns:List Nd
 s:List Sg
 st:List Int
theorem Nx{ns:List Nd}{n:Nat}{c:Int}(h:EC ns n c):(Az ns n c).length≤5400:=by
 have:=a0h h.1 h.2.1
 have:=h.2.2
 omega
theorem b4x{f:Int→List Sg}{m:List UInt8}{l:List Int}{i:Int}{c:Int}(h0:i=0)(hc:l[i.toNat]? =some c):Bb f m (l.take i.toNat)++f c=Bb f m (l.take (i+1).toNat):=by
 subst h0
 rw[Dz (by omega),Fb hc];simp [Bb]
theorem b4y{f:Int→List Sg}{m:List UInt8}{l:List Int}{i:Int}{c:Int}(h0:0<i)(hc:l[i.toNat]? =some c):Bb f m (l.take i.toNat)++[mkS m]++f c=Bb f m (l.take (i+1).toNat):=by
 rw[Dz (by omega),Fb hc]
 have hlt:=(EK hc).1
 match hl:l.take i.toNat with
 |[]=>rw[List.take_eq_nil_iff] at hl;rcases hl with hl|hl
      ·omega
      ·subst hl;simp at hc
 |d::t=>simp [Bb]
def EW(ns:List Nd)(n:Nat)(l:List Int)(s:List Sg):Prop:=ns.length<2^62∧l.length≤12∧(∀c∈l,EC ns n c)∧fB n s∧s.length+80000*n+66000≤24080000
theorem a3j{ns:List Nd}{n:Nat}{l:List Int}{s:List Sg}{m:List UInt8}{j:Nat}(h:EW ns n l s):(Bb (Az ns n) m (l.take j)).length≤64812∧(((l.take j).flatMap (Az ns n)).length≤64800):=by
 have h1:∀c∈l.take j,(Az ns n c).length≤5400:=fun c hc=>Nx (h.2.2.1 c (List.mem_of_mem_take hc))
 have h2:=UX h1
 have h3:(l.take j).length≤12:=by rw[List.length_take];have:=h.2.1;omega
 have h4:= @UW (Az ns n) m (l.take j)
 have h5:(l.take j).length*5400≤12*5400:=Nat.mul_le_mul_right _ h3
 have h6:((l.take j).flatMap (Az ns n)).length=fl (Az ns n) (l.take j):=rfl
 omega
theorem WI{ns:List Nd}{n:Nat}{l:List Int}{s:List Sg}{m:List UInt8}{j:Nat}(h:EW ns n l s):(s++Bb (Az ns n) m (l.take j)).length+80000*n+1000≤24080000:=by
 have h1:=(@a3j ns n l s m j h).1
 have h2:=h.2.2.2.2
 rw[List.length_append];omega
theorem WJ{ns:List Nd}{n:Nat}{l:List Int}{s:List Sg}{m:List UInt8}{j:Nat}(h:EW ns n l s):fB n (s++Bb (Az ns n) m (l.take j)):=by
 have:= @WI ns n l s m j h;unfold fB;omega
theorem WK{ns:List Nd}{n:Nat}{l:List Int}{s:List Sg}{m t:List UInt8}{j:Nat}(h:EW ns n l s):fB n (s++Bb (Az ns n) m (l.take j)++List.map mkS [t]):=by
 have:= @WI ns n l s m j h;unfold fB;rw[List.length_append];simp only[List.map_cons,List.map_nil,List.length_cons,List.length_nil];omega
theorem WM{ns:List Nd}{n:Nat}{l:List Int}{s:List Sg}{m:List UInt8}{j:Nat}(h:EW ns n l s):(s++Bb (Az ns n) m (l.take j)).length≤67108864:=by
 have:= @WI ns n l s m j h;omega
theorem Si{f:Int→List Sg}{m:List UInt8}{l:List Int}{i:Int}{c:Int}{s:List Sg}(h0:i>0)(hc:l[i.toNat]? =some c):s++Bb f m (l.take i.toNat)++List.map mkS [m]++f c=s++Bb f m (l.take (i+1).toNat):=by
 rw[←b4y h0 hc];simp
theorem WN{f:Int→List Sg}{m:List UInt8}{l:List Int}{i:Int}{c:Int}{s:List Sg}(h0:¬i>0)(hi:0≤i)(hc:l[i.toNat]? =some c):s++Bb f m (l.take i.toNat)++f c=s++Bb f m (l.take (i+1).toNat):=by
 rw[←b4x (by omega) hc];simp
def Ct(n:Nat):Sig:= {X:=List Nd×List Sg×List Int×Int,args:=fun x=>[tlr x.1 x.2.1 x.2.2.1,.int .i64 x.2.2.2],pre:=fun x=>(Bi x.1∧x.2.2.1.length=x.1.length)∧EC x.1 n x.2.2.2∧fB n x.2.1,Y:=List Int,post:=fun x y=>y.length=x.2.2.1.length,res:=fun x y=> .tup [],outs:=fun x y=>[tlr x.1 (x.2.1++Az x.1 n x.2.2.2) y,.top],keep:=true}
def GR(n:Nat):Sig:= {X:=List Nd×List Sg×List Int×List Int×List UInt8,args:=fun x=>[tlr x.1 x.2.1 x.2.2.1,An x.2.2.2.1,.str x.2.2.2.2],pre:=fun x=>(Bi x.1∧x.2.2.1.length=x.1.length)∧EW x.1 n x.2.2.2.1 x.2.1,Y:=List Int,post:=fun x y=>y.length=x.2.2.1.length,res:=fun x y=> .tup [],outs:=fun x y=>[tlr x.1 (x.2.1++Bb (Az x.1 n) x.2.2.2.2 x.2.2.2.1) y,.top,.top],keep:=true}
def Pv(n:Nat)(x:List Nd×List Sg×List Int×List Int×List UInt8):LS:= {ι:=Int×List Int,inv:=fun i=>(0≤i.1∧i.1≤x.2.2.2.1.length)∧i.2.length=x.2.2.1.length,regs:=fun i=>[(0,tlr x.1 (x.2.1++Bb (Az x.1 n) x.2.2.2.2 (x.2.2.2.1.take i.1.toNat)) i.2),(2,.str x.2.2.2.2),(8,An x.2.2.2.1),(9,.int .i64 x.2.2.2.1.length),(10,.int .i64 i.1)],als:=[],meas:=fun i=>x.2.2.2.1.length-i.1.toNat}
theorem a3k(n:Nat)(hc:Am G Go.Proofs.Tryz.prog 58 (Ct n)):Am G Tryz.prog 100 (GR n):=
 vcFun_okP [(58,0,(Ct n)),(99,0,BJ)] [(39,⟨List UInt8,Ai⟩)] false (fun x=>[(1,Pv n x)]) Tryz.func100 rfl (by decide) ⟨hc,WH,trivial⟩ (fun(x:List Nd×List Sg×List Int×List Int×List UInt8)=>True∧eA (Pv n x) [.box 0 [nds x.1,Ad x.2.1,Ab x.2.2.1],.str x.2.2.2.2,An x.2.2.2.1,.int .i64 (↑(List.length x.2.2.2.1):Int),.int .i64 (0:Int)]∧∀(i:Int×List Int),((0:Int)≤i.1∧i.1≤(↑(List.length x.2.2.2.1):Int))∧List.length i.2=List.length x.2.2.1→Aa (decide (i.1<(↑(List.length x.2.2.2.1):Int))) (((0:Int)≤i.1∧i.1<(↑(List.length x.2.2.2.1):Int))∧∀(e:Int),x.2.2.2.1[Int.toNat i.1]? =some e→Aa (decide (i.1>(0:Int))) (∃(x_1:List UInt8),x.2.2.2.2=x_1∧cA BJ [.box 0 [nds x.1,Ad (x.2.1++Bb (Az x.1 n) x.2.2.2.2 (List.take (Int.toNat i.1) x.2.2.2.1)),Ab i.2],AV.sl true 0 1 (List UInt8) Ai [x_1]] fun x_2 y=>cA (Ct n) [.box 0 [nds x_2.1,Ad (x_2.2.1++List.map mkS x_2.2.2.2),Ab x_2.2.2.1],.int .i64 e] fun x_3 y=>inR IntKind.i64 (i.1+(1:Int))∧eN (Pv n x) i [.box 0 [nds x_3.1,Ad (x_3.2.1++Az x_3.1 n x_3.2.2.2),Ab y],.str x.2.2.2.2,An x.2.2.2.1,.int .i64 (↑(List.length x.2.2.2.1):Int),.int .i64 (i.1+(1:Int))]) (cA (Ct n) [.box 0 [nds x.1,Ad (x.2.1++Bb (Az x.1 n) x.2.2.2.2 (List.take (Int.toNat i.1) x.2.2.2.1)),Ab i.2],.int .i64 e] fun x_1 y=>inR IntKind.i64 (i.1+(1:Int))∧eN (Pv n x) i [.box 0 [nds x_1.1,Ad (x_1.2.1++Az x_1.1 n x_1.2.2.2),Ab y],.str x.2.2.2.2,An x.2.2.2.1,.int .i64 (↑(List.length x.2.2.2.1):Int),.int .i64 (i.1+(1:Int))])) (rA (GR n) x [.tup [],.box 0 [nds x.1,Ad (x.2.1++Bb (Az x.1 n) x.2.2.2.2 (List.take (Int.toNat i.1) x.2.2.2.1)),Ab i.2],.top,.top])) (fun x=>by kernel_rfl) fun(x:List Nd×List Sg×List Int×List Int×List UInt8) (hx:(Bi x.1∧x.2.2.1.length=x.1.length)∧EW x.1 n x.2.2.2.1 x.2.1)=>(by
 dsimp only[cA,eA,eN,Pv,An,Bx,nds,Ab,Ad,rA,GR,BJ,Ct,Bv,Ho,tlr,Aw,AR,mvL,lnL,mvE,lnE,Br]
 obtain⟨⟨h1,h2⟩,h3⟩:=hx
 have hll:=h3.2.1
 (repeat' first|(with_reducible first|rfl|exact True.intro|apply AM|apply And.intro|((first|apply AC|apply AK|apply AD|apply AL)<;>intro _))|(apply AB<;>intro _)|apply AJ|refine Ag () ?_ ?_|((first|apply AQ|apply AP|apply AO|apply AN|apply AI|apply AH|apply AG|apply AF|apply AE)<;>try dsimp only)|apply Ag|(refine Prod.forall.2 ?_;intro _;try dsimp only)|(intro _;try dsimp only))
 all_goals first
  |rfl
  |omega
  |exact h1
  |(simp [Bb];done)
  |exact h3.2.2.1 _ (Cu ‹_›)
  |(rw[List.take_of_length_le (by omega)];done)
  |exact WJ h3
  |exact WK h3
  |exact WM h3
  |exact Si ‹_› ‹_›
  |exact WN ‹_› (by omega) ‹_›
  |skip)
theorem a3l{ns:List Nd}{n:Nat}{l:List Int}{s:List Sg}{j:Nat}(h:EW ns n l s):fB n (s++(l.take j).flatMap (Az ns n)):=by
 have h1:=(@a3j ns n l s [] j h).2
 have h2:=h.2.2.2.2
 unfold fB;rw[List.length_append];omega
theorem a3m{f:Int→List Sg}{l:List Int}{i:Int}{c:Int}{s:List Sg}(h0:0≤i)(hc:l[i.toNat]? =some c):s++(l.take i.toNat).flatMap f++f c=s++(l.take (i+1).toNat).flatMap f:=by
 rw[Dz h0,Fb hc];simp
def Ej(n:Nat):Sig:= {X:=List Nd×List Sg×List Int×List Int,args:=fun x=>[tlr x.1 x.2.1 x.2.2.1,An x.2.2.2],pre:=fun x=>(Bi x.1∧x.2.2.1.length=x.1.length)∧EW x.1 n x.2.2.2 x.2.1,Y:=List Int,post:=fun x y=>y.length=x.2.2.1.length,res:=fun x y=> .tup [],outs:=fun x y=>[tlr x.1 (x.2.1++x.2.2.2.flatMap (Az x.1 n)) y,.top],keep:=true}
def Sj(n:Nat)(x:List Nd×List Sg×List Int×List Int):LS:= {ι:=Int×List Int,inv:=fun i=>(0≤i.1∧i.1≤x.2.2.2.length)∧i.2.length=x.2.2.1.length,regs:=fun i=>[(0,tlr x.1 (x.2.1++(x.2.2.2.take i.1.toNat).flatMap (Az x.1 n)) i.2),(6,An x.2.2.2),(7,.int .i64 x.2.2.2.length),(8,.int .i64 i.1)],als:=[],meas:=fun i=>x.2.2.2.length-i.1.toNat}
theorem b4z(n:Nat)(hc:Am G Go.Proofs.Tryz.prog 58 (Ct n)):Am G Tryz.prog 101 (Ej n):=
 vcFun_okP [(58,0,(Ct n))] [] false (fun x=>[(1,Sj n x)]) Tryz.func101 rfl (by decide) ⟨hc,trivial⟩ (fun(x:List Nd×List Sg×List Int×List Int)=>True∧eA (Sj n x) [.box 0 [nds x.1,Ad x.2.1,Ab x.2.2.1],An x.2.2.2,.int .i64 (↑(List.length x.2.2.2):Int),.int .i64 (0:Int)]∧∀(i:Int×List Int),((0:Int)≤i.1∧i.1≤(↑(List.length x.2.2.2):Int))∧List.length i.2=List.length x.2.2.1→Aa (decide (i.1<(↑(List.length x.2.2.2):Int))) (((0:Int)≤i.1∧i.1<(↑(List.length x.2.2.2):Int))∧∀(e:Int),x.2.2.2[Int.toNat i.1]? =some e→cA (Ct n) [.box 0 [nds x.1,Ad (x.2.1++List.flatMap (Az x.1 n) (List.take (Int.toNat i.1) x.2.2.2)),Ab i.2],.int .i64 e] fun x_1 y=>inR IntKind.i64 (i.1+(1:Int))∧eN (Sj n x) i [.box 0 [nds x_1.1,Ad (x_1.2.1++Az x_1.1 n x_1.2.2.2),Ab y],An x.2.2.2,.int .i64 (↑(List.length x.2.2.2):Int),.int .i64 (i.1+(1:Int))]) (rA (Ej n) x [.tup [],.box 0 [nds x.1,Ad (x.2.1++List.flatMap (Az x.1 n) (List.take (Int.toNat i.1) x.2.2.2)),Ab i.2],.top])) (fun x=>by kernel_rfl) fun(x:List Nd×List Sg×List Int×List Int) (hx:(Bi x.1∧x.2.2.1.length=x.1.length)∧EW x.1 n x.2.2.2 x.2.1)=>(by
 dsimp only[cA,eA,eN,Sj,An,Bx,nds,Ab,Ad,rA,Ej,Ct,Bv,tlr,Aw,AR,mvL,lnL,mvE,lnE,Br]
 obtain⟨⟨h1,h2⟩,h3⟩:=hx
 have hll:=h3.2.1
 (repeat' first|(with_reducible first|rfl|exact True.intro|apply AM|apply And.intro|((first|apply AC|apply AK|apply AD|apply AL)<;>intro _))|(apply AB<;>intro _)|apply AJ|refine Ag () ?_ ?_|((first|apply AQ|apply AP|apply AO|apply AN|apply AI|apply AH|apply AG|apply AF|apply AE)<;>try dsimp only)|apply Ag|(refine Prod.forall.2 ?_;intro _;try dsimp only)|(intro _;try dsimp only))
 all_goals first
  |rfl
  |omega
  |exact h1
  |(simp;done)
  |exact h3.2.2.1 _ (Cu ‹_›)
  |exact a3l h3
  |exact a3m (by omega) ‹_›
  |(rw[List.take_of_length_le (by omega)];done)
  |((try simp only[AS]);omega)
  |skip)
end Go.My
end
section
namespace Go.My
open Go.Eng Go.Proofs
variable {G:GInv}
structure telP (ns:List Nd) (n:Nat) (x:Nd) (s:List Sg):Prop where
 nl:ns.length<2^62
 k12:x.kids.length≤12
 lo:(CM x.kind).1≤x.kids.length
 hi:x.kids.length≤(CM x.kind).2
 kid:∀c∈x.kids,EC ns n c
 rm:s.length+80000*n+80000≤24080000
theorem Sk{ns:List Nd}{n:Nat}{l:List Int}(m:List UInt8)(h:∀c∈l,EC ns n c)(hl:l.length≤12):(Bb (Az ns n) m l).length≤64812∧(l.flatMap (Az ns n)).length≤64800:=by
 have h1:∀c∈l,(Az ns n c).length≤5400:=fun c hc=>Nx (h c hc)
 have h2:=UX h1
 have h4:= @UW (Az ns n) m l
 have h5:l.length*5400≤12*5400:=Nat.mul_le_mul_right _ hl
 have h6:(l.flatMap (Az ns n)).length=fl (Az ns n) l:=rfl
 omega
theorem Sl{x:Nd}{c:Int}(h:x.kids[Int.toNat 0]? =some c):c=kd x 0:=(MR h).symm
theorem Sm{x:Nd}{c:Int}(h:x.kids[Int.toNat 1]? =some c):c=kd x 1:=(MR h).symm
theorem Sn{x:Nd}{c:Int}(h:x.kids[Int.toNat 2]? =some c):c=kd x 2:=(MR h).symm
theorem So{x:Nd}{c:Int}(h:x.kids[Int.toNat ((x.kids.length:Int)-1)]? =some c):c=kd x (x.kids.length-1):=by
 have e:Int.toNat ((x.kids.length:Int)-1)=x.kids.length-1:=by omega
 rw[e] at h;exact(MR h).symm
theorem a3n{l:List (List UInt8)}:AV.sl false 0 1 (List UInt8) (fun x=>fzL (Ai x)) l=AV.sl false 0 1 (List UInt8) Ai l:=rfl
theorem Sp{ns:List Nd}{n j:Nat}{x:Nd}{s s':List Sg}(h:telP ns n x s)(hs:s'.length≤s.length+11000):EW ns n (x.kids.take j) s':=by
 have h1:=h.rm;have h2:=h.k12
 refine⟨h.nl,by rw[List.length_take];omega,fun c hc=>h.kid c (List.mem_of_mem_take hc),by unfold fB;omega,by omega⟩
theorem Sq{ns:List Nd}{n j:Nat}{x:Nd}{s s':List Sg}(h:telP ns n x s)(hs:s'.length≤s.length+11000):EW ns n (x.kids.drop j) s':=by
 have h1:=h.rm;have h2:=h.k12
 refine⟨h.nl,by rw[List.length_drop];omega,fun c hc=>h.kid c (List.mem_of_mem_drop hc),by unfold fB;omega,by omega⟩
theorem HX{ns:List Nd}{n:Nat}{x:Nd}{s s':List Sg}(h:telP ns n x s)(hs:s'.length≤s.length+11000):EW ns n x.kids s':=by
 have h1:=h.rm;have h2:=h.k12
 refine⟨h.nl,h2,fun c hc=>h.kid c hc,by unfold fB;omega,by omega⟩
structure telL (ns:List Nd) (n:Nat) (x:Nd):Prop where
 a:∀i,i<x.kids.length→(Az ns n (kd x i)).length≤5400
 t:∀j m,(Bb (Az ns n) m (x.kids.take j)).length≤64812
 d:∀j m,(Bb (Az ns n) m (x.kids.drop j)).length≤64812
 l:∀m,(Bb (Az ns n) m x.kids).length≤64812
 e:(x.kids.flatMap (Az ns n)).length≤64800
theorem Sr{ns:List Nd}{n:Nat}{x:Nd}{s:List Sg}(h:telP ns n x s):telL ns n x:=by
 have h2:=h.k12
 refine⟨fun i hi=> ?_,fun j m=>(Sk m (fun c hc=>h.kid c (List.mem_of_mem_take hc)) (by rw[List.length_take];omega)).1,fun j m=>(Sk m (fun c hc=>h.kid c (List.mem_of_mem_drop hc)) (by rw[List.length_drop];omega)).1,fun m=>(Sk m h.kid h2).1,(Sk [] h.kid h2).2⟩
 have hm:x.kids[i]? =some x.kids[i]:=List.getElem?_eq_getElem hi
 rw[MR hm]
 exact Nx (h.kid _ (List.mem_of_getElem? hm))
theorem Ko(n:Nat):Int.toNat ((n:Int)-1)=n-1:=by omega
def a3o(k:Int)(x:List Nd×List Sg×List Int×Nd):LS:= {
 ι:=Unit,inv:=fun _=>x.2.2.2.kind=k,
 regs:=fun _=>[(0,tlr x.1 (x.2.1++[sg0 k x.2.2.2.text]) x.2.2.1),(3,.box 0 (ndA false x.2.2.2))],als:=[],meas:=fun _=>0}
def Fk(n:Nat):Sig:= {X:=List Nd×List Sg×List Int×Nd,args:=fun x=>[tlr x.1 x.2.1 x.2.2.1,.agg (ndA false x.2.2.2)],pre:=fun x=>(Bi x.1∧x.2.2.1.length=x.1.length)∧telP x.1 n x.2.2.2 x.2.1∧1≤x.2.2.2.kind∧x.2.2.2.kind≤11,Y:=List Int,post:=fun x y=>y.length=x.2.2.1.length,res:=fun x y=> .tup [],outs:=fun x y=>[tlr x.1 (x.2.1++Bo (Az x.1 n) x.2.2.2) y,.top],keep:=true}
theorem b4A(n:Nat)(hc:Am G Go.Proofs.Tryz.prog 58 (Ct n)):Am G Tryz.prog 85 (Fk n):=
 vcFun_okP [(58,0,(Ct n)),(99,0,BJ),(98,0,Dq),(100,0,(GR n))] [(39,⟨List UInt8,Ai⟩),(28,⟨Sg,sgA⟩)] false (fun x=>[(100006,a3o 2 x),(100008,a3o 3 x)]) Tryz.func85 rfl (by decide) ⟨hc,WH,a3i,a3k n hc,trivial⟩ (fun(x:List Nd×List Sg×List Int×Nd)=>True∧inR IntKind.i64 ((↑(List.length x.2.2.2.kids):Int)-(1:Int))∧Aa (x.2.2.2.kind==(1:Int)) (cA Dq [.box 0 [nds x.1,Ad x.2.1,Ab x.2.2.1],.str x.2.2.2.text] fun x_1 y=>rA (Fk n) x [.tup [],.box 0 [nds x_1.1,Ad (x_1.2.1++[wdS x_1.2.2.2]),Ab x_1.2.2.1],.top]) (Aa (x.2.2.2.kind==(2:Int)) (true=true∧((∃(x_1:Sg),(2:Int)=x_1.kind∧x.2.2.2.text=x_1.text∧(0:Int)=x_1.pos∧false=x_1.blank∧∃(zs:List Sg),Ad [x_1]=Ad zs∧Bu sgA∧Ba (List.length x.2.1+List.length zs) (40:Nat)∧true=true∧∃(i:Unit),x.2.2.2.kind=(2:Int)∧(nds x.1=nds x.1∧Ad (x.2.1++zs)=Ad (x.2.1++[sg0 (2:Int) x.2.2.2.text])∧Ab x.2.2.1=Ab x.2.2.1∧x.2.2.2.kind=x.2.2.2.kind∧x.2.2.2.text=x.2.2.2.text∧An x.2.2.2.kids=An x.2.2.2.kids∧x.2.2.2.blank=x.2.2.2.blank∧True)∧True)∧(∃(x_1:Sg),(2:Int)=x_1.kind∧x.2.2.2.text=x_1.text∧(0:Int)=x_1.pos∧false=x_1.blank∧∃(zs:List Sg),Ad [x_1]=Ad zs∧Bu sgA∧Ba (List.length x.2.1+List.length zs) (40:Nat)∧true=true∧∃(i:Unit),x.2.2.2.kind=(2:Int)∧(nds x.1=nds x.1∧Ad (x.2.1++zs)=Ad (x.2.1++[sg0 (2:Int) x.2.2.2.text])∧Ab x.2.2.1=Ab x.2.2.1∧x.2.2.2.kind=x.2.2.2.kind∧x.2.2.2.text=x.2.2.2.text∧An x.2.2.2.kids=An x.2.2.2.kids∧x.2.2.2.blank=x.2.2.2.blank∧True)∧True)∧(∃(x_1:Sg),(2:Int)=x_1.kind∧x.2.2.2.text=x_1.text∧(0:Int)=x_1.pos∧false=x_1.blank∧∃(zs:List Sg),Ad [x_1]=Ad zs∧Bu sgA∧Ba (List.length x.2.1+List.length zs) (40:Nat)∧true=true∧∃(i:Unit),x.2.2.2.kind=(2:Int)∧(nds x.1=nds x.1∧Ad (x.2.1++zs)=Ad (x.2.1++[sg0 (2:Int) x.2.2.2.text])∧Ab x.2.2.1=Ab x.2.2.1∧x.2.2.2.kind=x.2.2.2.kind∧x.2.2.2.text=x.2.2.2.text∧An x.2.2.2.kids=An x.2.2.2.kids∧x.2.2.2.blank=x.2.2.2.blank∧True)∧True)∧∃(x_1:Sg),(2:Int)=x_1.kind∧x.2.2.2.text=x_1.text∧(0:Int)=x_1.pos∧false=x_1.blank∧∃(zs:List Sg),Ad [x_1]=Ad zs∧Bu sgA∧Ba (List.length x.2.1+List.length zs) (40:Nat)∧true=true∧∃(i:Unit),x.2.2.2.kind=(2:Int)∧(nds x.1=nds x.1∧Ad (x.2.1++zs)=Ad (x.2.1++[sg0 (2:Int) x.2.2.2.text])∧Ab x.2.2.1=Ab x.2.2.1∧x.2.2.2.kind=x.2.2.2.kind∧x.2.2.2.text=x.2.2.2.text∧An x.2.2.2.kids=An x.2.2.2.kids∧x.2.2.2.blank=x.2.2.2.blank∧True)∧True)∧∀(i:Unit),x.2.2.2.kind=(2:Int)→rA (Fk n) x [.tup [],.box 0 [nds x.1,Ad (x.2.1++[sg0 (2:Int) x.2.2.2.text]),Ab x.2.2.1],.top]) (Aa (x.2.2.2.kind==(3:Int)) (true=true∧((∃(x_1:Sg),(3:Int)=x_1.kind∧x.2.2.2.text=x_1.text∧(0:Int)=x_1.pos∧false=x_1.blank∧∃(zs:List Sg),Ad [x_1]=Ad zs∧Bu sgA∧Ba (List.length x.2.1+List.length zs) (40:Nat)∧true=true∧∃(i:Unit),x.2.2.2.kind=(3:Int)∧(nds x.1=nds x.1∧Ad (x.2.1++zs)=Ad (x.2.1++[sg0 (3:Int) x.2.2.2.text])∧Ab x.2.2.1=Ab x.2.2.1∧x.2.2.2.kind=x.2.2.2.kind∧x.2.2.2.text=x.2.2.2.text∧An x.2.2.2.kids=An x.2.2.2.kids∧x.2.2.2.blank=x.2.2.2.blank∧True)∧True)∧(∃(x_1:Sg),(3:Int)=x_1.kind∧x.2.2.2.text=x_1.text∧(0:Int)=x_1.pos∧false=x_1.blank∧∃(zs:List Sg),Ad [x_1]=Ad zs∧Bu sgA∧Ba (List.length x.2.1+List.length zs) (40:Nat)∧true=true∧∃(i:Unit),x.2.2.2.kind=(3:Int)∧(nds x.1=nds x.1∧Ad (x.2.1++zs)=Ad (x.2.1++[sg0 (3:Int) x.2.2.2.text])∧Ab x.2.2.1=Ab x.2.2.1∧x.2.2.2.kind=x.2.2.2.kind∧x.2.2.2.text=x.2.2.2.text∧An x.2.2.2.kids=An x.2.2.2.kids∧x.2.2.2.blank=x.2.2.2.blank∧True)∧True)∧(∃(x_1:Sg),(3:Int)=x_1.kind∧x.2.2.2.text=x_1.text∧(0:Int)=x_1.pos∧false=x_1.blank∧∃(zs:List Sg),Ad [x_1]=Ad zs∧Bu sgA∧Ba (List.length x.2.1+List.length zs) (40:Nat)∧true=true∧∃(i:Unit),x.2.2.2.kind=(3:Int)∧(nds x.1=nds x.1∧Ad (x.2.1++zs)=Ad (x.2.1++[sg0 (3:Int) x.2.2.2.text])∧Ab x.2.2.1=Ab x.2.2.1∧x.2.2.2.kind=x.2.2.2.kind∧x.2.2.2.text=x.2.2.2.text∧An x.2.2.2.kids=An x.2.2.2.kids∧x.2.2.2.blank=x.2.2.2.blank∧True)∧True)∧∃(x_1:Sg),(3:Int)=x_1.kind∧x.2.2.2.text=x_1.text∧(0:Int)=x_1.pos∧false=x_1.blank∧∃(zs:List Sg),Ad [x_1]=Ad zs∧Bu sgA∧Ba (List.length x.2.1+List.length zs) (40:Nat)∧true=true∧∃(i:Unit),x.2.2.2.kind=(3:Int)∧(nds x.1=nds x.1∧Ad (x.2.1++zs)=Ad (x.2.1++[sg0 (3:Int) x.2.2.2.text])∧Ab x.2.2.1=Ab x.2.2.1∧x.2.2.2.kind=x.2.2.2.kind∧x.2.2.2.text=x.2.2.2.text∧An x.2.2.2.kids=An x.2.2.2.kids∧x.2.2.2.blank=x.2.2.2.blank∧True)∧True)∧∀(i:Unit),x.2.2.2.kind=(3:Int)→rA (Fk n) x [.tup [],.box 0 [nds x.1,Ad (x.2.1++[sg0 (3:Int) x.2.2.2.text]),Ab x.2.2.1],.top]) (Aa (x.2.2.2.kind==(4:Int)) (∃(x_1:List UInt8),#[(91:UInt8)].toList=x_1∧cA BJ [.box 0 [nds x.1,Ad x.2.1,Ab x.2.2.1],AV.sl true 0 1 (List UInt8) Ai [x_1]] fun x_2 y=>cA (GR n) [.box 0 [nds x_2.1,Ad (x_2.2.1++List.map mkS x_2.2.2.2),Ab x_2.2.2.1],An x.2.2.2.kids,.str #[(44:UInt8)].toList] fun x_3 y=>∃(x_4:List UInt8),#[(93:UInt8)].toList=x_4∧cA BJ [.box 0 [nds x_3.1,Ad (x_3.2.1++Bb (Az x_3.1 n) x_3.2.2.2.2 x_3.2.2.2.1),Ab y],AV.sl true 0 1 (List UInt8) Ai [x_4]] fun x_5 y=>rA (Fk n) x [.tup [],.box 0 [nds x_5.1,Ad (x_5.2.1++List.map mkS x_5.2.2.2),Ab x_5.2.2.1],.top]) (Aa (x.2.2.2.kind==(5:Int)) (((0:Int)≤(0:Int)∧(0:Int)<(↑(List.length x.2.2.2.kids):Int))∧∀(e:Int),x.2.2.2.kids[(0:Nat)]? =some e→cA (Ct n) [.box 0 [nds x.1,Ad x.2.1,Ab x.2.2.1],.int .i64 e] fun x_1 y=>∃(x_2:List UInt8),#[(40:UInt8)].toList=x_2∧cA BJ [.box 0 [nds x_1.1,Ad (x_1.2.1++Az x_1.1 n x_1.2.2.2),Ab y],AV.sl true 0 1 (List UInt8) Ai [x_2]] fun x_3 y=>((0:Int)≤(1:Int)∧(1:Int)≤(↑(List.length x.2.2.2.kids):Int)∧(↑(List.length x.2.2.2.kids):Int)≤(↑(List.length x.2.2.2.kids):Int))∧cA (GR n) [.box 0 [nds x_3.1,Ad (x_3.2.1++List.map mkS x_3.2.2.2),Ab x_3.2.2.1],An (List.drop (1:Nat) x.2.2.2.kids),.str #[(44:UInt8)].toList] fun x_4 y=>∃(x_5:List UInt8),#[(41:UInt8)].toList=x_5∧cA BJ [.box 0 [nds x_4.1,Ad (x_4.2.1++Bb (Az x_4.1 n) x_4.2.2.2.2 x_4.2.2.2.1),Ab y],AV.sl true 0 1 (List UInt8) Ai [x_5]] fun x_6 y=>rA (Fk n) x [.tup [],.box 0 [nds x_6.1,Ad (x_6.2.1++List.map mkS x_6.2.2.2),Ab x_6.2.2.1],.top]) (Aa (x.2.2.2.kind==(6:Int)) (((0:Int)≤(0:Int)∧(0:Int)<(↑(List.length x.2.2.2.kids):Int))∧∀(e:Int),x.2.2.2.kids[(0:Nat)]? =some e→cA (Ct n) [.box 0 [nds x.1,Ad x.2.1,Ab x.2.2.1],.int .i64 e] fun x_1 y=>∃(x_2:List UInt8),#[(46:UInt8)].toList=x_2∧cA BJ [.box 0 [nds x_1.1,Ad (x_1.2.1++Az x_1.1 n x_1.2.2.2),Ab y],AV.sl true 0 1 (List UInt8) Ai [x_2]] fun x_3 y=>cA Dq [.box 0 [nds x_3.1,Ad (x_3.2.1++List.map mkS x_3.2.2.2),Ab x_3.2.2.1],.str x.2.2.2.text] fun x_4 y=>rA (Fk n) x [.tup [],.box 0 [nds x_4.1,Ad (x_4.2.1++[wdS x_4.2.2.2]),Ab x_4.2.2.1],.top]) (Aa (x.2.2.2.kind==(7:Int)) (cA (GR n) [.box 0 [nds x.1,Ad x.2.1,Ab x.2.2.1],An x.2.2.2.kids,.str x.2.2.2.text] fun x_1 y=>rA (Fk n) x [.tup [],.box 0 [nds x_1.1,Ad (x_1.2.1++Bb (Az x_1.1 n) x_1.2.2.2.2 x_1.2.2.2.1),Ab y],.top]) (Aa (x.2.2.2.kind==(8:Int)) (((0:Int)≤(0:Int)∧(0:Int)<(↑(List.length x.2.2.2.kids):Int))∧∀(e:Int),x.2.2.2.kids[(0:Nat)]? =some e→cA (Ct n) [.box 0 [nds x.1,Ad x.2.1,Ab x.2.2.1],.int .i64 e] fun x_1 y=>∃(x_2:List UInt8),#[(63:UInt8)].toList=x_2∧cA BJ [.box 0 [nds x_1.1,Ad (x_1.2.1++Az x_1.1 n x_1.2.2.2),Ab y],AV.sl true 0 1 (List UInt8) Ai [x_2]] fun x_3 y=>((0:Int)≤(1:Int)∧(1:Int)<(↑(List.length x.2.2.2.kids):Int))∧∀(e:Int),x.2.2.2.kids[(1:Nat)]? =some e→cA (Ct n) [.box 0 [nds x_3.1,Ad (x_3.2.1++List.map mkS x_3.2.2.2),Ab x_3.2.2.1],.int .i64 e] fun x_4 y=>∃(x_5:List UInt8),#[(58:UInt8)].toList=x_5∧cA BJ [.box 0 [nds x_4.1,Ad (x_4.2.1++Az x_4.1 n x_4.2.2.2),Ab y],AV.sl true 0 1 (List UInt8) Ai [x_5]] fun x_6 y=>((0:Int)≤(2:Int)∧(2:Int)<(↑(List.length x.2.2.2.kids):Int))∧∀(e:Int),x.2.2.2.kids[(2:Nat)]? =some e→cA (Ct n) [.box 0 [nds x_6.1,Ad (x_6.2.1++List.map mkS x_6.2.2.2),Ab x_6.2.2.1],.int .i64 e] fun x_7 y=>rA (Fk n) x [.tup [],.box 0 [nds x_7.1,Ad (x_7.2.1++Az x_7.1 n x_7.2.2.2),Ab y],.top]) (Aa (x.2.2.2.kind==(9:Int)) (∃(x_1:List UInt8),#[(40:UInt8)].toList=x_1∧cA BJ [.box 0 [nds x.1,Ad x.2.1,Ab x.2.2.1],AV.sl true 0 1 (List UInt8) Ai [x_1]] fun x_2 y=>((0:Int)≤(0:Int)∧(0:Int)≤(↑(List.length x.2.2.2.kids):Int)-(1:Int)∧(↑(List.length x.2.2.2.kids):Int)-(1:Int)≤(↑(List.length x.2.2.2.kids):Int))∧cA (GR n) [.box 0 [nds x_2.1,Ad (x_2.2.1++List.map mkS x_2.2.2.2),Ab x_2.2.2.1],An (List.take (Int.toNat ((↑(List.length x.2.2.2.kids):Int)-(1:Int))) x.2.2.2.kids),.str #[(44:UInt8)].toList] fun x_3 y=>∃(x_4:List UInt8),#[(41:UInt8)].toList=x_4∧∃(x_5:List UInt8),#[(61:UInt8),(62:UInt8)].toList=x_5∧cA BJ [.box 0 [nds x_3.1,Ad (x_3.2.1++Bb (Az x_3.1 n) x_3.2.2.2.2 x_3.2.2.2.1),Ab y],AV.sl true 0 1 (List UInt8) Ai [x_4,x_5]] fun x_6 y=>((0:Int)≤(↑(List.length x.2.2.2.kids):Int)-(1:Int)∧(↑(List.length x.2.2.2.kids):Int)-(1:Int)<(↑(List.length x.2.2.2.kids):Int))∧∀(e:Int),x.2.2.2.kids[Int.toNat ((↑(List.length x.2.2.2.kids):Int)-(1:Int))]? =some e→cA (Ct n) [.box 0 [nds x_6.1,Ad (x_6.2.1++List.map mkS x_6.2.2.2),Ab x_6.2.2.1],.int .i64 e] fun x_7 y=>rA (Fk n) x [.tup [],.box 0 [nds x_7.1,Ad (x_7.2.1++Az x_7.1 n x_7.2.2.2),Ab y],.top]) (Aa (x.2.2.2.kind==(10:Int)) (cA (GR n) [.box 0 [nds x.1,Ad x.2.1,Ab x.2.2.1],An x.2.2.2.kids,.str #[(46:UInt8),(46:UInt8)].toList] fun x_1 y=>rA (Fk n) x [.tup [],.box 0 [nds x_1.1,Ad (x_1.2.1++Bb (Az x_1.1 n) x_1.2.2.2.2 x_1.2.2.2.1),Ab y],.top]) (Aa (x.2.2.2.kind==(11:Int)) (∃(x_1:List UInt8),#[(40:UInt8)].toList=x_1∧cA BJ [.box 0 [nds x.1,Ad x.2.1,Ab x.2.2.1],AV.sl true 0 1 (List UInt8) Ai [x_1]] fun x_2 y=>((0:Int)≤(0:Int)∧(0:Int)<(↑(List.length x.2.2.2.kids):Int))∧∀(e:Int),x.2.2.2.kids[(0:Nat)]? =some e→cA (Ct n) [.box 0 [nds x_2.1,Ad (x_2.2.1++List.map mkS x_2.2.2.2),Ab x_2.2.2.1],.int .i64 e] fun x_3 y=>∃(x_4:List UInt8),#[(41:UInt8)].toList=x_4∧cA BJ [.box 0 [nds x_3.1,Ad (x_3.2.1++Az x_3.1 n x_3.2.2.2),Ab y],AV.sl true 0 1 (List UInt8) Ai [x_4]] fun x_5 y=>rA (Fk n) x [.tup [],.box 0 [nds x_5.1,Ad (x_5.2.1++List.map mkS x_5.2.2.2),Ab x_5.2.2.1],.top]) (rA (Fk n) x [.tup [],.box 0 [nds x.1,Ad x.2.1,Ab x.2.2.1],.top])))))))))))) (fun x=>by kernel_rfl) fun(x:List Nd×List Sg×List Int×Nd) (hx:(Bi x.1∧x.2.2.1.length=x.1.length)∧telP x.1 n x.2.2.2 x.2.1∧1≤x.2.2.2.kind∧x.2.2.2.kind≤11)=>(by
 dsimp only[cA,An,Bx,nds,Ab,Ad,rA,GR,BJ,Ct,Fk,Dq,Bv,Ho,tlr,Aw,AR,mvL,lnL,mvE,lnE]
 obtain⟨⟨h1,h2⟩,h3,h4,h5⟩:=hx
 have hr:=h3.rm;have hlo:=h3.lo;have hhi:=h3.hi;have hk12:=h3.k12
 have hL:=Sr h3
 (repeat' first|exact a3n|refine Pu ?_|(with_reducible first|rfl|exact True.intro|apply AM|apply And.intro|((first|apply AC|apply AK|apply AD|apply AL)<;>intro _))|(apply AB<;>intro _)|apply AJ|refine Ag () ?_ ?_|((first|apply AQ|apply AP|apply AO|apply AN|apply AI|apply AH|apply AG|apply AF|apply AE)<;>try dsimp only)|apply Ag|(refine Prod.forall.2 ?_;intro _;try dsimp only)|(intro _;try dsimp only))
 all_goals first
  |rfl
  |exact h1
  |exact h3.kid _ (Cu ‹_›)
  |exact HX h3 (by omega)
  |assumption
  |(exfalso;omega)
  |(repeat(rename x.2.2.2.kids[_]? =some _=>hq;first|(have e:=Sl hq;clear hq;subst e)|(have e:=Sm hq;clear hq;subst e)|(have e:=Sn hq;clear hq;subst e)|(have e:=So hq;clear hq;subst e))
    rename x.2.2.2.kind=_=>hkk
    rw[hkk] at hlo hhi
    simp only[CM,Int.reduceEq,or_self,or_false,false_or,or_true,true_or,if_true,if_false,reduceIte] at hlo hhi
    first
    |(simp only[Bo,hkk,Int.reduceEq,if_true,if_false,reduceIte,Ko]<;>(simp [mkS,sg0];done))
    |(try unfold fB
      try simp only[AS,Ba]
      first
      |omega
      |(try have ha:=hL.a 0 (by omega)
        try have ha1:=hL.a 1 (by omega)
        try have ha2:=hL.a 2 (by omega)
        first
        |refine Sp h3 ?_
        |refine Sq h3 ?_
        |refine HX h3 ?_
        |skip
        have hd:=hL.d 1 [44];have hl:=hL.l [44];have ht:=hL.t (x.2.2.2.kids.length-1) [44]
        simp only[Ko,List.length_append,List.length_map,List.length_cons,List.length_nil] at*
        omega)))
  |((try simp only[AS,Ba,List.length_append,List.length_cons,List.length_nil]);omega)
  |skip)
end Go.My
end
section
set_option maxHeartbeats 8000000
namespace Go.My
open Go.Eng Go.Proofs
variable {G:GInv}
def b4B(x:List Nd×List Sg×List Int×Nd):LS:= {
 ι:=Unit,inv:=fun _=>x.2.2.2.kind=19,
 regs:=fun _=>[(0,tlr x.1 (x.2.1++[sg0 5 x.2.2.2.text]) x.2.2.1),(3,.box 0 (ndA false x.2.2.2))],als:=[],meas:=fun _=>0}
def CP(n:Nat):Sig:= {X:=List Nd×List Sg×List Int×Nd,args:=fun x=>[tlr x.1 x.2.1 x.2.2.1,.agg (ndA false x.2.2.2)],pre:=fun x=>(Bi x.1∧x.2.2.1.length=x.1.length)∧telP x.1 n x.2.2.2 x.2.1∧12≤x.2.2.2.kind∧x.2.2.2.kind≤22,Y:=List Int,post:=fun x y=>y.length=x.2.2.1.length,res:=fun x y=> .tup [],outs:=fun x y=>[tlr x.1 (x.2.1++Bo (Az x.1 n) x.2.2.2) y,.top],keep:=true}
theorem b4C(n:Nat)(hc:Am G Go.Proofs.Tryz.prog 58 (Ct n)):Am G Tryz.prog 86 (CP n):=
 vcFun_okP [(58,0,(Ct n)),(99,0,BJ),(98,0,Dq),(100,0,(GR n)),(101,0,(Ej n))] [(39,⟨List UInt8,Ai⟩),(28,⟨Sg,sgA⟩)] false (fun x=>[(100035,b4B x)]) Tryz.func86 rfl (by decide) ⟨hc,WH,a3i,a3k n hc,b4z n hc,trivial⟩ (fun(x:List Nd×List Sg×List Int×Nd)=>True∧inR IntKind.i64 ((↑(List.length x.2.2.2.kids):Int)-(1:Int))∧Aa (x.2.2.2.kind==(12:Int)) (Aa (x.2.2.2.kind==(12:Int)) (cA Dq [.box 0 [nds x.1,Ad x.2.1,Ab x.2.2.1],.str #[(118:UInt8),(97:UInt8),(114:UInt8)].toList] fun x_1 y=>cA Dq [.box 0 [nds x_1.1,Ad (x_1.2.1++[wdS x_1.2.2.2]),Ab x_1.2.2.1],.str x.2.2.2.text] fun x_2 y=>Aa (decide ((↑(List.length x.2.2.2.kids):Int)>(0:Int))) (∃(x_3:List UInt8),#[(61:UInt8)].toList=x_3∧cA BJ [.box 0 [nds x_2.1,Ad (x_2.2.1++[wdS x_2.2.2.2]),Ab x_2.2.2.1],AV.sl true 0 1 (List UInt8) Ai [x_3]] fun x_4 y=>cA (Ej n) [.box 0 [nds x_4.1,Ad (x_4.2.1++List.map mkS x_4.2.2.2),Ab x_4.2.2.1],An x.2.2.2.kids] fun x_5 y=>∃(x_6:List UInt8),#[(59:UInt8)].toList=x_6∧cA BJ [.box 0 [nds x_5.1,Ad (x_5.2.1++List.flatMap (Az x_5.1 n) x_5.2.2.2),Ab y],AV.sl true 0 1 (List UInt8) Ai [x_6]] fun x_7 y=>rA (CP n) x [.tup [],.box 0 [nds x_7.1,Ad (x_7.2.1++List.map mkS x_7.2.2.2),Ab x_7.2.2.1],.top]) (cA (Ej n) [.box 0 [nds x_2.1,Ad (x_2.2.1++[wdS x_2.2.2.2]),Ab x_2.2.2.1],An x.2.2.2.kids] fun x_3 y=>∃(x_4:List UInt8),#[(59:UInt8)].toList=x_4∧cA BJ [.box 0 [nds x_3.1,Ad (x_3.2.1++List.flatMap (Az x_3.1 n) x_3.2.2.2),Ab y],AV.sl true 0 1 (List UInt8) Ai [x_4]] fun x_5 y=>rA (CP n) x [.tup [],.box 0 [nds x_5.1,Ad (x_5.2.1++List.map mkS x_5.2.2.2),Ab x_5.2.2.1],.top])) (cA Dq [.box 0 [nds x.1,Ad x.2.1,Ab x.2.2.1],.str x.2.2.2.text] fun x_1 y=>Aa (decide ((↑(List.length x.2.2.2.kids):Int)>(0:Int))) (∃(x_2:List UInt8),#[(61:UInt8)].toList=x_2∧cA BJ [.box 0 [nds x_1.1,Ad (x_1.2.1++[wdS x_1.2.2.2]),Ab x_1.2.2.1],AV.sl true 0 1 (List UInt8) Ai [x_2]] fun x_3 y=>cA (Ej n) [.box 0 [nds x_3.1,Ad (x_3.2.1++List.map mkS x_3.2.2.2),Ab x_3.2.2.1],An x.2.2.2.kids] fun x_4 y=>∃(x_5:List UInt8),#[(59:UInt8)].toList=x_5∧cA BJ [.box 0 [nds x_4.1,Ad (x_4.2.1++List.flatMap (Az x_4.1 n) x_4.2.2.2),Ab y],AV.sl true 0 1 (List UInt8) Ai [x_5]] fun x_6 y=>rA (CP n) x [.tup [],.box 0 [nds x_6.1,Ad (x_6.2.1++List.map mkS x_6.2.2.2),Ab x_6.2.2.1],.top]) (cA (Ej n) [.box 0 [nds x_1.1,Ad (x_1.2.1++[wdS x_1.2.2.2]),Ab x_1.2.2.1],An x.2.2.2.kids] fun x_2 y=>∃(x_3:List UInt8),#[(59:UInt8)].toList=x_3∧cA BJ [.box 0 [nds x_2.1,Ad (x_2.2.1++List.flatMap (Az x_2.1 n) x_2.2.2.2),Ab y],AV.sl true 0 1 (List UInt8) Ai [x_3]] fun x_4 y=>rA (CP n) x [.tup [],.box 0 [nds x_4.1,Ad (x_4.2.1++List.map mkS x_4.2.2.2),Ab x_4.2.2.1],.top]))) (Aa (x.2.2.2.kind==(13:Int)) (Aa (x.2.2.2.kind==(12:Int)) (cA Dq [.box 0 [nds x.1,Ad x.2.1,Ab x.2.2.1],.str #[(118:UInt8),(97:UInt8),(114:UInt8)].toList] fun x_1 y=>cA Dq [.box 0 [nds x_1.1,Ad (x_1.2.1++[wdS x_1.2.2.2]),Ab x_1.2.2.1],.str x.2.2.2.text] fun x_2 y=>Aa (decide ((↑(List.length x.2.2.2.kids):Int)>(0:Int))) (∃(x_3:List UInt8),#[(61:UInt8)].toList=x_3∧cA BJ [.box 0 [nds x_2.1,Ad (x_2.2.1++[wdS x_2.2.2.2]),Ab x_2.2.2.1],AV.sl true 0 1 (List UInt8) Ai [x_3]] fun x_4 y=>cA (Ej n) [.box 0 [nds x_4.1,Ad (x_4.2.1++List.map mkS x_4.2.2.2),Ab x_4.2.2.1],An x.2.2.2.kids] fun x_5 y=>∃(x_6:List UInt8),#[(59:UInt8)].toList=x_6∧cA BJ [.box 0 [nds x_5.1,Ad (x_5.2.1++List.flatMap (Az x_5.1 n) x_5.2.2.2),Ab y],AV.sl true 0 1 (List UInt8) Ai [x_6]] fun x_7 y=>rA (CP n) x [.tup [],.box 0 [nds x_7.1,Ad (x_7.2.1++List.map mkS x_7.2.2.2),Ab x_7.2.2.1],.top]) (cA (Ej n) [.box 0 [nds x_2.1,Ad (x_2.2.1++[wdS x_2.2.2.2]),Ab x_2.2.2.1],An x.2.2.2.kids] fun x_3 y=>∃(x_4:List UInt8),#[(59:UInt8)].toList=x_4∧cA BJ [.box 0 [nds x_3.1,Ad (x_3.2.1++List.flatMap (Az x_3.1 n) x_3.2.2.2),Ab y],AV.sl true 0 1 (List UInt8) Ai [x_4]] fun x_5 y=>rA (CP n) x [.tup [],.box 0 [nds x_5.1,Ad (x_5.2.1++List.map mkS x_5.2.2.2),Ab x_5.2.2.1],.top])) (cA Dq [.box 0 [nds x.1,Ad x.2.1,Ab x.2.2.1],.str x.2.2.2.text] fun x_1 y=>Aa (decide ((↑(List.length x.2.2.2.kids):Int)>(0:Int))) (∃(x_2:List UInt8),#[(61:UInt8)].toList=x_2∧cA BJ [.box 0 [nds x_1.1,Ad (x_1.2.1++[wdS x_1.2.2.2]),Ab x_1.2.2.1],AV.sl true 0 1 (List UInt8) Ai [x_2]] fun x_3 y=>cA (Ej n) [.box 0 [nds x_3.1,Ad (x_3.2.1++List.map mkS x_3.2.2.2),Ab x_3.2.2.1],An x.2.2.2.kids] fun x_4 y=>∃(x_5:List UInt8),#[(59:UInt8)].toList=x_5∧cA BJ [.box 0 [nds x_4.1,Ad (x_4.2.1++List.flatMap (Az x_4.1 n) x_4.2.2.2),Ab y],AV.sl true 0 1 (List UInt8) Ai [x_5]] fun x_6 y=>rA (CP n) x [.tup [],.box 0 [nds x_6.1,Ad (x_6.2.1++List.map mkS x_6.2.2.2),Ab x_6.2.2.1],.top]) (cA (Ej n) [.box 0 [nds x_1.1,Ad (x_1.2.1++[wdS x_1.2.2.2]),Ab x_1.2.2.1],An x.2.2.2.kids] fun x_2 y=>∃(x_3:List UInt8),#[(59:UInt8)].toList=x_3∧cA BJ [.box 0 [nds x_2.1,Ad (x_2.2.1++List.flatMap (Az x_2.1 n) x_2.2.2.2),Ab y],AV.sl true 0 1 (List UInt8) Ai [x_3]] fun x_4 y=>rA (CP n) x [.tup [],.box 0 [nds x_4.1,Ad (x_4.2.1++List.map mkS x_4.2.2.2),Ab x_4.2.2.1],.top]))) (Aa (x.2.2.2.kind==(14:Int)) (Aa (x.2.2.2.kind==(15:Int)) (cA Dq [.box 0 [nds x.1,Ad x.2.1,Ab x.2.2.1],.str #[(114:UInt8),(101:UInt8),(116:UInt8),(117:UInt8),(114:UInt8),(110:UInt8)].toList] fun x_1 y=>cA (Ej n) [.box 0 [nds x_1.1,Ad (x_1.2.1++[wdS x_1.2.2.2]),Ab x_1.2.2.1],An x.2.2.2.kids] fun x_2 y=>∃(x_3:List UInt8),#[(59:UInt8)].toList=x_3∧cA BJ [.box 0 [nds x_2.1,Ad (x_2.2.1++List.flatMap (Az x_2.1 n) x_2.2.2.2),Ab y],AV.sl true 0 1 (List UInt8) Ai [x_3]] fun x_4 y=>rA (CP n) x [.tup [],.box 0 [nds x_4.1,Ad (x_4.2.1++List.map mkS x_4.2.2.2),Ab x_4.2.2.1],.top]) (cA (Ej n) [.box 0 [nds x.1,Ad x.2.1,Ab x.2.2.1],An x.2.2.2.kids] fun x_1 y=>∃(x_2:List UInt8),#[(59:UInt8)].toList=x_2∧cA BJ [.box 0 [nds x_1.1,Ad (x_1.2.1++List.flatMap (Az x_1.1 n) x_1.2.2.2),Ab y],AV.sl true 0 1 (List UInt8) Ai [x_2]] fun x_3 y=>rA (CP n) x [.tup [],.box 0 [nds x_3.1,Ad (x_3.2.1++List.map mkS x_3.2.2.2),Ab x_3.2.2.1],.top])) (Aa (x.2.2.2.kind==(15:Int)) (Aa (x.2.2.2.kind==(15:Int)) (cA Dq [.box 0 [nds x.1,Ad x.2.1,Ab x.2.2.1],.str #[(114:UInt8),(101:UInt8),(116:UInt8),(117:UInt8),(114:UInt8),(110:UInt8)].toList] fun x_1 y=>cA (Ej n) [.box 0 [nds x_1.1,Ad (x_1.2.1++[wdS x_1.2.2.2]),Ab x_1.2.2.1],An x.2.2.2.kids] fun x_2 y=>∃(x_3:List UInt8),#[(59:UInt8)].toList=x_3∧cA BJ [.box 0 [nds x_2.1,Ad (x_2.2.1++List.flatMap (Az x_2.1 n) x_2.2.2.2),Ab y],AV.sl true 0 1 (List UInt8) Ai [x_3]] fun x_4 y=>rA (CP n) x [.tup [],.box 0 [nds x_4.1,Ad (x_4.2.1++List.map mkS x_4.2.2.2),Ab x_4.2.2.1],.top]) (cA (Ej n) [.box 0 [nds x.1,Ad x.2.1,Ab x.2.2.1],An x.2.2.2.kids] fun x_1 y=>∃(x_2:List UInt8),#[(59:UInt8)].toList=x_2∧cA BJ [.box 0 [nds x_1.1,Ad (x_1.2.1++List.flatMap (Az x_1.1 n) x_1.2.2.2),Ab y],AV.sl true 0 1 (List UInt8) Ai [x_2]] fun x_3 y=>rA (CP n) x [.tup [],.box 0 [nds x_3.1,Ad (x_3.2.1++List.map mkS x_3.2.2.2),Ab x_3.2.2.1],.top])) (Aa (x.2.2.2.kind==(16:Int)) (Aa (x.2.2.2.kind==(16:Int)) (cA Dq [.box 0 [nds x.1,Ad x.2.1,Ab x.2.2.1],.str #[(105:UInt8),(102:UInt8)].toList] fun x_1 y=>∃(x_2:List UInt8),#[(40:UInt8)].toList=x_2∧cA BJ [.box 0 [nds x_1.1,Ad (x_1.2.1++[wdS x_1.2.2.2]),Ab x_1.2.2.1],AV.sl true 0 1 (List UInt8) Ai [x_2]] fun x_3 y=>((0:Int)≤(0:Int)∧(0:Int)<(↑(List.length x.2.2.2.kids):Int))∧∀(e:Int),x.2.2.2.kids[(0:Nat)]? =some e→cA (Ct n) [.box 0 [nds x_3.1,Ad (x_3.2.1++List.map mkS x_3.2.2.2),Ab x_3.2.2.1],.int .i64 e] fun x_4 y=>∃(x_5:List UInt8),#[(41:UInt8)].toList=x_5∧cA BJ [.box 0 [nds x_4.1,Ad (x_4.2.1++Az x_4.1 n x_4.2.2.2),Ab y],AV.sl true 0 1 (List UInt8) Ai [x_5]] fun x_6 y=>((0:Int)≤(1:Int)∧(1:Int)<(↑(List.length x.2.2.2.kids):Int))∧∀(e:Int),x.2.2.2.kids[(1:Nat)]? =some e→cA (Ct n) [.box 0 [nds x_6.1,Ad (x_6.2.1++List.map mkS x_6.2.2.2),Ab x_6.2.2.1],.int .i64 e] fun x_7 y=>Aa ((↑(List.length x.2.2.2.kids):Int)==(3:Int)) (cA Dq [.box 0 [nds x_7.1,Ad (x_7.2.1++Az x_7.1 n x_7.2.2.2),Ab y],.str #[(101:UInt8),(108:UInt8),(115:UInt8),(101:UInt8)].toList] fun x_8 y=>((0:Int)≤(2:Int)∧(2:Int)<(↑(List.length x.2.2.2.kids):Int))∧∀(e:Int),x.2.2.2.kids[(2:Nat)]? =some e→cA (Ct n) [.box 0 [nds x_8.1,Ad (x_8.2.1++[wdS x_8.2.2.2]),Ab x_8.2.2.1],.int .i64 e] fun x_9 y=>rA (CP n) x [.tup [],.box 0 [nds x_9.1,Ad (x_9.2.1++Az x_9.1 n x_9.2.2.2),Ab y],.top]) (rA (CP n) x [.tup [],.box 0 [nds x_7.1,Ad (x_7.2.1++Az x_7.1 n x_7.2.2.2),Ab y],.top])) (cA Dq [.box 0 [nds x.1,Ad x.2.1,Ab x.2.2.1],.str #[(119:UInt8),(104:UInt8),(105:UInt8),(108:UInt8),(101:UInt8)].toList] fun x_1 y=>∃(x_2:List UInt8),#[(40:UInt8)].toList=x_2∧cA BJ [.box 0 [nds x_1.1,Ad (x_1.2.1++[wdS x_1.2.2.2]),Ab x_1.2.2.1],AV.sl true 0 1 (List UInt8) Ai [x_2]] fun x_3 y=>((0:Int)≤(0:Int)∧(0:Int)<(↑(List.length x.2.2.2.kids):Int))∧∀(e:Int),x.2.2.2.kids[(0:Nat)]? =some e→cA (Ct n) [.box 0 [nds x_3.1,Ad (x_3.2.1++List.map mkS x_3.2.2.2),Ab x_3.2.2.1],.int .i64 e] fun x_4 y=>∃(x_5:List UInt8),#[(41:UInt8)].toList=x_5∧cA BJ [.box 0 [nds x_4.1,Ad (x_4.2.1++Az x_4.1 n x_4.2.2.2),Ab y],AV.sl true 0 1 (List UInt8) Ai [x_5]] fun x_6 y=>((0:Int)≤(1:Int)∧(1:Int)<(↑(List.length x.2.2.2.kids):Int))∧∀(e:Int),x.2.2.2.kids[(1:Nat)]? =some e→cA (Ct n) [.box 0 [nds x_6.1,Ad (x_6.2.1++List.map mkS x_6.2.2.2),Ab x_6.2.2.1],.int .i64 e] fun x_7 y=>Aa ((↑(List.length x.2.2.2.kids):Int)==(3:Int)) (cA Dq [.box 0 [nds x_7.1,Ad (x_7.2.1++Az x_7.1 n x_7.2.2.2),Ab y],.str #[(101:UInt8),(108:UInt8),(115:UInt8),(101:UInt8)].toList] fun x_8 y=>((0:Int)≤(2:Int)∧(2:Int)<(↑(List.length x.2.2.2.kids):Int))∧∀(e:Int),x.2.2.2.kids[(2:Nat)]? =some e→cA (Ct n) [.box 0 [nds x_8.1,Ad (x_8.2.1++[wdS x_8.2.2.2]),Ab x_8.2.2.1],.int .i64 e] fun x_9 y=>rA (CP n) x [.tup [],.box 0 [nds x_9.1,Ad (x_9.2.1++Az x_9.1 n x_9.2.2.2),Ab y],.top]) (rA (CP n) x [.tup [],.box 0 [nds x_7.1,Ad (x_7.2.1++Az x_7.1 n x_7.2.2.2),Ab y],.top]))) (Aa (x.2.2.2.kind==(17:Int)) (Aa (x.2.2.2.kind==(16:Int)) (cA Dq [.box 0 [nds x.1,Ad x.2.1,Ab x.2.2.1],.str #[(105:UInt8),(102:UInt8)].toList] fun x_1 y=>∃(x_2:List UInt8),#[(40:UInt8)].toList=x_2∧cA BJ [.box 0 [nds x_1.1,Ad (x_1.2.1++[wdS x_1.2.2.2]),Ab x_1.2.2.1],AV.sl true 0 1 (List UInt8) Ai [x_2]] fun x_3 y=>((0:Int)≤(0:Int)∧(0:Int)<(↑(List.length x.2.2.2.kids):Int))∧∀(e:Int),x.2.2.2.kids[(0:Nat)]? =some e→cA (Ct n) [.box 0 [nds x_3.1,Ad (x_3.2.1++List.map mkS x_3.2.2.2),Ab x_3.2.2.1],.int .i64 e] fun x_4 y=>∃(x_5:List UInt8),#[(41:UInt8)].toList=x_5∧cA BJ [.box 0 [nds x_4.1,Ad (x_4.2.1++Az x_4.1 n x_4.2.2.2),Ab y],AV.sl true 0 1 (List UInt8) Ai [x_5]] fun x_6 y=>((0:Int)≤(1:Int)∧(1:Int)<(↑(List.length x.2.2.2.kids):Int))∧∀(e:Int),x.2.2.2.kids[(1:Nat)]? =some e→cA (Ct n) [.box 0 [nds x_6.1,Ad (x_6.2.1++List.map mkS x_6.2.2.2),Ab x_6.2.2.1],.int .i64 e] fun x_7 y=>Aa ((↑(List.length x.2.2.2.kids):Int)==(3:Int)) (cA Dq [.box 0 [nds x_7.1,Ad (x_7.2.1++Az x_7.1 n x_7.2.2.2),Ab y],.str #[(101:UInt8),(108:UInt8),(115:UInt8),(101:UInt8)].toList] fun x_8 y=>((0:Int)≤(2:Int)∧(2:Int)<(↑(List.length x.2.2.2.kids):Int))∧∀(e:Int),x.2.2.2.kids[(2:Nat)]? =some e→cA (Ct n) [.box 0 [nds x_8.1,Ad (x_8.2.1++[wdS x_8.2.2.2]),Ab x_8.2.2.1],.int .i64 e] fun x_9 y=>rA (CP n) x [.tup [],.box 0 [nds x_9.1,Ad (x_9.2.1++Az x_9.1 n x_9.2.2.2),Ab y],.top]) (rA (CP n) x [.tup [],.box 0 [nds x_7.1,Ad (x_7.2.1++Az x_7.1 n x_7.2.2.2),Ab y],.top])) (cA Dq [.box 0 [nds x.1,Ad x.2.1,Ab x.2.2.1],.str #[(119:UInt8),(104:UInt8),(105:UInt8),(108:UInt8),(101:UInt8)].toList] fun x_1 y=>∃(x_2:List UInt8),#[(40:UInt8)].toList=x_2∧cA BJ [.box 0 [nds x_1.1,Ad (x_1.2.1++[wdS x_1.2.2.2]),Ab x_1.2.2.1],AV.sl true 0 1 (List UInt8) Ai [x_2]] fun x_3 y=>((0:Int)≤(0:Int)∧(0:Int)<(↑(List.length x.2.2.2.kids):Int))∧∀(e:Int),x.2.2.2.kids[(0:Nat)]? =some e→cA (Ct n) [.box 0 [nds x_3.1,Ad (x_3.2.1++List.map mkS x_3.2.2.2),Ab x_3.2.2.1],.int .i64 e] fun x_4 y=>∃(x_5:List UInt8),#[(41:UInt8)].toList=x_5∧cA BJ [.box 0 [nds x_4.1,Ad (x_4.2.1++Az x_4.1 n x_4.2.2.2),Ab y],AV.sl true 0 1 (List UInt8) Ai [x_5]] fun x_6 y=>((0:Int)≤(1:Int)∧(1:Int)<(↑(List.length x.2.2.2.kids):Int))∧∀(e:Int),x.2.2.2.kids[(1:Nat)]? =some e→cA (Ct n) [.box 0 [nds x_6.1,Ad (x_6.2.1++List.map mkS x_6.2.2.2),Ab x_6.2.2.1],.int .i64 e] fun x_7 y=>Aa ((↑(List.length x.2.2.2.kids):Int)==(3:Int)) (cA Dq [.box 0 [nds x_7.1,Ad (x_7.2.1++Az x_7.1 n x_7.2.2.2),Ab y],.str #[(101:UInt8),(108:UInt8),(115:UInt8),(101:UInt8)].toList] fun x_8 y=>((0:Int)≤(2:Int)∧(2:Int)<(↑(List.length x.2.2.2.kids):Int))∧∀(e:Int),x.2.2.2.kids[(2:Nat)]? =some e→cA (Ct n) [.box 0 [nds x_8.1,Ad (x_8.2.1++[wdS x_8.2.2.2]),Ab x_8.2.2.1],.int .i64 e] fun x_9 y=>rA (CP n) x [.tup [],.box 0 [nds x_9.1,Ad (x_9.2.1++Az x_9.1 n x_9.2.2.2),Ab y],.top]) (rA (CP n) x [.tup [],.box 0 [nds x_7.1,Ad (x_7.2.1++Az x_7.1 n x_7.2.2.2),Ab y],.top]))) (Aa (x.2.2.2.kind==(18:Int)) (∃(x_1:List UInt8),#[(123:UInt8)].toList=x_1∧cA BJ [.box 0 [nds x.1,Ad x.2.1,Ab x.2.2.1],AV.sl true 0 1 (List UInt8) Ai [x_1]] fun x_2 y=>cA (Ej n) [.box 0 [nds x_2.1,Ad (x_2.2.1++List.map mkS x_2.2.2.2),Ab x_2.2.2.1],An x.2.2.2.kids] fun x_3 y=>∃(x_4:List UInt8),#[(125:UInt8)].toList=x_4∧cA BJ [.box 0 [nds x_3.1,Ad (x_3.2.1++List.flatMap (Az x_3.1 n) x_3.2.2.2),Ab y],AV.sl true 0 1 (List UInt8) Ai [x_4]] fun x_5 y=>rA (CP n) x [.tup [],.box 0 [nds x_5.1,Ad (x_5.2.1++List.map mkS x_5.2.2.2),Ab x_5.2.2.1],.top]) (Aa (x.2.2.2.kind==(19:Int)) (true=true∧((∃(x_1:Sg),(5:Int)=x_1.kind∧x.2.2.2.text=x_1.text∧(0:Int)=x_1.pos∧false=x_1.blank∧∃(zs:List Sg),Ad [x_1]=Ad zs∧Bu sgA∧Ba (List.length x.2.1+List.length zs) (40:Nat)∧true=true∧∃(i:Unit),x.2.2.2.kind=(19:Int)∧(nds x.1=nds x.1∧Ad (x.2.1++zs)=Ad (x.2.1++[sg0 (5:Int) x.2.2.2.text])∧Ab x.2.2.1=Ab x.2.2.1∧x.2.2.2.kind=x.2.2.2.kind∧x.2.2.2.text=x.2.2.2.text∧An x.2.2.2.kids=An x.2.2.2.kids∧x.2.2.2.blank=x.2.2.2.blank∧True)∧True)∧(∃(x_1:Sg),(5:Int)=x_1.kind∧x.2.2.2.text=x_1.text∧(0:Int)=x_1.pos∧false=x_1.blank∧∃(zs:List Sg),Ad [x_1]=Ad zs∧Bu sgA∧Ba (List.length x.2.1+List.length zs) (40:Nat)∧true=true∧∃(i:Unit),x.2.2.2.kind=(19:Int)∧(nds x.1=nds x.1∧Ad (x.2.1++zs)=Ad (x.2.1++[sg0 (5:Int) x.2.2.2.text])∧Ab x.2.2.1=Ab x.2.2.1∧x.2.2.2.kind=x.2.2.2.kind∧x.2.2.2.text=x.2.2.2.text∧An x.2.2.2.kids=An x.2.2.2.kids∧x.2.2.2.blank=x.2.2.2.blank∧True)∧True)∧(∃(x_1:Sg),(5:Int)=x_1.kind∧x.2.2.2.text=x_1.text∧(0:Int)=x_1.pos∧false=x_1.blank∧∃(zs:List Sg),Ad [x_1]=Ad zs∧Bu sgA∧Ba (List.length x.2.1+List.length zs) (40:Nat)∧true=true∧∃(i:Unit),x.2.2.2.kind=(19:Int)∧(nds x.1=nds x.1∧Ad (x.2.1++zs)=Ad (x.2.1++[sg0 (5:Int) x.2.2.2.text])∧Ab x.2.2.1=Ab x.2.2.1∧x.2.2.2.kind=x.2.2.2.kind∧x.2.2.2.text=x.2.2.2.text∧An x.2.2.2.kids=An x.2.2.2.kids∧x.2.2.2.blank=x.2.2.2.blank∧True)∧True)∧∃(x_1:Sg),(5:Int)=x_1.kind∧x.2.2.2.text=x_1.text∧(0:Int)=x_1.pos∧false=x_1.blank∧∃(zs:List Sg),Ad [x_1]=Ad zs∧Bu sgA∧Ba (List.length x.2.1+List.length zs) (40:Nat)∧true=true∧∃(i:Unit),x.2.2.2.kind=(19:Int)∧(nds x.1=nds x.1∧Ad (x.2.1++zs)=Ad (x.2.1++[sg0 (5:Int) x.2.2.2.text])∧Ab x.2.2.1=Ab x.2.2.1∧x.2.2.2.kind=x.2.2.2.kind∧x.2.2.2.text=x.2.2.2.text∧An x.2.2.2.kids=An x.2.2.2.kids∧x.2.2.2.blank=x.2.2.2.blank∧True)∧True)∧∀(i:Unit),x.2.2.2.kind=(19:Int)→rA (CP n) x [.tup [],.box 0 [nds x.1,Ad (x.2.1++[sg0 (5:Int) x.2.2.2.text]),Ab x.2.2.1],.top]) (Aa (x.2.2.2.kind==(20:Int)) (cA Dq [.box 0 [nds x.1,Ad x.2.1,Ab x.2.2.1],.str x.2.2.2.text] fun x_1 y=>∃(x_2:List UInt8),#[(40:UInt8)].toList=x_2∧cA BJ [.box 0 [nds x_1.1,Ad (x_1.2.1++[wdS x_1.2.2.2]),Ab x_1.2.2.1],AV.sl true 0 1 (List UInt8) Ai [x_2]] fun x_3 y=>((0:Int)≤(0:Int)∧(0:Int)≤(↑(List.length x.2.2.2.kids):Int)-(1:Int)∧(↑(List.length x.2.2.2.kids):Int)-(1:Int)≤(↑(List.length x.2.2.2.kids):Int))∧cA (GR n) [.box 0 [nds x_3.1,Ad (x_3.2.1++List.map mkS x_3.2.2.2),Ab x_3.2.2.1],An (List.take (Int.toNat ((↑(List.length x.2.2.2.kids):Int)-(1:Int))) x.2.2.2.kids),.str #[(44:UInt8)].toList] fun x_4 y=>∃(x_5:List UInt8),#[(41:UInt8)].toList=x_5∧cA BJ [.box 0 [nds x_4.1,Ad (x_4.2.1++Bb (Az x_4.1 n) x_4.2.2.2.2 x_4.2.2.2.1),Ab y],AV.sl true 0 1 (List UInt8) Ai [x_5]] fun x_6 y=>((0:Int)≤(↑(List.length x.2.2.2.kids):Int)-(1:Int)∧(↑(List.length x.2.2.2.kids):Int)-(1:Int)<(↑(List.length x.2.2.2.kids):Int))∧∀(e:Int),x.2.2.2.kids[Int.toNat ((↑(List.length x.2.2.2.kids):Int)-(1:Int))]? =some e→cA (Ct n) [.box 0 [nds x_6.1,Ad (x_6.2.1++List.map mkS x_6.2.2.2),Ab x_6.2.2.1],.int .i64 e] fun x_7 y=>rA (CP n) x [.tup [],.box 0 [nds x_7.1,Ad (x_7.2.1++Az x_7.1 n x_7.2.2.2),Ab y],.top]) (Aa (x.2.2.2.kind==(21:Int)) (cA Dq [.box 0 [nds x.1,Ad x.2.1,Ab x.2.2.1],.str #[(99:UInt8),(108:UInt8),(97:UInt8),(115:UInt8),(115:UInt8)].toList] fun x_1 y=>cA Dq [.box 0 [nds x_1.1,Ad (x_1.2.1++[wdS x_1.2.2.2]),Ab x_1.2.2.1],.str x.2.2.2.text] fun x_2 y=>∃(x_3:List UInt8),#[(123:UInt8)].toList=x_3∧cA BJ [.box 0 [nds x_2.1,Ad (x_2.2.1++[wdS x_2.2.2.2]),Ab x_2.2.2.1],AV.sl true 0 1 (List UInt8) Ai [x_3]] fun x_4 y=>cA (Ej n) [.box 0 [nds x_4.1,Ad (x_4.2.1++List.map mkS x_4.2.2.2),Ab x_4.2.2.1],An x.2.2.2.kids] fun x_5 y=>∃(x_6:List UInt8),#[(125:UInt8)].toList=x_6∧cA BJ [.box 0 [nds x_5.1,Ad (x_5.2.1++List.flatMap (Az x_5.1 n) x_5.2.2.2),Ab y],AV.sl true 0 1 (List UInt8) Ai [x_6]] fun x_7 y=>rA (CP n) x [.tup [],.box 0 [nds x_7.1,Ad (x_7.2.1++List.map mkS x_7.2.2.2),Ab x_7.2.2.1],.top]) (Aa (x.2.2.2.kind==(22:Int)) (cA (Ej n) [.box 0 [nds x.1,Ad x.2.1,Ab x.2.2.1],An x.2.2.2.kids] fun x_1 y=>rA (CP n) x [.tup [],.box 0 [nds x_1.1,Ad (x_1.2.1++List.flatMap (Az x_1.1 n) x_1.2.2.2),Ab y],.top]) (rA (CP n) x [.tup [],.box 0 [nds x.1,Ad x.2.1,Ab x.2.2.1],.top])))))))))))) (fun x=>by kernel_rfl) fun(x:List Nd×List Sg×List Int×Nd) (hx:(Bi x.1∧x.2.2.1.length=x.1.length)∧telP x.1 n x.2.2.2 x.2.1∧12≤x.2.2.2.kind∧x.2.2.2.kind≤22)=>(by
 dsimp only[cA,An,Bx,nds,Ab,Ad,rA,Ej,GR,BJ,Ct,CP,Dq,Bv,Ho,tlr,Aw,AR,mvL,lnL,mvE,lnE]
 obtain⟨⟨h1,h2⟩,h3,h4,h5⟩:=hx
 have hr:=h3.rm;have hlo:=h3.lo;have hhi:=h3.hi;have hk12:=h3.k12
 have hL:=Sr h3
 (repeat' first|exact a3n|refine Pu ?_|(with_reducible first|rfl|exact True.intro|apply AM|apply And.intro|((first|apply AC|apply AK|apply AD|apply AL)<;>intro _))|(apply AB<;>intro _)|apply AJ|refine Ag () ?_ ?_|((first|apply AQ|apply AP|apply AO|apply AN|apply AI|apply AH|apply AG|apply AF|apply AE)<;>try dsimp only)|apply Ag|(refine Prod.forall.2 ?_;intro _;try dsimp only)|(intro _;try dsimp only))
 all_goals first
  |rfl
  |exact h1
  |exact h3.kid _ (Cu ‹_›)
  |exact HX h3 (by omega)
  |assumption
  |(exfalso;omega)
  |(repeat(rename x.2.2.2.kids[_]? =some _=>hq;first|(have e:=Sl hq;clear hq;subst e)|(have e:=Sm hq;clear hq;subst e)|(have e:=Sn hq;clear hq;subst e)|(have e:=So hq;clear hq;subst e))
    rename x.2.2.2.kind=_=>hkk
    rw[hkk] at hlo hhi
    simp only[CM,Int.reduceEq,or_self,or_false,false_or,or_true,true_or,if_true,if_false,reduceIte] at hlo hhi
    first
    |(by_cases hp:0<x.2.2.2.kids.length<;>by_cases hq3:x.2.2.2.kids.length=3<;>first|(exfalso;omega)|(simp only[Bo,hkk,hp,hq3,Nat.lt_irrefl,Int.reduceEq,if_true,if_false,reduceIte,Ko]<;>(simp [mkS,sg0];done)))
    |(try unfold fB
      try simp only[AS,Ba]
      first
      |omega
      |(try have ha:=hL.a 0 (by omega)
        try have ha1:=hL.a 1 (by omega)
        try have ha2:=hL.a 2 (by omega)
        first
        |refine Sp h3 ?_
        |refine Sq h3 ?_
        |refine HX h3 ?_
        |skip
        have hd:=hL.d 1 [44];have hl:=hL.l [44];have ht:=hL.t (x.2.2.2.kids.length-1) [44];have hee:=hL.e
        simp only[Ko,List.length_append,List.length_map,List.length_cons,List.length_nil] at*
        omega)))
  |((try simp only[AS,Ba,List.length_append,List.length_cons,List.length_nil]);omega)
  |skip)
end Go.My
end
section
set_option maxHeartbeats 8000000
namespace Go.My
open Go.Eng Go.Proofs
variable {G:GInv}
theorem b4D{n:Nat}{s:List Sg}(h:fB (n+1) s):s.length+80000*n+80000≤24080000:=by
 have e:80000*(n+1)=80000*n+80000:=Nat.mul_succ _ _
 rw[fB,e] at h
 rw[Nat.add_assoc];exact h
theorem a3p{ns:List Nd}{n:Nat}{c:Int}:∀ {l:List Int},c∈l→(vis ns n c).length≤Li ns n l
 |d::l,h=>by
  rw[a0g]
  rcases List.mem_cons.1 h with h|h
  ·rw[h];omega
  ·have:=a3p (ns:=ns) (n:=n) h;omega
theorem b4E{k:Int}(h:BH k=true):1≤k∧k≤11:=Iq.1 h
theorem b4F{k:Int}(h:BH k=false):¬(1≤k∧k≤11):=fun hk=>by rw[BH,Iq.2 hk] at h;cases h
theorem a3q{ns:List Nd}{n:Nat}{k:Int}{s:List Sg}(h1:Bi ns)(h:EC ns (n+1) k)(h4:fB (n+1) s):telP ns n (Aj ns k) s:=by
 have hk:=FG (MQ h.1)
 have hs:=(JV h.1).2
 have hv:=h.2.2
 rw[a0f] at hv
 refine⟨h1.1,hk.2.1,hs.1,hs.2,fun c hc=> ?_,b4D h4⟩
 have hm:=QQ h.1 hc
 have h5:=h.2.1
 refine⟨hm.1,by omega,?_⟩
 have:=a3p (ns:=ns) (n:=n) hc
 simp only[Fh] at hv
 omega
def Ss(x:List Nd×List Sg×List Int×Int):LS:= {
 ι:=List Int,inv:=fun y=>y.length=x.1.length,
 regs:=fun y=>[(0,tlr x.1 x.2.1 y),(4,.box 0 (ndA false (Aj x.1 x.2.2.2)))],als:=[],meas:=fun _=>0}
def Su(n:Nat):Sig:= {X:=List Nd×List Sg×List Int×Int,args:=fun x=>[tlr x.1 x.2.1 x.2.2.1,.int .i64 x.2.2.2],pre:=fun x=>(Bi x.1∧x.2.2.1.length=x.1.length)∧EC x.1 (n+1) x.2.2.2∧fB (n+1) x.2.1,Y:=List Int,post:=fun x y=>y.length=x.2.2.1.length,res:=fun x y=> .tup [],outs:=fun x y=>[tlr x.1 (x.2.1++Az x.1 (n+1) x.2.2.2) y,.top],keep:=true}
theorem b4G(n:Nat)(hc:Am G Go.Proofs.Tryz.prog 58 (Ct n)):Am G Tryz.prog 58 (Su n):=
 vcFun_okP [(84,0,Ff),(85,0,(Fk n)),(86,0,(CP n))] [] false (fun x=>[(100001,Ss x)]) Tryz.func58 rfl (by decide) ⟨Qy,b4A n hc,b4C n hc,trivial⟩ (fun(x:List Nd×List Sg×List Int×Int)=>True∧((0:Int)≤x.2.2.2∧x.2.2.2<(↑(List.length x.1):Int))∧∀(e:Nd),x.1[Int.toNat x.2.2.2]? =some e→true=true∧((((0:Int)≤x.2.2.2∧x.2.2.2<(↑(List.length x.2.2.1):Int))∧Int.toNat x.2.2.2<List.length x.2.2.1∧∀(x_1:Int),x.2.2.1[Int.toNat x.2.2.2]? =some x_1→∃(x':Int),((@List.nil AV)=[]∧(@List.nil AV)=[])∧(↑(List.length x.2.1):Int)=x'∧true=true∧eA (Ss x) [.box 0 [nds x.1,Ad x.2.1,Ab (List.set x.2.2.1 (Int.toNat x.2.2.2) x')],.box 0 [.int .i64 e.kind,.str e.text,An e.kids,.bool e.blank]])∧((0:Int)≤x.2.2.2∧x.2.2.2<(↑(List.length x.2.2.1):Int))∧Int.toNat x.2.2.2<List.length x.2.2.1∧∀(x_1:Int),x.2.2.1[Int.toNat x.2.2.2]? =some x_1→∃(x':Int),((@List.nil AV)=[]∧(@List.nil AV)=[])∧(↑(List.length x.2.1):Int)=x'∧true=true∧eA (Ss x) [.box 0 [nds x.1,Ad x.2.1,Ab (List.set x.2.2.1 (Int.toNat x.2.2.2) x')],.box 0 [.int .i64 e.kind,.str e.text,An e.kids,.bool e.blank]])∧∀(i:List Int),List.length i=List.length x.1→cA Ff [.int .i64 (Aj x.1 x.2.2.2).kind] fun x_1 y=>Aa (BH x_1) (cA (Fk n) [.box 0 [nds x.1,Ad x.2.1,Ab i],.agg [.int .i64 (Aj x.1 x.2.2.2).kind,.str (Aj x.1 x.2.2.2).text,An (Aj x.1 x.2.2.2).kids,.bool (Aj x.1 x.2.2.2).blank]] fun x_2 y=>rA (Su n) x [.tup [],.box 0 [nds x_2.1,Ad (x_2.2.1++Bo (Az x_2.1 n) x_2.2.2.2),Ab y],.top]) (cA (CP n) [.box 0 [nds x.1,Ad x.2.1,Ab i],.agg [.int .i64 (Aj x.1 x.2.2.2).kind,.str (Aj x.1 x.2.2.2).text,An (Aj x.1 x.2.2.2).kids,.bool (Aj x.1 x.2.2.2).blank]] fun x_2 y=>rA (Su n) x [.tup [],.box 0 [nds x_2.1,Ad (x_2.2.1++Bo (Az x_2.1 n) x_2.2.2.2),Ab y],.top])) (fun x=>by kernel_rfl) fun(x:List Nd×List Sg×List Int×Int) (hx:(Bi x.1∧x.2.2.1.length=x.1.length)∧EC x.1 (n+1) x.2.2.2∧fB (n+1) x.2.1)=>(by
 dsimp only[cA,eA,An,Ss,Bx,nds,Ab,Ad,rA,Ff,Su,CP,Fk,Bv,tlr,Aw,AR,mvL,lnL,mvE,lnE,Br]
 obtain⟨⟨h1,h2⟩,h3,h4⟩:=hx
 have hT:=a3q h1 h3 h4
 have hS:=JV h3.1
 obtain⟨z,hz⟩:∃z,x.1[x.2.2.2.toNat]? =some z:=by
  have:=CR.1 h3.1.1
  exact⟨_,List.getElem?_eq_getElem (by omega)⟩
 have hn:=CR.1 h3.1.1
 simp only[hz,Option.some.injEq,forall_eq',Bz hz] at hT hS ⊢
 (repeat' first|(with_reducible first|rfl|exact True.intro|apply AM|apply And.intro|((first|apply AC|apply AK|apply AD|apply AL)<;>intro _))|(apply AB<;>intro _)|apply AJ|refine Ag () ?_ ?_|((first|apply AQ|apply AP|apply AO|apply AN|apply AI|apply AH|apply AG|apply AF|apply AE)<;>try dsimp only)|apply Ag|(refine Prod.forall.2 ?_;intro _;try dsimp only)|(intro _;try dsimp only))
 all_goals first
  |rfl
  |exact h1
  |exact hT
  |assumption
  |omega
  |(rw[List.length_set];omega)
  |(have hi:=b4E ‹_›;omega)
  |(have hi:=b4F ‹_›;omega)
  |(rw[Az,Bz hz];done)
  |skip)
def b4H:Sig:= {X:=List Nd×List Sg×List Int×Int,args:=fun x=>[tlr x.1 x.2.1 x.2.2.1,.int .i64 x.2.2.2],pre:=fun x=>(Bi x.1∧x.2.2.1.length=x.1.length)∧EC x.1 0 x.2.2.2∧fB 0 x.2.1,Y:=List Int,post:=fun x y=>y.length=x.2.2.1.length,res:=fun x y=> .tup [],outs:=fun x y=>[tlr x.1 (x.2.1++Az x.1 0 x.2.2.2) y,.top],keep:=true}
theorem b4I:Am G Tryz.prog 58 b4H:=
 vcFun_okP [] [] false (fun x=>[]) Tryz.func58 rfl (by decide) trivial (fun(x:List Nd×List Sg×List Int×Int)=>True∧((0:Int)≤x.2.2.2∧x.2.2.2<(↑(List.length x.1):Int))∧∀(e:Nd),x.1[Int.toNat x.2.2.2]? =some e→true=true∧true=true∧((0:Int)≤x.2.2.2∧x.2.2.2<(↑(List.length x.2.2.1):Int))∧False) (fun x=>by kernel_rfl) fun(x:List Nd×List Sg×List Int×Int) (hx:(Bi x.1∧x.2.2.1.length=x.1.length)∧EC x.1 0 x.2.2.2∧fB 0 x.2.1)=>(by
 have h1:=hx.2.1.2.1;have h2:=CR.1 hx.2.1.1.1
 omega)
theorem a3r:∀n,Am G Go.Proofs.Tryz.prog 58 (Ct n)
 |0=>b4I
 |n+1=>b4G n (a3r n)
end Go.My
end
section
namespace Go.My
open Go.Eng
end Go.My
end
section
namespace Go.My
open Go.Eng Go.Proofs
variable {G:GInv}
def LG(l:List Nd):Prop:=l.length≤2^30∧∀e∈l,e.kids.length≤2^30
end Go.My
end
section
namespace Go.My
open Go.Eng Go.Proofs
variable {G:GInv}
theorem a3s{ns:List Nd}(h:BO ns=true):1≤ns.length∧ns.length≤300:=⟨(JU h).2.1,(JU h).2.2.1⟩
end Go.My
end
section
set_option maxHeartbeats 8000000
namespace Go.My
open Go.Eng Go.Proofs
variable {G:GInv}
theorem Sv{ns:List Nd}(h:BO ns=true):EC ns 301 ((ns.length:Int)-1):=by
 obtain⟨h1,h2,h3,h4⟩:=JU h
 refine⟨h4,by omega,a8B h⟩
theorem a3t:fB 301 []:=by unfold fB;exact Nat.le_of_ble_eq_true rfl
def Ny:Sig:= {X:=List Nd,args:=fun x=>[nds x],pre:=fun x=>Bi x∧BO x=true,Y:=List Int,post:=fun x y=>True,res:=fun x y=> .box 0 [.top,Ad (Az x 301 (x.length-1)),Ab y],outs:=fun x y=>[.top],keep:=false}
theorem b4J:Am G Tryz.prog 29 Ny:=
 vcFun_okP [(58,0,(Ct 301))] [(47,⟨Int,Bw⟩)] false (fun x=>[]) Tryz.func29 rfl (by decide) ⟨(a3r 301),trivial⟩ (fun(x:List Nd)=>(∀(y:List Int),True→(True∧(∀(x:Sg),True∧True∧True∧True∧True)∧(∀(x:Int),True∧True)∧True)∧True∧True)∧((0:Int)≤(↑(List.length x):Int)∧(↑(List.length x):Int)≤(↑(List.length x):Int)∧(↑(8:Nat):Int)*(↑(List.length x):Int)≤(2:Int)^(46:Nat)∧(↑(List.length x):Int)≤(2:Int)^(46:Nat))∧∃(x_1:Int),(0:Int)=x_1∧inR IntKind.i64 ((↑(List.length x):Int)-(1:Int))∧∃(x_2:List Nd×List Sg×List Int×Int),((Bi x_2.1∧List.length x_2.2.2.1=List.length x_2.1)∧EC x_2.1 (301:Nat) x_2.2.2.2∧fB (301:Nat) x_2.2.1)∧nds x=nds x_2.1∧x_2.2.1=[]∧Ab (List.replicate (Int.toNat (↑(List.length x):Int)) x_1)=Ab x_2.2.2.1∧(↑(List.length x):Int)-(1:Int)=x_2.2.2.2∧∀(y:List Int),List.length y=List.length x_2.2.2.1→rA Ny x [.box 0 [nds x_2.1,Ad (x_2.2.1++Az x_2.1 (301:Nat) x_2.2.2.2),Ab y],.top]) (fun x=>by kernel_rfl) fun(x:List Nd) (hx:Bi x∧BO x=true)=>(by
 dsimp only[Bx,nds,Ab,Ad,rA,Ny,Bv,Aw,AR]
 obtain⟨h1,h2⟩:=hx
 have hl:=h1.1
 have ht:=a3s h2
 (repeat' first|(with_reducible first|rfl|exact True.intro|apply AM|apply And.intro|((first|apply AC|apply AK|apply AD|apply AL)<;>intro _))|(apply AB<;>intro _)|apply AJ|refine Ag () ?_ ?_|((first|apply AQ|apply AP|apply AO|apply AN|apply AI|apply AH|apply AG|apply AF|apply AE)<;>try dsimp only)|apply Ag|(refine Prod.forall.2 ?_;intro _;try dsimp only)|(intro _;try dsimp only))
 all_goals first
  |rfl
  |exact h1
  |exact Sv h2
  |exact a3t
  |(simp;done)
  |((try simp only[AS]);omega)
  |skip)
def BV(ns:List Nd):List Sg:=if BO ns then Az ns 301 (ns.length-1) else []
def Jv:Sig:= {X:=List Nd,args:=fun x=>[nds x],pre:=fun x=>Bi x∧LG x,Y:=Unit,post:=fun x y=>True,res:=fun x y=>Ad (BV x),outs:=fun x y=>[.top],keep:=false}
theorem b4K:Am G Tryz.prog 8 Jv:=
 vcFun_okP [(28,0,Ir),(29,0,Ny)] [(28,⟨Sg,sgA⟩)] false (fun x=>[]) Tryz.func8 rfl (by decide) ⟨a7N,b4J,trivial⟩ (fun(x:List Nd)=>(∀(y:Unit),True→(∀(x:Sg),True∧True∧True∧True∧True)∧True∧True)∧cA Ir [nds x] fun x_1 y=>Aa (!BO x_1) (rA Jv x [.nil,.top]) (cA Ny [nds x] fun x_2 y=>rA Jv x [Ad (Az x_2 (301:Nat) ((↑(List.length x_2):Int)-(1:Int))),.top])) (fun x=>by kernel_rfl) fun(x:List Nd) (hx:Bi x∧LG x)=>(by
 dsimp only[cA,Bx,nds,Ab,Ad,rA,Jv,Ny,Ir,Bv,Aw,AR,mvL,lnL,mvE,lnE]
 obtain⟨h1,h2⟩:=hx;have hl:=h1.1;have h3:=h2.1
 (repeat' first|(with_reducible first|rfl|exact True.intro|apply AM|apply And.intro|((first|apply AC|apply AK|apply AD|apply AL)<;>intro _))|(apply AB<;>intro _)|apply AJ|refine Ag () ?_ ?_|((first|apply AQ|apply AP|apply AO|apply AN|apply AI|apply AH|apply AG|apply AF|apply AE)<;>try dsimp only)|apply Ag|(refine Prod.forall.2 ?_;intro _;try dsimp only)|(intro _;try dsimp only))
 all_goals first
  |rfl
  |exact h1
  |exact h2
  |exact h3
  |assumption
  |(rw[BV,if_pos ‹_›];done)
  |(rw[BV,if_neg (by simp [*])];done)
  |((try simp only[AS]);omega)
  |skip)
end Go.My
end
section
namespace Go.My
open Go.Eng
theorem a3u:∀ {u:List KT},nCC u→Cc (Cc u)=Cc u
 |[],_=>rfl
 |x::l,h=>by
  have ih:=a3u h.2
  rw[Cc]
  split
  ·exact ih
  ·rename_i hx
   rw[Cc,ih,if_neg]
   intro hc
   apply hx
   simp only[Bool.and_eq_true,beq_iff_eq] at hc ⊢
   refine⟨hc.1,?_⟩
   cases l with
   |nil=>exact hc.2
   |cons y l=>
    have hy:y≠cmK:=fun e=>h.1 ⟨hc.1,by rw[e];rfl⟩
    have:=hc.2
    rw[a0i hy] at this;exact this
theorem a3v:∀(u:List KT),(Cc u).length≤u.length
 |[]=>Nat.le_refl _
 |x::l=>by
  have:=a3v l
  rw[Cc];split
  ·simp only[List.length_cons];omega
  ·simp only[List.length_cons];omega
theorem Sw:∀ {u:List KT} {x:KT},x∈Cc u→x∈u
 |[],_,h=>h
 |y::l,x,h=>by
  rw[Cc] at h
  split at h
  ·exact List.mem_cons_of_mem _ (Sw h)
  ·rcases List.mem_cons.1 h with rfl|h
   ·simp
   ·exact List.mem_cons_of_mem _ (Sw h)
theorem a3w:∀ {a b:List Sg},a.map kt=b.map kt→eqF EV a b=true
 |[],[],_=>rfl
 |[],_::_,h=>by simp at h
 |_::_,[],h=>by simp at h
 |x::a,y::b,h=>by
  simp only[List.map_cons,List.cons.injEq] at h
  rw[eqF,a3w h.2]
  have h1:x.kind=y.kind:=congrArg Prod.fst h.1
  have h2:x.text=y.text:=congrArg Prod.snd h.1
  simp [EV,h1,h2]
theorem b4L{sg:List Sg}(n:Nat)(h:n≤sg.length):Cc (sg.map kt)=(DX sg n).map kt++Cc ((sg.drop n).map kt):=by
 induction n with
 |zero=>rfl
 |succ n ih=>
  rw[ih (by omega)]
  have hlt:n<sg.length:=by omega
  rw[List.drop_eq_getElem_cons hlt,List.map_cons]
  have ek:kt sg[n]=tkK sg (n:Int):=by
   unfold tkK sgO
   rw[List.getD,show((n:Nat):Int).toNat=n from Int.toNat_natCast n,List.getElem?_eq_getElem hlt];rfl
  have eh:Lj ((sg.drop (n+1)).map kt)=Cx (tkK sg ((n:Int)+1)):=by
   by_cases h2:n+1<sg.length
   ·rw[List.drop_eq_getElem_cons h2,List.map_cons,Lj]
    congr 1
    unfold tkK sgO
    rw[List.getD,show((n:Int)+1).toNat=n+1 by omega,List.getElem?_eq_getElem h2];rfl
   ·rw[List.drop_of_length_le (by omega),Ws (by omega)];rfl
  rw[Cc,ek,eh]
  cases hs:CG sg (n:Int) with
  |true=>
   obtain⟨h1,h2,_⟩:=HT hs
   rw[DX,hs,h1,h2];simp
  |false=>
   rw[DX,hs]
   have:¬(tkK sg (n:Int)==cmK&&Cx (tkK sg ((n:Int)+1)))=true:=by
    intro hc
    simp only[Bool.and_eq_true,beq_iff_eq] at hc
    rw[b4k (by omega) hc.1 hc.2] at hs;cases hs
   rw[if_neg this]
   simp only[Bool.false_eq_true,if_false,List.map_append,List.map_cons,List.map_nil,List.append_assoc,List.singleton_append]
   rfl
theorem WO(sg:List Sg):(DH sg).map kt=Cc (sg.map kt):=by
 have:=b4L sg.length (Nat.le_refl _) (sg:=sg)
 rw[this,List.drop_of_length_le (Nat.le_refl _)]
 simp [DH,Cc]
def Nz(u:List KT):List (List UInt8):=(u.filter fun x=>decide (x.1=5)).map (·.2)
theorem a3x:∀(u:List KT),Nz (Cc u)=Nz u
 |[]=>rfl
 |x::l=>by
  have ih:=a3x l
  rw[Cc]
  split
  ·rename_i hx
   simp only[Bool.and_eq_true,beq_iff_eq] at hx
   rw[ih,hx.1];rfl
  ·unfold Nz at ih ⊢
   rw[List.filter_cons,List.filter_cons]
   split
   ·rw[List.map_cons,List.map_cons,ih]
   ·exact ih
theorem a3y(l:List Sg):EB l=Nz (l.map kt):=by
 have key:∀n,n≤l.length→FW l n=Nz ((l.take n).map kt):=by
  intro n
  induction n with
  |zero=>intro _;rfl
  |succ n ih=>
   intro h
   have hlt:n<l.length:=by omega
   rw[FW,ih (by omega),List.take_succ_eq_append_getElem hlt,List.map_append]
   have e:sgO l (n:Int)=l[n]:=by
    unfold sgO;rw[List.getD,show((n:Nat):Int).toNat=n from Int.toNat_natCast n,List.getElem?_eq_getElem hlt];rfl
   rw[e]
   unfold Nz
   rw[List.filter_append,List.map_append]
   by_cases hk:l[n].kind=5<;>simp [kt,hk]
 have:=key l.length (Nat.le_refl _)
 rw[List.take_length] at this;exact this
theorem b4M{L:List Nd}(hu:Pn L){k:Int}(h0:0≤k)(hk:k<L.length):flG L k=Bo (flG L) (Aj L k):=by
 have hlt:k.toNat<L.length:=by omega
 have e:L=(L.take k.toNat++[L[k.toNat]])++L.drop (k.toNat+1):=by
  rw[List.append_assoc,List.singleton_append,←List.drop_eq_getElem_cons hlt,List.take_append_drop]
 have hx:Aj L k=L[k.toNat]:=Bz (List.getElem?_eq_getElem hlt)
 have hl:(L.take k.toNat).length=k.toNat:=by rw[List.length_take];omega
 have up:=Sd hu h0 hk
 have sh:=JV up
 have hkid:=(FG (MQ up)).2.2.2.1
 have e1:flG L k=Bo (flG (L.take k.toNat)) L[k.toNat]:=by
  have:flG L k=flG (L.take k.toNat++[L[k.toNat]]) k:=Lk ⟨_,e⟩ ⟨h0,by rw[List.length_append,hl];simp;omega⟩
  rw[this]
  have:k=((L.take k.toNat).length:Int):=by rw[hl];omega
  conv=>lhs;rw[show flG (L.take k.toNat++[L[k.toNat]]) k=flG (L.take k.toNat++[L[k.toNat]]) ((L.take k.toNat).length:Int) from congrArg _ this]
  exact QU
 rw[e1,hx]
 rw[hx] at sh hkid
 refine Sc sh.2.1 fun c hc=> ?_
 have hb:=hkid c hc
 exact(Lk ⟨_,(List.take_append_drop k.toNat L).symm⟩ ⟨hb.1,by rw[hl];omega⟩).symm
theorem a3z{L:List Nd}(hu:Pn L):∀(n:Nat) {k:Int},k<n→0≤k→k<L.length→flG L k=FL L k
 |0,k,hn,h0,hk=>by omega
 |n+1,k,hn,h0,hk=>by
  rw[b4M hu h0 hk,b4j hu h0 hk]
  have up:=Sd hu h0 hk
  refine Sc (JV up).2.1 fun c hc=> ?_
  have hb:=(FG (MQ up)).2.2.2.1 c hc
  exact a3z hu n (by omega) hb.1 (by omega)
theorem a3A{L:List Nd}(h:BO L=true):Pn L:=(JU h).1.1
theorem a3B{L:List Nd}(h:BO L=true):BV L=flG L ((L.length:Int)-1):=by
 have t:=JU h
 rw[BV,if_pos h,a3z (a3A h) L.length (by omega) (by omega) (by omega)]
 exact Wo (Sd (a3A h) (by omega) (by omega)) (by omega) (by omega)
theorem Sx{t:List UInt8}:∀ {n:Nat} {i br:Int} {l:List Sg},Dn t n i br=some l→∀e∈l,VTK e.kind e.text
 |0,i,br,l,h,e,he=>by cases h
 |n+1,i,br,l,h,e,he=>by
  unfold Dn at h
  split at h
  ·simp only[Option.some.injEq] at h;subst h;cases he
  ·split at h
   ·exact Sx h e he
   split at h
   ·exact Sx h e he
   split at h
   ·rename_i hok
    rw[Option.map_eq_some_iff] at h
    obtain⟨l',h1,rfl⟩:=h
    rcases List.mem_cons.1 he with rfl|he
    ·exact b4w hok
    ·exact Sx h1 e he
   ·cases h
theorem a3C{t:List UInt8}{sg:List Sg}(h:Cj t=some sg):∀e∈sg,VTK e.kind e.text:=by
 unfold Cj at h;split at h
 ·cases h
 ·exact Sx h
theorem b4N{k:Int}{x:List UInt8}(h:VTK k x)(hx:x=[44]∨x=[41]∨x=[61,62]):k=4:=by
 by_cases hk:k=5
 ·have:=h.2 [10] (.inl ⟨hk,[],rfl⟩)
  have:=congrArg SgR.kind this
  rcases hx with rfl|rfl|rfl<;>(simp only at this;rw[←this];decide)
 ·have:=h.2 [] (.inr ⟨hk,.inl rfl⟩)
  have:=congrArg SgR.kind this
  rcases hx with rfl|rfl|rfl<;>(simp only at this;rw[←this];decide)
structure FlQ (t:List UInt8) (sg:List Sg) (L:List Nd):Prop where
 words:kwF (BV L) sg=true
 again:(Cq (BV L)).length≤3000→Cp (Cq (BV L))=some (L.map nb)
 len:(BV L).length≤sg.length
 notes:EB sg=EB (BV L)
theorem b4O{t:List UInt8}{sg:List Sg}{ms:List (Int×Int)}{L:List Nd}(h1:Cj t=some sg)(h2:FM sg=some (ms,L)):FlQ t sg L:=by
 obtain⟨⟨ht,hcc⟩,he⟩:=a0u h2
 have es:(BV L).map kt=Cc (sg.map kt):=by rw[a3B ht,←he]
 have el:Cc ((BV L).map kt)=Cc (sg.map kt):=by rw[es,a3u hcc]
 refine⟨a3w (by rw[WO,WO,el]),fun hlen=> ?_,?_,?_⟩
 ·have hv:∀e∈BV L,VTK e.kind e.text:=fun e hm=>by
   have:kt e∈Cc (sg.map kt):=by rw[←es];exact List.mem_map_of_mem hm
   obtain⟨x,hx,hxe⟩:=List.mem_map.1 (Sw this)
   have:=a3C h1 x hx
   have e1:x.kind=e.kind:=congrArg Prod.fst hxe
   have e2:x.text=e.text:=congrArg Prod.snd hxe
   rwa [e1,e2] at this
  obtain⟨sg2,g1,g2,g3⟩:=WF (t:=Cq (BV L)) (BV L) ((Cq (BV L)).length+1) 0 0 (by omega) (.inl rfl) rfl hv (by omega) (by omega)
  have hk:LKS sg sg2:=⟨by rw[g2,es,WO],g3,hcc,fun e hm hx=>b4N (a3C h1 e hm) hx⟩
  obtain⟨m3,g4⟩:=b4u hk h2
  unfold Cp Cj
  rw[if_neg (by omega),g1,Option.bind_some,g4];rfl
 ·have a:=congrArg List.length es
  have b:=a3v (sg.map kt)
  simp only[List.length_map] at a b;omega
 ·rw[a3y,a3y,es,a3x]
end Go.My
end
section
set_option maxHeartbeats 8000000
namespace Go.My
open Go.Eng Go.Proofs
variable {G:GInv}
def Gv:Sig:= {X:=List Nd×List Sg×List Int×Int×List UInt8,args:=fun x=>[tlr x.1 x.2.1 x.2.2.1,.int .i64 x.2.2.2.1,.str x.2.2.2.2],pre:=fun x=>x.2.1.length≤2^26,Y:=Unit,post:=fun x y=>True,res:=fun x y=> .tup [],outs:=fun x y=>[tlr x.1 (x.2.1++[sg0 x.2.2.2.1 x.2.2.2.2]) x.2.2.1,.top,.top],keep:=true}
theorem Sy:Am G Tryz.prog 71 Gv:=
 vcFun_okP [] [(28,⟨Sg,sgA⟩)] false (fun x=>[]) Tryz.func71 rfl (by decide) trivial (fun(x:List Nd×List Sg×List Int×Int×List UInt8)=>True∧∃(x_1:Sg),x.2.2.2.1=x_1.kind∧x.2.2.2.2=x_1.text∧(0:Int)=x_1.pos∧false=x_1.blank∧∃(zs:List Sg),Ad [x_1]=Ad zs∧Bu sgA∧Ba (List.length x.2.1+List.length zs) (40:Nat)∧∃(y:Unit),True∧nds x.1=nds x.1∧Ad (x.2.1++zs)=Ad (x.2.1++[sg0 x.2.2.2.1 x.2.2.2.2])∧Ab x.2.2.1=Ab x.2.2.1∧True) (fun x=>by kernel_rfl) fun(x:List Nd×List Sg×List Int×Int×List UInt8) (hx:x.2.1.length≤2^26)=>(by
 dsimp only[nds,Ab,Ad]
 have hx:x.2.1.length≤2^26:=hx
 (repeat' first|refine Pu ?_|(with_reducible first|rfl|exact True.intro|apply AM|apply And.intro|((first|apply AC|apply AK|apply AD|apply AL)<;>intro _))|(apply AB<;>intro _)|apply AJ|refine Ag () ?_ ?_|((first|apply AQ|apply AP|apply AO|apply AN|apply AI|apply AH|apply AG|apply AF|apply AE)<;>try dsimp only)|apply Ag|(refine Prod.forall.2 ?_;intro _;try dsimp only)|(intro _;try dsimp only))
 all_goals first
  |rfl
  |((try simp only[AS,Ba,List.length_append,List.length_cons,List.length_nil]);omega)
  |skip)
def Ck:Sig:= {X:=List Nd×List Sg×List Int×List UInt8,args:=fun x=>[tlr x.1 x.2.1 x.2.2.1,.str x.2.2.2],pre:=fun x=>x.2.1.length≤2^26,Y:=Unit,post:=fun x y=>True,res:=fun x y=> .tup [],outs:=fun x y=>[tlr x.1 (x.2.1++[mkS x.2.2.2]) x.2.2.1,.top],keep:=true}
theorem Sz:Am G Tryz.prog 68 Ck:=
 vcFun_okP [(71,0,Gv)] [] false (fun x=>[]) Tryz.func68 rfl (by decide) ⟨Sy,trivial⟩ (fun(x:List Nd×List Sg×List Int×List UInt8)=>True∧cA Gv [.box 0 [nds x.1,Ad x.2.1,Ab x.2.2.1],.int .i64 (4:Int),.str x.2.2.2] fun x_1 y=>rA Ck x [.tup [],.box 0 [nds x_1.1,Ad (x_1.2.1++[sg0 x_1.2.2.2.1 x_1.2.2.2.2]),Ab x_1.2.2.1],.top]) (fun x=>by kernel_rfl) fun(x:List Nd×List Sg×List Int×List UInt8) (hx:x.2.1.length≤2^26)=>(by
 dsimp only[cA,Bx,nds,Ab,Ad,rA,Ck,Gv,Bv,tlr,Aw,AR,mvL,lnL,mvE,lnE]
 have hx:x.2.1.length≤2^26:=hx
 (repeat' first|(with_reducible first|rfl|exact True.intro|apply AM|apply And.intro|((first|apply AC|apply AK|apply AD|apply AL)<;>intro _))|(apply AB<;>intro _)|apply AJ|refine Ag () ?_ ?_|((first|apply AQ|apply AP|apply AO|apply AN|apply AI|apply AH|apply AG|apply AF|apply AE)<;>try dsimp only)|apply Ag|(refine Prod.forall.2 ?_;intro _;try dsimp only)|(intro _;try dsimp only))
 all_goals first
  |rfl
  |exact hx)
def Ek:Sig:= {X:=List Nd×List Sg×List Int×List UInt8,args:=fun x=>[tlr x.1 x.2.1 x.2.2.1,.str x.2.2.2],pre:=fun x=>x.2.1.length≤2^26,Y:=Unit,post:=fun x y=>True,res:=fun x y=> .tup [],outs:=fun x y=>[tlr x.1 (x.2.1++[wdS x.2.2.2]) x.2.2.1,.top],keep:=true}
theorem WP:Am G Tryz.prog 67 Ek:=
 vcFun_okP [(71,0,Gv)] [] false (fun x=>[]) Tryz.func67 rfl (by decide) ⟨Sy,trivial⟩ (fun(x:List Nd×List Sg×List Int×List UInt8)=>True∧cA Gv [.box 0 [nds x.1,Ad x.2.1,Ab x.2.2.1],.int .i64 (1:Int),.str x.2.2.2] fun x_1 y=>rA Ek x [.tup [],.box 0 [nds x_1.1,Ad (x_1.2.1++[sg0 x_1.2.2.2.1 x_1.2.2.2.2]),Ab x_1.2.2.1],.top]) (fun x=>by kernel_rfl) fun(x:List Nd×List Sg×List Int×List UInt8) (hx:x.2.1.length≤2^26)=>(by
 dsimp only[cA,Bx,nds,Ab,Ad,rA,Gv,Ek,Bv,tlr,Aw,AR,mvL,lnL,mvE,lnE]
 have hx:x.2.1.length≤2^26:=hx
 (repeat' first|(with_reducible first|rfl|exact True.intro|apply AM|apply And.intro|((first|apply AC|apply AK|apply AD|apply AL)<;>intro _))|(apply AB<;>intro _)|apply AJ|refine Ag () ?_ ?_|((first|apply AQ|apply AP|apply AO|apply AN|apply AI|apply AH|apply AG|apply AF|apply AE)<;>try dsimp only)|apply Ag|(refine Prod.forall.2 ?_;intro _;try dsimp only)|(intro _;try dsimp only))
 all_goals first
  |rfl
  |exact hx)
def Cl(n:Nat):Sig:= {X:=List Nd×List Sg×List Int×Int,args:=fun x=>[tlr x.1 x.2.1 x.2.2.1,.int .i64 x.2.2.2],pre:=fun x=>Bi x.1∧EC x.1 n x.2.2.2∧fB n x.2.1,Y:=List Int,post:=fun x y=>y.length=x.2.2.1.length,res:=fun x y=> .tup [],outs:=fun x y=>[tlr x.1 (x.2.1++Az x.1 n x.2.2.2) y,.top],keep:=true}
def LH(n:Nat):Sig:= {X:=List Nd×List Sg×List Int×List UInt8×Int,args:=fun x=>[tlr x.1 x.2.1 x.2.2.1,.str x.2.2.2.1,.int .i64 x.2.2.2.2],pre:=fun x=>Bi x.1∧EC x.1 n x.2.2.2.2∧x.2.1.length+80000*n+80000≤24080000,Y:=List Int,post:=fun x y=>y.length=x.2.2.1.length,res:=fun x y=> .tup [],outs:=fun x y=>[tlr x.1 (x.2.1++[wdS x.2.2.2.1]++[mkS [40]]++Az x.1 n x.2.2.2.2++[mkS [41]]) y,.top,.top],keep:=true}
theorem b4P(n:Nat)(hc:Am G Go.Proofs.Tryz.prog 36 (Cl n)):Am G Tryz.prog 70 (LH n):=
 vcFun_okP [(36,0,(Cl n)),(68,0,Ck),(67,0,Ek)] [] false (fun x=>[]) Tryz.func70 rfl (by decide) ⟨hc,Sz,WP,trivial⟩ (fun(x:List Nd×List Sg×List Int×List UInt8×Int)=>True∧cA Ek [.box 0 [nds x.1,Ad x.2.1,Ab x.2.2.1],.str x.2.2.2.1] fun x_1 y=>cA Ck [.box 0 [nds x_1.1,Ad (x_1.2.1++[wdS x_1.2.2.2]),Ab x_1.2.2.1],.str #[(40:UInt8)].toList] fun x_2 y=>cA (Cl n) [.box 0 [nds x_2.1,Ad (x_2.2.1++[mkS x_2.2.2.2]),Ab x_2.2.2.1],.int .i64 x.2.2.2.2] fun x_3 y=>cA Ck [.box 0 [nds x_3.1,Ad (x_3.2.1++Az x_3.1 n x_3.2.2.2),Ab y],.str #[(41:UInt8)].toList] fun x_4 y=>rA (LH n) x [.tup [],.box 0 [nds x_4.1,Ad (x_4.2.1++[mkS x_4.2.2.2]),Ab x_4.2.2.1],.top,.top]) (fun x=>by kernel_rfl) fun(x:List Nd×List Sg×List Int×List UInt8×Int) (hx:Bi x.1∧EC x.1 n x.2.2.2.2∧x.2.1.length+80000*n+80000≤24080000)=>(by
 dsimp only[cA,Bx,nds,Ab,Ad,rA,LH,Ck,Cl,Ek,Bv,tlr,Aw,AR,mvL,lnL,mvE,lnE]
 obtain⟨h1,h2,h3⟩:=hx
 have hk:=Nx h2
 (repeat' first|(with_reducible first|rfl|exact True.intro|apply AM|apply And.intro|((first|apply AC|apply AK|apply AD|apply AL)<;>intro _))|(apply AB<;>intro _)|apply AJ|refine Ag () ?_ ?_|((first|apply AQ|apply AP|apply AO|apply AN|apply AI|apply AH|apply AG|apply AF|apply AE)<;>try dsimp only)|apply Ag|(refine Prod.forall.2 ?_;intro _;try dsimp only)|(intro _;try dsimp only))
 all_goals first
  |rfl
  |exact h1
  |exact h2
  |assumption
  |(try unfold fB
    try simp only[List.length_append,List.length_cons,List.length_nil]
    omega)
  |skip)
def HY(n:Nat):Sig:= {X:=List Nd×List Sg×List Int×List Int,args:=fun x=>[tlr x.1 x.2.1 x.2.2.1,An x.2.2.2],pre:=fun x=>Bi x.1∧EW x.1 n x.2.2.2 x.2.1,Y:=List Int,post:=fun x y=>y.length=x.2.2.1.length,res:=fun x y=> .tup [],outs:=fun x y=>[tlr x.1 (x.2.1++Bb (Az x.1 n) [44] x.2.2.2) y,.top],keep:=true}
def Pw(n:Nat)(x:List Nd×List Sg×List Int×List Int):LS:= {ι:=Int×List Int,inv:=fun i=>(0≤i.1∧i.1≤x.2.2.2.length)∧i.2.length=x.2.2.1.length,regs:=fun i=>[(0,tlr x.1 (x.2.1++Bb (Az x.1 n) [44] (x.2.2.2.take i.1.toNat)) i.2),(1,An x.2.2.2),(4,.int .i64 i.1)],als:=[],meas:=fun i=>x.2.2.2.length-i.1.toNat}
theorem a3D(n:Nat)(hc:Am G Go.Proofs.Tryz.prog 36 (Cl n)):Am G Tryz.prog 72 (HY n):=
 vcFun_okP [(36,0,(Cl n)),(68,0,Ck)] [] false (fun x=>[(1,Pw n x)]) Tryz.func72 rfl (by decide) ⟨hc,Sz,trivial⟩ (fun(x:List Nd×List Sg×List Int×List Int)=>True∧eA (Pw n x) [.box 0 [nds x.1,Ad x.2.1,Ab x.2.2.1],An x.2.2.2,.int .i64 (0:Int)]∧∀(i:Int×List Int),((0:Int)≤i.1∧i.1≤(↑(List.length x.2.2.2):Int))∧List.length i.2=List.length x.2.2.1→Aa (decide (i.1<(↑(List.length x.2.2.2):Int))) (Aa (decide (i.1>(0:Int))) (cA Ck [.box 0 [nds x.1,Ad (x.2.1++Bb (Az x.1 n) [(44:UInt8)] (List.take (Int.toNat i.1) x.2.2.2)),Ab i.2],.str #[(44:UInt8)].toList] fun x_1 y=>((0:Int)≤i.1∧i.1<(↑(List.length x.2.2.2):Int))∧∀(e:Int),x.2.2.2[Int.toNat i.1]? =some e→cA (Cl n) [.box 0 [nds x_1.1,Ad (x_1.2.1++[mkS x_1.2.2.2]),Ab x_1.2.2.1],.int .i64 e] fun x_2 y=>inR IntKind.i64 (i.1+(1:Int))∧eN (Pw n x) i [.box 0 [nds x_2.1,Ad (x_2.2.1++Az x_2.1 n x_2.2.2.2),Ab y],An x.2.2.2,.int .i64 (i.1+(1:Int))]) (((0:Int)≤i.1∧i.1<(↑(List.length x.2.2.2):Int))∧∀(e:Int),x.2.2.2[Int.toNat i.1]? =some e→cA (Cl n) [.box 0 [nds x.1,Ad (x.2.1++Bb (Az x.1 n) [(44:UInt8)] (List.take (Int.toNat i.1) x.2.2.2)),Ab i.2],.int .i64 e] fun x_1 y=>inR IntKind.i64 (i.1+(1:Int))∧eN (Pw n x) i [.box 0 [nds x_1.1,Ad (x_1.2.1++Az x_1.1 n x_1.2.2.2),Ab y],An x.2.2.2,.int .i64 (i.1+(1:Int))])) (rA (HY n) x [.tup [],.box 0 [nds x.1,Ad (x.2.1++Bb (Az x.1 n) [(44:UInt8)] (List.take (Int.toNat i.1) x.2.2.2)),Ab i.2],.top])) (fun x=>by kernel_rfl) fun(x:List Nd×List Sg×List Int×List Int) (hx:Bi x.1∧EW x.1 n x.2.2.2 x.2.1)=>(by
 dsimp only[cA,eA,eN,Pw,An,Bx,nds,Ab,Ad,rA,Ck,Cl,HY,Bv,tlr,Aw,AR,mvL,lnL,mvE,lnE,Br]
 obtain⟨h1,h3⟩:=hx
 have hll:=h3.2.1
 (repeat' first|(with_reducible first|rfl|exact True.intro|apply AM|apply And.intro|((first|apply AC|apply AK|apply AD|apply AL)<;>intro _))|(apply AB<;>intro _)|apply AJ|refine Ag () ?_ ?_|((first|apply AQ|apply AP|apply AO|apply AN|apply AI|apply AH|apply AG|apply AF|apply AE)<;>try dsimp only)|apply Ag|(refine Prod.forall.2 ?_;intro _;try dsimp only)|(intro _;try dsimp only))
 all_goals first
  |rfl
  |omega
  |exact h1
  |(simp [Bb];done)
  |exact h3.2.2.1 _ (Cu ‹_›)
  |(rw[List.take_of_length_le (by omega)];done)
  |exact WJ h3
  |exact WK h3
  |exact WM h3
  |exact Si ‹_› ‹_›
  |exact WN ‹_› (by omega) ‹_›
  |((try simp only[AS]);omega)
  |skip)
def Jw(n:Nat):Sig:= {X:=List Nd×List Sg×List Int×List Int,args:=fun x=>[tlr x.1 x.2.1 x.2.2.1,An x.2.2.2],pre:=fun x=>Bi x.1∧EW x.1 n x.2.2.2 x.2.1,Y:=List Int,post:=fun x y=>y.length=x.2.2.1.length,res:=fun x y=> .tup [],outs:=fun x y=>[tlr x.1 (x.2.1++x.2.2.2.flatMap (Az x.1 n)) y,.top],keep:=true}
def SA(n:Nat)(x:List Nd×List Sg×List Int×List Int):LS:= {ι:=Int×List Int,inv:=fun i=>(0≤i.1∧i.1≤x.2.2.2.length)∧i.2.length=x.2.2.1.length,regs:=fun i=>[(0,tlr x.1 (x.2.1++(x.2.2.2.take i.1.toNat).flatMap (Az x.1 n)) i.2),(1,An x.2.2.2),(4,.int .i64 i.1)],als:=[],meas:=fun i=>x.2.2.2.length-i.1.toNat}
theorem b4Q(n:Nat)(hc:Am G Go.Proofs.Tryz.prog 36 (Cl n)):Am G Tryz.prog 69 (Jw n):=
 vcFun_okP [(36,0,(Cl n))] [] false (fun x=>[(1,SA n x)]) Tryz.func69 rfl (by decide) ⟨hc,trivial⟩ (fun(x:List Nd×List Sg×List Int×List Int)=>True∧eA (SA n x) [.box 0 [nds x.1,Ad x.2.1,Ab x.2.2.1],An x.2.2.2,.int .i64 (0:Int)]∧∀(i:Int×List Int),((0:Int)≤i.1∧i.1≤(↑(List.length x.2.2.2):Int))∧List.length i.2=List.length x.2.2.1→Aa (decide (i.1<(↑(List.length x.2.2.2):Int))) (((0:Int)≤i.1∧i.1<(↑(List.length x.2.2.2):Int))∧∀(e:Int),x.2.2.2[Int.toNat i.1]? =some e→cA (Cl n) [.box 0 [nds x.1,Ad (x.2.1++List.flatMap (Az x.1 n) (List.take (Int.toNat i.1) x.2.2.2)),Ab i.2],.int .i64 e] fun x_1 y=>inR IntKind.i64 (i.1+(1:Int))∧eN (SA n x) i [.box 0 [nds x_1.1,Ad (x_1.2.1++Az x_1.1 n x_1.2.2.2),Ab y],An x.2.2.2,.int .i64 (i.1+(1:Int))]) (rA (Jw n) x [.tup [],.box 0 [nds x.1,Ad (x.2.1++List.flatMap (Az x.1 n) (List.take (Int.toNat i.1) x.2.2.2)),Ab i.2],.top])) (fun x=>by kernel_rfl) fun(x:List Nd×List Sg×List Int×List Int) (hx:Bi x.1∧EW x.1 n x.2.2.2 x.2.1)=>(by
 dsimp only[cA,eA,eN,SA,An,Bx,nds,Ab,Ad,rA,Jw,Cl,Bv,tlr,Aw,AR,mvL,lnL,mvE,lnE,Br]
 obtain⟨h1,h3⟩:=hx
 have hll:=h3.2.1
 (repeat' first|(with_reducible first|rfl|exact True.intro|apply AM|apply And.intro|((first|apply AC|apply AK|apply AD|apply AL)<;>intro _))|(apply AB<;>intro _)|apply AJ|refine Ag () ?_ ?_|((first|apply AQ|apply AP|apply AO|apply AN|apply AI|apply AH|apply AG|apply AF|apply AE)<;>try dsimp only)|apply Ag|(refine Prod.forall.2 ?_;intro _;try dsimp only)|(intro _;try dsimp only))
 all_goals first
  |rfl
  |omega
  |exact h1
  |(simp;done)
  |exact h3.2.2.1 _ (Cu ‹_›)
  |exact a3l h3
  |exact a3m (by omega) ‹_›
  |(rw[List.take_of_length_le (by omega)];done)
  |((try simp only[AS]);omega)
  |skip)
end Go.My
end
section
set_option maxHeartbeats 8000000
namespace Go.My
open Go.Eng Go.Proofs
variable {G:GInv}
def Px(n:Nat)(x:List Nd×List Sg×List Int×Nd):LS:= {
 ι:=Int×List Int,inv:=fun i=>(0≤i.1∧i.1≤x.2.2.2.kids.length)∧i.2.length=x.2.2.1.length∧x.2.2.2.kind=7,
 regs:=fun i=>[(0,tlr x.1 (x.2.1++Bb (Az x.1 n) x.2.2.2.text (x.2.2.2.kids.take i.1.toNat)) i.2),(3,.box 0 (ndA false x.2.2.2)),(4,.int .i64 (x.2.2.2.kids.length-1)),(5,.int .i64 i.1)],als:=[],meas:=fun i=>x.2.2.2.kids.length-i.1.toNat}
def SC(n:Nat)(x:List Nd×List Sg×List Int×Nd):LS:= {
 ι:=Int×List Int,inv:=fun i=>(1≤i.1∧i.1≤x.2.2.2.kids.length)∧i.2.length=x.2.2.1.length∧x.2.2.2.kind=10,
 regs:=fun i=>[(0,tlr x.1 (x.2.1++Bb (Az x.1 n) [46,46] (x.2.2.2.kids.take i.1.toNat)) i.2),(3,.box 0 (ndA false x.2.2.2)),(4,.int .i64 (x.2.2.2.kids.length-1)),(6,.int .i64 i.1)],als:=[],meas:=fun i=>x.2.2.2.kids.length-i.1.toNat}
theorem b4R{f:Int→List Sg}{m:List UInt8}{l:List Int}{i:Int}{c:Int}{s:List Sg}(h0:1≤i)(hc:l[i.toNat]? =some c):s++Bb f m (l.take i.toNat)++[mkS m]++f c=s++Bb f m (l.take (i+1).toNat):=Si (by omega) hc
theorem b4S{f:Int→List Sg}{m:List UInt8}{l:List Int}{s:List Sg}(h:1≤l.length):s++f (l.getD 0 0)=s++Bb f m (l.take (Int.toNat 1)):=by
 match l,h with
 |c::l,_=>simp [Bb]
theorem b4T{f:Int→List Sg}{m:List UInt8}{l:List Int}{s:List Sg}{i:Int}(h:(l.length:Int)≤i):s++Bb f m (l.take i.toNat)=s++Bb f m l:=by
 rw[List.take_of_length_le (by omega)]
theorem b4U{ns:List Nd}{n:Nat}{l:List Int}{s:List Sg}{m t:List UInt8}{j:Nat}(h:EW ns n l s):fB n (s++Bb (Az ns n) m (l.take j)++[mkS t]):=WK h
def Fy(n:Nat):Sig:= {X:=List Nd×List Sg×List Int×Nd,args:=fun x=>[tlr x.1 x.2.1 x.2.2.1,.agg (ndA false x.2.2.2)],pre:=fun x=>Bi x.1∧telP x.1 n x.2.2.2 x.2.1∧1≤x.2.2.2.kind∧x.2.2.2.kind≤11,Y:=List Int,post:=fun x y=>y.length=x.2.2.1.length,res:=fun x y=> .tup [],outs:=fun x y=>[tlr x.1 (x.2.1++Bo (Az x.1 n) x.2.2.2) y,.top],keep:=true}
theorem b4V(n:Nat)(hc:Am G Go.Proofs.Tryz.prog 36 (Cl n)):Am G Tryz.prog 73 (Fy n):=
 vcFun_okP [(36,0,(Cl n)),(68,0,Ck),(67,0,Ek),(71,0,Gv),(72,0,(HY n))] [] false (fun x=>[(27,Px n x),(47,SC n x)]) Tryz.func73 rfl (by decide) ⟨hc,Sz,WP,Sy,a3D n hc,trivial⟩ (fun(x:List Nd×List Sg×List Int×Nd)=>True∧inR IntKind.i64 ((↑(List.length x.2.2.2.kids):Int)-(1:Int))∧Aa (x.2.2.2.kind==(1:Int)) (cA Ek [.box 0 [nds x.1,Ad x.2.1,Ab x.2.2.1],.str x.2.2.2.text] fun x_1 y=>rA (Fy n) x [.tup [],.box 0 [nds x_1.1,Ad (x_1.2.1++[wdS x_1.2.2.2]),Ab x_1.2.2.1],.top]) (Aa (x.2.2.2.kind==(2:Int)) (cA Gv [.box 0 [nds x.1,Ad x.2.1,Ab x.2.2.1],.int .i64 (2:Int),.str x.2.2.2.text] fun x_1 y=>rA (Fy n) x [.tup [],.box 0 [nds x_1.1,Ad (x_1.2.1++[sg0 x_1.2.2.2.1 x_1.2.2.2.2]),Ab x_1.2.2.1],.top]) (Aa (x.2.2.2.kind==(3:Int)) (cA Gv [.box 0 [nds x.1,Ad x.2.1,Ab x.2.2.1],.int .i64 (3:Int),.str x.2.2.2.text] fun x_1 y=>rA (Fy n) x [.tup [],.box 0 [nds x_1.1,Ad (x_1.2.1++[sg0 x_1.2.2.2.1 x_1.2.2.2.2]),Ab x_1.2.2.1],.top]) (Aa (x.2.2.2.kind==(4:Int)) (cA Ck [.box 0 [nds x.1,Ad x.2.1,Ab x.2.2.1],.str #[(91:UInt8)].toList] fun x_1 y=>cA (HY n) [.box 0 [nds x_1.1,Ad (x_1.2.1++[mkS x_1.2.2.2]),Ab x_1.2.2.1],An x.2.2.2.kids] fun x_2 y=>cA Ck [.box 0 [nds x_2.1,Ad (x_2.2.1++Bb (Az x_2.1 n) [(44:UInt8)] x_2.2.2.2),Ab y],.str #[(93:UInt8)].toList] fun x_3 y=>rA (Fy n) x [.tup [],.box 0 [nds x_3.1,Ad (x_3.2.1++[mkS x_3.2.2.2]),Ab x_3.2.2.1],.top]) (Aa (x.2.2.2.kind==(5:Int)) (((0:Int)≤(0:Int)∧(0:Int)<(↑(List.length x.2.2.2.kids):Int))∧∀(e:Int),x.2.2.2.kids[(0:Nat)]? =some e→cA (Cl n) [.box 0 [nds x.1,Ad x.2.1,Ab x.2.2.1],.int .i64 e] fun x_1 y=>cA Ck [.box 0 [nds x_1.1,Ad (x_1.2.1++Az x_1.1 n x_1.2.2.2),Ab y],.str #[(40:UInt8)].toList] fun x_2 y=>((0:Int)≤(1:Int)∧(1:Int)≤(↑(List.length x.2.2.2.kids):Int)∧(↑(List.length x.2.2.2.kids):Int)≤(↑(List.length x.2.2.2.kids):Int))∧cA (HY n) [.box 0 [nds x_2.1,Ad (x_2.2.1++[mkS x_2.2.2.2]),Ab x_2.2.2.1],An (List.drop (1:Nat) x.2.2.2.kids)] fun x_3 y=>cA Ck [.box 0 [nds x_3.1,Ad (x_3.2.1++Bb (Az x_3.1 n) [(44:UInt8)] x_3.2.2.2),Ab y],.str #[(41:UInt8)].toList] fun x_4 y=>rA (Fy n) x [.tup [],.box 0 [nds x_4.1,Ad (x_4.2.1++[mkS x_4.2.2.2]),Ab x_4.2.2.1],.top]) (Aa (x.2.2.2.kind==(6:Int)) (((0:Int)≤(0:Int)∧(0:Int)<(↑(List.length x.2.2.2.kids):Int))∧∀(e:Int),x.2.2.2.kids[(0:Nat)]? =some e→cA (Cl n) [.box 0 [nds x.1,Ad x.2.1,Ab x.2.2.1],.int .i64 e] fun x_1 y=>cA Ck [.box 0 [nds x_1.1,Ad (x_1.2.1++Az x_1.1 n x_1.2.2.2),Ab y],.str #[(46:UInt8)].toList] fun x_2 y=>cA Ek [.box 0 [nds x_2.1,Ad (x_2.2.1++[mkS x_2.2.2.2]),Ab x_2.2.2.1],.str x.2.2.2.text] fun x_3 y=>rA (Fy n) x [.tup [],.box 0 [nds x_3.1,Ad (x_3.2.1++[wdS x_3.2.2.2]),Ab x_3.2.2.1],.top]) (Aa (x.2.2.2.kind==(7:Int)) (eA (Px n x) [.box 0 [nds x.1,Ad x.2.1,Ab x.2.2.1],.box 0 [.int .i64 x.2.2.2.kind,.str x.2.2.2.text,An x.2.2.2.kids,.bool x.2.2.2.blank],.int .i64 ((↑(List.length x.2.2.2.kids):Int)-(1:Int)),.int .i64 (0:Int)]∧∀(i:Int×List Int),((0:Int)≤i.1∧i.1≤(↑(List.length x.2.2.2.kids):Int))∧List.length i.2=List.length x.2.2.1∧x.2.2.2.kind=(7:Int)→Aa (decide (i.1≤(↑(List.length x.2.2.2.kids):Int)-(1:Int))) (Aa (decide (i.1>(0:Int))) (cA Ck [.box 0 [nds x.1,Ad (x.2.1++Bb (Az x.1 n) x.2.2.2.text (List.take (Int.toNat i.1) x.2.2.2.kids)),Ab i.2],.str x.2.2.2.text] fun x_1 y=>((0:Int)≤i.1∧i.1<(↑(List.length x.2.2.2.kids):Int))∧∀(e:Int),x.2.2.2.kids[Int.toNat i.1]? =some e→cA (Cl n) [.box 0 [nds x_1.1,Ad (x_1.2.1++[mkS x_1.2.2.2]),Ab x_1.2.2.1],.int .i64 e] fun x_2 y=>inR IntKind.i64 (i.1+(1:Int))∧eN (Px n x) i [.box 0 [nds x_2.1,Ad (x_2.2.1++Az x_2.1 n x_2.2.2.2),Ab y],.box 0 [.int .i64 x.2.2.2.kind,.str x.2.2.2.text,An x.2.2.2.kids,.bool x.2.2.2.blank],.int .i64 ((↑(List.length x.2.2.2.kids):Int)-(1:Int)),.int .i64 (i.1+(1:Int))]) (((0:Int)≤i.1∧i.1<(↑(List.length x.2.2.2.kids):Int))∧∀(e:Int),x.2.2.2.kids[Int.toNat i.1]? =some e→cA (Cl n) [.box 0 [nds x.1,Ad (x.2.1++Bb (Az x.1 n) x.2.2.2.text (List.take (Int.toNat i.1) x.2.2.2.kids)),Ab i.2],.int .i64 e] fun x_1 y=>inR IntKind.i64 (i.1+(1:Int))∧eN (Px n x) i [.box 0 [nds x_1.1,Ad (x_1.2.1++Az x_1.1 n x_1.2.2.2),Ab y],.box 0 [.int .i64 x.2.2.2.kind,.str x.2.2.2.text,An x.2.2.2.kids,.bool x.2.2.2.blank],.int .i64 ((↑(List.length x.2.2.2.kids):Int)-(1:Int)),.int .i64 (i.1+(1:Int))])) (rA (Fy n) x [.tup [],.box 0 [nds x.1,Ad (x.2.1++Bb (Az x.1 n) x.2.2.2.text (List.take (Int.toNat i.1) x.2.2.2.kids)),Ab i.2],.top])) (Aa (x.2.2.2.kind==(8:Int)) (((0:Int)≤(0:Int)∧(0:Int)<(↑(List.length x.2.2.2.kids):Int))∧∀(e:Int),x.2.2.2.kids[(0:Nat)]? =some e→cA (Cl n) [.box 0 [nds x.1,Ad x.2.1,Ab x.2.2.1],.int .i64 e] fun x_1 y=>cA Ck [.box 0 [nds x_1.1,Ad (x_1.2.1++Az x_1.1 n x_1.2.2.2),Ab y],.str #[(63:UInt8)].toList] fun x_2 y=>((0:Int)≤(1:Int)∧(1:Int)<(↑(List.length x.2.2.2.kids):Int))∧∀(e:Int),x.2.2.2.kids[(1:Nat)]? =some e→cA (Cl n) [.box 0 [nds x_2.1,Ad (x_2.2.1++[mkS x_2.2.2.2]),Ab x_2.2.2.1],.int .i64 e] fun x_3 y=>cA Ck [.box 0 [nds x_3.1,Ad (x_3.2.1++Az x_3.1 n x_3.2.2.2),Ab y],.str #[(58:UInt8)].toList] fun x_4 y=>((0:Int)≤(2:Int)∧(2:Int)<(↑(List.length x.2.2.2.kids):Int))∧∀(e:Int),x.2.2.2.kids[(2:Nat)]? =some e→cA (Cl n) [.box 0 [nds x_4.1,Ad (x_4.2.1++[mkS x_4.2.2.2]),Ab x_4.2.2.1],.int .i64 e] fun x_5 y=>rA (Fy n) x [.tup [],.box 0 [nds x_5.1,Ad (x_5.2.1++Az x_5.1 n x_5.2.2.2),Ab y],.top]) (Aa (x.2.2.2.kind==(9:Int)) (cA Ck [.box 0 [nds x.1,Ad x.2.1,Ab x.2.2.1],.str #[(40:UInt8)].toList] fun x_1 y=>((0:Int)≤(0:Int)∧(0:Int)≤(↑(List.length x.2.2.2.kids):Int)-(1:Int)∧(↑(List.length x.2.2.2.kids):Int)-(1:Int)≤(↑(List.length x.2.2.2.kids):Int))∧cA (HY n) [.box 0 [nds x_1.1,Ad (x_1.2.1++[mkS x_1.2.2.2]),Ab x_1.2.2.1],An (List.take (Int.toNat ((↑(List.length x.2.2.2.kids):Int)-(1:Int))) x.2.2.2.kids)] fun x_2 y=>cA Ck [.box 0 [nds x_2.1,Ad (x_2.2.1++Bb (Az x_2.1 n) [(44:UInt8)] x_2.2.2.2),Ab y],.str #[(41:UInt8)].toList] fun x_3 y=>cA Ck [.box 0 [nds x_3.1,Ad (x_3.2.1++[mkS x_3.2.2.2]),Ab x_3.2.2.1],.str #[(61:UInt8),(62:UInt8)].toList] fun x_4 y=>((0:Int)≤(↑(List.length x.2.2.2.kids):Int)-(1:Int)∧(↑(List.length x.2.2.2.kids):Int)-(1:Int)<(↑(List.length x.2.2.2.kids):Int))∧∀(e:Int),x.2.2.2.kids[Int.toNat ((↑(List.length x.2.2.2.kids):Int)-(1:Int))]? =some e→cA (Cl n) [.box 0 [nds x_4.1,Ad (x_4.2.1++[mkS x_4.2.2.2]),Ab x_4.2.2.1],.int .i64 e] fun x_5 y=>rA (Fy n) x [.tup [],.box 0 [nds x_5.1,Ad (x_5.2.1++Az x_5.1 n x_5.2.2.2),Ab y],.top]) (Aa (x.2.2.2.kind==(10:Int)) (((0:Int)≤(0:Int)∧(0:Int)<(↑(List.length x.2.2.2.kids):Int))∧∀(e:Int),x.2.2.2.kids[(0:Nat)]? =some e→cA (Cl n) [.box 0 [nds x.1,Ad x.2.1,Ab x.2.2.1],.int .i64 e] fun x_1 y=>eA (SC n x) [.box 0 [nds x_1.1,Ad (x_1.2.1++Az x_1.1 n x_1.2.2.2),Ab y],.box 0 [.int .i64 x.2.2.2.kind,.str x.2.2.2.text,An x.2.2.2.kids,.bool x.2.2.2.blank],.int .i64 ((↑(List.length x.2.2.2.kids):Int)-(1:Int)),.int .i64 (1:Int)]∧∀(i:Int×List Int),((1:Int)≤i.1∧i.1≤(↑(List.length x.2.2.2.kids):Int))∧List.length i.2=List.length x.2.2.1∧x.2.2.2.kind=(10:Int)→Aa (decide (i.1≤(↑(List.length x.2.2.2.kids):Int)-(1:Int))) (cA Ck [.box 0 [nds x.1,Ad (x.2.1++Bb (Az x.1 n) [(46:UInt8),(46:UInt8)] (List.take (Int.toNat i.1) x.2.2.2.kids)),Ab i.2],.str #[(46:UInt8),(46:UInt8)].toList] fun x_2 y=>((0:Int)≤i.1∧i.1<(↑(List.length x.2.2.2.kids):Int))∧∀(e:Int),x.2.2.2.kids[Int.toNat i.1]? =some e→cA (Cl n) [.box 0 [nds x_2.1,Ad (x_2.2.1++[mkS x_2.2.2.2]),Ab x_2.2.2.1],.int .i64 e] fun x_3 y=>inR IntKind.i64 (i.1+(1:Int))∧eN (SC n x) i [.box 0 [nds x_3.1,Ad (x_3.2.1++Az x_3.1 n x_3.2.2.2),Ab y],.box 0 [.int .i64 x.2.2.2.kind,.str x.2.2.2.text,An x.2.2.2.kids,.bool x.2.2.2.blank],.int .i64 ((↑(List.length x.2.2.2.kids):Int)-(1:Int)),.int .i64 (i.1+(1:Int))]) (rA (Fy n) x [.tup [],.box 0 [nds x.1,Ad (x.2.1++Bb (Az x.1 n) [(46:UInt8),(46:UInt8)] (List.take (Int.toNat i.1) x.2.2.2.kids)),Ab i.2],.top])) (cA Ck [.box 0 [nds x.1,Ad x.2.1,Ab x.2.2.1],.str #[(40:UInt8)].toList] fun x_1 y=>((0:Int)≤(0:Int)∧(0:Int)<(↑(List.length x.2.2.2.kids):Int))∧∀(e:Int),x.2.2.2.kids[(0:Nat)]? =some e→cA (Cl n) [.box 0 [nds x_1.1,Ad (x_1.2.1++[mkS x_1.2.2.2]),Ab x_1.2.2.1],.int .i64 e] fun x_2 y=>cA Ck [.box 0 [nds x_2.1,Ad (x_2.2.1++Az x_2.1 n x_2.2.2.2),Ab y],.str #[(41:UInt8)].toList] fun x_3 y=>rA (Fy n) x [.tup [],.box 0 [nds x_3.1,Ad (x_3.2.1++[mkS x_3.2.2.2]),Ab x_3.2.2.1],.top]))))))))))) (fun x=>by kernel_rfl) fun(x:List Nd×List Sg×List Int×Nd) (hx:Bi x.1∧telP x.1 n x.2.2.2 x.2.1∧1≤x.2.2.2.kind∧x.2.2.2.kind≤11)=>(by
 dsimp only[cA,eA,eN,An,SC,Px,Bx,nds,Ab,Ad,rA,Ck,Cl,Gv,HY,Fy,Ek,Bv,tlr,Aw,AR,mvL,lnL,mvE,lnE,Br]
 obtain⟨h1,h3,h4,h5⟩:=hx
 have hr:=h3.rm;have hlo:=h3.lo;have hhi:=h3.hi;have hk12:=h3.k12
 have hL:=Sr h3
 (repeat' first|(with_reducible first|rfl|exact True.intro|apply AM|apply And.intro|((first|apply AC|apply AK|apply AD|apply AL)<;>intro _))|(apply AB<;>intro _)|apply AJ|refine Ag () ?_ ?_|((first|apply AQ|apply AP|apply AO|apply AN|apply AI|apply AH|apply AG|apply AF|apply AE)<;>try dsimp only)|apply Ag|(refine Prod.forall.2 ?_;intro _;try dsimp only)|(intro _;try dsimp only))
 all_goals first
  |rfl
  |exact h1
  |exact h3.kid _ (Cu ‹_›)
  |exact HX h3 (by omega)
  |assumption
  |(exfalso;omega)
  |omega
  |exact b4R (by omega) ‹_›
  |exact Si (by omega) ‹_›
  |exact WN (by omega) (by omega) ‹_›
  |(simp [Bb];done)
  |exact WJ (HX h3 (Nat.le_add_right _ _))
  |exact b4U (HX h3 (Nat.le_add_right _ _))
  |exact WM (HX h3 (Nat.le_add_right _ _))
  |(repeat(rename x.2.2.2.kids[_]? =some _=>hq;first|(have e:=Sl hq;clear hq;subst e)|(have e:=Sm hq;clear hq;subst e)|(have e:=Sn hq;clear hq;subst e)|(have e:=So hq;clear hq;subst e))
    first|(rename x.2.2.2.kind=_=>hkk)|(have hkk:x.2.2.2.kind=11:=by omega)
    rw[hkk] at hlo hhi
    simp only[CM,Int.reduceEq,or_self,or_false,false_or,or_true,true_or,if_true,if_false,reduceIte] at hlo hhi
    first
    |(rw[b4T (by omega)];simp only[Bo,hkk,Int.reduceEq,if_true,if_false,reduceIte])
    |exact b4S (by omega)
    |(simp only[Bo,hkk,Int.reduceEq,if_true,if_false,reduceIte,Ko]<;>(simp [mkS,sg0];done))
    |(try unfold fB
      try simp only[AS,Ba]
      first
      |omega
      |(try have ha:=hL.a 0 (by omega)
        try have ha1:=hL.a 1 (by omega)
        try have ha2:=hL.a 2 (by omega)
        first
        |refine Sp h3 ?_
        |refine Sq h3 ?_
        |refine HX h3 ?_
        |skip
        have hd:=hL.d 1 [44];have hl:=hL.l [44];have ht:=hL.t (x.2.2.2.kids.length-1) [44]
        simp only[Ko,List.length_append,List.length_map,List.length_cons,List.length_nil] at*
        omega)))
  |((try unfold fB);have ht:=hL.t;(try simp only[AS,Ba,List.length_append,List.length_cons,List.length_nil]);first|omega|(have:=ht (Int.toNat ‹_›) [46,46];omega))
  |skip)
end Go.My
end
section
set_option maxHeartbeats 8000000
namespace Go.My
open Go.Eng Go.Proofs
variable {G:GInv}
def LI(x:List Nd×List Sg×List Int×Int):LS:= {
 ι:=List Int,inv:=fun y=>y.length=x.2.2.1.length,
 regs:=fun y=>[(0,tlr x.1 x.2.1 y),(1,.int .i64 x.2.2.2)],als:=[],meas:=fun _=>0}
theorem b4W{f:Int→List Sg}{l:List Int}(h:l.length=1):l.flatMap f=f (l.getD 0 0):=by
 match l,h with
 |[c],_=>simp
theorem b4X{f:Int→List Sg}{l:List Int}(h:l.length=0):l.flatMap f=[]:=by
 match l,h with
 |[],_=>rfl
def Fz(n:Nat):Sig:= {X:=List Nd×List Sg×List Int×Int,args:=fun x=>[tlr x.1 x.2.1 x.2.2.1,.int .i64 x.2.2.2],pre:=fun x=>Bi x.1∧EC x.1 (n+1) x.2.2.2∧fB (n+1) x.2.1,Y:=List Int,post:=fun x y=>y.length=x.2.2.1.length,res:=fun x y=> .tup [],outs:=fun x y=>[tlr x.1 (x.2.1++Az x.1 (n+1) x.2.2.2) y,.top],keep:=true}
theorem b4Y(n:Nat)(hc:Am G Go.Proofs.Tryz.prog 36 (Cl n)):Am G Tryz.prog 36 (Fz n):=
 vcFun_okP [(36,0,(Cl n)),(68,0,Ck),(67,0,Ek),(71,0,Gv),(72,0,(HY n)),(69,0,(Jw n)),(70,0,(LH n)),(73,0,(Fy n))] [] false (fun x=>[(100001,LI x),(200002,LI x)]) Tryz.func36 rfl (by decide) ⟨hc,Sz,WP,Sy,a3D n hc,b4Q n hc,b4P n hc,b4V n hc,trivial⟩ (fun(x:List Nd×List Sg×List Int×Int)=>True∧Aa (decide (x.2.2.2<(↑(List.length x.2.2.1):Int))) (true=true∧((((0:Int)≤x.2.2.2∧x.2.2.2<(↑(List.length x.2.2.1):Int))∧Int.toNat x.2.2.2<List.length x.2.2.1∧∀(x_1:Int),x.2.2.1[Int.toNat x.2.2.2]? =some x_1→∃(x':Int),((@List.nil AV)=[]∧(@List.nil AV)=[])∧(↑(List.length x.2.1):Int)=x'∧true=true∧eA (LI x) [.box 0 [nds x.1,Ad x.2.1,Ab (List.set x.2.2.1 (Int.toNat x.2.2.2) x')],.int .i64 x.2.2.2])∧((0:Int)≤x.2.2.2∧x.2.2.2<(↑(List.length x.2.2.1):Int))∧Int.toNat x.2.2.2<List.length x.2.2.1∧∀(x_1:Int),x.2.2.1[Int.toNat x.2.2.2]? =some x_1→∃(x':Int),((@List.nil AV)=[]∧(@List.nil AV)=[])∧(↑(List.length x.2.1):Int)=x'∧true=true∧eA (LI x) [.box 0 [nds x.1,Ad x.2.1,Ab (List.set x.2.2.1 (Int.toNat x.2.2.2) x')],.int .i64 x.2.2.2])∧∀(i:List Int),List.length i=List.length x.2.2.1→eA (LI x) [.box 0 [nds x.1,Ad x.2.1,Ab i],.int .i64 x.2.2.2]) (eA (LI x) [.box 0 [nds x.1,Ad x.2.1,Ab x.2.2.1],.int .i64 x.2.2.2])∧∀(i:List Int),List.length i=List.length x.2.2.1→((0:Int)≤x.2.2.2∧x.2.2.2<(↑(List.length x.1):Int))∧∀(e:Nd),x.1[Int.toNat x.2.2.2]? =some e→Aa (e.kind==(12:Int)) (cA Ek [.box 0 [nds x.1,Ad x.2.1,Ab i],.str #[(118:UInt8),(97:UInt8),(114:UInt8)].toList] fun x_1 y=>cA Ek [.box 0 [nds x_1.1,Ad (x_1.2.1++[wdS x_1.2.2.2]),Ab x_1.2.2.1],.str e.text] fun x_2 y=>Aa (decide ((↑(List.length e.kids):Int)>(0:Int))) (cA Ck [.box 0 [nds x_2.1,Ad (x_2.2.1++[wdS x_2.2.2.2]),Ab x_2.2.2.1],.str #[(61:UInt8)].toList] fun x_3 y=>((0:Int)≤(0:Int)∧(0:Int)<(↑(List.length e.kids):Int))∧∀(e_1:Int),e.kids[(0:Nat)]? =some e_1→cA (Cl n) [.box 0 [nds x_3.1,Ad (x_3.2.1++[mkS x_3.2.2.2]),Ab x_3.2.2.1],.int .i64 e_1] fun x_4 y=>cA Ck [.box 0 [nds x_4.1,Ad (x_4.2.1++Az x_4.1 n x_4.2.2.2),Ab y],.str #[(59:UInt8)].toList] fun x_5 y=>rA (Fz n) x [.tup [],.box 0 [nds x_5.1,Ad (x_5.2.1++[mkS x_5.2.2.2]),Ab x_5.2.2.1],.top]) (cA Ck [.box 0 [nds x_2.1,Ad (x_2.2.1++[wdS x_2.2.2.2]),Ab x_2.2.2.1],.str #[(59:UInt8)].toList] fun x_3 y=>rA (Fz n) x [.tup [],.box 0 [nds x_3.1,Ad (x_3.2.1++[mkS x_3.2.2.2]),Ab x_3.2.2.1],.top])) (Aa (e.kind==(13:Int)) (cA Ek [.box 0 [nds x.1,Ad x.2.1,Ab i],.str e.text] fun x_1 y=>cA Ck [.box 0 [nds x_1.1,Ad (x_1.2.1++[wdS x_1.2.2.2]),Ab x_1.2.2.1],.str #[(61:UInt8)].toList] fun x_2 y=>((0:Int)≤(0:Int)∧(0:Int)<(↑(List.length e.kids):Int))∧∀(e_1:Int),e.kids[(0:Nat)]? =some e_1→cA (Cl n) [.box 0 [nds x_2.1,Ad (x_2.2.1++[mkS x_2.2.2.2]),Ab x_2.2.2.1],.int .i64 e_1] fun x_3 y=>cA Ck [.box 0 [nds x_3.1,Ad (x_3.2.1++Az x_3.1 n x_3.2.2.2),Ab y],.str #[(59:UInt8)].toList] fun x_4 y=>rA (Fz n) x [.tup [],.box 0 [nds x_4.1,Ad (x_4.2.1++[mkS x_4.2.2.2]),Ab x_4.2.2.1],.top]) (Aa (e.kind==(14:Int)) (((0:Int)≤(0:Int)∧(0:Int)<(↑(List.length e.kids):Int))∧∀(e_1:Int),e.kids[(0:Nat)]? =some e_1→cA (Cl n) [.box 0 [nds x.1,Ad x.2.1,Ab i],.int .i64 e_1] fun x_1 y=>cA Ck [.box 0 [nds x_1.1,Ad (x_1.2.1++Az x_1.1 n x_1.2.2.2),Ab y],.str #[(59:UInt8)].toList] fun x_2 y=>rA (Fz n) x [.tup [],.box 0 [nds x_2.1,Ad (x_2.2.1++[mkS x_2.2.2.2]),Ab x_2.2.2.1],.top]) (Aa (e.kind==(15:Int)) (cA Ek [.box 0 [nds x.1,Ad x.2.1,Ab i],.str #[(114:UInt8),(101:UInt8),(116:UInt8),(117:UInt8),(114:UInt8),(110:UInt8)].toList] fun x_1 y=>cA (Jw n) [.box 0 [nds x_1.1,Ad (x_1.2.1++[wdS x_1.2.2.2]),Ab x_1.2.2.1],An e.kids] fun x_2 y=>cA Ck [.box 0 [nds x_2.1,Ad (x_2.2.1++List.flatMap (Az x_2.1 n) x_2.2.2.2),Ab y],.str #[(59:UInt8)].toList] fun x_3 y=>rA (Fz n) x [.tup [],.box 0 [nds x_3.1,Ad (x_3.2.1++[mkS x_3.2.2.2]),Ab x_3.2.2.1],.top]) (Aa (e.kind==(16:Int)) (((0:Int)≤(0:Int)∧(0:Int)<(↑(List.length e.kids):Int))∧∀(e_1:Int),e.kids[(0:Nat)]? =some e_1→cA (LH n) [.box 0 [nds x.1,Ad x.2.1,Ab i],.str #[(105:UInt8),(102:UInt8)].toList,.int .i64 e_1] fun x_1 y=>((0:Int)≤(1:Int)∧(1:Int)<(↑(List.length e.kids):Int))∧∀(e_2:Int),e.kids[(1:Nat)]? =some e_2→cA (Cl n) [.box 0 [nds x_1.1,Ad (x_1.2.1++[wdS x_1.2.2.2.1]++[mkS [(40:UInt8)]]++Az x_1.1 n x_1.2.2.2.2++[mkS [(41:UInt8)]]),Ab y],.int .i64 e_2] fun x_2 y=>Aa (decide ((↑(List.length e.kids):Int)>(2:Int))) (cA Ek [.box 0 [nds x_2.1,Ad (x_2.2.1++Az x_2.1 n x_2.2.2.2),Ab y],.str #[(101:UInt8),(108:UInt8),(115:UInt8),(101:UInt8)].toList] fun x_3 y=>((0:Int)≤(2:Int)∧(2:Int)<(↑(List.length e.kids):Int))∧∀(e_3:Int),e.kids[(2:Nat)]? =some e_3→cA (Cl n) [.box 0 [nds x_3.1,Ad (x_3.2.1++[wdS x_3.2.2.2]),Ab x_3.2.2.1],.int .i64 e_3] fun x_4 y=>rA (Fz n) x [.tup [],.box 0 [nds x_4.1,Ad (x_4.2.1++Az x_4.1 n x_4.2.2.2),Ab y],.top]) (rA (Fz n) x [.tup [],.box 0 [nds x_2.1,Ad (x_2.2.1++Az x_2.1 n x_2.2.2.2),Ab y],.top])) (Aa (e.kind==(17:Int)) (((0:Int)≤(0:Int)∧(0:Int)<(↑(List.length e.kids):Int))∧∀(e_1:Int),e.kids[(0:Nat)]? =some e_1→cA (LH n) [.box 0 [nds x.1,Ad x.2.1,Ab i],.str #[(119:UInt8),(104:UInt8),(105:UInt8),(108:UInt8),(101:UInt8)].toList,.int .i64 e_1] fun x_1 y=>((0:Int)≤(1:Int)∧(1:Int)<(↑(List.length e.kids):Int))∧∀(e_2:Int),e.kids[(1:Nat)]? =some e_2→cA (Cl n) [.box 0 [nds x_1.1,Ad (x_1.2.1++[wdS x_1.2.2.2.1]++[mkS [(40:UInt8)]]++Az x_1.1 n x_1.2.2.2.2++[mkS [(41:UInt8)]]),Ab y],.int .i64 e_2] fun x_2 y=>rA (Fz n) x [.tup [],.box 0 [nds x_2.1,Ad (x_2.2.1++Az x_2.1 n x_2.2.2.2),Ab y],.top]) (Aa (e.kind==(18:Int)) (cA Ck [.box 0 [nds x.1,Ad x.2.1,Ab i],.str #[(123:UInt8)].toList] fun x_1 y=>cA (Jw n) [.box 0 [nds x_1.1,Ad (x_1.2.1++[mkS x_1.2.2.2]),Ab x_1.2.2.1],An e.kids] fun x_2 y=>cA Ck [.box 0 [nds x_2.1,Ad (x_2.2.1++List.flatMap (Az x_2.1 n) x_2.2.2.2),Ab y],.str #[(125:UInt8)].toList] fun x_3 y=>rA (Fz n) x [.tup [],.box 0 [nds x_3.1,Ad (x_3.2.1++[mkS x_3.2.2.2]),Ab x_3.2.2.1],.top]) (Aa (e.kind==(19:Int)) (cA Gv [.box 0 [nds x.1,Ad x.2.1,Ab i],.int .i64 (5:Int),.str e.text] fun x_1 y=>rA (Fz n) x [.tup [],.box 0 [nds x_1.1,Ad (x_1.2.1++[sg0 x_1.2.2.2.1 x_1.2.2.2.2]),Ab x_1.2.2.1],.top]) (Aa (e.kind==(20:Int)) (cA Ek [.box 0 [nds x.1,Ad x.2.1,Ab i],.str e.text] fun x_1 y=>cA Ck [.box 0 [nds x_1.1,Ad (x_1.2.1++[wdS x_1.2.2.2]),Ab x_1.2.2.1],.str #[(40:UInt8)].toList] fun x_2 y=>inR IntKind.i64 ((↑(List.length e.kids):Int)-(1:Int))∧((0:Int)≤(0:Int)∧(0:Int)≤(↑(List.length e.kids):Int)-(1:Int)∧(↑(List.length e.kids):Int)-(1:Int)≤(↑(List.length e.kids):Int))∧cA (HY n) [.box 0 [nds x_2.1,Ad (x_2.2.1++[mkS x_2.2.2.2]),Ab x_2.2.2.1],An (List.take (Int.toNat ((↑(List.length e.kids):Int)-(1:Int))) e.kids)] fun x_3 y=>cA Ck [.box 0 [nds x_3.1,Ad (x_3.2.1++Bb (Az x_3.1 n) [(44:UInt8)] x_3.2.2.2),Ab y],.str #[(41:UInt8)].toList] fun x_4 y=>inR IntKind.i64 ((↑(List.length e.kids):Int)-(1:Int))∧((0:Int)≤(↑(List.length e.kids):Int)-(1:Int)∧(↑(List.length e.kids):Int)-(1:Int)<(↑(List.length e.kids):Int))∧∀(e_1:Int),e.kids[Int.toNat ((↑(List.length e.kids):Int)-(1:Int))]? =some e_1→cA (Cl n) [.box 0 [nds x_4.1,Ad (x_4.2.1++[mkS x_4.2.2.2]),Ab x_4.2.2.1],.int .i64 e_1] fun x_5 y=>rA (Fz n) x [.tup [],.box 0 [nds x_5.1,Ad (x_5.2.1++Az x_5.1 n x_5.2.2.2),Ab y],.top]) (Aa (e.kind==(21:Int)) (cA Ek [.box 0 [nds x.1,Ad x.2.1,Ab i],.str #[(99:UInt8),(108:UInt8),(97:UInt8),(115:UInt8),(115:UInt8)].toList] fun x_1 y=>cA Ek [.box 0 [nds x_1.1,Ad (x_1.2.1++[wdS x_1.2.2.2]),Ab x_1.2.2.1],.str e.text] fun x_2 y=>cA Ck [.box 0 [nds x_2.1,Ad (x_2.2.1++[wdS x_2.2.2.2]),Ab x_2.2.2.1],.str #[(123:UInt8)].toList] fun x_3 y=>cA (Jw n) [.box 0 [nds x_3.1,Ad (x_3.2.1++[mkS x_3.2.2.2]),Ab x_3.2.2.1],An e.kids] fun x_4 y=>cA Ck [.box 0 [nds x_4.1,Ad (x_4.2.1++List.flatMap (Az x_4.1 n) x_4.2.2.2),Ab y],.str #[(125:UInt8)].toList] fun x_5 y=>rA (Fz n) x [.tup [],.box 0 [nds x_5.1,Ad (x_5.2.1++[mkS x_5.2.2.2]),Ab x_5.2.2.1],.top]) (Aa (e.kind==(22:Int)) (cA (Jw n) [.box 0 [nds x.1,Ad x.2.1,Ab i],An e.kids] fun x_1 y=>rA (Fz n) x [.tup [],.box 0 [nds x_1.1,Ad (x_1.2.1++List.flatMap (Az x_1.1 n) x_1.2.2.2),Ab y],.top]) (cA (Fy n) [.box 0 [nds x.1,Ad x.2.1,Ab i],.agg [.int .i64 e.kind,.str e.text,An e.kids,.bool e.blank]] fun x_1 y=>rA (Fz n) x [.tup [],.box 0 [nds x_1.1,Ad (x_1.2.1++Bo (Az x_1.1 n) x_1.2.2.2),Ab y],.top])))))))))))) (fun x=>by kernel_rfl) fun(x:List Nd×List Sg×List Int×Int) (hx:Bi x.1∧EC x.1 (n+1) x.2.2.2∧fB (n+1) x.2.1)=>(by
 dsimp only[cA,eA,An,LI,Bx,nds,Ab,Ad,rA,Jw,LH,Ck,Cl,Fz,Gv,HY,Fy,Ek,Bv,tlr,Aw,AR,mvL,lnL,mvE,lnE,Br]
 obtain⟨h1,h3,h4⟩:=hx
 have hT:=a3q h1 h3 h4
 have hS:=(JV h3.1).1
 obtain⟨z,hz⟩:∃z,x.1[x.2.2.2.toNat]? =some z:=by
  have:=CR.1 h3.1.1
  exact⟨_,List.getElem?_eq_getElem (by omega)⟩
 have hn:=CR.1 h3.1.1
 simp only[hz,Option.some.injEq,forall_eq',Bz hz,Az] at hT hS ⊢
 have hr:=hT.rm;have hlo:=hT.lo;have hhi:=hT.hi;have hk12:=hT.k12
 have hL:=Sr hT
 have hl1:=h1.1
 (repeat' first|(with_reducible first|rfl|exact True.intro|apply AM|apply And.intro|((first|apply AC|apply AK|apply AD|apply AL)<;>intro _))|(apply AB<;>intro _)|apply AJ|refine Ag () ?_ ?_|((first|apply AQ|apply AP|apply AO|apply AN|apply AI|apply AH|apply AG|apply AF|apply AE)<;>try dsimp only)|apply Ag|(refine Prod.forall.2 ?_;intro _;try dsimp only)|(intro _;try dsimp only))
 all_goals first
  |rfl
  |exact h1
  |exact hT
  |exact hT.kid _ (Cu ‹_›)
  |exact HX hT (by omega)
  |assumption
  |(exfalso;omega)
  |omega
  |exact List.length_set ..
  |(rw[List.length_set];omega)
  |(repeat(rename z.kids[_]? =some _=>hq;first|(have e:=Sl hq;clear hq;subst e)|(have e:=Sm hq;clear hq;subst e)|(have e:=Sn hq;clear hq;subst e)|(have e:=So hq;clear hq;subst e))
    rename z.kind=_=>hkk
    rw[hkk] at hlo hhi
    simp only[CM,Int.reduceEq,or_self,or_false,false_or,or_true,true_or,if_true,if_false,reduceIte] at hlo hhi
    first
    |(by_cases hp:0<z.kids.length<;>by_cases hq3:z.kids.length=3<;>first|(exfalso;omega)|(simp only[Bo,hkk,hp,hq3,Nat.lt_irrefl,Int.reduceEq,if_true,if_false,reduceIte,Ko]<;>first|done|(simp [mkS,sg0];done)|(simp [mkS,sg0,b4W (l:=z.kids) (by omega),kd];done)|(simp [mkS,sg0,b4X (l:=z.kids) (by omega),kd];done)))
    |(try unfold fB
      try simp only[AS,Ba]
      first
      |omega
      |(try have ha:=hL.a 0 (by omega)
        try have ha1:=hL.a 1 (by omega)
        try have ha2:=hL.a 2 (by omega)
        first
        |refine Sp hT ?_
        |refine Sq hT ?_
        |refine HX hT ?_
        |skip
        have hd:=hL.d 1 [44];have hl:=hL.l [44];have ht:=hL.t (z.kids.length-1) [44];have hee:=hL.e
        simp only[Ko,List.length_append,List.length_map,List.length_cons,List.length_nil] at*
        omega)))
  |((try simp only[AS,Ba,List.length_append,List.length_cons,List.length_nil]);omega)
  |skip)
def b4Z:Sig:= {X:=List Nd×List Sg×List Int×Int,args:=fun x=>[tlr x.1 x.2.1 x.2.2.1,.int .i64 x.2.2.2],pre:=fun x=>Bi x.1∧EC x.1 0 x.2.2.2∧fB 0 x.2.1,Y:=List Int,post:=fun x y=>y.length=x.2.2.1.length,res:=fun x y=> .tup [],outs:=fun x y=>[tlr x.1 (x.2.1++Az x.1 0 x.2.2.2) y,.top],keep:=true}
theorem b5a:Am G Tryz.prog 36 b4Z:=
 vcFun_okP [] [] false (fun x=>[]) Tryz.func36 rfl (by decide) trivial (fun(x:List Nd×List Sg×List Int×Int)=>True∧Aa (decide (x.2.2.2<(↑(List.length x.2.2.1):Int))) (true=true∧true=true∧((0:Int)≤x.2.2.2∧x.2.2.2<(↑(List.length x.2.2.1):Int))∧False) (((0:Int)≤x.2.2.2∧x.2.2.2<(↑(List.length x.1):Int))∧∀(e:Nd),x.1[Int.toNat x.2.2.2]? =some e→Aa (e.kind==(12:Int)) False (Aa (e.kind==(13:Int)) False (Aa (e.kind==(14:Int)) (((0:Int)≤(0:Int)∧(0:Int)<(↑(List.length e.kids):Int))∧∀(e_1:Int),e.kids[(0:Nat)]? =some e_1→False) (Aa (e.kind==(15:Int)) False (Aa (e.kind==(16:Int)) (((0:Int)≤(0:Int)∧(0:Int)<(↑(List.length e.kids):Int))∧∀(e_1:Int),e.kids[(0:Nat)]? =some e_1→False) (Aa (e.kind==(17:Int)) (((0:Int)≤(0:Int)∧(0:Int)<(↑(List.length e.kids):Int))∧∀(e_1:Int),e.kids[(0:Nat)]? =some e_1→False) (Aa (e.kind==(18:Int)) False (Aa (e.kind==(19:Int)) False (Aa (e.kind==(20:Int)) False (Aa (e.kind==(21:Int)) False (Aa (e.kind==(22:Int)) False False)))))))))))) (fun x=>by kernel_rfl) fun(x:List Nd×List Sg×List Int×Int) (hx:Bi x.1∧EC x.1 0 x.2.2.2∧fB 0 x.2.1)=>(by
 have h1:=hx.2.1.2.1;have h2:=CR.1 hx.2.1.1.1
 omega)
theorem a3E:∀n,Am G Go.Proofs.Tryz.prog 36 (Cl n)
 |0=>b5a
 |n+1=>b4Y n (a3E n)
def Kp:Sig:= {X:=List Nd,args:=fun x=>[nds x],pre:=fun x=>Bi x∧LG x,Y:=Unit,post:=fun x y=>True,res:=fun x y=>Ad (BV x),outs:=fun x y=>[.top],keep:=false}
theorem b5b:Am G Tryz.prog 15 Kp:=
 vcFun_okP [(26,0,Gf),(36,0,(Cl 301))] [(28,⟨Sg,sgA⟩)] false (fun x=>[]) Tryz.func15 rfl (by decide) ⟨ZZ,(a3E 301),trivial⟩ (fun(x:List Nd)=>(∀(y:Unit),True→(∀(x:Sg),True∧True∧True∧True∧True)∧True∧True)∧cA Gf [nds x] fun x_1 y=>Aa (!BO x_1) (rA Kp x [Ad [],.top]) (inR IntKind.i64 ((↑(List.length x):Int)-(1:Int))∧cA (Cl (301:Nat)) [.box 0 [nds x,.nil,.nil],.int .i64 ((↑(List.length x):Int)-(1:Int))] fun x_2 y=>∃(zs:List Sg),Ad (x_2.2.1++Az x_2.1 (301:Nat) x_2.2.2.2)=Ad zs∧Bu sgA∧Ba ((0:Nat)+List.length zs) (40:Nat)∧rA Kp x [Ad ([]++zs),.top])) (fun x=>by kernel_rfl) fun(x:List Nd) (hx:Bi x∧LG x)=>(by
 dsimp only[cA,Bx,nds,Ab,Ad,rA,Cl,Kp,Gf,Bv,tlr,Aw,AR,mvL,lnL,mvE,lnE]
 obtain⟨h1,h2⟩:=hx;have hl:=h1.1;have h3:=h2.1
 (repeat' first|(with_reducible first|rfl|exact True.intro|apply AM|apply And.intro|((first|apply AC|apply AK|apply AD|apply AL)<;>intro _))|(apply AB<;>intro _)|apply AJ|refine Ag () ?_ ?_|((first|apply AQ|apply AP|apply AO|apply AN|apply AI|apply AH|apply AG|apply AF|apply AE)<;>try dsimp only)|apply Ag|(refine Prod.forall.2 ?_;intro _;try dsimp only)|(intro _;try dsimp only))
 all_goals first
  |rfl
  |exact h1
  |exact h2
  |exact h3
  |assumption
  |exact Sv ‹_›
  |exact a3t
  |(rw[BV,if_pos ‹_›];simp;done)
  |(have hk:=Nx (Sv (show BO x=true by assumption));simp only[Ba,List.length_append,List.length_nil];omega)
  |(rw[BV,if_neg (by simp [*])];done)
  |(have ht:=a3s ‹_›;(try simp only[AS]);omega)
  |((try simp only[AS]);omega)
  |skip)
end Go.My
end
section
namespace Go.My
open Go.Eng Go.Proofs
variable {G:GInv}
theorem a3F{ns:List Nd}:(BV ns).length≤5400:=by
 unfold BV
 split
 ·exact Nx (Sv ‹_›)
 ·simp
end Go.My
end
