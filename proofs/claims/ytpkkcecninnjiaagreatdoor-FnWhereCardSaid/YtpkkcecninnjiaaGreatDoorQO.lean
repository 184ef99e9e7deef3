/- joined -/
import Derived.Test.YtpkkcecninnjiaaGreatDoorQN
import Derived.Test.YtpkkcecninnjiaaGreatDoorProg
set_option linter.unusedSimpArgs false
set_option linter.unusedVariables false
section
namespace Go.My
open Go.Eng Go.Proofs
variable {G:GInv}
def Fh:Sig:=⟨WC×List Aa×Int×Int×Aa,fun x=>[wrA x.1 (xW x),.q x.2.2.2.1,.str x.2.2.2.2],fun x=>(0≤x.2.2.2.1∧x.2.2.2.1≤100000)∧x.2.2.2.2.length≤2^62∧x.2.1.length≤2^41,List Aa×Int,fun x y=>Be (BO x.2.2.2.1 x.2.2.2.2 (xW x)) (yW y),fun x y=> .tup [],fun x y=>[wrA x.1 (yW y),.top,.top],true,[],[]⟩
def d4J(x:WC×List Aa×Int×Int×Aa):LS:=⟨Unit,fun _=>True,fun _=>[(0,wrA x.1 ⟨x.2.1++[blk x.2.2.2.1++x.2.2.2.2],x.2.2.1⟩)],[],fun _=>0,fun _=>[],[]⟩
def ZS(x:WC×List Aa×Int×Int×Aa)(x_1:KV.X):Prop:=∃(x_2:Aa),blk x_1.1++(Z4 x)=x_2∧(∃(zs:List Aa),Cl [x_2]=Cl zs∧(Ca Bo∧(Bb ((xW x).ls.length+zs.length) (16:Nat)∧(true=true∧(∃(i:Unit),True∧((nds x.1.ns=nds x.1.ns∧x.1.w=x.1.w∧x.1.bud=x.1.bud∧Cl ((xW x).ls++zs)=Cl (x.2.1++[blk x.2.2.2.1++(Z4 x)])∧(xW x).st=x.2.2.1∧True)∧True))))))
theorem ZT:CtG G 81 Fh:=
 vFq [(97,0,KV)] [(44,⟨Aa,Bo⟩)] (fun x=>[(100000,d4J x)]) Tryz.func81 ⟨b4R,trivial⟩ (fun x=>True∧true=true∧((cA KV [.q x.2.2.2.1] fun x_1 y=>(↑((blk x_1.1).length+(Z4 x).length):Int)≤Aq∧(ZS x x_1))∧cA KV [.q x.2.2.2.1] fun x_1 y=>(↑((blk x_1.1).length+(Z4 x).length):Int)≤Aq∧(ZS x x_1)∧(ZS x x_1))∧∀(i:Unit),True→rA Fh x [.tup [],.box 0 [nds x.1.ns,.q x.1.w,.q x.1.bud,Cl (x.2.1++[blk x.2.2.2.1++(Z4 x)]),.q x.2.2.1],.top,.top]) (by kernel_rfl) fun(x:WC×List Aa×Int×Int×Aa) (hx:(0≤x.2.2.2.1∧x.2.2.2.1≤100000)∧x.2.2.2.2.length≤2^62∧x.2.1.length≤2^41)=>(by
 dsimp only[Z4,ZS,cA,Ce,nds,Cl,rA,KV,Fh,wrA,AB,AF,mvL,lnL,mvE,lnE,Aq,AV.q]
 obtain⟨c,ls,st,i,t⟩:=x;dsimp only[xW] at hx ⊢
 obtain⟨⟨h1,h2⟩,h3,h4⟩:=hx
 (repeat' first|(with_reducible first|rfl|exact⟨⟩|apply AG|apply AM)|apply AL|(apply AK<;>try dsimp only)|apply AJ|((try refine AH.2 ?_);intro _;try dsimp only))
 all_goals first
  |with_reducible rfl
  |exact(show Be _ _ from rfl)
  |rfl
  |((try simp only[Aw,Bb,AE,AX]);omega)
  |(have hb:=d0g (i:=i) h1 h2;(try simp only[Aw]);omega)
  |exact()
  |skip)
def Kd(n:Nat):Sig:=⟨WC×List Aa×Int×Int×Aa×Aa×Int,fun x=>[wrA x.1 (xW x),.q x.2.2.2.1,.str x.2.2.2.2.1,.str x.2.2.2.2.2.1,.q x.2.2.2.2.2.2],fun x=>wvP x.1 n (xW x) x.2.2.2.2.1 x.2.2.2.1 x.2.2.2.2.2.1 x.2.2.2.2.2.2,List Aa×Int,fun x y=>Be (Cp x.1 n x.2.2.2.2.1 x.2.2.2.1 x.2.2.2.2.2.1 x.2.2.2.2.2.2 (xW x)) (yW y),fun x y=> .tup [],fun x y=>[wrA x.1 (yW y),.top,.top,.top,.top],true,[],[]⟩
def a6v(n:Nat)(x:WC×List Aa×Int×Int×Aa×Aa×Int):LS:=⟨Unit,fun _=>True,fun _=>[(0,wrA x.1 (xW x)),(10,.box 0 (pcA false (bdP x.1.ns n x.2.2.2.1 x.2.2.2.2.1 x.2.2.2.2.2.1 x.2.2.2.2.2.2))),(12,Al (srF (bdP x.1.ns n x.2.2.2.1 x.2.2.2.2.1 x.2.2.2.2.2.1 x.2.2.2.2.2.2) x.1.w x.1.bud).1.best),(13,.q (KO (bdP x.1.ns n x.2.2.2.1 x.2.2.2.2.1 x.2.2.2.2.2.1 x.2.2.2.2.2.2) x.1.w x.1.bud))],[],fun _=>0,fun _=>[],[]⟩
def d4K(n:Nat)(x:WC×List Aa×Int×Int×Aa×Aa×Int):LS:=⟨Unit,fun _=>True,fun _=>[(0,wrA x.1 ⟨x.2.1++JZ (bdP x.1.ns n x.2.2.2.1 x.2.2.2.2.1 x.2.2.2.2.2.1 x.2.2.2.2.2.2) x.1.w x.1.bud,x.2.2.1⟩),(13,.q (KO (bdP x.1.ns n x.2.2.2.1 x.2.2.2.2.1 x.2.2.2.2.2.1 x.2.2.2.2.2.2) x.1.w x.1.bud))],[],fun _=>0,fun _=>[],[]⟩
def ZU(n:Nat)(x:WC×List Aa×Int×Int×Aa×Aa×Int):Prop:=cA PZ [.agg (pcA false (bdP x.1.ns n x.2.2.2.1 (G4 x) (G5 x) (Z6 x))),Al (srF (bdP x.1.ns n x.2.2.2.1 (G4 x) (G5 x) (Z6 x)) x.1.w x.1.bud).1.best] fun x_2 y=>∃(zs:List Aa),Cl (EC x_2.1 x_2.2)=Cl zs∧(Ca Bo∧(Bb ((xW x).ls.length+zs.length) (16:Nat)∧(true=true∧(∃(i:Unit),True∧((nds x.1.ns=nds x.1.ns∧x.1.w=x.1.w∧x.1.bud=x.1.bud∧Cl ((xW x).ls++zs)=Cl (x.2.1++JZ (bdP x.1.ns n x.2.2.2.1 (G4 x) (G5 x) (Z6 x)) x.1.w x.1.bud)∧((xW x).st=x.2.2.1∧KO (bdP x.1.ns n x.2.2.2.1 (G4 x) (G5 x) (Z6 x)) x.1.w x.1.bud=KO (bdP x.1.ns n x.2.2.2.1 (G4 x) (G5 x) (Z6 x)) x.1.w x.1.bud∧True))∧True)))))
def a6w(n:Nat)(x:WC×List Aa×Int×Int×Aa×Aa×Int)(x_1:(SX n).X)(x_2:MU.X):Prop:=true=true∧(eA (a6v n x) [(wrA x.1 (xW x)),.box 0 [.q (pfR x_1.1 n x_1.2.1 x_1.2.2.1 x_1.2.2.2.1 (Z4 x_1)).ind,AV.sl false 0 2 Ru (fun(x:Ru)=>fzL (ruA x)) (pfR x_1.1 n x_1.2.1 x_1.2.2.1 x_1.2.2.2.1 (Z4 x_1)).rules,AV.sl false 0 5 Ch (fun(x:Ch)=>fzL (chA x)) (pfR x_1.1 n x_1.2.1 x_1.2.2.1 x_1.2.2.2.1 (Z4 x_1)).chunks,AV.sl false 0 3 Sn (fun(x:Sn)=>fzL (snA x)) (pfR x_1.1 n x_1.2.1 x_1.2.2.1 x_1.2.2.2.1 (Z4 x_1)).spans,AV.sl false 0 2 Ti (fun(x:Ti)=>fzL (tiA x)) (pfR x_1.1 n x_1.2.1 x_1.2.2.1 x_1.2.2.2.1 (Z4 x_1)).ties],Al (if CY x_2.1=true then(srF x_2.1 x_2.2.1 x_2.2.2).1.best else []),.q (if CY x_2.1=true then(srF x_2.1 x_2.2.1 x_2.2.2).2 else(0:Int))])
def Qm(n:Nat)(x:WC×List Aa×Int×Int×Aa×Aa×Int)(x_1:(SX n).X):Prop:=cA MU [.agg (pcA true (pfR x_1.1 n x_1.2.1 x_1.2.2.1 x_1.2.2.2.1 (Z4 x_1))),.q x.1.w,.q x.1.bud] fun x_2 y=>(a6w n x x_1 x_2)∧(a6w n x x_1 x_2)
theorem b5B(n:Nat)(hv:CtG G 117 (CN n)):CtG G 83 (Kd n):=
 vFq [(98,0,(SX n)),(99,0,(Ow n)),(81,0,Fh),(100,0,MU),(101,0,PZ)] [(44,⟨Aa,Bo⟩)] (fun x=>[(100003,a6v n x),(100004,d4K n x)]) Tryz.func83 ⟨(d4H n hv),(d4I n hv),ZT,d2U,d2f,trivial⟩ (fun x=>True∧cA (SX n) [nds x.1.ns,.q x.2.2.2.1,.str (G4 x),.str (G5 x),.q (Z6 x)] fun x_1 y=>Ae (!Fc x_1.1 x_1.2.1 x_1.2.2.1 x_1.2.2.2.1 (Z4 x_1)) (cA (Ow n) [nds x.1.ns,.q x.2.2.2.1] fun x_2 y=>(↑((G4 x).length+(if DZ x_2.1 x_2.2=true then YS x_2.1 n x_2.2 else []).length):Int)≤Aq∧(↑(((G4 x)++if DZ x_2.1 x_2.2=true then YS x_2.1 n x_2.2 else []).length+(G5 x).length):Int)≤Aq∧cA Fh [(wrA x.1 (xW x)),.q (Z6 x),.str (((G4 x)++if DZ x_2.1 x_2.2=true then YS x_2.1 n x_2.2 else [])++(G5 x))] fun x_3 y=>rA (Kd n) x [.tup [],(wrA x_3.1 (yW y)),.top,.top,.top,.top]) (true=true∧(((Qm n x x_1)∧(Qm n x x_1))∧((Qm n x x_1)∧(Qm n x x_1))∧((Qm n x x_1)∧(Qm n x x_1)))∧∀(i:Unit),True→true=true∧((ZU n x)∧(ZU n x)∧(ZU n x))∧∀(i:Unit),True→Ae (KO (bdP x.1.ns n x.2.2.2.1 (G4 x) (G5 x) (Z6 x)) x.1.w x.1.bud==2) (rA (Kd n) x [.tup [],.box 0 [nds x.1.ns,.q x.1.w,.q x.1.bud,Cl (x.2.1++JZ (bdP x.1.ns n x.2.2.2.1 (G4 x) (G5 x) (Z6 x)) x.1.w x.1.bud),.q (KO (bdP x.1.ns n x.2.2.2.1 (G4 x) (G5 x) (Z6 x)) x.1.w x.1.bud)],.top,.top,.top,.top]) (rA (Kd n) x [.tup [],.box 0 [nds x.1.ns,.q x.1.w,.q x.1.bud,Cl (x.2.1++JZ (bdP x.1.ns n x.2.2.2.1 (G4 x) (G5 x) (Z6 x)) x.1.w x.1.bud),.q x.2.2.1],.top,.top,.top,.top]))) (by kernel_rfl) fun(x:WC×List Aa×Int×Int×Aa×Aa×Int) (hx:wvP x.1 n (xW x) x.2.2.2.2.1 x.2.2.2.1 x.2.2.2.2.2.1 x.2.2.2.2.2.2)=>(by
 dsimp only[G4,G5,Z4,Z6,Qm,a6w,ZU,cA,EP,eA,a6v,Al,Ce,nds,Cl,pcA,rA,EO,PZ,MU,Fh,Kd,SX,Ow,EQ,Yq,suA,ER,wrA,AB,AF,mvL,lnL,mvE,lnE,mvG,mvH,lnG,lnH,Bn,Aq,AV.q]
 obtain⟨c,ls,st,k,pre,post,i⟩:=x;dsimp only[xW] at hx ⊢
 have hx:wvP c n ⟨ls,st⟩ pre k post i:=hx
 have ho:=d0h hx;have hl:=d0j hx;have hok:=Sx hx.vw.bd
 have hr:=hx.rm;dsimp only at hr
 (repeat' first|refine MK (bdP c.ns n k pre post i) ?_|(with_reducible first|rfl|exact⟨⟩|apply AG|apply AM)|apply AL|(apply AK<;>try dsimp only)|apply AJ|((try refine AH.2 ?_);intro _;try dsimp only))
 all_goals first
  |with_reducible rfl
  |(exfalso;rename Fc _ _ _ _ _=false=>hq;rw[ho.1] at hq;cases hq)
  |exact d0i hx
  |(rw[ho.2];done)
  |(rw[hl.1];done)
  |(rw[hl.2.1];done)
  |(rw[if_pos hok];done)
  |(rw[if_pos hok];rfl)
  |(dsimp only;exact⟨JX hok,(c8l (JX hok)).1.bl,(a4v hx.vw.bd).2.1.2⟩)
  |exact b4c ‹_›
  |exact d0k ‹_›
  |(rename _=(2:Int)=>hq;rw[hq];exact b4c ‹_›)
  |exact a4v hx.vw.bd
  |((try simp only[Aw,Bb]);omega)
  |exact()
  |rfl
  |skip)
structure alQ (c:WC) (n m:Nat) (s:Ws) (ks:Ad) (i:Int):Prop where
 al:alP c n m s ks i
def MX(n m:Nat):Sig:=⟨WC×List Aa×Int×Int×Int,fun x=>[wrA x.1 (xW x),.int .i64 x.2.2.2.1,.int .i64 x.2.2.2.2],fun x=>ndP x.1 n m (xW x) x.2.2.2.1 x.2.2.2.2,List Aa×Int,fun x y=>Be (wN x.1 n m x.2.2.2.1 x.2.2.2.2 (xW x)) (yW y),fun x y=> .tup [],fun x y=>[wrA x.1 (yW y),.top,.top],true,[],[]⟩
attribute [local irreducible] wlI
def LI(n m:Nat):Sig:=⟨WC×List Aa×Int×Ad×Int,fun x=>[wrA x.1 (xW x),Al x.2.2.2.1,.q x.2.2.2.2],fun x=>alP x.1 n m (xW x) x.2.2.2.1 x.2.2.2.2,List Aa×Int,fun x y=>Be (Et x.1.ns (wN x.1 n m) x.2.2.2.2 x.2.2.2.1 (xW x)) (yW y),fun x y=> .tup [],fun x y=>[wrA x.1 (yW y),.top,.top],true,[],[]⟩
def VH(n m:Nat)(x:WC×List Aa×Int×Ad×Int):LS:=⟨List Aa×Int×Int,fun j=>wlI x.1.ns (wN x.1 n m) (wW x.1.ns m) x.2.2.2.1 x.2.2.2.2 (xW x) j.2.2 (vWs j),fun j=>[(0,wrA x.1 (vWs j)),(1,Al x.2.2.2.1),(2,.q x.2.2.2.2),(6,.q j.2.2)],[],fun j=>x.2.2.2.1.length-j.2.2.toNat,fun _=>[],[]⟩
theorem a6x(n m:Nat)(hc:CtG G 56 (MX n m)):CtG G 37 (LI n m):=
 vFq [(56,0,(MX n m))] [(44,⟨Aa,Bo⟩)] (fun x=>[(1,VH n m x)]) Tryz.func37 ⟨hc,trivial⟩ (fun x=>True∧eA (VH n m x) [(wrA x.1 (xW x)),Al x.2.2.2.1,.q (Z4 x),.q 0]∧∀(i:List Aa×Int×Int),wlI x.1.ns (wN x.1 n m) (wW x.1.ns m) x.2.2.2.1 (Z4 x) (xW x) i.2.2 (vWs i)→Ae (decide (i.2.2<(nL x.2.2.2.1))) (true=true∧true=true∧(0≤i.2.2∧i.2.2<(nL x.2.2.2.1))∧∀(e:Int),x.2.2.2.1[Int.toNat i.2.2]? =some e→(0≤e∧e<(nL x.1.ns))∧∀(e_1:Nd),x.1.ns[Int.toNat e]? =some e_1→Ae e_1.blank (∃(x_1:Aa),#[].toList=x_1∧∃(zs:List Aa),Cl [x_1]=Cl zs∧Ca Bo∧Bb ((vWs i).ls.length+zs.length) (16:Nat)∧(0≤i.2.2∧i.2.2<(nL x.2.2.2.1))∧∀(e:Int),x.2.2.2.1[Int.toNat i.2.2]? =some e→∃(x_2:WC×List Aa×Int×Int×Int),ndP x_2.1 n m (xW x_2) x_2.2.2.2.1 (Z4 x_2)∧nds x.1.ns=nds x_2.1.ns∧x.1.w=x_2.1.w∧x.1.bud=x_2.1.bud∧Cl ((vWs i).ls++zs)=Cl (xW x_2).ls∧(vWs i).st=(xW x_2).st∧e=x_2.2.2.2.1∧(Z4 x)=(Z4 x_2)∧∀(y:List Aa×Int),Be (wN x_2.1 n m x_2.2.2.2.1 (Z4 x_2) (xW x_2)) (yW y)→inR .i64 (i.2.2+(1:Int))∧eN (VH n m x) i [(wrA x_2.1 (yW y)),Al x.2.2.2.1,.q (Z4 x),.q (i.2.2+(1:Int))]) ((0≤i.2.2∧i.2.2<(nL x.2.2.2.1))∧∀(e:Int),x.2.2.2.1[Int.toNat i.2.2]? =some e→cA (MX n m) [(wrA x.1 (vWs i)),.q e,.q (Z4 x)] fun x_1 y=>inR .i64 (i.2.2+(1:Int))∧eN (VH n m x) i [(wrA x_1.1 (yW y)),Al x.2.2.2.1,.q (Z4 x),.q (i.2.2+(1:Int))])) (rA (LI n m) x [.tup [],(wrA x.1 (vWs i)),.top,.top])) (by kernel_rfl) fun(x:WC×List Aa×Int×Ad×Int) (hx:alP x.1 n m (xW x) x.2.2.2.1 x.2.2.2.2)=>(by
 dsimp only[nL,Z4,cA,eA,eN,VH,Al,Ce,nds,Cl,rA,LI,MX,wrA,AB,AF,mvL,lnL,mvE,lnE,Bn,AV.q]
 obtain⟨c,ls,st,ks,i⟩:=x;dsimp only[xW] at hx ⊢
 have hx:alP c n m ⟨ls,st⟩ ks i:=hx
 have h1:=hx.kl;have h2:=hx.rm;dsimp only at h2
 (repeat' first|(with_reducible first|rfl|exact⟨⟩|apply AG|apply AM)|apply AL|(apply AK<;>try dsimp only)|apply AJ|((try refine AH.2 ?_);intro _;try dsimp only))
 all_goals(try(repeat(rename ks[_]? =some _=>hq;revert hq;rename ks[_]? =some _=>hr;intro hq;rw[hr] at hq;cases hq)))
 all_goals(try dsimp only[yW,xW,vWs] at*)
 all_goals first
  |with_reducible rfl
  |exact d0n hx
  |exact d0q ‹_› hx ‹_›
  |exact d0r ‹_› hx ‹_›
  |exact d0s ‹_› hx ‹_› ‹_› ‹_› ‹_›
  |exact d0t ‹_› hx ‹_› ‹_› ‹_› ‹_›
  |exact d0u ‹_› ‹_›
  |(have hq:=d0o ‹wlI _ _ _ _ _ _ _ _›;(try simp only[Aw]);omega)
  |(have hq:=d0p hx ‹_›;omega)
  |(have hq:=a5b ‹wlI _ _ _ _ _ _ _ _› ‹_›;dsimp only at hq;(try simp only[Bb,AE,AX]);omega)
  |exact()
  |rfl
  |skip)
def KZ(n m:Nat):Sig:=⟨WC×List Aa×Int×Int×Int,fun x=>[wrA x.1 (xW x),.q x.2.2.2.1,.q x.2.2.2.2],fun x=>bkP x.1 n m (xW x) x.2.2.2.1 x.2.2.2.2,List Aa×Int,fun x y=>Be (CM x.1.ns (wN x.1 n m) x.2.2.2.1 x.2.2.2.2 (xW x)) (yW y),fun x y=> .tup [],fun x y=>[wrA x.1 (yW y),.top,.top],true,[],[]⟩
theorem b5C(n m:Nat)(hc:CtG G 56 (MX n m)):CtG G 84 (KZ n m):=
 vFq [(37,0,(LI n m))] [] (fun x=>[]) Tryz.func84 ⟨(a6x n m hc),trivial⟩ (fun x=>True∧(0≤x.2.2.2.1∧x.2.2.2.1<(nL x.1.ns))∧∀(e:Nd),x.1.ns[Int.toNat x.2.2.2.1]? =some e→inR .i64 ((Z4 x)+(2:Int))∧cA (LI n m) [(wrA x.1 (xW x)),Al e.kids,.q ((Z4 x)+(2:Int))] fun x_1 y=>rA (KZ n m) x [.tup [],(wrA x_1.1 (yW y)),.top,.top]) (by kernel_rfl) fun(x:WC×List Aa×Int×Int×Int) (hx:bkP x.1 n m (xW x) x.2.2.2.1 x.2.2.2.2)=>(by
 dsimp only[nL,Z4,cA,Al,Ce,nds,rA,LI,KZ,wrA,AB,AF,mvL,lnL,mvE,lnE,AV.q]
 obtain⟨c,ls,st,b,i⟩:=x;dsimp only[xW] at hx ⊢
 have hx:bkP c n m ⟨ls,st⟩ b i:=hx
 have h1:=BF.1 hx.br.up.1;have h2:=hx.i0
 (repeat' first|(with_reducible first|rfl|exact⟨⟩|apply AG|apply AM)|apply AL|(apply AK<;>try dsimp only)|apply AJ|((try refine AH.2 ?_);intro _;try dsimp only))
 all_goals first
  |with_reducible rfl
  |exact d0v hx ‹_›
  |exact d0w ‹_› ‹_›
  |((try simp only[Aw]);omega)
  |skip)
end Go.My
end
section
namespace Go.My
open Go.Eng Go.Proofs
variable {G:GInv}
variable {b i k:Int}{c:WC}{e x:Nd}{m n:Nat}{s t:Ws}
def toF(c:WC)(n:Nat)(x:Nd)(KR pre:Aa)(i:Int)(s:Ws):Ws:=if x.kids.length=0 then BO i KR s else Cp c n pre (kd x 0) [59] i s
structure toP (c:WC) (n:Nat) (s:Ws) (x:Nd) (KR pre:Aa) (i:Int):Prop where
 l:KR.length≤2^62∧s.ls.length≤2^41
 i0:0≤i∧i≤100000
 v:∀d,x.kids[(0:Nat)]? =some d→wvP c n s pre d [59] i
 kl:x.kids.length≤12
theorem d4L{KR pre:Aa}(h:Be (BO i KR s) t)(hk:(x.kids.length:Int)=0):Be (toF c n x KR pre i s) t:=by rw[toF,if_pos (by omega)];exact h
theorem d4M{KR pre:Aa}{d:Int}(h:Be (Cp c n pre d [59] i s) t)(hd:x.kids[(0:Nat)]? =some d)(hk:¬(x.kids.length:Int)=0):Be (toF c n x KR pre i s) t:=by rw[toF,if_neg (by omega),Dw hd];exact h
def LJ(n:Nat):Sig:=⟨WC×List Aa×Int×Nd×Aa×Aa×Int,fun x=>[wrA x.1 (xW x),.agg (ndA false x.2.2.2.1),.str x.2.2.2.2.1,.str x.2.2.2.2.2.1,.q x.2.2.2.2.2.2],fun x=>toP x.1 n (xW x) x.2.2.2.1 x.2.2.2.2.1 x.2.2.2.2.2.1 x.2.2.2.2.2.2,List Aa×Int,fun x y=>Be (toF x.1 n x.2.2.2.1 x.2.2.2.2.1 x.2.2.2.2.2.1 x.2.2.2.2.2.2 (xW x)) (yW y),fun x y=> .tup [],fun x y=>[wrA x.1 (yW y),.top,.top,.top,.top],true,[],[]⟩
theorem d4N(n:Nat)(hv:CtG G 117 (CN n)):CtG G 82 (LJ n):=
 vFq [(81,0,Fh),(83,0,(Kd n))] [] (fun x=>[]) Tryz.func82 ⟨ZT,(b5B n hv),trivial⟩ (fun x=>True∧Ae ((nL x.2.2.2.1.kids)==(0:Int)) (cA Fh [(wrA x.1 (xW x)),.q (Z6 x),.str (G4 x)] fun x_1 y=>rA (LJ n) x [.tup [],(wrA x_1.1 (yW y)),.top,.top,.top,.top]) (((0:Int)≤(0:Int)∧0<(nL x.2.2.2.1.kids))∧∀(e:Int),x.2.2.2.1.kids[(0:Nat)]? =some e→cA (Kd n) [(wrA x.1 (xW x)),.q e,.str (G5 x),.str #[(59:UInt8)].toList,.q (Z6 x)] fun x_1 y=>rA (LJ n) x [.tup [],(wrA x_1.1 (yW y)),.top,.top,.top,.top])) (by kernel_rfl) fun(x:WC×List Aa×Int×Nd×Aa×Aa×Int) (hx:toP x.1 n (xW x) x.2.2.2.1 x.2.2.2.2.1 x.2.2.2.2.2.1 x.2.2.2.2.2.2)=>(by
 dsimp only[nL,G4,G5,Z6,cA,EP,Al,Ce,nds,pcA,rA,EO,Fh,Kd,LJ,EQ,ER,wrA,AB,AF,mvL,lnL,mvE,lnE,mvG,mvH,lnG,lnH,AV.q]
 obtain⟨c,ls,st,x,KR,pre,i⟩:=x;dsimp only[xW] at hx ⊢
 have hx:toP c n ⟨ls,st⟩ x KR pre i:=hx
 have h1:=hx.l;have h2:=hx.i0;have h3:=hx.kl;dsimp only at h1
 (repeat' first|(with_reducible first|rfl|exact⟨⟩|apply AG|apply AM)|apply AL|(apply AK<;>try dsimp only)|apply AJ|((try refine AH.2 ?_);intro _;try dsimp only))
 all_goals first
  |with_reducible rfl
  |omega
  |exact d4L ‹_› ‹_›
  |exact d4M ‹_› ‹_› ‹_›
  |exact hx.v _ ‹_›
  |skip)
structure mtP (c:WC) (n m:Nat) (s:Ws) (x:Nd) (i:Int):Prop where
 nd:∃k,ndP c n (m+1) s k i∧x=Ab c.ns k
 k20:x.kind=20
def mtS(c:WC)(x:Nd)(i:Int):Aa:=x.text++[40]++Fg c.ns ((fnT x).take i.toNat) true
def mtI(x:Nd)(i:Int):Prop:=0≤i∧i≤(fnT x).length
theorem d4O(h:mtP c n m s x i):hdP c.ns x:=by
 obtain⟨k,hk,e⟩:=h.nd
 have h20:=h.k20
 subst e;exact d0N hk h20
theorem d4P(h:mtP c n m s x i):(0≤i∧i≤59)∧s.ls.length+85≤2^41:=by
 obtain⟨k,hk,e⟩:=h.nd
 have h20:=h.k20
 subst e
 exact⟨(MS hk).2.1,(Za hk).2 (by omega)⟩
theorem d4Q(hx:hdP c.ns x):(mtS c x i).length≤460:=by
 have h1:=Sj (ns:=c.ns) (w:=fun _=>30) (l:=(fnT x).take i.toNat) (first:=true) fun k hk=>hx.nm k (GX hk)
 have h2:=Sm (w:=fun _=>30) (b:=30) (l:=(fnT x).take i.toNat) fun _ _=>by omega
 have h3:= @Ok x;have h4:=hx.kl;have h6:=hx.tx
 have h5:((fnT x).take i.toNat).length≤(fnT x).length:=by rw[DU];omega
 rw[mtS];simp only[Ba,AE,AX];omega
theorem d4R(h:mtI x i)(hx:hdP c.ns x):(mtS c x i).length≤460:=d4Q hx
theorem b5D(h0:0≤i)(hl:i<(x.kids.length:Int)-1)(hk:x.kids[i.toNat]? =some k)(he:c.ns[k.toNat]? =some e):mtS c x (i+1)=(if i>0 then mtS c x i++[44,32] else mtS c x i)++e.text:=by
 have hk2:=Qk h0 hl hk
 have hlt:=(Ec hk2).1
 rw[mtS,CW h0,FS hk2,a6n,BR he]
 by_cases e0:i>0
 ·have:(fnT x).take i.toNat≠[]:=by
   intro h;have h3:((fnT x).take i.toNat).length=0:=by rw[h];rfl
   rw[DU] at h3;omega
  rw[if_pos e0,if_neg (by simp [this])];simp [mtS]
 ·have:(fnT x).take i.toNat=[]:=by rw[show i.toNat=0 by omega];rfl
  rw[if_neg e0,if_pos ⟨this,rfl⟩];simp [mtS]
theorem b5E(h0:mtI x i)(hl:i<(x.kids.length:Int)-1)(hk:x.kids[i.toNat]? =some k)(he:c.ns[k.toNat]? =some e)(hi:i>0):mtS c x i++[44,32]++e.text=mtS c x (i+1):=by rw[b5D h0.1 hl hk he,if_pos hi]
theorem b5F(h0:mtI x i)(hl:i<(x.kids.length:Int)-1)(hk:x.kids[i.toNat]? =some k)(he:c.ns[k.toNat]? =some e)(hi:¬i>0):mtS c x i++e.text=mtS c x (i+1):=by rw[b5D h0.1 hl hk he,if_neg hi]
theorem a6y(h0:mtI x i)(hi:¬i<(x.kids.length:Int)-1):mtS c x i++[41,32,123]=hdT c.ns x:=by
 rw[mtS,hdT,EH (by have:=h0.1;rw[Ok];omega),fnT]
theorem d4S(hx:hdP c.ns x)(h0:mtI x i)(hl:i<(x.kids.length:Int)-1)(hk:x.kids[i.toNat]? =some k)(he:c.ns[k.toNat]? =some e):e.text.length≤30:=by
 have:=hx.nm k (Bq (Qk h0.1 hl hk))
 rwa [BR he] at this
theorem d4T(h1:Be (BO i (hdT c.ns x) s) t)(hb:x.kids[((x.kids.length:Int)-1).toNat]? =some b)(h:mtP c n m s x i):bkP c n m t b i:=by
 obtain⟨k,hk,e⟩:=h.nd
 have h20:=h.k20
 subst e;exact d0O h1 hb hk h20
theorem d4U{u:Ws}(h2:Be (CM c.ns (wN c n m) b i t) u)(h1:Be (BO i (hdT c.ns x) s) t)(hb:x.kids[((x.kids.length:Int)-1).toNat]? =some b)(h:mtP c n m s x i):u.ls.length+2≤2^41:=by
 obtain⟨k,hk,e⟩:=h.nd
 have h20:=h.k20
 subst e;exact d0P h2 h1 hb hk h20
def mtQ(c:WC)(n m:Nat)(s:Ws)(x:Nd)(i:Int)(y:Ws):Prop:=y=BO i [125] (CM c.ns (wN c n m) (kd x (x.kids.length-1)) i (BO i (hdT c.ns x) s))
theorem d4V{u y:Ws}(h5:Be (BO i [125] u) y)(h2:Be (CM c.ns (wN c n m) b i t) u)(h1:Be (BO i (hdT c.ns x) s) t)(hb:x.kids[((x.kids.length:Int)-1).toNat]? =some b)(hl:1≤x.kids.length):mtQ c n m s x i y:=by
 rw[show((x.kids.length:Int)-1).toNat=x.kids.length-1 by omega] at hb
 rw[mtQ,Dw hb,←h1,←h2];exact h5
attribute [local irreducible] mtS mtI
def SY(n m:Nat):Sig:=⟨WC×List Aa×Int×Nd×Int,fun x=>[wrA x.1 (xW x),.agg (ndA false x.2.2.2.1),.q x.2.2.2.2],fun x=>mtP x.1 n m (xW x) x.2.2.2.1 x.2.2.2.2,List Aa×Int,fun x y=>mtQ x.1 n m (xW x) x.2.2.2.1 x.2.2.2.2 (yW y),fun x y=> .tup [],fun x y=>[wrA x.1 (yW y),.top,.top],true,[],[]⟩
def VI(n m:Nat)(x:WC×List Aa×Int×Nd×Int):LS:=⟨Int,fun i=>mtI x.2.2.2.1 i,fun i=>[(0,wrA x.1 (xW x)),(2,.q x.2.2.2.2),(4,.box 0 (ndA false x.2.2.2.1)),(6,.str (mtS x.1 x.2.2.2.1 i)),(7,.q ((x.2.2.2.1.kids.length:Int)-1)),(8,.q i)],[],fun i=>x.2.2.2.1.kids.length-i.toNat,fun _=>[],[]⟩
theorem d4W(n m:Nat)(hc:CtG G 56 (MX n m)):CtG G 85 (SY n m):=
 vFq [(81,0,Fh),(84,0,(KZ n m))] [] (fun x=>[(4,VI n m x)]) Tryz.func85 ⟨ZT,(b5C n m hc),trivial⟩ (fun x=>True∧(↑(x.2.2.2.1.text.length+(1:Nat)):Int)≤Aq∧inR .i64 ((nL x.2.2.2.1.kids)-(1:Int))∧eA (VI n m x) [(wrA x.1 (xW x)),.q (Z4 x),.box 0 (ndA false x.2.2.2.1),.str (x.2.2.2.1.text++ #[(40:UInt8)].toList),.q ((nL x.2.2.2.1.kids)-(1:Int)),.q 0]∧∀(i:Int),mtI x.2.2.2.1 i→Ae (decide (i<(nL x.2.2.2.1.kids)-(1:Int))) (Ae (decide (i>0)) ((↑((mtS x.1 x.2.2.2.1 i).length+(2:Nat)):Int)≤Aq∧true=true∧true=true∧(0≤i∧i<(nL x.2.2.2.1.kids))∧∀(e:Int),x.2.2.2.1.kids[Int.toNat i]? =some e→(0≤e∧e<(nL x.1.ns))∧∀(e_1:Nd),x.1.ns[Int.toNat e]? =some e_1→(↑((mtS x.1 x.2.2.2.1 i++ #[(44:UInt8),32].toList).length+e_1.text.length):Int)≤Aq∧inR .i64 (i+1)∧eN (VI n m x) i [(wrA x.1 (xW x)),.q (Z4 x),.box 0 (ndA false x.2.2.2.1),.str (mtS x.1 x.2.2.2.1 i++ #[(44:UInt8),32].toList++e_1.text),.q ((nL x.2.2.2.1.kids)-(1:Int)),.q (i+1)]) (true=true∧true=true∧(0≤i∧i<(nL x.2.2.2.1.kids))∧∀(e:Int),x.2.2.2.1.kids[Int.toNat i]? =some e→(0≤e∧e<(nL x.1.ns))∧∀(e_1:Nd),x.1.ns[Int.toNat e]? =some e_1→(↑((mtS x.1 x.2.2.2.1 i).length+e_1.text.length):Int)≤Aq∧inR .i64 (i+1)∧eN (VI n m x) i [(wrA x.1 (xW x)),.q (Z4 x),.box 0 (ndA false x.2.2.2.1),.str (mtS x.1 x.2.2.2.1 i++e_1.text),.q ((nL x.2.2.2.1.kids)-(1:Int)),.q (i+1)])) ((↑((mtS x.1 x.2.2.2.1 i).length+(3:Nat)):Int)≤Aq∧cA Fh [(wrA x.1 (xW x)),.q (Z4 x),.str (mtS x.1 x.2.2.2.1 i++ #[(41:UInt8),32,123].toList)] fun x_1 y=>(0≤(nL x.2.2.2.1.kids)-(1:Int)∧(nL x.2.2.2.1.kids)-1<(nL x.2.2.2.1.kids))∧∀(e:Int),x.2.2.2.1.kids[Int.toNat ((nL x.2.2.2.1.kids)-(1:Int))]? =some e→cA (KZ n m) [(wrA x_1.1 (yW y)),.q e,.q (Z4 x)] fun x_2 y=>cA Fh [(wrA x_2.1 (yW y)),.q (Z4 x),.str #[(125:UInt8)].toList] fun x_3 y=>rA (SY n m) x [.tup [],(wrA x_3.1 (yW y)),.top,.top])) (by kernel_rfl) fun(x:WC×List Aa×Int×Nd×Int) (hx:mtP x.1 n m (xW x) x.2.2.2.1 x.2.2.2.2)=>(by
 dsimp only[nL,Z4,cA,eA,eN,VI,Ce,nds,rA,KZ,Fh,SY,wrA,AB,AF,mvL,lnL,mvE,lnE,mvG,mvH,lnG,lnH,Bn,Aq,AV.q]
 obtain⟨c,ls,st,x,i⟩:=x;dsimp only[xW] at hx ⊢
 have hx:mtP c n m ⟨ls,st⟩ x i:=hx
 have hh:=d4O hx;have hi:=d4P hx;have hkl:=hh.kl;have htx:=hh.tx;dsimp only at hi
 have hI:∀j,mtI x j→0≤j∧j≤(fnT x).length:=fun j h=>by unfold mtI at h;exact h
 have hI2:∀j,mtI x j→j<(x.kids.length:Int)-1→mtI x (j+1):=fun j h hl=>by unfold mtI at h ⊢;rw[Ok] at h ⊢;omega
 have hI0:mtI x 0:=by unfold mtI;omega
 have hS0:x.text++[40]=mtS c x 0:=by unfold mtS;simp [Fg]
 (repeat' first|(with_reducible first|rfl|exact⟨⟩|apply AG|apply AM)|apply AL|(apply AK<;>try dsimp only)|apply AJ|((try refine AH.2 ?_);intro _;try dsimp only))
 all_goals(try dsimp only[yW,xW] at*)
 all_goals first
  |with_reducible rfl
  |with_reducible assumption
  |omega
  |exact hI2 _ ‹_› ‹_›
  |exact hS0
  |exact hS0.symm
  |exact b5E ‹_› ‹_› ‹_› ‹_› ‹_›
  |exact b5F ‹_› ‹_› ‹_› ‹_› ‹_›
  |exact(b5E ‹_› ‹_› ‹_› ‹_› ‹_›).symm
  |exact(b5F ‹_› ‹_› ‹_› ‹_› ‹_›).symm
  |(rename Be (BO i (mtS c x _++[41,32,123]) _) _=>hq;rw[a6y ‹_› ‹_›] at hq;exact d4T hq ‹_› hx)
  |(rename Be (BO i (mtS c x _++[41,32,123]) _) _=>hq;rw[a6y ‹_› ‹_›] at hq;exact d4V ‹_› ‹_› hq ‹_› hkl.1)
  |(rename Be (BO i (mtS c x _++[41,32,123]) _) _=>hq;rw[a6y ‹_› ‹_›] at hq;have hz:=d4U ‹_› hq ‹_› hx;dsimp only at hz;omega)
  |(have hq:=hI _ ‹_›;have hl:= @Ok x;(try simp only[Aw]);omega)
  |(have hq:=hI _ ‹_›;have hl:=hh.nd _ (Bq ‹x.kids[_]? =some _›);omega)
  |(have h9:=d4R (c:=c) ‹mtI x _› hh;have hq:=hI _ ‹_›;(try have ht:=d4S hh ‹_› ‹_› ‹_› ‹_›);(try simp only[Aw,Ba,AE,AX]);omega)
  |((try simp only[Aw,Ba,AE,AX]);omega)
  |exact()
  |rfl
  |skip)
end Go.My
end
section
namespace Go.My
open Go.Eng Go.Proofs
variable {G:GInv}
variable {c:WC}{i k:Int}{m n:Nat}{s t:Ws}
theorem ZV(h:ndP c n (m+1) s k i)(hk:¬(Ab c.ns k).kind=21):s.ls.length≤2^41∧(0≤i∧i≤100000)∧(Ab c.ns k).kids.length≤12:=by
 have:=(Za h).1;have:=MS h;omega
theorem d4X(h:ndP c n (m+1) s k i)(hk:(Ab c.ns k).kind=12):toP c n s (Ab c.ns k) ([118,97,114,32]++(Ab c.ns k).text++[59]) ([118,97,114,32]++(Ab c.ns k).text++[32,61]) i:=by
 have h1:=ZV h (by omega);have h2:=a5c h (.inl hk)
 exact⟨⟨by simp;omega,h1.1⟩,h1.2.1,fun d hd=>d0y h hk hd,h1.2.2⟩
theorem d4Y(h:ndP c n (m+1) s k i)(hk:(Ab c.ns k).kind=13):toP c n s (Ab c.ns k) [] ((Ab c.ns k).text++[32,61]) i:=by
 have h1:=ZV h (by omega)
 exact⟨⟨by simp,h1.1⟩,h1.2.1,fun d hd=>d0z h hk hd,h1.2.2⟩
theorem d4Z(h:ndP c n (m+1) s k i)(hk:(Ab c.ns k).kind=14):toP c n s (Ab c.ns k) [] [] i:=by
 have h1:=ZV h (by omega)
 exact⟨⟨by simp,h1.1⟩,h1.2.1,fun d hd=>d0A h hk hd,h1.2.2⟩
theorem d5a(h:ndP c n (m+1) s k i)(hk:(Ab c.ns k).kind=15):toP c n s (Ab c.ns k) [114,101,116,117,114,110,59] [114,101,116,117,114,110,32] i:=by
 have h1:=ZV h (by omega)
 exact⟨⟨by simp,h1.1⟩,h1.2.1,fun d hd=>d0B h hk hd,h1.2.2⟩
theorem d5b(ht:Be (toF c n (Ab c.ns k) ([118,97,114,32]++(Ab c.ns k).text++[59]) ([118,97,114,32]++(Ab c.ns k).text++[32,61]) i s) t)(hk:(Ab c.ns k).kind=12):Be (wN c n (m+1) k i s) t:=nq (by rw[wV1,if_neg (by omega),if_pos hk];exact ht)
theorem d5c(ht:Be (toF c n (Ab c.ns k) [] ((Ab c.ns k).text++[32,61]) i s) t)(h:ndP c n (m+1) s k i)(hk:(Ab c.ns k).kind=13):Be (wN c n (m+1) k i s) t:=by
 have h1:=(a5g h).1 (.inl hk)
 rw[toF,if_neg (by omega)] at ht
 exact nq (by rw[wV1,if_neg (by omega),if_neg (by omega),if_pos hk];exact ht)
theorem d5d(ht:Be (toF c n (Ab c.ns k) [] [] i s) t)(h:ndP c n (m+1) s k i)(hk:(Ab c.ns k).kind=14):Be (wN c n (m+1) k i s) t:=by
 have h1:=(a5g h).1 (.inr hk)
 rw[toF,if_neg (by omega)] at ht
 exact nq (by rw[wV1,if_neg (by omega),if_neg (by omega),if_neg (by omega),if_pos hk];exact ht)
theorem d5e(ht:Be (toF c n (Ab c.ns k) [114,101,116,117,114,110,59] [114,101,116,117,114,110,32] i s) t)(hk:(Ab c.ns k).kind=15):Be (wN c n (m+1) k i s) t:=nq (by rw[wV1,if_neg (by omega),if_neg (by omega),if_neg (by omega),if_neg (by omega),if_pos hk];exact ht)
theorem d5f(h:ndP c n (m+1) s k i)(hk:(Ab c.ns k).kind=20):mtP c n m s (Ab c.ns k) i:=⟨⟨k,h,rfl⟩,hk⟩
theorem d5g(ht:mtQ c n m s (Ab c.ns k) i t)(hk:(Ab c.ns k).kind=20):Be (wN c n (m+1) k i s) t:=
 nq (by rw[wV1,if_neg (by omega),if_neg (by omega),if_neg (by omega),if_neg (by omega),if_neg (by omega),if_neg (by omega),if_neg (by omega),if_pos hk];exact ht)
theorem d5h(h:ndP c n (m+1) s k i)(hk:(Ab c.ns k).kind=16)(hl:((Ab c.ns k).kids.length:Int)>2):((Ab c.ns k).kids.length:Int)=3:=by have:=(LD h.v.up hk).1;omega
def Jp(n m:Nat):Sig:=⟨WC×List Aa×Int×Int×Int,fun x=>[wrA x.1 (xW x),.q x.2.2.2.1,.q x.2.2.2.2],fun x=>ndP x.1 n (m+1) (xW x) x.2.2.2.1 x.2.2.2.2,List Aa×Int,fun x y=>Be (wN x.1 n (m+1) x.2.2.2.1 x.2.2.2.2 (xW x)) (yW y),fun x y=> .tup [],fun x y=>[wrA x.1 (yW y),.top,.top],true,[],[]⟩
set_option maxHeartbeats 8000000 in
theorem d5i(n m:Nat)(hv:CtG G 117 (CN n))(hc:CtG G 56 (MX n m)):CtG G 56 (Jp n m):=
 vFq [(81,0,Fh),(83,0,(Kd n)),(82,0,(LJ n)),(84,0,(KZ n m)),(37,0,(LI n m)),(85,0,(SY n m))] [] (fun x=>[]) Tryz.func56 ⟨ZT,(b5B n hv),(d4N n hv),(b5C n m hc),(a6x n m hc),(d4W n m hc),trivial⟩ (fun x=>True∧(0≤x.2.2.2.1∧x.2.2.2.1<(nL x.1.ns))∧∀(e:Nd),x.1.ns[Int.toNat x.2.2.2.1]? =some e→Ae (e.kind==19) (cA Fh [(wrA x.1 (xW x)),.q (Z4 x),.str e.text] fun x_1 y=>rA (Jp n m) x [.tup [],(wrA x_1.1 (yW y)),.top,.top]) (Ae (e.kind==12) ((↑((4:Nat)+e.text.length):Int)≤Aq∧(↑((#[(118:UInt8),97,114,32].toList++e.text).length+(1:Nat)):Int)≤Aq∧(↑((4:Nat)+e.text.length):Int)≤Aq∧(↑((#[(118:UInt8),97,114,32].toList++e.text).length+(2:Nat)):Int)≤Aq∧cA (LJ n) [(wrA x.1 (xW x)),.agg (ndA false e),.str (#[(118:UInt8),97,114,32].toList++e.text++ #[(59:UInt8)].toList),.str (#[(118:UInt8),97,114,32].toList++e.text++ #[(32:UInt8),61].toList),.q (Z4 x)] fun x_1 y=>rA (Jp n m) x [.tup [],(wrA x_1.1 (yW y)),.top,.top]) (Ae (e.kind==13) ((↑(e.text.length+(2:Nat)):Int)≤Aq∧cA (LJ n) [(wrA x.1 (xW x)),.agg (ndA false e),.str #[].toList,.str (e.text++ #[(32:UInt8),61].toList),.q (Z4 x)] fun x_1 y=>rA (Jp n m) x [.tup [],(wrA x_1.1 (yW y)),.top,.top]) (Ae (e.kind==14) (cA (LJ n) [(wrA x.1 (xW x)),.agg (ndA false e),.str #[].toList,.str #[].toList,.q (Z4 x)] fun x_1 y=>rA (Jp n m) x [.tup [],(wrA x_1.1 (yW y)),.top,.top]) (Ae (e.kind==15) (cA (LJ n) [(wrA x.1 (xW x)),.agg (ndA false e),.str #[(114:UInt8),101,116,117,114,110,59].toList,.str #[(114:UInt8),101,116,117,114,110,32].toList,.q (Z4 x)] fun x_1 y=>rA (Jp n m) x [.tup [],(wrA x_1.1 (yW y)),.top,.top]) (Ae (e.kind==16) (((0:Int)≤(0:Int)∧0<(nL e.kids))∧∀(e_1:Int),e.kids[(0:Nat)]? =some e_1→cA (Kd n) [(wrA x.1 (xW x)),.q e_1,.str #[(105:UInt8),102,32,40].toList,.str #[(41:UInt8),32,123].toList,.q (Z4 x)] fun x_1 y=>((0:Int)≤(1:Int)∧1<(nL e.kids))∧∀(e_2:Int),e.kids[(1:Nat)]? =some e_2→cA (KZ n m) [(wrA x_1.1 (yW y)),.q e_2,.q (Z4 x)] fun x_2 y=>Ae (decide ((nL e.kids)>(2:Int))) (cA Fh [(wrA x_2.1 (yW y)),.q (Z4 x),.str #[(125:UInt8),32,101,108,115,101,32,123].toList] fun x_3 y=>((0:Int)≤(2:Int)∧2<(nL e.kids))∧∀(e_3:Int),e.kids[(2:Nat)]? =some e_3→cA (KZ n m) [(wrA x_3.1 (yW y)),.q e_3,.q (Z4 x)] fun x_4 y=>cA Fh [(wrA x_4.1 (yW y)),.q (Z4 x),.str #[(125:UInt8)].toList] fun x_5 y=>rA (Jp n m) x [.tup [],(wrA x_5.1 (yW y)),.top,.top]) (cA Fh [(wrA x_2.1 (yW y)),.q (Z4 x),.str #[(125:UInt8)].toList] fun x_3 y=>rA (Jp n m) x [.tup [],(wrA x_3.1 (yW y)),.top,.top])) (Ae (e.kind==17) (((0:Int)≤(0:Int)∧0<(nL e.kids))∧∀(e_1:Int),e.kids[(0:Nat)]? =some e_1→cA (Kd n) [(wrA x.1 (xW x)),.q e_1,.str #[(119:UInt8),104,105,108,101,32,40].toList,.str #[(41:UInt8),32,123].toList,.q (Z4 x)] fun x_1 y=>((0:Int)≤(1:Int)∧1<(nL e.kids))∧∀(e_2:Int),e.kids[(1:Nat)]? =some e_2→cA (KZ n m) [(wrA x_1.1 (yW y)),.q e_2,.q (Z4 x)] fun x_2 y=>cA Fh [(wrA x_2.1 (yW y)),.q (Z4 x),.str #[(125:UInt8)].toList] fun x_3 y=>rA (Jp n m) x [.tup [],(wrA x_3.1 (yW y)),.top,.top]) (Ae (e.kind==20) (cA (SY n m) [(wrA x.1 (xW x)),.agg (ndA false e),.q (Z4 x)] fun x_1 y=>rA (Jp n m) x [.tup [],(wrA x_1.1 (yW y)),.top,.top]) (Ae (e.kind==21) ((↑((6:Nat)+e.text.length):Int)≤Aq∧(↑((#[(99:UInt8),108,97,115,115,32].toList++e.text).length+(2:Nat)):Int)≤Aq∧cA Fh [(wrA x.1 (xW x)),.q (Z4 x),.str (#[(99:UInt8),108,97,115,115,32].toList++e.text++ #[(32:UInt8),123].toList)] fun x_1 y=>inR .i64 ((Z4 x)+(2:Int))∧cA (LI n m) [(wrA x_1.1 (yW y)),Al e.kids,.q ((Z4 x)+(2:Int))] fun x_2 y=>cA Fh [(wrA x_2.1 (yW y)),.q (Z4 x),.str #[(125:UInt8)].toList] fun x_3 y=>rA (Jp n m) x [.tup [],(wrA x_3.1 (yW y)),.top,.top]) (rA (Jp n m) x [.tup [],(wrA x.1 (xW x)),.top,.top])))))))))) (by kernel_rfl) fun(x:WC×List Aa×Int×Int×Int) (hx:ndP x.1 n (m+1) (xW x) x.2.2.2.1 x.2.2.2.2)=>(by
 dsimp only[nL,Z4,cA,EP,Al,Ce,nds,pcA,rA,EO,LI,KZ,Fh,SY,Jp,Kd,LJ,EQ,ER,wrA,AB,AF,mvL,lnL,mvE,lnE,mvG,mvH,lnG,lnH,Aq,AV.q]
 obtain⟨c,ls,st,k,i⟩:=x;dsimp only[xW] at hx ⊢
 have hx:ndP c n (m+1) ⟨ls,st⟩ k i:=hx
 have hn:=MS hx;have hr:=Za hx;dsimp only at hr
 have hz:=d0m hx.v;have hk1:=a5g hx;have htx:=d0l hx.v
 simp only[hz,AS,forall_eq']
 (repeat' first|(with_reducible first|rfl|exact⟨⟩|apply AG|apply AM)|apply AL|(apply AK<;>try dsimp only)|apply AJ|((try refine AH.2 ?_);intro _;try dsimp only))
 all_goals(try dsimp only[yW,xW] at*)
 all_goals(try(have hg3:=d5h hx ‹_› ‹_›))
 all_goals first
  |with_reducible rfl
  |with_reducible assumption
  |omega
  |((try simp only[Aw,Ba,AE,AX]);omega)
  |(have hq:=hr.2 (by omega);omega)
  |exact d0x ‹_› ‹_›
  |exact d4X hx ‹_›
  |exact d5b ‹_› ‹_›
  |exact d4Y hx ‹_›
  |exact d5c ‹_› hx ‹_›
  |exact d4Z hx ‹_›
  |exact d5d ‹_› hx ‹_›
  |exact d5a hx ‹_›
  |exact d5e ‹_› ‹_›
  |exact d5f hx ‹_›
  |exact d5g ‹_› ‹_›
  |exact b4e hx ‹_› ‹_›
  |exact d0E ‹_› ‹_› ‹_› hx ‹_›
  |exact d0G ‹_› ‹_› ‹_› ‹_› ‹_› ‹_› hx ‹_› hg3
  |exact d0I ‹_› ‹_› ‹_› ‹_› ‹_› ‹_› ‹_› ‹_› ‹_› hg3
  |exact d0J ‹_› ‹_› ‹_› ‹_› ‹_› ‹_› (by omega)
  |exact a5f hx ‹_› ‹_›
  |exact d0K ‹_› ‹_› ‹_› hx ‹_›
  |exact d0M ‹_› ‹_› ‹_› ‹_› ‹_› ‹_›
  |exact d0Q ‹_› hx ‹_›
  |exact d0S ‹_› ‹_› ‹_› ‹_›
  |(have hq:=d0H ‹_› ‹_› ‹_› ‹_› ‹_› ‹_› ‹_› hx ‹_› hg3;dsimp only at hq;omega)
  |(have hq:=d0F ‹_› ‹_› ‹_› ‹_› hx ‹_›;dsimp only at hq;omega)
  |(have hq:=d0L ‹_› ‹_› ‹_› ‹_› hx ‹_›;dsimp only at hq;omega)
  |(have hq:=d0R ‹_› ‹_› hx ‹_›;dsimp only at hq;omega)
  |(have hq:=a5c hx (by omega);(try simp only[Aw,Ba,AE,AX]);omega)
  |(exfalso;exact d0T hx (by omega))
  |exact()
  |rfl
  |skip)
end Go.My
end
section
namespace Go.My
open Go.Eng Go.Proofs
variable {G:GInv}
theorem d5j{n:Nat}:CtG G 56 (MX n 0):=
 ⟨⟨⟨_,Go.Proofs.Tryz.func56,by kernel_rfl,by kernel_rfl⟩,fun x y _ _=>trivial⟩,fun x hx=>by
   exfalso
   have hx:ndP x.1 n 0 (xW x) x.2.2.2.1 x.2.2.2.2:=hx
   have h1:=BF.1 hx.v.up.1
   have h2:=hx.v.lt
   omega⟩
theorem b5G{n:Nat}(hv:CtG G 117 (CN n)):∀m,CtG G 56 (MX n m)
 |0=>d5j
 |m+1=>d5i n m hv (b5G hv m)
def ZW(n:Nat):Sig:=⟨List Nd×Int×Int,fun x=>[nds x.1,.q x.2.1,.q x.2.2],fun x=>trN x.1 n,Unit,fun x y=>True,fun x y=> .agg [Cl (wfR x.1 n x.2.1 x.2.2).ls,.q (wfR x.1 n x.2.1 x.2.2).st],fun x y=>[.top,.top,.top],false,[],[]⟩
def d5k(n:Nat)(x:List Nd×Int×Int):LS:=⟨Unit,fun _=>True,fun _=>[(6,.box 0 [Cl (wfR x.1 n x.2.1 x.2.2).ls,.q (wfR x.1 n x.2.1 x.2.2).st])],[],fun _=>0,fun _=>[],[]⟩
theorem d5l(n:Nat)(hv:CtG G 117 (CN n)):CtG G 21 (ZW n):=
 vFq [(36,0,IM),(37,0,(LI n n))] [(44,⟨Aa,Bo⟩)] (fun x=>[(100005,d5k n x)]) Tryz.func21 ⟨a9b,(a6x n n (b5G hv n)),trivial⟩ (fun x=>(∀(y:Unit),True→((∀(x:Aa),True∧True)∧True∧True)∧True∧True∧True∧True)∧cA IM [nds x.1] fun x_1 y=>Ae (!CT x_1) (∃(y:Unit),True∧Cl []=Cl (wfR x.1 n x.2.1 x.2.2).ls∧0=(wfR x.1 n x.2.1 x.2.2).st∧True) (inR .i64 ((nL x.1)-(1:Int))∧(0≤(nL x.1)-(1:Int)∧(nL x.1)-1<(nL x.1))∧∀(e:Nd),x.1[Int.toNat ((nL x.1)-(1:Int))]? =some e→∃(x_2:WC×List Aa×Int×Ad×Int),alP x_2.1 n n (xW x_2) x_2.2.2.2.1 (Z4 x_2)∧nds x.1=nds x_2.1.ns∧x.2.1=x_2.1.w∧x.2.2=x_2.1.bud∧Cl []=Cl (xW x_2).ls∧1=(xW x_2).st∧Al e.kids=Al x_2.2.2.2.1∧0=(Z4 x_2)∧∀(y:List Aa×Int),Be (Et x_2.1.ns (wN x_2.1 n n) (Z4 x_2) x_2.2.2.2.1 (xW x_2)) (yW y)→true=true∧((true=true∧∃(i:Unit),True∧(Cl (yW y).ls=Cl (wfR x.1 n x.2.1 x.2.2).ls∧(yW y).st=(wfR x.1 n x.2.1 x.2.2).st∧True)∧True)∧true=true∧∃(i:Unit),True∧(Cl (yW y).ls=Cl (wfR x.1 n x.2.1 x.2.2).ls∧(yW y).st=(wfR x.1 n x.2.1 x.2.2).st∧True)∧True)∧∀(i:Unit),True→∃(y:Unit),True∧Cl (wfR x.1 n x.2.1 x.2.2).ls=Cl (wfR x.1 n x.2.1 x.2.2).ls∧(wfR x.1 n x.2.1 x.2.2).st=(wfR x.1 n x.2.1 x.2.2).st∧True)) (by kernel_rfl) fun(x:List Nd×Int×Int) (hx:trN x.1 n)=>(by
 dsimp only[nL,Z4,cA,Al,Ce,nds,Cl,IM,AB,AF,mvL,lnL,mvE,lnE,mvG,mvH,lnG,lnH,AV.q]
 obtain⟨ns,w,bud⟩:=x;dsimp only at hx ⊢
 have hx:trN ns n:=hx
 have hl:=hx.l30
 (repeat' first|refine d0U ⟨ns,w,bud⟩ ?_|(with_reducible first|rfl|exact⟨⟩|apply AG|apply AM)|apply AL|(apply AK<;>try dsimp only)|apply AJ|((try refine AH.2 ?_);intro _;try dsimp only))
 all_goals(try(have hD:=Zd ‹CT ns=true›))
 all_goals first
  |with_reducible rfl
  |exact hx.ok
  |exact hx.l30
  |(rw[a5h ‹_›];done)
  |(have hq:= @BR ns ((ns.length:Int)-1) _ ‹_›;rw[←hq];exact a5i hx ‹_›)
  |exact congrArg Ws.ls (b4l ‹_› ‹_› ‹_›)
  |exact congrArg Ws.st (b4l ‹_› ‹_› ‹_›)
  |exact hx.ok.1
  |((try simp only[Aw]);omega)
  |exact()
  |rfl
  |skip)
end Go.My
end
section
set_option maxHeartbeats 4000000
namespace Go.My
open Go.Eng Go.Proofs
variable {G:GInv}
variable {a e i k kind:Int}{c:BC}{n:Nat}{s t u z:Bs}{x:Nd}
structure cqP (c:BC) (n:Nat) (s:Bs) (x:Nd) (a:Int):Prop where
 cn:cnP c n s x (min (a+4) 40)
 ar:inA a x.kids
theorem b5H(h:cqP c n s x a)(hc:x.kids[i.toNat]? =some k):a+4+4*k≤2^40:=h.ar.2 k (Bq hc)
theorem ZX(h:DI c n s x a i t)(hi:i<x.kids.length):∃k,x.kids[i.toNat]? =some k:=by
 have:=YQ h
 exact⟨_,DS (by omega)⟩
theorem d5m(h:DI c n s x a i t)(hi:i<x.kids.length):t.text.length+6≤2^61:=by
 obtain⟨k,hk⟩:=ZX h hi;exact c8V h hk
theorem d5n{w:Bs}(hw:isB (As (32::x.text) t) w)(h:DI c n s x a i t)(hx:cnP c n s x a)(hi:i<x.kids.length):bB w:=by
 obtain⟨k,hk⟩:=ZX h hi;rw[hw];exact Ge (b3I hx h hk)
def cqJ(c:BC)(n:Nat)(s:Bs)(x:Nd)(a:Int)(z:Bs)(i:Int)(t:Bs):Prop:=∃k,cnJ c n s x a z i k t
theorem d5o(h:DI c n s x a i t)(hl:i<x.kids.length)(hi:¬i>0):cqJ c n s x a t i t:=by
 obtain⟨k,hk⟩:=ZX h hl;exact⟨k,c8W h hk hi⟩
theorem d5p{w:Bs}(h:DI c n s x (min (a+4) 40) i t)(hu:isB (AZ (AP c.rd s) 1 true (a+4) w) u)(hw:isB (As (32::x.text) t) w)(hl:i<x.kids.length)(hi:i>0):cqJ c n s x (min (a+4) 40) t i u:=by
 obtain⟨k,hk⟩:=ZX h hl
 rw[hw] at hu
 exact⟨k,c8X h (by rw[hu];exact SS (by omega)) hk hi⟩
theorem VJ(h:cqJ c n s x a z i t)(hk:x.kids[i.toNat]? =some k):cnJ c n s x a z i k t:=by
 obtain⟨k',h'⟩:=h
 have:=h'.1.2
 rw[hk] at this;cases this;exact h'
theorem d5q(h:cqJ c n s x a z i t)(hx:cnP c n s x a):t.chunks.length≤79∧t.rules.length≤8:=by
 obtain⟨k,h⟩:=h
 have:=(YR hx h).1
 exact⟨this.ch,this.ru⟩
theorem d5r(h:cqJ c n s x (min (a+4) 40) z i t)(hx:cqP c n s x a)(hk:x.kids[i.toNat]? =some k):vsP c.ns n t k (a+4):=a6l (b3J (VJ h hk) hx.cn) hx.ar.1.1 (b5H hx hk)
theorem d5s(h:cqJ c n s x (min (a+4) 40) z i t)(hu:vsQ c n t k (a+4) u)(hx:cqP c n s x a)(hk:x.kids[i.toNat]? =some k):bB u:=b3K (VJ h hk) (Qi hu) hx.cn
theorem d5t(h:cqJ c n s x a z i t)(hx:cnP c n s x a)(hk:x.kids[i.toNat]? =some k):0≤k∧k<c.ns.length:=(c8Y (VJ h hk) hx).1
theorem d5u{e:Nd}(h:cqJ c n s x (min (a+4) 40) z i t)(hu:vsQ c n t k (a+4) u)(he:c.ns[k.toNat]? =some e)(hk:x.kids[i.toNat]? =some k)(h7:¬e.kind=7):cnK c n s x (min (a+4) 40) z i u t.chunks.length e.kind:=c8Z (VJ h hk) (Qi hu) he h7
theorem d5v{v:Bs}{e:Nd}(h:cqJ c n s x (min (a+4) 40) z i t)(hv:isB (DY (Es t.rules.length u) (AP c.rd s) u) v)(hu:vsQ c n t k (a+4) u)(he:c.ns[k.toNat]? =some e)(hx:cqP c n s x a)(hk:x.kids[i.toNat]? =some k)(h7:e.kind=7):cnK c n s x (min (a+4) 40) z i v t.chunks.length e.kind:=by
 have h2:=VJ h hk
 have hkp:=hx.cn.kd k (Bq hk)
 refine c9a h2 (Qi hu) ?_ hx.cn he h7
 rw[←YA (a:=min (a+4) 40) hkp.1 hkp.2.1 (.inl (by rw[Iq he];exact h7)),←hu];exact hv
theorem d5w(h:cnK c n s x a z i t e kind)(hx:cnP c n s x a):(1≤kind∧kind≤11)∧0≤e:=by
 obtain⟨k,u,⟨h1,h2⟩,h3,_⟩:=h
 have:=Cm.1 (hx.kd k (Bq h1.1.2)).2.2
 exact⟨by rw[h2];exact this,by omega⟩
theorem a6z(h:cnK c n s x a z i t e kind)(hx:cnP c n s x a)(hk:(¬kind>3∨¬(t.chunks.length:Int)>e)∨¬(t.spans.length:Int)<40):DI c n s x a (i+1) t:=by
 have:=b3L h hx
 have hv:=d5w h hx
 by_cases h3:kind>3
 ·rw[if_neg (by omega),c6w (by omega)] at this;exact this
 ·rw[if_pos (by omega)] at this;exact this
theorem b5I{r1:List Ru}{r2:List Ch}{r3:List Sn}{r4:List Ti}{r5:Aa}(h:cnK c n s x a z i ⟨r1,r2,r3,r4,r5⟩ e kind)(hx:cnP c n s x a)(hk:kind>3)(h2:(r2.length:Int)>e)(h3:(r3.length:Int)<40):DI c n s x a (i+1) ⟨r1,r2,r3++[⟨e,(r2.length:Int)-1,1⟩],r4,r5⟩:=by
 have:=b3L h hx
 rw[if_neg (by omega),c6v (f:=e) (s:=⟨r1,r2,r3,r4,r5⟩) (by show(r2.length:Int)-1≥e;omega) h3] at this;exact this
theorem d5x(h:DI c n s x a i t)(hx:cnP c n s x a)(hi:¬i<x.kids.length):isB (NX c.ns c.rd (bV c.ns c.rd n) x a s) t:=(c9b h hx hi).1
theorem d5y(h:cnK c n s x a z i t e kind)(hx:cnP c n s x a):t.spans.length≤40∧t.chunks.length≤79:=⟨(a4T h hx).ok.sp,(a4T h hx).ok.ch⟩
theorem d5z:Ca snA:=fun _=>rfl
theorem d5A{b:BC}{r1:List Ru}{r2:List Ch}{r3:List Sn}{r4:List Ti}{r5:Aa}{xa rk:Int}{kd:Int}{tx:Aa}{ks:Ad}{bl:Bool}(h:cnK b n s x a z i ⟨r1,r2,r3,r4,r5⟩ e kind)(hx:cnP b n s x a)(hk:kind>3)(h2:(r2.length:Int)>e)(h3:(r3.length:Int)<40):
 ∃(x_3:Sn),e=x_3.fr∧(r2.length:Int)-1=x_3.tuu∧1=x_3.cost∧∃(zs:List Sn),AV.sl true 0 3 Sn snA [x_3]=AV.sl true 0 3 Sn snA zs∧Ca snA∧Bb (r3.length+zs.length) 24∧true=true∧∃(i_3:List Ru×List Ch×List Sn×List Ti×Aa×Int),DI b n s x a (i+1) (zBW i_3)∧
  (AV.sl false 0 4 Nd (ndA false) b.ns=AV.sl false 0 4 Nd (ndA false) b.ns∧b.ind=b.ind∧AV.sl true 0 2 Ru ruA r1=AV.sl true 0 2 Ru ruA (zBW i_3).rules∧AV.sl true 0 5 Ch chA r2=AV.sl true 0 5 Ch chA (zBW i_3).chunks∧AV.sl true 0 3 Sn snA (r3++zs)=AV.sl true 0 3 Sn snA (zBW i_3).spans∧AV.sl true 0 2 Ti tiA r4=AV.sl true 0 2 Ti tiA (zBW i_3).ties∧r5=(zBW i_3).text∧(!b.rd)=(!b.rd)∧xa=xa∧kd=kd∧tx=tx∧AV.sl false 0 1 Int BE ks=AV.sl false 0 1 Int BE ks∧bl=bl∧rk=rk∧i=i∧True)∧True:=by
 have hr:=(a4T h hx).ok.sp
 refine⟨⟨e,(r2.length:Int)-1,1⟩,rfl,rfl,rfl,[⟨e,(r2.length:Int)-1,1⟩],rfl,d5z,?_,rfl,(r1,r2,r3++[⟨e,(r2.length:Int)-1,1⟩],r4,r5,0),b5I h hx hk h2 h3,⟨rfl,rfl,rfl,rfl,rfl,rfl,rfl,rfl,rfl,rfl,rfl,rfl,rfl,rfl,rfl,trivial⟩,trivial⟩
 unfold Bb;simp only[AE,AX];omega
attribute [local irreducible] DI cnJ cnK cqJ
def d5B(n:Nat)(x:BC×List Ru×List Ch×List Sn×List Ti×Aa×Nd×Int)(i:List Ru×List Ch×List Sn×List Ti×Aa×Int):LS:=⟨List Ru×List Ch×List Sn×List Ti×Aa×Int,fun j=>DI x.1 n (xC x) x.2.2.2.2.2.2.1 (min (x.2.2.2.2.2.2.2+4) 40) (zI i+1) (zBW j),fun j=>[(0,suA x.1 (zBW j)),(2,.int .i64 x.2.2.2.2.2.2.2),(4,.box 0 (ndA false x.2.2.2.2.2.2.1)),(6,.int .i64 (AP x.1.rd (xC x))),(7,.int .i64 (zI i))],[],fun _=>0,fun _=>[],[]⟩
def ZY(n:Nat)(x:BC×List Ru×List Ch×List Sn×List Ti×Aa×Nd×Int)(i:List Ru×List Ch×List Sn×List Ti×Aa×Int):LS:=⟨List Ru×List Ch×List Sn×List Ti×Aa×Int×Int,fun j=>cnK x.1 n (xC x) x.2.2.2.2.2.2.1 (min (x.2.2.2.2.2.2.2+4) 40) (zBW i) (zI i) (wB j) j.2.2.2.2.2.1 j.2.2.2.2.2.2,fun j=>[(0,suA x.1 (wB j)),(8,.int .i64 j.2.2.2.2.2.1),(10,.int .i64 j.2.2.2.2.2.2),(2,.int .i64 x.2.2.2.2.2.2.2),(4,.box 0 (ndA false x.2.2.2.2.2.2.1)),(6,.int .i64 (AP x.1.rd (xC x))),(7,.int .i64 (zI i))],[],fun _=>0,fun _=>[],[]⟩
def ZZ(n:Nat)(x:BC×List Ru×List Ch×List Sn×List Ti×Aa×Nd×Int)(i:List Ru×List Ch×List Sn×List Ti×Aa×Int):LS:=⟨List Ru×List Ch×List Sn×List Ti×Aa×Unit,fun j=>cqJ x.1 n (xC x) x.2.2.2.2.2.2.1 (min (x.2.2.2.2.2.2.2+4) 40) (zBW i) (zI i) ⟨j.1,j.2.1,j.2.2.1,j.2.2.2.1,j.2.2.2.2.1⟩,fun j=>[(0,suA x.1 ⟨j.1,j.2.1,j.2.2.1,j.2.2.2.1,j.2.2.2.2.1⟩),(2,.int .i64 x.2.2.2.2.2.2.2),(4,.box 0 (ndA false x.2.2.2.2.2.2.1)),(6,.int .i64 (AP x.1.rd (xC x))),(7,.int .i64 (zI i))],[],fun _=>0,fun _=>[],[]⟩
def Qn(n:Nat)(x:BC×List Ru×List Ch×List Sn×List Ti×Aa×Nd×Int):LS:=⟨List Ru×List Ch×List Sn×List Ti×Aa×Int,fun i=>DI x.1 n (xC x) x.2.2.2.2.2.2.1 (min (x.2.2.2.2.2.2.2+4) 40) (zI i) (zBW i),fun i=>[(0,suA x.1 (zBW i)),(2,.int .i64 x.2.2.2.2.2.2.2),(4,.box 0 (ndA false x.2.2.2.2.2.2.1)),(6,.int .i64 (AP x.1.rd (xC x))),(7,.int .i64 (zI i))],[],fun i=>x.2.2.2.2.2.2.1.kids.length-(zI i).toNat,fun i=>[(200008,ZZ n x i),(200014,ZY n x i),(100015,d5B n x i)],[]⟩
def a6A(n:Nat):Sig:=⟨BC×BX (Nd×Int),fun x=>[suA x.1 (xC x),.agg (ndA false x.2.2.2.2.2.2.1),.q x.2.2.2.2.2.2.2],fun x=>cqP x.1 n (xC x) x.2.2.2.2.2.2.1 x.2.2.2.2.2.2.2,BT,fun x y=>isB (NX x.1.ns x.1.rd (bV x.1.ns x.1.rd n) x.2.2.2.2.2.2.1 (min (x.2.2.2.2.2.2.2+4) 40) (xC x)) (yBW y),fun x y=> .tup [],fun x y=>[suA x.1 (yBW y),.top,.top],true,[],[]⟩
def VK(n:Nat)(x:BC×BX (Nd×Int))(i:BX Int)(i_2:BX (Int×Int)):Prop:=∃(x_3:Sn),(G5 i_2)=x_3.fr∧((↑((wB i_2).chunks.length):Int)-1=x_3.tuu∧1=x_3.cost∧(∃(zs:List Sn),oSn [x_3]=oSn zs∧(Ca snA∧(Bb ((wB i_2).spans.length+zs.length) (24:Nat)∧(true=true∧(∃(i_3:BX Int),DI x.1 n (xC x) (G6 x) (min ((Z7 x)+(4:Int)) (40:Int)) (zI i+1) (zBW i_3)∧((nds x.1.ns=nds x.1.ns∧x.1.ind=x.1.ind∧oRu (wB i_2).rules=oRu (zBW i_3).rules∧oCh (wB i_2).chunks=oCh (zBW i_3).chunks∧oSn ((wB i_2).spans++zs)=oSn (zBW i_3).spans∧oTi (wB i_2).ties=oTi (zBW i_3).ties∧((wB i_2).text=(zBW i_3).text∧((!x.1.rd)= !x.1.rd∧((Z7 x)=(Z7 x)∧((G6 x).kind=(G6 x).kind∧((G6 x).text=(G6 x).text∧Al (G6 x).kids=Al (G6 x).kids∧((G6 x).blank=(G6 x).blank∧AP x.1.rd (xC x)=AP x.1.rd (xC x)∧zI i=zI i∧True)))))))∧True)))))))
theorem b5J(n:Nat)(hc:CtG G 117 (CN n)):CtG G 142 (a6A n):=
 vFq [(118,0,Cx),(116,0,FH),(115,0,EF),(117,0,(CN n)),(156,0,KY)] [(122,⟨Sn,snA⟩)] (fun x=>[(3,Qn n x)]) Tryz.func142 ⟨SU,Vx,Vz,hc,b5o,trivial⟩ (fun x=>True∧cA FH [(suA x.1 (xC x)),.q 2,.q 1] fun x_1 y=>eA (Qn n x) [(suA x_1.1 (yBW y)),.q (Z7 x),.box 0 (ndA false (G6 x)),.q (AP x_1.1.rd (xC x_1)),.q 0]∧∀(i:BX Int),DI x.1 n (xC x) (G6 x) (min ((Z7 x)+(4:Int)) (40:Int)) (zI i) (zBW i)→Ae (decide (zI i<(nL (G6 x).kids))) (Ae (decide (zI i>0)) ((↑((1:Nat)+(G6 x).text.length):Int)≤Aq∧cA Cx [(suA x.1 (zBW i)),.str (#[(32:UInt8)].toList++(G6 x).text)] fun x_2 y=>inR .i64 ((Z7 x)+(4:Int))∧cA EF [(suA x_2.1 (yBW y)),.q (AP x.1.rd (xC x)),.q 1,.bool true,.q ((Z7 x)+(4:Int))] fun x_3 y=>eA (ZZ n x i) [(suA x_3.1 (yBW y)),.q (Z7 x),.box 0 (ndA false (G6 x)),.q (AP x.1.rd (xC x)),.q (zI i)]) (eA (ZZ n x i) [(suA x.1 (zBW i)),.q (Z7 x),.box 0 (ndA false (G6 x)),.q (AP x.1.rd (xC x)),.q (zI i)])∧∀(i_1:BX Unit),cqJ x.1 n (xC x) (G6 x) (min ((Z7 x)+(4:Int)) (40:Int)) (zBW i) (zI i) {rules:=i_1.1,chunks:=i_1.2.1,spans:=i_1.2.2.1,ties:=i_1.2.2.2.1,text:=(G4 i_1)}→(0≤zI i∧zI i<(nL (G6 x).kids))∧∀(e:Int),(G6 x).kids[Int.toNat (zI i)]? =some e→inR .i64 ((Z7 x)+(4:Int))∧cA (CN n) [.box 0 [nds x.1.ns,.q x.1.ind,oRu i_1.1,oCh i_1.2.1,oSn i_1.2.2.1,oTi i_1.2.2.2.1,.str (G4 i_1),.bool !x.1.rd],.q e,.q ((Z7 x)+(4:Int))] fun x_2 y=>true=true∧true=true∧(0≤zI i∧zI i<(nL (G6 x).kids))∧∀(e:Int),(G6 x).kids[Int.toNat (zI i)]? =some e→(0≤e∧e<(nL x_2.1.ns))∧∀(e_1:Nd),x_2.1.ns[Int.toNat e]? =some e_1→Ae (e_1.kind==7) (cA KY [(suA x_2.1 (yBW y)),.q (nL i_1.1),.q (AP x.1.rd (xC x))] fun x_3 y=>eA (ZY n x i) [(suA x_3.1 (yBW y)),.q (nL i_1.2.1),.q e_1.kind,.q (Z7 x),.box 0 (ndA false (G6 x)),.q (AP x.1.rd (xC x)),.q (zI i)]) (eA (ZY n x i) [(suA x_2.1 (yBW y)),.q (nL i_1.2.1),.q e_1.kind,.q (Z7 x),.box 0 (ndA false (G6 x)),.q (AP x.1.rd (xC x)),.q (zI i)])∧∀(i_2:BX (Int×Int)),cnK x.1 n (xC x) (G6 x) (min ((Z7 x)+(4:Int)) (40:Int)) (zBW i) (zI i) (wB i_2) (G5 i_2) (Z6 i_2)→Ae (decide ((Z6 i_2)>(3:Int))) (Ae (decide ((↑((wB i_2).chunks.length):Int)>(G5 i_2))) (Ae (decide ((↑((wB i_2).spans.length):Int)<(40:Int))) (true=true∧((inR .i64 ((↑((wB i_2).chunks.length):Int)-(1:Int))∧(VK n x i i_2))∧inR .i64 ((↑((wB i_2).chunks.length):Int)-(1:Int))∧(VK n x i i_2)∧(VK n x i i_2)∧(VK n x i i_2))∧∀(i_3:BX Int),DI x.1 n (xC x) (G6 x) (min ((Z7 x)+(4:Int)) (40:Int)) (zI i+1) (zBW i_3)→inR .i64 (zI i+1)∧eN (Qn n x) i [(suA x.1 (zBW i_3)),.q (Z7 x),.box 0 (ndA false (G6 x)),.q (AP x.1.rd (xC x)),.q (zI i+1)]) (inR .i64 (zI i+1)∧(eN (Qn n x) i [(suA x.1 (wB i_2)),.q (Z7 x),.box 0 (ndA false (G6 x)),.q (AP x.1.rd (xC x)),.q (zI i+1)]))) (inR .i64 (zI i+1)∧(eN (Qn n x) i [(suA x.1 (wB i_2)),.q (Z7 x),.box 0 (ndA false (G6 x)),.q (AP x.1.rd (xC x)),.q (zI i+1)]))) (inR .i64 (zI i+1)∧(eN (Qn n x) i [(suA x.1 (wB i_2)),.q (Z7 x),.box 0 (ndA false (G6 x)),.q (AP x.1.rd (xC x)),.q (zI i+1)]))) (rA (a6A n) x [.tup [],(suA x.1 (zBW i)),.top,.top])) (by kernel_rfl) fun(x:BC×BX (Nd×Int)) (hx:cqP x.1 n (xC x) x.2.2.2.2.2.2.1 x.2.2.2.2.2.2.2)=>(by
 dsimp only[nL,G4,G5,G6,Z6,Z7,VK,cA,EP,ZY,Qn,ZZ,eA,eN,Al,Ce,nds,oCh,oRu,oSn,oTi,rA,EO,a6A,Cx,FH,EF,KY,CN,EQ,suA,ER,AB,AF,mvL,lnL,mvE,lnE,mvG,mvH,lnG,lnH,Bn,Aq,AV.q]
 obtain⟨b,r,c,s,t,u,x,a⟩:=x;dsimp only[xC] at hx ⊢
 have hx:cqP b n ⟨r,c,s,t,u⟩ x a:=hx
 have h1:=hx.ar.1;have h2:=hx.cn.kl;have h3:=hx.cn.tl
 (repeat' first|exact d5A ‹_› hx.cn ‹_› ‹_› ‹_› |refine c6t ?_|(with_reducible first|rfl|exact⟨⟩|apply AG|apply AM)|apply AL|(apply AK<;>try dsimp only)|apply AJ|((try refine AH.2 ?_);intro _;try dsimp only))
 all_goals(try(repeat(rename x.kids[_]? =some _=>hq;revert hq;rename x.kids[_]? =some _=>hr;intro hq;rw[hr] at hq;cases hq)))
 all_goals(try dsimp only[yBW,xC,zBW,zI,wB] at*)
 all_goals first
  |with_reducible rfl
  |with_reducible assumption
  |omega
  |exact Ge hx.cn.rm
  |exact c8U hx.cn ‹_›
  |exact d5n ‹_› ‹_› hx.cn ‹_›
  |exact d5o ‹_› ‹_› ‹_›
  |exact d5p ‹_› ‹_› ‹_› ‹_› ‹_›
  |exact d5r ‹_› hx ‹_›
  |exact d5s ‹_› ‹_› hx ‹_›
  |exact d5u ‹_› ‹_› ‹_› ‹_› ‹_›
  |exact d5v ‹_› ‹_› ‹_› ‹_› hx ‹_› ‹_›
  |exact a6z ‹_› hx.cn (.inl (.inl ‹_›))
  |exact a6z ‹_› hx.cn (.inl (.inr ‹_›))
  |exact a6z ‹_› hx.cn (.inr ‹_›)
  |exact b5I ‹_› hx.cn ‹_› ‹_› ‹_›
  |exact d5x ‹_› hx.cn ‹_›
  |(rename DI _ _ _ _ _ _ _=>hz;clear hz;have hq:=YQ ‹DI _ _ _ _ _ _ _›;omega)
  |(have hq:=YQ ‹DI _ _ _ _ _ _ _›;(try have hk:=b5H hx ‹_›);(try simp only[Aw]);omega)
  |(have hq:=d5m ‹DI _ _ _ _ _ _ _› ‹_›;dsimp only at hq;(try simp only[Aw,Ba,AE,AX]);omega)
  |(have hq:=d5t ‹cqJ _ _ _ _ _ _ _ _› hx.cn ‹_›;(try simp only[Aw]);omega)
  |(have hq:=d5y ‹cnK _ _ _ _ _ _ _ _ _ _› hx.cn;dsimp only at hq;(try simp only[Aw,Bb,AE,AX]);omega)
  |(have hq:=d5q ‹cqJ _ _ _ _ _ _ _ _› hx.cn;dsimp only at hq;(try simp only[Aw]);omega)
  |exact()
  |rfl
  |skip)
end Go.My
end
section
namespace Go.My
open Go.Eng Go.Proofs
variable {G:GInv}
variable {a i:Int}{e:Sg}{l:List Sg}{t:Aa}
theorem d5C(n:Nat)(hc:CtG G 117 (CN n)):CtG G 142 (VC n):=
 ⟨⟨(b5J n hc).1.1,fun _ _ _ _=>trivial⟩,fun x hx=>(b5J n hc).2 x ⟨hx.cn,hx.ar⟩⟩
theorem d5D:CtG G 117 (CN 0):=
 ⟨⟨⟨_,Go.Proofs.Tryz.func117,by kernel_rfl,by kernel_rfl⟩,fun x y _ _=>trivial⟩,fun x hx=>by
   exfalso
   have hx:vsP x.1.ns 0 (xC x) x.2.2.2.2.2.2.1 x.2.2.2.2.2.2.2:=hx
   have h1:=BF.1 hx.up.1
   have h2:=hx.lt
   omega⟩
theorem a6B:∀n,CtG G 117 (CN n)
 |0=>d5D
 |n+1=>d4k n (a6B n) (d5C n (a6B n))
theorem b5K{l:List Aa}{e:Aa}(h0:0≤i)(he:l[i.toNat]? =some e):((jnA (l.take i.toNat)).length+e.length+1≤lnS l+l.length)∧jnA (l.take i.toNat)++e++[10]=jnA (l.take (i+1).toNat):=by
 have h1:jnA (l.take i.toNat)++e++[10]=jnA (l.take (i+1).toNat):=by
  rw[CW h0,FS he,YL];simp [jnA]
 refine⟨?_,h1⟩
 have h2:=congrArg List.length h1
 have h3:(jnA (l.take (i+1).toNat)).length≤(jnA l).length:=by
  conv=>rhs;rw[←Fw (i+1).toNat l]
  rw[YL,Ba];omega
 have h4:= @b4D l
 simp only[Ba,AE,AX] at h2
 omega
def SZ:Sig:=⟨List Aa×Unit,fun x=>[Gd x.1],fun x=>lnS x.1≤5000000∧x.1.length≤2^41,Unit,fun x y=>True,fun x y=> .str (jnA x.1),fun x y=>[.top],false,[],[]⟩
def a0a(x:List Aa×Unit):LS:=⟨Int,fun i=>0≤i∧i≤x.1.length,fun i=>[(0,Gd x.1),(3,.str (jnA (x.1.take i.toNat))),(4,.q i)],[],fun i=>x.1.length-i.toNat,fun _=>[],[]⟩
theorem d5E:CtG G 22 SZ:=
 vFq [] [] (fun x=>[(3,a0a x)]) Tryz.func22 trivial (fun x=>U3∧eA (a0a x) [Gd x.1,.str #[].toList,.q 0]∧∀(i:Int),0≤i∧i≤(nL x.1)→Ae (decide (i<(nL x.1))) ((0≤i∧i<(nL x.1))∧∀(e:Aa),x.1[Int.toNat i]? =some e→(↑((jnA (List.take (Int.toNat i) x.1)).length+e.length):Int)≤Aq∧(↑((jnA (List.take (Int.toNat i) x.1)++e).length+(1:Nat)):Int)≤Aq∧inR .i64 (i+1)∧eN (a0a x) i [Gd x.1,.str (jnA (List.take (Int.toNat i) x.1)++e++ #[(10:UInt8)].toList),.q (i+1)]) (rA SZ x [.str (jnA (List.take (Int.toNat i) x.1)),.top])) (by kernel_rfl) fun(x:List Aa×Unit) (hx:lnS x.1≤5000000∧x.1.length≤2^41)=>(by
 dsimp only[nL,U3,eA,eN,a0a,rA,SZ,Gd,AB,AF,Bn,Aq,AV.q]
 obtain⟨x,_⟩:=x;dsimp only at hx ⊢
 obtain⟨h1,h2⟩:=hx
 (repeat' first|(with_reducible first|rfl|exact⟨⟩|apply AG|apply AM)|apply AL|(apply AK<;>try dsimp only)|apply AJ|((try refine AH.2 ?_);intro _;try dsimp only))
 all_goals first
  |rfl
  |omega
  |exact(b5K (by omega) ‹_›).2
  |(have he:=(show(x:List Aa)[Int.toNat _]? =some _ by assumption);have hq:=(b5K (by omega) he).1;(try simp only[Aw,Ba,AE,AX]);omega)
  |(rw[EH (by omega)];done)
  |((try simp only[Aw]);omega)
  |skip)
def fmQ(t:Aa)(n:Nat)(w bud:Int)(s:Aa)(no:Int):Prop:=s.length≤3000∧(no=0→∃L,rdL t n L∧s=jnA (wfR L n w bud).ls)
theorem d5F{n:Nat}{w bud no:Int}(h:no≠0):fmQ t n w bud [] no:=⟨by simp,fun e=>(h e).elim⟩
theorem d5G{n:Nat}{w bud:Int}{L:List Nd}(h:rdL t n L)(hl:¬((jnA (wfR L n w bud).ls).length:Int)>3000):fmQ t n w bud (jnA (wfR L n w bud).ls) 0:=⟨by omega,fun _=>⟨L,h,rfl⟩⟩
theorem d5H{L:List Nd}{n:Nat}{w bud:Int}(h:trN L n):(jnA (wfR L n w bud).ls).length≤2^42:=by
 have:=a5p (w:=w) (bud:=bud) h
 rw[b4D];omega
attribute [local irreducible] CX jnA wfR fmQ
def Jq(n:Nat):Sig:=⟨Aa×Int×Int,fun x=>[.str x.1,.q x.2.1,.q x.2.2],fun x=>x.1.length<2^62∧300≤n,Aa×Int×Int,fun x y=>fmQ x.1 n x.2.1 x.2.2 y.1 y.2.2,fun x y=> .tup [.str y.1,.q y.2.1,.q y.2.2],fun x y=>[.top,.top,.top],false,[],[]⟩
theorem b5L(n:Nat):CtG G 6 (Jq n):=
 vFq [(20,0,BZ),(19,0,IY),(21,0,(ZW n)),(22,0,SZ)] [] (fun x=>[]) Tryz.func6 ⟨JK,b1p,(d5l n (a6B n)),d5E,trivial⟩ (fun x=>(∀(y:Aa×Int×Int),fmQ x.1 n x.2.1 x.2.2 y.1 y.2.2→(True∧True∧True∧True)∧True∧True∧True∧True)∧cA BZ [.q x.2.1,.q 10,.q 200] fun x_1 y=>Ae (!inn x_1.1 x_1.2.1 x_1.2.2) (rA (Jq n) x [.tup [.str #[].toList,.q 0,.q 2],.top,.top,.top]) (cA BZ [.q x.2.2,.q 0,.q 100000] fun x_2 y=>Ae (!inn x_2.1 x_2.2.1 x_2.2.2) (rA (Jq n) x [.tup [.str #[].toList,.q 0,.q 2],.top,.top,.top]) (cA IY [.str x.1] fun x_3 y=>Ae (!Option.isSome (CX x_3)) (rA (Jq n) x [.tup [.str #[].toList,.q y.2,.q 1],.top,.top,.top]) (cA (ZW n) [nds y.1,.q x.2.1,.q x.2.2] fun x_4 y=>cA SZ [Cl (wfR x_4.1 n x_4.2.1 x_4.2.2).ls] fun x_5 y=>Ae (decide ((↑((jnA x_5.1).length):Int)>(3000:Int))) (rA (Jq n) x [.tup [.str #[].toList,.q 0,.q 3],.top,.top,.top]) (true=true∧true=true∧rA (Jq n) x [.tup [.str (jnA x_5.1),.q (wfR x_4.1 n x_4.2.1 x_4.2.2).st,.q 0],.top,.top,.top]))))) (by kernel_rfl) fun(x:Aa×Int×Int) (hx:x.1.length<2^62∧300≤n)=>(by
 dsimp only[cA,Ce,nds,An,BJ,Cl,rA,BZ,IY,Jq,SZ,ZW,CD,sgs,srd,Gd,AB,AF,mvL,lnL,mvE,lnE,mvG,mvH,lnG,lnH,AV.q]
 obtain⟨t,w,bud⟩:=x;dsimp only at hx ⊢
 obtain⟨hx,hn⟩:=hx
 (repeat' first|(with_reducible first|rfl|exact⟨⟩|apply AG|apply AM)|apply AL|(apply AK<;>try dsimp only)|apply AJ|((try refine AH.2 ?_);intro _;try dsimp only))
 all_goals(try(have hR:=d1w hn ‹(CX _).isSome=true› ‹_=(CX _).getD []∧Ew _›))
 all_goals first
  |rfl
  |omega
  |exact hR.tr
  |exact(a5p hR.tr).1
  |exact(a5p hR.tr).2
  |exact d5F (by decide)
  |exact d5G hR ‹_›
  |(have hq:= @d5H _ _ w bud hR.tr;(try simp only[Aw]);omega)
  |exact()
  |skip)
def plT(t:Aa)(i:Int):Ad:=((sgL t).take i.toNat).map (·.pos)
theorem a0b:plT t 0=[]:=rfl
theorem b5M(h0:0≤i)(he:(sgL t)[i.toNat]? =some e):plT t i++[e.pos]=plT t (i+1):=by
 unfold plT
 rw[CW h0,FS he,FJ];rfl
theorem b5N(h:¬i<((sgL t).length:Int)):plT t i=AO t:=by
 unfold plT AO
 rw[EH (by omega)]
theorem d5I{t:Aa}{i:Int}:(plT t i).length≤(sgL t).length:=by
 unfold plT
 rw[Fv,DU];omega
theorem b5O(h:(sgL t).length≤3000):Bb ((plT t i).length+1) 8:=by
 have:= @d5I t i
 simp only[Bb];omega
theorem d5J:(AO t).length=(sgL t).length:=by simp [AO]
theorem a0c(h:(sgL t).length≤3000):(AO t).length≤3000:=by rw[d5J];exact h
theorem a6C(h:sgQ t l):(EN l=sgL t∧l.length≤3000)∧(sgL t).length≤3000:=by
 have key:EN l=sgL t∧l.length≤3000:=by
  rcases h with⟨h1,h2⟩|⟨h1,rfl⟩
  ·exact⟨by rw[sgL,h1];rfl,h2.1⟩
  ·exact⟨by rw[sgL,h1];rfl,by simp⟩
 refine⟨key,?_⟩
 have:= @c5w l
 rw[←key.1];omega
theorem d5K(h:(Cr t).isSome=false):AO t=[]:=by
 cases hs:Cr t with
 |none=>rw[AO,sgL,hs];rfl
 |some l=>rw[hs] at h;cases h
attribute [local irreducible] plT AO sgL sgQ Cr EN
def Ke:Sig:=⟨Aa,fun x=>[.str x],fun x=>x.length<2^62,Unit,fun x y=>(AO x).length≤3000,fun x y=>Al (AO x),fun x y=>[.top],true,[],[]⟩
def a0d(x:Aa):LS:=⟨Int,fun i=>(0≤i∧i≤(sgL x).length)∧(sgL x).length≤3000,fun i=>[(6,An (plT x i)),(18,sgs (sgL x)),(19,.q (sgL x).length),(20,.q i)],[],fun i=>(sgL x).length-i.toNat,fun _=>[],[]⟩
theorem b5P:CtG G 7 Ke:=
 vFq [(23,0,NQ),(24,0,Sa)] [(27,⟨Int,BE⟩)] (fun x=>[(6,a0d x)]) Tryz.func7 ⟨c2x,c5y,trivial⟩ (fun(x:Aa)=>True∧cA NQ [.str x] fun x_1 y=>Ae (!Option.isSome (Cr x_1)) (rA Ke x [.nil,.top]) (cA Sa [sgs y.1] fun x_2 y=>eA (a0d x) [.nil,sgs (EN x_2),.q (↑((EN x_2).length):Int),.q 0]∧∀(i:Int),(0≤i∧i≤(↑((sgL x).length):Int))∧(sgL x).length≤(3000:Nat)→Ae (decide (i<(↑((sgL x).length):Int))) ((0≤i∧i<(↑((sgL x).length):Int))∧∀(e:Sg),(sgL x)[Int.toNat i]? =some e→∃(x_3:Int),e.pos=x_3∧∃(zs:Ad),An [x_3]=An zs∧Ca BE∧Bb ((plT x i).length+zs.length) (8:Nat)∧inR .i64 (i+1)∧eN (a0d x) i [An (plT x i++zs),sgs (sgL x),.q (↑((sgL x).length):Int),.q (i+1)]) (rA Ke x [An (plT x i),.top]))) (by kernel_rfl) fun(x:Aa) (hx:x.length<2^62)=>(by
 dsimp only[cA,eA,eN,a0d,Al,An,CL,rA,Sa,Ke,NQ,CD,sgs,AB,AF,mvL,lnL,mvE,lnE,Bn,AV.q]
 have hx:x.length<2^62:=hx
 (repeat' first|(with_reducible first|rfl|exact⟨⟩|apply AG|apply AM)|apply AL|(apply AK<;>try dsimp only)|apply AJ|((try refine AH.2 ?_);intro _;try dsimp only))
 all_goals(try(have hS:=a6C ‹sgQ _ _›;have hS1:=hS.1.1;have hS2:=hS.1.2))
 all_goals first
  |rfl
  |omega
  |exact hS1
  |exact hS.2
  |(rw[hS1];done)
  |(rw[d5K ‹_›];done)
  |exact a0c hS.2
  |exact a0c (by omega)
  |exact a0b
  |exact a0b.symm
  |exact b5O (by omega)
  |exact b5M (by omega) ‹_›
  |exact b5N (by omega)
  |exact()
  |((try simp only[Aw,Bb,Ba,AE,AX]);omega)
  |skip)
def La:Sig:=⟨Aa,fun x=>[.str x],fun x=>x.length<2^62,Unit,fun x y=>(AO x).length≤3000,fun x y=>Al (AO x),fun x y=>[.top],true,[],[]⟩
def a0e(x:Aa):LS:=⟨Int,fun i=>(0≤i∧i≤(sgL x).length)∧(sgL x).length≤3000,fun i=>[(3,An (plT x i)),(4,sgs (sgL x)),(7,.q i)],[],fun i=>(sgL x).length-i.toNat,fun _=>[],[]⟩
theorem b5Q:CtG G 8 La:=
 vFq [(25,0,Ik),(26,0,Sb)] [(27,⟨Int,BE⟩)] (fun x=>[(5,a0e x)]) Tryz.func8 ⟨a3D,c5z,trivial⟩ (fun(x:Aa)=>True∧cA Ik [.str x] fun x_1 y=>cA Sb [sgs y.1] fun x_2 y=>eA (a0e x) [An [],sgs (EN x_2),.q 0]∧∀(i:Int),(0≤i∧i≤(↑((sgL x).length):Int))∧(sgL x).length≤(3000:Nat)→Ae (decide (i<(↑((sgL x).length):Int))) ((0≤i∧i<(↑((sgL x).length):Int))∧∀(e:Sg),(sgL x)[Int.toNat i]? =some e→∃(x_3:Int),e.pos=x_3∧∃(zs:Ad),An [x_3]=An zs∧Ca BE∧Bb ((plT x i).length+zs.length) (8:Nat)∧inR .i64 (i+1)∧eN (a0e x) i [An (plT x i++zs),sgs (sgL x),.q (i+1)]) (rA La x [An (plT x i),.top])) (by kernel_rfl) fun(x:Aa) (hx:x.length<2^62)=>(by
 dsimp only[cA,eA,eN,a0e,Al,An,CL,rA,Sb,La,Ik,CD,sgs,AB,AF,mvL,lnL,mvE,lnE,Bn,AV.q]
 have hx:x.length<2^62:=hx
 (repeat' first|(with_reducible first|rfl|exact⟨⟩|apply AG|apply AM)|apply AL|(apply AK<;>try dsimp only)|apply AJ|((try refine AH.2 ?_);intro _;try dsimp only))
 all_goals(try(have hS:=a6C ‹sgQ _ _›;have hS1:=hS.1.1;have hS2:=hS.1.2))
 all_goals first
  |rfl
  |omega
  |exact hS1
  |exact hS.2
  |(rw[hS1];done)
  |exact a0c hS.2
  |exact a0c (by omega)
  |exact a0b
  |exact a0b.symm
  |exact b5O (by omega)
  |exact b5M (by omega) ‹_›
  |exact b5N (by omega)
  |exact()
  |((try simp only[Aw,Bb,Ba,AE,AX]);omega)
  |skip)
def saN(l:List Sg)(a:Int):Nat→Int
 |0=> -1
 |n+1=>if(sgO l n).pos≤a then n else saN l a n
theorem b5R(h0:0≤i)(he:l[i.toNat]? =some e)(h:e.pos≤a):saN l a (i+1).toNat=i:=by
 rw[CW h0,saN,show((i.toNat:Nat):Int)=i by omega,Ia he,if_pos h]
theorem b5S(h0:0≤i)(he:l[i.toNat]? =some e)(h:¬e.pos≤a):saN l a (i+1).toNat=saN l a i.toNat:=by
 rw[CW h0,saN,show((i.toNat:Nat):Int)=i by omega,Ia he,if_neg h]
theorem a6D(h:¬i≥0):saN l a (i+1).toNat= -1:=by rw[show(i+1).toNat=0 by omega];rfl
attribute [local irreducible] saN
def Qo:Sig:=⟨List Sg×Int,fun x=>[sgs x.1,.q x.2],fun x=>x.1.length<2^62,Unit,fun x y=>True,fun x y=> .q (saN x.1 x.2 x.1.length),fun x y=>[.top,.top],false,[],[]⟩
def a0f(x:List Sg×Int):LS:=⟨Int,fun i=>(-1≤i∧i<x.1.length)∧saN x.1 x.2 (i+1).toNat=saN x.1 x.2 x.1.length,fun i=>[(0,sgs x.1),(1,.q x.2),(5,.q i)],[],fun i=>(i+1).toNat,fun _=>[],[]⟩
theorem d5L:CtG G 14 Qo:=
 vFq [] [] (fun x=>[(2,a0f x)]) Tryz.func14 trivial (fun x=>U4∧inR .i64 ((nL x.1)-(1:Int))∧eA (a0f x) [sgs x.1,.q x.2,.q ((nL x.1)-(1:Int))]∧∀(i:Int),((-1:Int)≤i∧i<(nL x.1))∧saN x.1 x.2 (Int.toNat (i+1))=saN x.1 x.2 (x.1.length)→Ae (decide (i≥0)) ((0≤i∧i<(nL x.1))∧∀(e:Sg),x.1[Int.toNat i]? =some e→Ae (decide (e.pos≤x.2)) (rA Qo x [.q i,.top,.top]) (inR .i64 (i-1)∧eN (a0f x) i [sgs x.1,.q x.2,.q (i-1)])) (rA Qo x [.q (-1:Int),.top,.top])) (by kernel_rfl) fun(x:List Sg×Int) (hx:x.1.length<2^62)=>(by
 dsimp only[nL,U4,eA,eN,a0f,rA,Qo,CD,sgs,AB,AF,Bn,AV.q]
 obtain⟨l,a⟩:=x;dsimp only at hx ⊢
 have hx:l.length<2^62:=hx
 (repeat' first|(with_reducible first|rfl|exact⟨⟩|apply AG|apply AM)|apply AL|(apply AK<;>try dsimp only)|apply AJ|((try refine AH.2 ?_);intro _;try dsimp only))
 all_goals(repeat(rename(_∧_)∧saN _ _ _=_=>hq;obtain⟨⟨_,_⟩,_⟩:=hq))
 all_goals(try(repeat(rename(_:List Sg)[_]? =some _=>hq;revert hq;rename(_:List Sg)[_]? =some _=>hr;intro hq;rw[hr] at hq;cases hq)))
 all_goals(repeat(rename saN _ _ _=_=>hq;rw[←hq];clear hq))
 all_goals first
  |rfl
  |omega
  |(rw[show(l.length:Int)-1+1=l.length by omega,LN];done)
  |(rw[b5R (by omega) ‹_› ‹_›];done)
  |(rw[a6D ‹_›];done)
  |(rw[show _-(1:Int)+1=_ from Int.sub_add_cancel _ _];exact(b5S (by omega) ‹_› ‹_›).symm)
  |exact()
  |((try simp only[Aw]);omega)
  |skip)
def Ta:Sig:=⟨List Sg×Int,fun x=>[sgs x.1,.q x.2],fun x=>x.1.length<2^62,Unit,fun x y=>True,fun x y=> .q (saN x.1 x.2 x.1.length),fun x y=>[.top,.top],false,[],[]⟩
def VL(x:List Sg×Int):LS:=⟨Int,fun i=>0≤i∧i≤x.1.length,fun i=>[(0,sgs x.1),(1,.q x.2),(6,.q i),(5,.q (saN x.1 x.2 i.toNat))],[],fun i=>x.1.length-i.toNat,fun _=>[],[]⟩
theorem d5M:CtG G 15 Ta:=
 vFq [] [] (fun x=>[(3,VL x)]) Tryz.func15 trivial (fun x=>U4∧eA (VL x) [sgs x.1,.q x.2,.q 0,.q (-1:Int)]∧∀(i:Int),0≤i∧i≤(nL x.1)→Ae (decide (i<(nL x.1))) ((0≤i∧i<(nL x.1))∧∀(e:Sg),x.1[Int.toNat i]? =some e→Ae (decide (e.pos≤x.2)) (inR .i64 (i+1)∧eN (VL x) i [sgs x.1,.q x.2,.q (i+1),.q i]) (inR .i64 (i+1)∧eN (VL x) i [sgs x.1,.q x.2,.q (i+1),.q (saN x.1 x.2 (Int.toNat i))])) (rA Ta x [.q (saN x.1 x.2 (Int.toNat i)),.top,.top])) (by kernel_rfl) fun(x:List Sg×Int) (hx:x.1.length<2^62)=>(by
 dsimp only[nL,U4,eA,eN,VL,rA,Ta,CD,sgs,AB,AF,Bn,AV.q]
 obtain⟨l,a⟩:=x;dsimp only at hx ⊢
 have hx:l.length<2^62:=hx
 (repeat' first|(with_reducible first|rfl|exact⟨⟩|apply AG|apply AM)|apply AL|(apply AK<;>try dsimp only)|apply AJ|((try refine AH.2 ?_);intro _;try dsimp only))
 all_goals(try(repeat(rename(_:List Sg)[_]? =some _=>hq;revert hq;rename(_:List Sg)[_]? =some _=>hr;intro hq;rw[hr] at hq;cases hq)))
 all_goals first
  |rfl
  |omega
  |exact(b5R (by omega) ‹_› ‹_›).symm
  |exact(b5S (by omega) ‹_› ‹_›).symm
  |(rw[show Int.toNat _=l.length by omega];done)
  |exact a6D (i:= -1) (by decide)
  |exact(a6D (i:= -1) (by decide)).symm
  |exact()
  |((try simp only[Aw]);omega)
  |skip)
end Go.My
end
section
namespace Go.My
open Go.Eng Go.Proofs
variable {G:GInv}
variable {a e i:Int}{s t:Aa}{x y:Ad}
def Tb:Sig:=⟨Aa,fun x=>[.sl false 0 1 UInt8 byA x],fun x=>True,Unit,fun x y=>True,fun x y=> .bool (decide ((x.length:Int)>1048576)),fun x y=>[.top],false,[],[]⟩
theorem d5N:CtG G 4 Tb:=
 vFq [] [] (fun x=>[]) Tryz.func4 trivial (fun(x:Aa)=>U3∧rA Tb x [.bool (decide ((nL x)>(1048576:Int))),.top]) (by kernel_rfl) fun(x:Aa) (hx:True)=>(by
 dsimp only[nL,U3,EU,rA,Tb,AB,AF]
 (repeat' first|(with_reducible first|rfl|exact⟨⟩|apply AG|apply AM)|apply AL|(apply AK<;>try dsimp only)|apply AJ|((try refine AH.2 ?_);intro _;try dsimp only))<;>(try dsimp only at*)<;>(try simp only[Aw,AE,AX])<;>(try omega))
theorem b5T{f:Int}(h0:0≤i)(he:x[i.toNat]? =some e)(hf:y[i.toNat]? =some f)(h:e≤a):wtN x y a (i+1).toNat=f:=by
 rw[CW h0,wtN,List.getD,he,List.getD,hf];exact if_pos h
theorem b5U(h0:0≤i)(he:x[i.toNat]? =some e)(h:¬e≤a):wtN x y a (i+1).toNat=wtN x y a i.toNat:=by
 rw[CW h0,wtN,List.getD,he];exact if_neg h
theorem a0g(h:¬i≥0):wtN x y a (i+1).toNat= -1:=by rw[show(i+1).toNat=0 by omega];rfl
theorem b5V(h:(AO s).length=(AO t).length):wtF s t a=wtN (AO s) (AO t) a (AO s).length:=if_pos h
theorem b5W(h:((AO s).length:Int)≠(AO t).length):wtF s t a= -1:=if_neg (by omega)
structure wiI (s t:Aa) (a i:Int):Prop where
 b: -1≤i∧i<(AO s).length
 l:(AO s).length=(AO t).length∧(AO s).length≤3000
 w:wtN (AO s) (AO t) a (i+1).toNat=wtF s t a
theorem d5O(h:((AO s).length:Int)=(AO t).length)(hl:(AO s).length≤3000):wiI s t a ((AO s).length-1):=⟨by omega,⟨by omega,hl⟩,by rw[b5V (by omega),show(((AO s).length:Int)-1+1).toNat=(AO s).length by omega]⟩
theorem d5P(h:wiI s t a i)(h0:i≥0)(he:(AO s)[i.toNat]? =some e)(hn:¬e≤a):wiI s t a (i-1):=⟨by have:=h.b;omega,h.l,by rw[Int.sub_add_cancel,←h.w,b5U h0 he hn]⟩
theorem b5X{f:Int}(h:wiI s t a i)(h0:i≥0)(he:(AO s)[i.toNat]? =some e)(hf:(AO t)[i.toNat]? =some f)(hy:e≤a):f=wtF s t a:=by rw[←h.w,b5T h0 he hf hy]
theorem d5Q(h:wiI s t a i)(h0:¬i≥0): -1=wtF s t a:=by rw[←h.w,a0g h0]
attribute [local irreducible] wtN wtF AO
def MY:Sig:=⟨Aa×Aa×Int,fun x=>[.str x.1,.str x.2.1,.q x.2.2],fun x=>x.1.length<2^62∧x.2.1.length<2^62,Unit,fun x y=>True,fun x y=> .q (wtF x.1 x.2.1 x.2.2),fun x y=>[.top,.top,.top],false,[],[]⟩
def a0h(x:Aa×Aa×Int):LS:=⟨Int,fun i=>wiI x.1 x.2.1 x.2.2 i,fun i=>[(2,.q x.2.2),(7,Al (AO x.1)),(8,Al (AO x.2.1)),(9,.q i)],[],fun i=>(i+1).toNat,fun _=>[],[]⟩
theorem d5R:CtG G 9 MY:=
 vFq [(7,0,Ke)] [] (fun x=>[(5,a0h x)]) Tryz.func9 ⟨b5P,trivial⟩ (fun x=>U5∧cA Ke [.str x.1] fun x_1 y=>cA Ke [.str x.2.1] fun x_2 y=>Ae ((↑((AO x_1).length):Int) != (↑((AO x_2).length):Int)) (rA MY x [.q (-1:Int),.top,.top,.top]) (inR .i64 ((↑((AO x_1).length):Int)-(1:Int))∧eA (a0h x) [.q x.2.2,Al (AO x_1),Al (AO x_2),.q ((↑((AO x_1).length):Int)-(1:Int))]∧∀(i:Int),wiI x.1 x.2.1 x.2.2 i→Ae (decide (i≥0)) ((0≤i∧i<(↑((AO x.1).length):Int))∧∀(e:Int),(AO x.1)[Int.toNat i]? =some e→Ae (decide (e≤x.2.2)) ((0≤i∧i<(↑((AO x.2.1).length):Int))∧∀(e:Int),(AO x.2.1)[Int.toNat i]? =some e→rA MY x [.q e,.top,.top,.top]) (inR .i64 (i-1)∧eN (a0h x) i [.q x.2.2,Al (AO x.1),Al (AO x.2.1),.q (i-1)])) (rA MY x [.q (-1:Int),.top,.top,.top]))) (by kernel_rfl) fun(x:Aa×Aa×Int) (hx:x.1.length<2^62∧x.2.1.length<2^62)=>(by
 dsimp only[U5,cA,eA,eN,a0h,Al,An,rA,Ke,MY,CD,sgs,AB,AF,mvL,lnL,mvE,lnE,Bn,AV.q]
 obtain⟨s,t,a⟩:=x;dsimp only at hx ⊢
 obtain⟨h1,h2⟩:=hx
 (repeat' first|(with_reducible first|rfl|exact⟨⟩|apply AG|apply AM)|apply AL|(apply AK<;>try dsimp only)|apply AJ|((try refine AH.2 ?_);intro _;try dsimp only))
 all_goals(try(have hB:= ‹wiI _ _ _ _›.b;have hL:= ‹wiI _ _ _ _›.l))
 all_goals(try(repeat(rename(AO _)[_]? =some _=>hq;revert hq;rename(AO _)[_]? =some _=>hr;intro hq;rw[hr] at hq;cases hq)))
 all_goals first
  |rfl
  |omega
  |exact d5O ‹_› ‹_›
  |exact d5P ‹_› ‹_› ‹_› ‹_›
  |exact b5X ‹_› ‹_› ‹_› ‹_› ‹_›
  |exact(b5X ‹_› ‹_› ‹_› ‹_› ‹_›).symm
  |exact d5Q ‹_› ‹_›
  |exact(b5W ‹_›).symm
  |exact()
  |((try simp only[Aw]);omega)
  |skip)
structure wsI (s t:Aa) (a i:Int):Prop where
 b:0≤i∧i≤(AO s).length
 l:(i=0∨(AO s).length=(AO t).length)∧(AO s).length≤3000∧(AO t).length≤3000
theorem d5S(h:wsI s t a i)(hn:¬(i<((AO s).length:Int)∧((AO s).length:Int)=(AO t).length)):wtN (AO s) (AO t) a i.toNat=wtF s t a:=by
 have h1:=h.b;have h2:=h.l.1
 by_cases e:(AO s).length=(AO t).length
 ·rw[b5V e,show i.toNat=(AO s).length by omega]
 ·rw[b5W (by omega),show i.toNat=(-1+1:Int).toNat by omega,a0g (by omega)]
def Qp:Sig:=⟨Aa×Aa×Int,fun x=>[.str x.1,.str x.2.1,.q x.2.2],fun x=>x.1.length<2^62∧x.2.1.length<2^62,Unit,fun x y=>True,fun x y=> .q (wtF x.1 x.2.1 x.2.2),fun x y=>[.top,.top,.top],false,[],[]⟩
def VM(x:Aa×Aa×Int):LS:=⟨Int,fun i=>wsI x.1 x.2.1 x.2.2 i,fun i=>[(2,.q x.2.2),(7,Al (AO x.1)),(8,Al (AO x.2.1)),(10,.q i),(9,.q (wtN (AO x.1) (AO x.2.1) x.2.2 i.toNat))],[],fun i=>(AO x.1).length-i.toNat,fun _=>[],[]⟩
theorem d5T:CtG G 13 Qp:=
 vFq [(8,0,La)] [] (fun x=>[(5,VM x)]) Tryz.func13 ⟨b5Q,trivial⟩ (fun x=>U5∧cA La [.str x.1] fun x_1 y=>cA La [.str x.2.1] fun x_2 y=>eA (VM x) [.q x.2.2,Al (AO x_1),Al (AO x_2),.q 0,.q (-1:Int)]∧∀(i:Int),wsI x.1 x.2.1 x.2.2 i→Ae (decide (i<(↑((AO x.1).length):Int))) (Ae ((↑((AO x.1).length):Int)==(↑((AO x.2.1).length):Int)) ((0≤i∧i<(↑((AO x.1).length):Int))∧∀(e:Int),(AO x.1)[Int.toNat i]? =some e→Ae (decide (e≤x.2.2)) ((0≤i∧i<(↑((AO x.2.1).length):Int))∧∀(e:Int),(AO x.2.1)[Int.toNat i]? =some e→inR .i64 (i+1)∧eN (VM x) i [.q x.2.2,Al (AO x.1),Al (AO x.2.1),.q (i+1),.q e]) (inR .i64 (i+1)∧eN (VM x) i [.q x.2.2,Al (AO x.1),Al (AO x.2.1),.q (i+1),.q (wtN (AO x.1) (AO x.2.1) x.2.2 (Int.toNat i))])) (rA Qp x [.q (wtN (AO x.1) (AO x.2.1) x.2.2 (Int.toNat i)),.top,.top,.top])) (rA Qp x [.q (wtN (AO x.1) (AO x.2.1) x.2.2 (Int.toNat i)),.top,.top,.top])) (by kernel_rfl) fun(x:Aa×Aa×Int) (hx:x.1.length<2^62∧x.2.1.length<2^62)=>(by
 dsimp only[U5,cA,eA,eN,VM,Al,An,rA,La,Qp,CD,sgs,AB,AF,mvL,lnL,mvE,lnE,Bn,AV.q]
 obtain⟨s,t,a⟩:=x;dsimp only at hx ⊢
 obtain⟨h1,h2⟩:=hx
 (repeat' first|(with_reducible first|rfl|exact⟨⟩|apply AG|apply AM)|apply AL|(apply AK<;>try dsimp only)|apply AJ|((try refine AH.2 ?_);intro _;try dsimp only))
 all_goals(try(have hB:= ‹wsI _ _ _ _›.b;have hL:= ‹wsI _ _ _ _›.l))
 all_goals(try(repeat(rename(AO _)[_]? =some _=>hq;revert hq;rename(AO _)[_]? =some _=>hr;intro hq;rw[hr] at hq;cases hq)))
 all_goals first
  |rfl
  |omega
  |exact⟨by omega,.inl rfl,by omega,by omega⟩
  |exact⟨by omega,.inr (by omega),by omega,by omega⟩
  |exact(b5T (by omega) ‹_› ‹_› ‹_›).symm
  |exact(b5U (by omega) ‹_› ‹_›).symm
  |exact d5S ‹_› (by omega)
  |exact a0g (i:= -1) (by decide)
  |exact(a0g (i:= -1) (by decide)).symm
  |exact()
  |((try simp only[Aw]);omega)
  |skip)
def Ox:Sig:=⟨Ad×Unit,fun x=>[Al x.1,Al x.1],fun x=>x.1.length<2^62,Unit,fun x y=>True,fun x y=> .bool true,fun x y=>[.top,.top],false,[],[]⟩
def a0i(x:Ad×Unit):LS:=⟨Int,fun i=>0≤i∧i≤x.1.length,fun i=>[(0,Al x.1),(1,Al x.1),(5,.q i)],[],fun i=>x.1.length-i.toNat,fun _=>[],[]⟩
theorem d5U:CtG G 16 Ox:=
 vFq [] [] (fun x=>[(4,a0i x)]) Tryz.func16 trivial (fun x=>U4∧Ae ((nL x.1) != (nL x.1)) (rA Ox x [.bool false,.top,.top]) (eA (a0i x) [Al x.1,Al x.1,.q 0]∧∀(i:Int),0≤i∧i≤(nL x.1)→Ae (decide (i<(nL x.1))) (true=true∧true=true∧(0≤i∧i<(nL x.1))∧∀(e:Int),x.1[Int.toNat i]? =some e→(0≤i∧i<(nL x.1))∧∀(e_1:Int),x.1[Int.toNat i]? =some e_1→Ae (e != e_1) (rA Ox x [.bool false,.top,.top]) (inR .i64 (i+1)∧eN (a0i x) i [Al x.1,Al x.1,.q (i+1)])) (rA Ox x [.bool true,.top,.top]))) (by kernel_rfl) fun(x:Ad×Unit) (hx:x.1.length<2^62)=>(by
 dsimp only[nL,U4,eA,eN,a0i,Al,rA,Ox,AB,AF,Bn,AV.q]
 obtain⟨x,_⟩:=x;dsimp only at hx ⊢
 have hx:x.length<2^62:=hx
 (repeat' first|(with_reducible first|rfl|exact⟨⟩|apply AG|apply AM)|apply AL|(apply AK<;>try dsimp only)|apply AJ|((try refine AH.2 ?_);intro _;try dsimp only))
 all_goals(try(repeat(rename(_:Ad)[_]? =some _=>hq;revert hq;rename(_:Ad)[_]? =some _=>hr;intro hq;rw[hr] at hq;cases hq)))
 all_goals first
  |rfl
  |omega
  |(exfalso;rename _≠_=>hq;exact hq rfl)
  |((try simp only[Aw]);omega)
  |skip)
theorem d5V:nB [109,97,105,110,40,41,32,123,32,97,40,98,44,32,99,32,43,32,100,41,59,32,125]:=⟨109,by simp,by decide⟩
theorem d5W:(CX [109,97,105,110,40,41,32,123,32,97,40,98,44,32,99,32,43,32,100,41,59,32,125]).isSome=true:=by decide+kernel
attribute [local irreducible] CX nB fmQ sgQ
def Qq:Sig:=⟨Aa,fun x=>[.sl false 0 1 UInt8 byA x],fun x=>x.length≤2^21,Aa×Unit,fun x y=>((CX y.1).isSome=true∧nB y.1)∧y.1.length≤2^24,fun x y=> .str y.1,fun x y=>[.top],true,[],[]⟩
theorem d5X:CtG G 5 Qq:=
 vFq [(18,0,Gg),(17,0,Vq),(19,0,IY)] [] (fun x=>[]) Tryz.func5 ⟨SL,Zu,b1p,trivial⟩ (fun(x:Aa)=>True∧cA Gg [byL x] fun x_1 y=>∃(x_2:Value×Aa×Int×Int),Ah x_2.2.1 x_2.2.2.1∧(y.2=y.2∧y.2=x_2.1)∧byL x_1=byL x_2.2.1∧0=x_2.2.2.1∧y.1=x_2.2.2.2∧∀(y_1:Aa×Int×Int),(y_1.1.length≤(16777216:Nat)∧nB y_1.1)∧Ah x_2.2.1 y_1.2.1→y.2=y.2∧cA IY [.str y_1.1] fun x_3 y=>Ae (Option.isSome (CX x_3)) (rA Qq x [.str y_1.1,.top]) (rA Qq x [.str #[(109:UInt8),97,105,110,40,41,32,123,32,97,40,98,44,32,99,32,43,32,100,41,59,32,125].toList,.top])) (by kernel_rfl) fun(x:Aa) (hx:x.length≤2^21)=>(by
 dsimp only[EU,byL,cA,cur,Ce,nds,An,BJ,rA,Gg,Qq,IY,CD,sgs,srd,AB,AF,mvL,lnL,mvE,lnE]
 have hx:x.length≤2^21:=hx
 (repeat' first|(with_reducible first|rfl|exact⟨⟩|apply AG|apply AM)|apply AL|(apply AK<;>try dsimp only)|apply AJ|((try refine AH.2 ?_);intro _;try dsimp only))
 all_goals(repeat(rename(_∧_)∧Ah _ _=>hq;obtain⟨⟨_,_⟩,_⟩:=hq))
 all_goals first
  |rfl
  |exact hx
  |exact SM hx
  |exact()
  |(with_reducible assumption)
  |exact d5W
  |exact d5V
  |omega
  |(simp;done)
  |skip)
def MZ:Sig:=⟨Aa,fun x=>[.sl false 0 1 UInt8 byA x],fun x=>x.length≤2^21,Aa×Int×Int,fun x y=>y.1.length≤2^25,fun x y=> .tup [.str y.1,.q y.2.1,.q y.2.2],fun x y=>[.top],true,[],[]⟩
theorem d5Y:CtG G 42 MZ:=
 vFq [(18,0,Gg),(27,0,DA),(73,0,Zv),(17,0,Vq),(30,0,LE),(74,0,Oo)] [(27,⟨Int,BE⟩)] (fun x=>[]) Tryz.func42 ⟨SL,Jm,d1W,Zu,a5S,b4N,trivial⟩ (fun(x:Aa)=>True∧cA Gg [byL x] fun x_1 y=>∃(x_2:Aa×Int×Int×Int),Ah x_2.1 x_2.2.1∧y.2=y.2∧byL x_1=byL x_2.1∧0=x_2.2.1∧y.1=x_2.2.2.1∧10=x_2.2.2.2∧∀(y_1:Int×Int×Int),((0<x_2.2.2.2→0≤y_1.1∧y_1.1<x_2.2.2.2)∧(x_2.2.2.2≤(0:Int)→y_1.1=(0:Int)))∧Ah x_2.1 y_1.2.1→y.2=y.2∧∃(x_3:Aa×Int×Int),Ah x_3.1 x_3.2.1∧y.2=y.2∧byL x_2.1=byL x_3.1∧y_1.2.1=x_3.2.1∧y_1.2.2=x_3.2.2∧∀(y_2:Int×Int×Int×Int),Ah x_3.1 y_2.2.2.1→y.2=y.2∧∃(x_4:Value×Aa×Int×Int),Ah x_4.2.1 x_4.2.2.1∧(y.2=y.2∧y.2=x_4.1)∧byL x_3.1=byL x_4.2.1∧y_2.2.2.1=x_4.2.2.1∧y_2.2.2.2=x_4.2.2.2∧∀(y_3:Aa×Int×Int),(y_3.1.length≤(16777216:Nat)∧nB y_3.1)∧Ah x_4.2.1 y_3.2.1→y.2=y.2∧Ae (y_1.1==(0:Int)) (∃(x_5:Aa×Int×Int×Aa),(Ah x_5.1 x_5.2.1∧x_5.2.2.2.length≤(1099511627776:Nat))∧y.2=y.2∧byL x_4.2.1=byL x_5.1∧y_3.2.1=x_5.2.1∧y_3.2.2=x_5.2.2.1∧y_3.1=x_5.2.2.2∧∀(y_4:Aa×Int×Int),y_4.1.length≤x_5.2.2.2.length+(5000:Nat)∧Ah x_5.1 y_4.2.1→y.2=y.2∧rA MZ x [.tup [.str y_4.1,.q y_2.1,.q y_2.2.1],.top]) (Ae (y_1.1==(1:Int)) (∃(x_5:Int),9=x_5∧∃(x_6:Int),200=x_6∧∃(x_7:Int),201=x_7∧∃(x_8:Aa×Int×Int×Ad),(Ah x_8.1 x_8.2.1∧x_8.2.2.2≠[]∧x_8.2.2.2.length<(1073741824:Nat))∧y.2=y.2∧byL x_4.2.1=byL x_8.1∧y_3.2.1=x_8.2.1∧y_3.2.2=x_8.2.2.1∧AV.sl false 0 1 Int (fun(x:Int)=>fzL (BE x)) [x_5,x_6,x_7]=Al x_8.2.2.2∧∀(y_4:Int×Int×Int),Ah x_8.1 y_4.2.1→y.2=y.2∧rA MZ x [.tup [.str y_3.1,.q y_4.1,.q y_2.2.1],.top]) (Ae (y_1.1==(2:Int)) (∃(x_5:Int),(-1:Int)=x_5∧∃(x_6:Int),100000=x_6∧∃(x_7:Int),100001=x_7∧∃(x_8:Aa×Int×Int×Ad),(Ah x_8.1 x_8.2.1∧x_8.2.2.2≠[]∧x_8.2.2.2.length<(1073741824:Nat))∧y.2=y.2∧byL x_4.2.1=byL x_8.1∧y_3.2.1=x_8.2.1∧y_3.2.2=x_8.2.2.1∧AV.sl false 0 1 Int (fun(x:Int)=>fzL (BE x)) [x_5,x_6,x_7]=Al x_8.2.2.2∧∀(y_4:Int×Int×Int),Ah x_8.1 y_4.2.1→y.2=y.2∧rA MZ x [.tup [.str y_3.1,.q y_2.1,.q y_4.1],.top]) (rA MZ x [.tup [.str y_3.1,.q y_2.1,.q y_2.2.1],.top])))) (by kernel_rfl) fun(x:Aa) (hx:x.length≤2^21)=>(by
 dsimp only[EU,byL,cA,cur,Al,rA,MZ,Gg,AB,AF,mvL,lnL,mvE,lnE,AV.q]
 have hx:x.length≤2^21:=hx
 (repeat' first|(with_reducible first|rfl|exact⟨⟩|apply AG|apply AM)|apply AL|(apply AK<;>try dsimp only)|apply AJ|((try refine AH.2 ?_);intro _;try dsimp only))
 all_goals(repeat(rename(_∧_)∧Ah _ _=>hq;obtain⟨⟨_,_⟩,_⟩:=hq))
 all_goals(repeat(rename _∧Ah _ _=>hq;obtain⟨_,_⟩:=hq))
 all_goals first
  |rfl
  |exact hx
  |exact SM hx
  |exact()
  |(with_reducible assumption)
  |(show Ah _ _;with_reducible assumption)
  |(rename _=[]=>hq;cases hq;done)
  |omega
  |(simp;done)
  |skip)
theorem b5Y{n:Nat}{w bud no:Int}(h:fmQ t n w bud s no):s.length≤3000:=by
 unfold fmQ at h;exact h.1
def Qr(n:Nat):Sig:=⟨Aa,fun x=>[.sl false 0 1 UInt8 byA x],fun x=>x.length≤2^21∧300≤n,Aa×Aa,fun x y=>y.1.length≤2^25∧y.2.length≤2^25,fun x y=> .tup [.str y.1,.str y.2],fun x y=>[.top],true,[],[]⟩
theorem d5Z(n:Nat):CtG G 28 (Qr n):=
 vFq [(18,0,Gg),(27,0,DA),(42,0,MZ),(6,0,(Jq n)),(30,0,LE)] [] (fun x=>[]) Tryz.func28 ⟨SL,Jm,d5Y,(b5L n),a5S,trivial⟩ (fun(x:Aa)=>True∧cA Gg [byL x] fun x_1 y=>∃(x_2:Aa×Int×Int×Int),Ah x_2.1 x_2.2.1∧y.2=y.2∧byL x_1=byL x_2.1∧0=x_2.2.1∧y.1=x_2.2.2.1∧4=x_2.2.2.2∧∀(y_1:Int×Int×Int),((0<x_2.2.2.2→0≤y_1.1∧y_1.1<x_2.2.2.2)∧(x_2.2.2.2≤(0:Int)→y_1.1=(0:Int)))∧Ah x_2.1 y_1.2.1→y.2=y.2∧cA MZ [byL x] fun x_3 y_2=>cA (Jq n) [.str y_2.1,.q y_2.2.1,.q y_2.2.2] fun x_4 y_3=>Ae (y_1.1==(0:Int)) (∃(x_5:Aa×Int×Int×Aa),(Ah x_5.1 x_5.2.1∧x_5.2.2.2.length≤(1099511627776:Nat))∧y.2=y.2∧byL x_2.1=byL x_5.1∧y_1.2.1=x_5.2.1∧y_1.2.2=x_5.2.2.1∧y_3.1=x_5.2.2.2∧∀(y_4:Aa×Int×Int),y_4.1.length≤x_5.2.2.2.length+(5000:Nat)∧Ah x_5.1 y_4.2.1→y.2=y.2∧rA (Qr n) x [.tup [.str y_2.1,.str y_4.1],.top]) (rA (Qr n) x [.tup [.str y_2.1,.str y_3.1],.top])) (by kernel_rfl) fun(x:Aa) (hx:x.length≤2^21∧300≤n)=>(by
 dsimp only[EU,byL,cA,cur,rA,MZ,Qr,Gg,Jq,AB,AF,mvL,lnL,mvE,lnE,AV.q]
 obtain⟨hx,hn⟩:=hx
 have hx:x.length≤2^21:=hx
 (repeat' first|(with_reducible first|rfl|exact⟨⟩|apply AG|apply AM)|apply AL|(apply AK<;>try dsimp only)|apply AJ|((try refine AH.2 ?_);intro _;try dsimp only))
 all_goals(repeat(rename(_∧_)∧Ah _ _=>hq;obtain⟨⟨_,_⟩,_⟩:=hq))
 all_goals(repeat(rename _∧Ah _ _=>hq;obtain⟨_,_⟩:=hq))
 all_goals(try(have hF:=b5Y ‹fmQ _ _ _ _ _ _›))
 all_goals first
  |rfl
  |exact hx
  |exact hn
  |exact SM hx
  |exact()
  |(with_reducible assumption)
  |(show Ah _ _;with_reducible assumption)
  |omega
  |(simp;done)
  |skip)
def Tc(n:Nat):Sig:=⟨Aa,fun x=>[.sl false 0 1 UInt8 byA x],fun x=>x.length≤2^21∧300≤n,Aa×Aa×Int,fun x y=>y.1.length≤2^25∧y.2.1.length≤2^25,fun x y=> .tup [.str y.1,.str y.2.1,.q y.2.2],fun x y=>[.top],true,[],[]⟩
theorem d6a(n:Nat):CtG G 10 (Tc n):=
 vFq [(18,0,Gg),(27,0,DA),(28,0,(Qr n))] [] (fun x=>[]) Tryz.func10 ⟨SL,Jm,(d5Z n),trivial⟩ (fun(x:Aa)=>True∧cA Gg [byL x] fun x_1 y=>∃(x_2:Aa×Int×Int×Int),Ah x_2.1 x_2.2.1∧y.2=y.2∧byL x_1=byL x_2.1∧0=x_2.2.1∧y.1=x_2.2.2.1∧120=x_2.2.2.2∧∀(y_1:Int×Int×Int),((0<x_2.2.2.2→0≤y_1.1∧y_1.1<x_2.2.2.2)∧(x_2.2.2.2≤(0:Int)→y_1.1=(0:Int)))∧Ah x_2.1 y_1.2.1→y.2=y.2∧inR .i64 (y_1.1-(1:Int))∧cA (Qr n) [byL x] fun x_3 y=>rA (Tc n) x [.tup [.str y.1,.str y.2,.q (y_1.1-(1:Int))],.top]) (by kernel_rfl) fun(x:Aa) (hx:x.length≤2^21∧300≤n)=>(by
 dsimp only[EU,byL,cA,cur,rA,Qr,Gg,Tc,AB,AF,mvL,lnL,mvE,lnE,AV.q]
 obtain⟨hx,hn⟩:=hx
 have hx:x.length≤2^21:=hx
 (repeat' first|(with_reducible first|rfl|exact⟨⟩|apply AG|apply AM)|apply AL|(apply AK<;>try dsimp only)|apply AJ|((try refine AH.2 ?_);intro _;try dsimp only))
 all_goals(repeat(rename(_∧_)∧Ah _ _=>hq;obtain⟨⟨_,_⟩,_⟩:=hq))
 all_goals(repeat(rename _∧Ah _ _=>hq;obtain⟨_,_⟩:=hq))
 all_goals first
  |rfl
  |exact hx
  |exact hn
  |exact SM hx
  |exact()
  |(with_reducible assumption)
  |(show Ah _ _;with_reducible assumption)
  |omega
  |((try simp only[Aw]);omega)
  |skip)
def Td:Sig:=⟨Aa,fun x=>[.sl false 0 1 UInt8 byA x],fun x=>x.length≤2^21,List Sg×Int,fun x y=>y.1.length≤3000,fun x y=> .tup [sgs y.1,.q y.2],fun x y=>[.top],true,[],[]⟩
theorem d6b:CtG G 11 Td:=
 vFq [(18,0,Gg),(27,0,DA),(17,0,Vq),(25,0,Ik)] [] (fun x=>[]) Tryz.func11 ⟨SL,Jm,Zu,a3D,trivial⟩ (fun(x:Aa)=>True∧cA Gg [byL x] fun x_1 y=>∃(x_2:Aa×Int×Int×Int),Ah x_2.1 x_2.2.1∧y.2=y.2∧byL x_1=byL x_2.1∧0=x_2.2.1∧y.1=x_2.2.2.1∧90=x_2.2.2.2∧∀(y_1:Int×Int×Int),((0<x_2.2.2.2→0≤y_1.1∧y_1.1<x_2.2.2.2)∧(x_2.2.2.2≤(0:Int)→y_1.1=(0:Int)))∧Ah x_2.1 y_1.2.1→y.2=y.2∧inR .i64 (y_1.1-(1:Int))∧∃(x_3:Value×Aa×Int×Int),Ah x_3.2.1 x_3.2.2.1∧(y.2=y.2∧y.2=x_3.1)∧byL x_2.1=byL x_3.2.1∧y_1.2.1=x_3.2.2.1∧y_1.2.2=x_3.2.2.2∧∀(y_2:Aa×Int×Int),(y_2.1.length≤(16777216:Nat)∧nB y_2.1)∧Ah x_3.2.1 y_2.2.1→y.2=y.2∧cA Ik [.str y_2.1] fun x_4 y=>rA Td x [.tup [sgs y.1,.q (y_1.1-(1:Int))],.top]) (by kernel_rfl) fun(x:Aa) (hx:x.length≤2^21)=>(by
 dsimp only[EU,byL,cA,cur,CL,rA,Gg,Td,Ik,CD,sgs,AB,AF,mvL,lnL,mvE,lnE,AV.q]
 have hx:x.length≤2^21:=hx
 (repeat' first|(with_reducible first|rfl|exact⟨⟩|apply AG|apply AM)|apply AL|(apply AK<;>try dsimp only)|apply AJ|((try refine AH.2 ?_);intro _;try dsimp only))
 all_goals(repeat(rename(_∧_)∧Ah _ _=>hq;obtain⟨⟨_,_⟩,_⟩:=hq))
 all_goals(repeat(rename _∧Ah _ _=>hq;obtain⟨_,_⟩:=hq))
 all_goals first
  |rfl
  |exact hx
  |exact SM hx
  |exact()
  |(with_reducible assumption)
  |(show Ah _ _;with_reducible assumption)
  |exact(a6C ‹_›).1.2
  |omega
  |((try simp only[Aw]);omega)
  |skip)
def Qs:Sig:=⟨Aa,fun x=>[.sl false 0 1 UInt8 byA x],fun x=>x.length≤2^21,Aa×Unit,fun x y=>y.1.length≤2^25,fun x y=> .str y.1,fun x y=>[.top],true,[],[]⟩
theorem d6c:CtG G 12 Qs:=
 vFq [(18,0,Gg),(29,0,PU),(17,0,Vq),(30,0,LE)] [] (fun x=>[]) Tryz.func12 ⟨SL,Zh,Zu,a5S,trivial⟩ (fun(x:Aa)=>True∧cA Gg [byL x] fun x_1 y=>∃(x_2:Value×Aa×Int×Int),Ah x_2.2.1 x_2.2.2.1∧(y.2=y.2∧y.2=x_2.1)∧byL x_1=byL x_2.2.1∧0=x_2.2.2.1∧y.1=x_2.2.2.2∧∀(y_1:Aa×Int×Int),(y_1.1.length≤(16777216:Nat)∧nB y_1.1)∧Ah x_2.2.1 y_1.2.1→y.2=y.2∧∃(x_3:Aa×Int×Int×Int),Ah x_3.1 x_3.2.1∧y.2=y.2∧byL x_2.2.1=byL x_3.1∧y_1.2.1=x_3.2.1∧y_1.2.2=x_3.2.2.1∧6=x_3.2.2.2∧∀(y_2:Bool×Int×Int),Ah x_3.1 y_2.2.1→y.2=y.2∧Ae y_2.1 (∃(x_4:Aa×Int×Int×Aa),(Ah x_4.1 x_4.2.1∧x_4.2.2.2.length≤(1099511627776:Nat))∧y.2=y.2∧byL x_3.1=byL x_4.1∧y_2.2.1=x_4.2.1∧y_2.2.2=x_4.2.2.1∧y_1.1=x_4.2.2.2∧∀(y_3:Aa×Int×Int),y_3.1.length≤x_4.2.2.2.length+(5000:Nat)∧Ah x_4.1 y_3.2.1→y.2=y.2∧rA Qs x [.str y_3.1,.top]) (rA Qs x [.str y_1.1,.top])) (by kernel_rfl) fun(x:Aa) (hx:x.length≤2^21)=>(by
 dsimp only[EU,byL,cA,cur,rA,Gg,Qs,AB,AF,mvL,lnL,mvE,lnE]
 have hx:x.length≤2^21:=hx
 (repeat' first|(with_reducible first|rfl|exact⟨⟩|apply AG|apply AM)|apply AL|(apply AK<;>try dsimp only)|apply AJ|((try refine AH.2 ?_);intro _;try dsimp only))
 all_goals(repeat(rename(_∧_)∧Ah _ _=>hq;obtain⟨⟨_,_⟩,_⟩:=hq))
 all_goals(repeat(rename _∧Ah _ _=>hq;obtain⟨_,_⟩:=hq))
 all_goals first
  |rfl
  |exact hx
  |exact SM hx
  |exact()
  |(with_reducible assumption)
  |(show Ah _ _;with_reducible assumption)
  |omega
  |skip)
structure whI (x:Aa) (t s:Aa) (last i:Int):Prop where
 w:whF t s
 l:((AO t).length≤3000∧x.length≤2^21)∧t.length≤2^24∧s.length≤3000
 z:0<(AO t).length
 b:0≤i∧i≤(AO t).length
 la:(i=0∧last= -1)∨(0<i∧(AO s)[(i-1).toNat]? =some last)
theorem d6d{x:Aa}{n:Nat}{w bud no:Int}(h:fmQ t n w bud s no)(h0:no=0)(hs:((CX t).isSome=true∧nB t)∧t.length≤2^24)(hx:x.length≤2^21)(hl:(AO t).length≤3000):whI x t s (-1) 0:=by
 unfold fmQ at h
 obtain⟨h1,h2⟩:=h
 obtain⟨L,hL,rfl⟩:=h2 h0
 exact⟨d1m hL.rd hL.tr.ln h1,⟨⟨hl,hx⟩,hs.2,h1⟩,d1q hs.1.1 hs.1.2,by omega,.inl ⟨rfl,rfl⟩⟩
structure whN (x t s:Aa) (last i e:Int):Prop where
 gt:last<wtF t s e
 r:0≤wtF t s e∧wtF t s e<s.length
 p:0≤e∧e<t.length
 eq:t[e.toNat]? =s[(wtF t s e).toNat]?
 nx:whI x t s (wtF t s e) (i+1)
theorem d6e{x:Aa}{last:Int}(h:whI x t s last i)(hi:i<((AO t).length:Int))(he:(AO t)[i.toNat]? =some e):whN x t s last i e:=by
 have h1:=d1p h.w he
 have h2:=d1o h.w he h1
 have hb:=h.b
 refine⟨?_,h2.1.2,h2.1.1,h2.2,h.w,h.l,h.z,by omega,.inr ⟨by omega,by rw[Int.add_sub_cancel];exact h1⟩⟩
 rcases h.la with⟨_,rfl⟩|⟨h3,h4⟩
 ·have:=h2.1.2;omega
 ·obtain⟨a1,a2⟩:=Ec h1
  obtain⟨b1,b2⟩:=Ec h4
  have:=List.pairwise_iff_getElem.1 h.w.ps.inc _ _ b1 a1 (by omega)
  omega
theorem d6f{x:Aa}{last:Int}{a b:UInt8}(h:whN x t s last i e)(ha:s[(wtF t s e).toNat]? =some a)(hb:t[e.toNat]? =some b):a=b:=by
 have:=h.eq
 rw[ha,hb] at this;cases this;rfl
attribute [local irreducible] saN
def LL(n:Nat):Sig:=⟨Aa,fun x=>[.sl false 0 1 UInt8 byA x],fun x=>x.length<2^63∧300≤n,Unit,fun x y=>True,fun x y=> .bool true,fun x y=>[.top],false,[],[]⟩
def a0j(n:Nat)(x:Aa):LS:=⟨Aa×Aa×Int×Int,fun i=>whI x i.1 i.2.1 i.2.2.1 i.2.2.2,fun i=>[(0,.sl false 0 1 UInt8 byA x),(3,.str i.1),(4,.str i.2.1),(7,Al (AO i.1)),(8,.q i.2.2.1),(9,.q i.2.2.2)],[],fun i=>(AO i.1).length-i.2.2.2.toNat,fun _=>[],[]⟩
theorem d6g(n:Nat):CtG G 3 (LL n):=
 vFq [(4,0,Tb),(5,0,Qq),(6,0,(Jq n)),(7,0,Ke),(8,0,La),(9,0,MY),(13,0,Qp),(10,0,(Tc n)),(11,0,Td),(12,0,Qs),(14,0,Qo),(15,0,Ta),(16,0,Ox)] [] (fun x=>[(10,a0j n x)]) Tryz.func3 ⟨d5N,d5X,(b5L n),b5P,b5Q,d5R,d5T,(d6a n),d6b,d6c,d5L,d5M,d5U,trivial⟩ (fun(x:Aa)=>U3∧cA Tb [byL x] fun x_1 y=>Ae (decide ((nL x_1)>(1048576:Int))) (rA (LL n) x [.bool true,.top]) (cA Qq [byL x] fun x_2 y=>cA (Jq n) [.str y.1,.q 30,.q 500] fun x_3 y_1=>cA Ke [.str y.1] fun x_4 y_2=>Ae (y_1.2.2 != (0:Int)) (cA La [.str y.1] fun x_5 y=>rA (LL n) x [.bool ((↑((AO x_4).length):Int)==(↑((AO x_5).length):Int)),.top]) (eA (a0j n x) [byL x,.str y.1,.str y_1.1,Al (AO x_4),.q (-1:Int),.q 0]∧∀(i:Aa×Aa×Int×Int),whI x i.1 i.2.1 i.2.2.1 i.2.2.2→Ae (decide (i.2.2.2<(↑((AO i.1).length):Int))) ((0≤i.2.2.2∧i.2.2.2<(↑((AO i.1).length):Int))∧∀(e:Int),(AO i.1)[Int.toNat i.2.2.2]? =some e→cA MY [.str i.1,.str i.2.1,.q e] fun x_5 y=>true=true∧true=true∧Ae (decide (wtF x_5.1 x_5.2.1 x_5.2.2≤i.2.2.1)) (rA (LL n) x [.bool false,.top]) (Ae (decide (wtF x_5.1 x_5.2.1 x_5.2.2≥(nL i.2.1))) (rA (LL n) x [.bool false,.top]) ((0≤wtF x_5.1 x_5.2.1 x_5.2.2∧wtF x_5.1 x_5.2.1 x_5.2.2<(nL i.2.1))∧∀(c:UInt8),i.2.1[Int.toNat (wtF x_5.1 x_5.2.1 x_5.2.2)]? =some c→(0≤i.2.2.2∧i.2.2.2<(↑((AO i.1).length):Int))∧∀(e:Int),(AO i.1)[Int.toNat i.2.2.2]? =some e→(0≤e∧e<(nL i.1))∧∀(c_1:UInt8),i.1[Int.toNat e]? =some c_1→Ae ((↑(UInt8.toNat c):Int) != (↑(UInt8.toNat c_1):Int)) (rA (LL n) x [.bool false,.top]) (inR .i64 (i.2.2.2+(1:Int))∧eN (a0j n x) i [byL x,.str i.1,.str i.2.1,Al (AO i.1),.q (wtF x_5.1 x_5.2.1 x_5.2.2),.q (i.2.2.2+(1:Int))])))) (cA (Tc n) [byL x] fun x_5 y=>cA Td [byL x] fun x_6 y_3=>cA Qs [byL x] fun x_7 y_4=>cA MY [.str y.1,.str y.2.1,.q y.2.2] fun x_8 y_5=>cA Qp [.str y.1,.str y.2.1,.q y.2.2] fun x_9 y=>Ae (wtF x_8.1 x_8.2.1 x_8.2.2==wtF x_9.1 x_9.2.1 x_9.2.2) (cA Qo [sgs y_3.1,.q y_3.2] fun x_10 y=>cA Ta [sgs y_3.1,.q y_3.2] fun x_11 y=>Ae (saN x_10.1 x_10.2 (x_10.1.length)==saN x_11.1 x_11.2 (x_11.1.length)) (cA Ke [.str y_4.1] fun x_12 y=>cA La [.str y_4.1] fun x_13 y=>cA Ox [Al (AO x_12),Al (AO x_13)] fun x_14 y=>rA (LL n) x [.bool (decide ((↑((AO i.1).length):Int)>(0:Int))),.top]) (rA (LL n) x [.bool false,.top])) (rA (LL n) x [.bool false,.top]))))) (by kernel_rfl) fun(x:Aa) (hx:x.length<2^63∧300≤n)=>(by
 dsimp only[nL,U3,EU,byL,cA,eA,eN,a0j,Al,An,rA,Tb,Qs,Td,Qq,Tc,Ke,Qo,MY,LL,La,Ta,Qp,Ox,Jq,CD,sgs,AB,AF,mvL,lnL,mvE,lnE,Bn,AV.q]
 obtain⟨hx,hn⟩:=hx
 have hx:x.length<2^63:=hx
 (repeat' first|(with_reducible first|rfl|exact⟨⟩|apply AG|apply AM)|apply AL|(apply AK<;>try dsimp only)|apply AJ|((try refine AH.2 ?_);intro _;try dsimp only))
 all_goals(try(have hL:= ‹whI _ _ _ _ _›.l;have hZ:= ‹whI _ _ _ _ _›.z;have hB:= ‹whI _ _ _ _ _›.b))
 all_goals(try(have hF:=b5Y ‹fmQ _ _ _ _ _ _›))
 all_goals(try(repeat(rename(AO _)[_]? =some _=>hq;revert hq;rename(AO _)[_]? =some _=>hr;intro hq;rw[hr] at hq;cases hq)))
 all_goals(try(have hN:=d6e ‹whI _ _ _ _ _› ‹_› ‹(AO _)[_]? =some _›;have hG:=hN.gt;have hR:=hN.r;have hP:=hN.p))
 all_goals first
  |rfl
  |omega
  |exact hN.nx
  |exact beq_self_eq_true _
  |exact Ht (by omega)
  |exact d6d ‹_› ‹_› ‹_› (by omega) ‹_›
  |(exfalso;have hq:=d6f hN ‹_› ‹_›;simp [hq] at*;done)
  |exact()
  |((try simp only[Aw]);omega)
  |skip)
end Go.My
end
section
namespace Go.Eng
open Go.ChangeShapes Go.WideShapes Go.ChangeAt Go.RowKit
theorem after_below{Z Z' A':FP}{w w':World}(h:After Z w (fun _=>False) Z' w' A'):Below w.heap.size w w':=
 ⟨h.os,h.tape,h.output,h.size,fun b hb=>(h.old b hb (fun x=>x)).1⟩
theorem b5Z{H:Type}{enc:TypeId×Value→H}{P:Program}(hl:laidOutB P=true){W W':World}(hb:Below W.heap.size W W'):
 ∀(ts:List TypeId) (vs:List Value) (ds:List (DataW H)) (ps:List MemPlace),ts.all (fun t=>P.readableRec t&&decide (t<P.types.size))=true→
 DataW.TrodAll enc P W 0 (fun _=>true) true ts vs ds ps→(∀x∈ps,x.block<W.heap.size)→DataW.TrodAll enc P W' 0 (fun b=>decide (b<W.heap.size)) true ts vs ds ps
 |[],[],[],ps,ht,h,hp=>h
 |t::ts,v::vs,d::ds,ps,ht,h,hp=>by
  obtain⟨p,q,h1,h2,rfl⟩:=h
  simp only[LO,AY,Bf] at ht
  exact⟨p,q,Below.trod hl ht.1.1 ht.1.2 h1 hb (fun x hx=>hp x (List.mem_append_left _ hx)),b5Z hl hb ts vs ds q ht.2 h2 (fun x hx=>hp x (List.mem_append_right _ hx)),rfl⟩
 |[],_::_,_,_,ht,h,hp=>h.elim
 |[],[],_::_,_,ht,h,hp=>h.elim
 |_::_,[],_,_,ht,h,hp=>h.elim
 |_::_,_::_,[],_,ht,h,hp=>h.elim
theorem d6h{H:Type}{enc:TypeId×Value→H}{P:Program}{f:Func}{s:ChangeSpec}{W W':World}{args:Array Value}{ds gs:List (DataW H)}{before:List MemPlace}{tb:TypeId}
 (hl:laidOutB P=true) (ht:f.params.toList.all (fun t=>P.readableRec t&&decide (t<P.types.size))=true) (hv:s.vars=[])
 (hs:s.fn H ds= {results:=[.lit (.bool true)],args:=ds}) (hr:f.resultTypes= #[tb]) (htb:P.underlying tb=some .bool)
 (hW:DataW.Whole enc P f.params.toList s.vars false W args.toList ds gs before) (hb:Below W.heap.size W W'):s.post enc P f false true false false W args (.bool true) W':=by
 have hW0:=hW
 obtain⟨p,q,hA,hV,rfl,hfz,hnd⟩:=hW
 rw[hv] at hV
 obtain⟨rfl,rfl⟩:=trodVars_none hV
 refine⟨ds,[],p++[],[],p,[],hW0,?_,?_,?_,hb.frame _,fun h=>by cases h⟩
 ·simp only[GE]
  rw[hs,hr]
  exact trodAll_mk1 (shut_bool htb _)
 ·simp only[GE]
  rw[hs]
  exact b5Z hl hb _ _ _ _ ht hA (fun x hx=>by simpa using hW0.lt x (by simpa using hx))
 ·simp only[GE]
  rw[hs,hv]
  rfl
def noG:GInv:=⟨fun _ _=>True,fun _ _ _ _ _ _=>trivial⟩
def d6i(X:Type)(args:X→List AV)(pre:X→Prop)(n:Nat):Sig:=
 {X:=X,args:=args,pre:=pre,Y:=Unit,post:=fun _ _=>True,res:=fun _ _=> .bool true,outs:=fun _ _=>List.replicate n .top,keep:=false}
theorem d6j{H:Type}{enc:TypeId×Value→H}{P:Program}{fi:FuncId}{f:Func}{s:ChangeSpec}{W:World}{args:Array Value}{ds gs:List (DataW H)}{before:List MemPlace}{tb:TypeId}
 {X:Type} {azs:X→List AV} {pre:X→Prop} {n:Nat} {G:GInv} (hc:Eb G P fi (d6i X azs pre n)) (hG:G.p (Old W) W)
 (hl:laidOutB P=true) (ht:f.params.toList.all (fun t=>P.readableRec t&&decide (t<P.types.size))=true) (hv:s.vars=[])
 (hs:s.fn H ds= {results:=[.lit (.bool true)],args:=ds}) (hr:f.resultTypes= #[tb]) (htb:P.underlying tb=some .bool)
 (hW:DataW.Whole enc P f.params.toList s.vars false W args.toList ds gs before)
 (ho:∃x,pre x∧AU (Old W) W (azs x) args.toList (fun _=>False)):
 Calls P fi args W fun e W'=>∃v,e= .returned v∧s.post enc P f false true false false W args v W':=by
 obtain⟨x,hx,hrel⟩:=ho
 refine(hc.2 x hx (Old W) W args.toList _ hG hrel (fun b h=>h.elim) trivial).mono fun e W' h=> ?_
 obtain⟨y,v,Z',A',_,rfl,hr2,hafter⟩:=h
 simp only[AU] at hr2
 obtain⟨v',us,A1,A2,e1,_,h1,_⟩:=hr2
 simp only[HQ] at e1
 obtain⟨rfl,_⟩:=e1
 have:v= .bool true:=by
  have h1:Aj Z' W' (.bool true) v A1:=h1
  simp only[Aj] at h1;exact h1.1
 subst this
 exact⟨_,rfl,d6h hl ht hv hs hr htb hW (after_below hafter)⟩
end Go.Eng
end
section
namespace Go.Eng
open Go.ChangeShapes Go.WideShapes Go.ChangeAt Go.RowKit
theorem d6k{H:Type}{enc:TypeId×Value→H}{P:Program}{t:TypeId}{α:Type}{f:α→AV}{good:α→Prop}(hO:MM P t (fun x=>[f x]) good){W:World}{v:Value}(hc:Dm v)
 {d:DataW H} {ps:List MemPlace} (h:DataW.Trod enc P W 0 (fun _=>true) true t v d ps):∃x,good x∧Aj (Old W) W (f x) v (fun _=>False):=by
 obtain⟨fuel,hf⟩:=h
 rw[QM hc] at hf
 obtain⟨x,hg,hr⟩:=hO enc W _ _ fuel _ _ hf
 exact⟨x,hg,YJ.1 hr⟩
theorem d6l{H:Type}{enc:TypeId×Value→H}{P:Program}{t e:TypeId}{α:Type}{f:α→AV}{good:α→Prop}(ht:P.underlying t=some (.slice e))(hO:MM P t (fun x=>[f x]) good)
 {W:World} {r:Reach} {base:Nat} {v:Value} (hv:Value.okWide P W r base t v)
 {d:DataW H} {ps:List MemPlace} (h:DataW.Trod enc P W 0 (fun _=>true) true t v d ps):∃x,good x∧Aj (Old W) W (f x) v (fun _=>False):=
 d6k hO (by obtain⟨a,l,c,rfl⟩:=okWide_slice ht hv;trivial) h
theorem d6m{Z:FP}{w:World}:AU Z w [] [] (fun _=>False):=⟨rfl,AI⟩
end Go.Eng
end
section
set_option maxRecDepth 100000
namespace Go.My
open Go.Eng Go.Proofs
variable {G:GInv}
theorem opens_mapP{P:Program}{t:TypeId}{α β:Type}{f:α→List AV}{g:β→List AV}{p:α→Prop}{q:β→Prop}(m:α→β)(ho:MM P t f p)(hf:∀x,p x→f x=g (m x))(hg:∀x,p x→q (m x)):MM P t g q:=by
 intro H enc w spare held fuel cs y h
 obtain⟨x,hx,hr⟩:=ho enc w _ _ fuel _ _ h
 exact⟨m x,hg x hx,by rw[←hf x hx];exact hr⟩
theorem d6n:MM Tryz.prog 5 byA (fun _=>True):=
 opens_mapP (fun n:Int=>UInt8.ofNat n.toNat) (c7n (k:= .u8) rfl) (fun x h=>by
  have h1:0≤x∧x≤255:=by have h1:IntKind.min .u8≤x:=h.1;have h2:x≤IntKind.max .u8:=h.2;have e1:IntKind.min .u8=0:=rfl;have e2:IntKind.max .u8=255:=rfl;omega
  have:(UInt8.ofNat x.toNat).toNat=x.toNat:=by simp;omega
  rw[EU,this];congr 2;omega) (fun _ _=>trivial)
theorem d6o:MM Tryz.prog 22 (fun l:Aa=>[.sl false 0 1 UInt8 byA l]) (fun l=>l.length<2^63):=
 opens_mapP (fun l=>l) (c7o (e:=5) rfl (by kernel_rfl) (by decide) d6n) (fun _ _=>rfl) (fun _ h=>h.1)
end Go.My
end
